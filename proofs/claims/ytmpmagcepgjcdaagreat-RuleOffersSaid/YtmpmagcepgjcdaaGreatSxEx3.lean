/- A part of an engine of our own (the code is compiled to a smaller language, whose steps are proved right), nothing is claimed here: Sx.Ex3 -/
import Derived.Test.YtmpmagcepgjcdaaGreatSxEx2
set_option linter.all false
namespace Go.Sx

section
variable {P : Program} {I : Imm} {β : Bm} {E : Tr Value} {T : Tr Obj} {env : Env} {h F : List Chunk}

theorem bndX_rel (hE : ER β E env) {x : Option Opd} {d j : Int} (e : bndX E x d = some j) : bnd env x d = some j := by
  cases x with
  | none => exact e
  | some x =>
    simp only [bndX] at e
    split at e
    · rename_i k j' hx
      obtain ⟨u, hu, hr⟩ := hE.ev _ _ hx
      cases hr
      simp only [Option.some.injEq] at e; subst e
      simp only [bnd, hu]
    · cases e

theorem leI_t {a b : Int} (h : leI a b = true) : a ≤ b := of_decide_eq_true h
theorem leI_f {a b : Int} (h : leI a b = false) : b < a := by have := of_decide_eq_false h; omega
theorem cond_some {α : Type} {c : Bool} {a : Option α} {x : α} (h : (bif c then a else none) = some x) : c = true ∧ a = some x := by
  cases c with
  | false => cases h
  | true => exact ⟨rfl, h⟩

theorem loop_push {f : Value → ByteArray → Sem (ForInStep ByteArray)} (hf : ∀ n s, f (.int .u8 n) s = pure (ForInStep.yield (s.push (UInt8.ofNat n.toNat)))) : ∀ (vs : List Value) (l : List UInt8) (s : ByteArray) (w : World), getU8s vs = some l →
    (forIn vs s f).run P w = .ok ⟨⟨s.data.toList ++ l⟩⟩ w
  | [], l, s, w, h => by
    simp only [getU8s, Option.some.injEq] at h; subst h
    simp
  | v :: vs, l, s, w, h => by
    unfold getU8s at h
    split at h
    · rename_i heq; cases heq
    · rename_i n r heq
      cases heq
      split at h
      · rename_i l0 hl
        simp only [Option.some.injEq] at h; subst h
        rw [List.forIn_cons, Sem.run_bind, hf]
        simp only [Sem.run_pure, Result.andThen_ok]
        rw [loop_push hf vs l0 _ w hl]
        congr 3
        simp [ByteArray.push]
      · cases h
    · cases h

theorem getU8s_rel : ∀ {vs vs' : List Value} {l : List UInt8}, RnL β vs vs' → getU8s vs = some l → getU8s vs' = some l
  | _, _, _, .nil, h => h
  | _, _, _, .cons a b, h => by
    unfold getU8s at h ⊢
    split at h
    · rename_i heq; cases heq
    · rename_i n r heq
      cases heq
      split at h
      · rename_i l0 hl
        cases a
        simp only [getU8s_rel b hl]
        exact h
      · cases h
    · cases h

theorem r_bytesStr {x : Opd} {b off n cap : Nat} {c : Array Value} {e : TypeId} {fr : Nat × Nat} {l : List UInt8} (hx : ev env x = some (.slice (some ⟨b, off, none⟩) n cap))
    (hb : Has b (.cells c e fr) h) (hle : off + n ≤ c.size) (hl : getU8s ((c.toList.drop off).take n) = some l) : RV P I h env (.conv .bytesStr x) (.string ⟨⟨l⟩⟩) := by
  intro o ρ w hi he hh
  obtain ⟨s, d, y, hop, hy, e', hu, hd, hu8⟩ := iop_inv_conv hi
  have hv := he y _ (by rw [hy]; exact hx)
  have hload : (loadCells ⟨b, off, none⟩ n).run P w = .ok ((c.toList.drop off).take n).toArray w := by
    unfold loadCells
    rw [loadCellsFrom_sound (hh.get hb) off n 0 #[] (by omega)]
    simp
  unfold execOp
  simp only [hop, hv]
  unfold convert
  simp only [Sem.run_bind, run_underlying_eq, hu, hd, hu8, Result.andThen_ok]
  unfold Conv.bytesToString
  simp only [Sem.run_bind, hload, Result.andThen_ok]
  rw [← Array.forIn_toList]
  dsimp only
  rw [loop_push (fun _ _ => rfl) ((c.toList.drop off).take n) l ByteArray.empty w hl]
  rfl

theorem keyV_rel {k : EqK} {a a' : Value} (r : Rn β a a') (h : keyV k a = true) : keyV k a' = true := by
  unfold keyV at h
  split at h
  · cases r; rfl
  · cases r; rfl
  · cases r; rfl
  · cases r with
    | agg hl => have := hl.length; simp only [keyV, List.size_toArray] at h ⊢; rw [← this]; exact h
  · cases h

inductive RnF (β : Bm) : Option (Nat × Value) → Option (Nat × Value) → Prop where
  | none : RnF β none none
  | some {i v v'} : Rn β v v' → RnF β (some (i, v)) (some (i, v'))
theorem lookRes_rel {r r' : Option (Nat × Value)} {z : Value} {ok : Bool} (hr : RnF β r r') (hz : Rn β z z) : Rn β (lookRes r z ok) (lookRes r' z ok) := by
  cases hr with
  | none => cases ok <;> simp only [lookRes, if_true, if_false, Bool.false_eq_true]
            · exact hz
            · exact .tuple (.cons hz (.cons .bool .nil))
  | some h => cases ok <;> simp only [lookRes, if_true, if_false, Bool.false_eq_true]
              · exact h
              · exact .tuple (.cons h (.cons .bool .nil))
theorem findV_rel {ek : EqK} {k k' : Value} (hk : Rn β k k') : ∀ {es es' : List MapEntry} {i : Nat} {r : Option (Nat × Value)}, RnE β es es' → findV ek k es i = some r → ∃ r', findV ek k' es' i = some r' ∧ RnF β r r' := by
  intro es es' i r h
  induction h generalizing i with
  | nil => intro e; simp only [findV, Option.some.injEq] at e; subst e; exact ⟨_, rfl, .none⟩
  | cons h1 h2 h3 _ ih =>
    intro e
    simp only [findV] at e ⊢
    split at e
    · rename_i hq
      simp only [Option.some.injEq] at e; subst e
      simp only [eqV_rel hk h1 hq]
      exact ⟨_, rfl, .some h2⟩
    · rename_i hq
      simp only [eqV_rel hk h1 hq]
      exact ih e
    · cases e

theorem r_bytesStr0 {x : Opd} {a : Addr} {cap : Nat} (hx : ev env x = some (.slice (some a) 0 cap)) : RV P I h env (.conv .bytesStr x) (.string ⟨⟨[]⟩⟩) := by
  intro o ρ w hi he hh
  obtain ⟨s, d, y, hop, hy, e', hu, hd, hu8⟩ := iop_inv_conv hi
  have hv := he y _ (by rw [hy]; exact hx)
  have hload : (loadCells a 0).run P w = .ok #[] w := by simp [loadCells, loadCellsFrom]
  unfold execOp
  simp only [hop, hv]
  unfold convert
  simp only [Sem.run_bind, run_underlying_eq, hu, hd, hu8, Result.andThen_ok]
  unfold Conv.bytesToString
  simp only [Sem.run_bind, hload, Result.andThen_ok]
  rfl

theorem rd_sound (hE : ER β E env) (hT : HR β T h) {op : IOp} {v : Value} (e : rdX E T op = some v) : ∃ u, RV P I (h ++ F) env op u ∧ Rn β v u := by
  unfold rdX at e
  split at e
  case h_1 n x =>
    split at e
    · rename_i L o hx
      obtain ⟨u, hu, hr⟩ := hE.ev _ _ hx
      cases hr with
      | @ptr L b κ o hb =>
        split at e
        · rename_i cs el fr ho
          obtain ⟨o', h1, h2⟩ := hT.get ho hb
          cases h2 with
          | cells hxs hlen hfr =>
            obtain ⟨r, hr1, hr2⟩ := cutV_rel hxs e
            exact ⟨r, r_load_own hu h1.left hr1, hr2⟩
        · cases e
    · cases e
  case h_2 s x i =>
    split at e
    · rename_i L o n c k j hx hi
      obtain ⟨u, hu, hr⟩ := hE.ev _ _ hx
      obtain ⟨u2, hu2, hr2⟩ := hE.ev _ _ hi
      cases hr2
      replace e := cond_some e; obtain ⟨hc, e⟩ := e
      simp only [Bool.and_eq_true] at hc
      have h0 := leI_t hc.1
      have h1 := leI_t hc.2
      simp only [Option.some.injEq] at e; subst e
      cases hr with
      | sl hb _ => exact ⟨_, r_idx_sl hu hu2 h0 (by omega), .ptr hb⟩
      | slo hb _ _ => exact ⟨_, r_idx_sl hu hu2 h0 (by omega), .ptr hb⟩
      | slr hb _ _ => exact ⟨_, r_idx_sl hu hu2 h0 (by omega), .ptr hb⟩
    · cases e
  case h_3 s m x i =>
    split at e
    · rename_i L o k j hx hi
      obtain ⟨u, hu, hr⟩ := hE.ev _ _ hx
      obtain ⟨u2, hu2, hr2⟩ := hE.ev _ _ hi
      cases hr2
      replace e := cond_some e; obtain ⟨hc, e⟩ := e
      simp only [Bool.and_eq_true] at hc
      have h0 := leI_t hc.1
      have h1 := leI_t hc.2
      simp only [Option.some.injEq] at e; subst e
      cases hr with
      | ptr hb => exact ⟨_, r_idx_arr hu hu2 h0 (by omega), .ptr hb⟩
    · cases e
  case h_4 x i =>
    split at e
    · rename_i s k j hx hi
      obtain ⟨u, hu, hr⟩ := hE.ev _ _ hx
      obtain ⟨u2, hu2, hr2⟩ := hE.ev _ _ hi
      cases hr2; cases hr
      replace e := cond_some e; obtain ⟨hc, e⟩ := e
      have h0 := leI_t hc
      split at e
      · rename_i b hb
        simp only [Option.some.injEq] at e; subst e
        refine ⟨_, r_idx_str hu hu2 h0 ?_, .int⟩
        have hlt := (List.getElem?_eq_some_iff.1 hb).1
        have hlt' : j.toNat < s.size := hlt
        rw [getElem?_pos s j.toNat hlt']
        rw [List.getElem?_eq_getElem hlt] at hb
        rw [← hb]
        rfl
      · cases e
    · cases e
  case h_5 m s n x i =>
    split at e
    · rename_i cs k j hx hi
      obtain ⟨u, hu, hr⟩ := hE.ev _ _ hx
      obtain ⟨u2, hu2, hr2⟩ := hE.ev _ _ hi
      cases hr2
      replace e := cond_some e; obtain ⟨hc, e⟩ := e
      simp only [Bool.and_eq_true] at hc
      have h0 := leI_t hc.1
      have h1 := leI_t hc.2
      cases hr with
      | agg hl =>
        obtain ⟨r, hr1, hr2⟩ := partV_rel hl e
        exact ⟨r, r_idx_agg hu hu2 h0 (by omega) hr1, hr2⟩
    · cases e
  case h_6 x lo hi =>
    split at e
    · rename_i s hx
      obtain ⟨u, hu, hr⟩ := hE.ev _ _ hx
      cases hr
      split at e
      · rename_i l r hl hr
        replace e := cond_some e; obtain ⟨hc, e⟩ := e
        simp only [Bool.and_eq_true] at hc
        have h0 := leI_t hc.1.1
        have h1 := leI_t hc.1.2
        have h2 := leI_t hc.2
        simp only [Option.some.injEq] at e; subst e
        refine ⟨_, r_slc_str hu (bndX_rel hE hl) (bndX_rel hE hr) h0 h1 h2, ?_⟩
        have : (⟨⟨(s.data.toList.drop l.toNat).take (r.toNat - l.toNat)⟩⟩ : ByteArray) = s.extract l.toNat r.toNat := by
          apply ByteArray.ext
          apply Array.toList_inj.1
          rw [ByteArray.data_extract, Array.toList_extract]
        rw [this]; exact .str
      · cases e
    · cases e
  case h_8 n sz x lo hi mx =>
    split at e
    · rename_i L o hx
      obtain ⟨u, hu, hr⟩ := hE.ev _ _ hx
      cases hr with
      | ptr hb =>
      split at e
      · rename_i l r m hl hr hm
        replace e := cond_some e; obtain ⟨hc, e⟩ := e
        simp only [Bool.and_eq_true, Bool.or_eq_true, Option.isNone_iff_eq_none] at hc
        obtain ⟨⟨⟨⟨⟨h0, h1⟩, h2⟩, h3⟩, h4⟩, h5⟩ := hc
        have h0 := leI_t h0
        have h1 := leI_t h1
        have h2 := leI_t h2
        have h3 := leI_t h3
        have h5 : n < BIG := Nat.le_of_ble_eq_true h5
        refine ⟨_, r_slc_arr hu (bndX_rel hE hl) (bndX_rel hE hr) (bndX_rel hE hm) h4 h0 h1 h2 h3, ?_⟩
        cases hml : leI m l with
        | true =>
          simp only [hml, cond_true, Option.some.injEq] at e; subst e
          have := leI_t hml
          have e1 : m.toNat = l.toNat := by omega
          rw [e1, slA_same]
          exact .sl hb (by omega)
        | false =>
          simp only [hml, cond_false, Option.some.injEq] at e; subst e
          have := leI_f hml
          rw [slA_some (by omega)]
          exact .sl hb (by omega)
      · cases e
    · cases e
  case h_9 k x y =>
    split at e
    · rename_i k a k' b hx hy
      obtain ⟨u, hu, hr⟩ := hE.ev _ _ hx
      obtain ⟨u2, hu2, hr2⟩ := hE.ev _ _ hy
      cases hr; cases hr2
      replace e := cond_some e; obtain ⟨hc, e⟩ := e
      simp only [Option.some.injEq] at e; subst e
      exact ⟨_, r_shl hu hu2 (leI_t hc), .int⟩
    · cases e
  case h_10 k x y =>
    split at e
    · rename_i k a k' b hx hy
      obtain ⟨u, hu, hr⟩ := hE.ev _ _ hx
      obtain ⟨u2, hu2, hr2⟩ := hE.ev _ _ hy
      cases hr; cases hr2
      replace e := cond_some e; obtain ⟨hc, e⟩ := e
      simp only [Option.some.injEq] at e; subst e
      exact ⟨_, r_shr hu hu2 (leI_t hc), .int⟩
    · cases e
  case h_11 k x y =>
    split at e
    · rename_i k a k' b hx hy
      obtain ⟨u, hu, hr⟩ := hE.ev _ _ hx
      obtain ⟨u2, hu2, hr2⟩ := hE.ev _ _ hy
      cases hr; cases hr2
      split at e
      · rename_i hk; subst hk
        split at e
        · cases e
        · rename_i hb
          simp only [Option.some.injEq] at e; subst e
          exact ⟨_, r_quo hu hu2 (fun h0 => hb h0), .int⟩
      · cases e
    · cases e
  case h_12 k x y =>
    split at e
    · rename_i k a k' b hx hy
      obtain ⟨u, hu, hr⟩ := hE.ev _ _ hx
      obtain ⟨u2, hu2, hr2⟩ := hE.ev _ _ hy
      cases hr; cases hr2
      split at e
      · rename_i hk; subst hk
        split at e
        · cases e
        · rename_i hb
          simp only [Option.some.injEq] at e; subst e
          exact ⟨_, r_rem hu hu2 (fun h0 => hb h0), .int⟩
      · cases e
    · cases e
  case h_13 k x y =>
    split at e
    · rename_i s t hx hy
      obtain ⟨u, hu, hr⟩ := hE.ev _ _ hx
      obtain ⟨u2, hu2, hr2⟩ := hE.ev _ _ hy
      cases hr; cases hr2
      replace e := cond_some e; obtain ⟨hc, e⟩ := e
      have hc : s.data.toList.length + t.data.toList.length ≤ 1000000 := Nat.le_of_ble_eq_true hc
      simp only [Option.some.injEq] at e; subst e
      have hsz : ∀ s : ByteArray, s.size = s.data.toList.length := fun s => rfl
      refine ⟨_, r_strcat hu hu2 (by rw [hsz, hsz]; omega), ?_⟩
      have : (⟨⟨s.data.toList ++ t.data.toList⟩⟩ : ByteArray) = s ++ t := by
        apply ByteArray.ext
        apply Array.toList_inj.1
        simp
      rw [this]; exact .str
    · rename_i k a k' b hx hy
      obtain ⟨u, hu, hr⟩ := hE.ev _ _ hx
      obtain ⟨u2, hu2, hr2⟩ := hE.ev _ _ hy
      cases hr; cases hr2
      split at e
      · rename_i hk; subst hk
        simp only [Option.some.injEq] at e; subst e
        exact ⟨_, r_pure (by simp [pureV, hu, hu2, binV, intBin]), .int⟩
      · cases e
    · cases e
  case h_14 x =>
    split at e
    · rename_i hx
      obtain ⟨u, hu, hr⟩ := hE.ev _ _ hx
      cases hr
      simp only [Option.some.injEq] at e; subst e
      exact ⟨_, r_pure (by simp only [pureV, hu]), .int⟩
    · rename_i L hx
      obtain ⟨u, hu, hr⟩ := hE.ev _ _ hx
      cases hr with
      | map hb =>
        split at e
        · rename_i es ck ho
          obtain ⟨o', h1, h2⟩ := hT.get ho hb
          cases h2 with
          | map hes =>
            simp only [Option.some.injEq] at e; subst e
            refine ⟨_, r_len_map hu h1.left, ?_⟩
            have : ∀ {l l'}, RnE β l l' → l.length = l'.length := fun h => by
              induction h with
              | nil => rfl
              | cons _ _ _ _ ih => simp [ih]
            have := this hes
            simp only [List.size_toArray, this]
            exact .int
        · cases e
    · cases e
  case h_15 ek z ok x i =>
    split at e
    · rename_i m k hx hi
      obtain ⟨u, hu, hr⟩ := hE.ev _ _ hx
      obtain ⟨u2, hu2, hr2⟩ := hE.ev _ _ hi
      replace e := cond_some e; obtain ⟨hc, e⟩ := e
      simp only [Bool.and_eq_true] at hc
      obtain ⟨hz, hk⟩ := hc
      have hk' := keyV_rel hr2 hk
      split at e
      · rename_i m
        cases hr
        simp only [Option.some.injEq] at e; subst e
        refine ⟨_, r_lookup_nil hu hu2 hk', ?_⟩
        exact lookRes_rel .none (cst_rn hz)
      · rename_i m L
        cases hr with
        | map hb =>
        split at e
        · rename_i es ck ho
          obtain ⟨o', h1, h2⟩ := hT.get ho hb
          cases h2 with
          | map hes =>
            simp only [Option.map_eq_some_iff] at e
            obtain ⟨r, hr, rfl⟩ := e
            obtain ⟨r', h3, h4⟩ := findV_rel hr2 hes hr
            exact ⟨_, r_lookup hu hu2 h1.left hk' h3, lookRes_rel h4 (cst_rn hz)⟩
        · cases e
    · cases e
  case h_16 x =>
    split at e
    · rename_i c hx
      obtain ⟨u, hu, hr⟩ := hE.ev _ _ hx
      cases hr
      simp only [Option.some.injEq] at e; subst e
      exact ⟨_, r_pure (by simp only [pureV, hu]; rfl), .str⟩
    · rename_i L o n c hx
      obtain ⟨u, hu, hr⟩ := hE.ev _ _ hx
      split at e
      · rename_i cs el fr ho
        replace e := cond_some e; obtain ⟨hc, e⟩ := e
        have hc : o + n ≤ cs.toList.length := Nat.le_of_ble_eq_true hc
        split at e
        · rename_i l hl
          simp only [Option.some.injEq] at e; subst e
          have main : ∀ b κ c', β.b L = some (b, κ) → ev env x = some (.slice (some ⟨b, o, none⟩) n c') → ∃ u, RV P I (h ++ F) env (.conv .bytesStr x) u ∧ Rn β (.string ⟨⟨l⟩⟩) u := by
            intro b κ c' hb hu
            obtain ⟨o', h1, h2⟩ := hT.get ho hb
            cases h2 with
            | @cells xs xs' sp _ _ _ _ hxs hlen hfr =>
              have hxl := hxs.length
              simp only at hc hl
              refine ⟨_, r_bytesStr hu h1.left (by simp only [List.size_toArray, List.length_append]; omega) ?_, .str⟩
              have := getU8s_rel ((hxs.drop o).take n) hl
              simp only
              rw [List.drop_append_of_le_length (by omega), List.take_append_of_le_length (by simp; omega)]
              exact this
          cases hr with
          | sl hb _ => exact main _ _ _ hb hu
          | slo hb _ _ => exact main _ _ _ hb hu
          | slr hb _ _ => exact main _ _ _ hb hu
        · cases e
      · cases e
    · rename_i hx
      obtain ⟨u, hu, hr⟩ := hE.ev _ _ hx
      simp only [Option.some.injEq] at e; subst e
      cases hr with
      | sle => exact ⟨_, r_bytesStr0 hu, .str⟩
    · cases e
  case h_17 =>
    obtain ⟨u, h1, h2⟩ := pure_rel hE.ev e
    exact ⟨u, r_pure h1, h2⟩
  case h_7 sz x lo hi mx =>
    split at e
    · rename_i a n c hx
      obtain ⟨u, hu, hr⟩ := hE.ev _ _ hx
      split at e
      · rename_i l r hl hrr
        have hl' := bndX_rel hE hl
        have hr' := bndX_rel hE hrr
        cases hcb : Nat.blt c BIG with
        | true =>
          have hcB : c < BIG := Nat.le_of_ble_eq_true hcb
          simp only [hcb, cond_true] at e
          split at e
          · rename_i m hm
            have hm' := bndX_rel hE hm
            replace e := cond_some e; obtain ⟨hc, e⟩ := e
            simp only [Bool.and_eq_true, Bool.or_eq_true, Option.isNone_iff_eq_none] at hc
            obtain ⟨⟨⟨⟨h0, h1⟩, h2⟩, h3⟩, h4⟩ := hc
            have h0 := leI_t h0
            have h1 := leI_t h1
            have h2 := leI_t h2
            have h3 := leI_t h3
            split at e
            · simp only [Option.some.injEq] at e; subst e
              cases hr with
              | sl0 =>
                refine ⟨_, r_slc_sl hu hl' hr' hm' h4 h0 h1 h2 h3, ?_⟩
                have : slA none l.toNat m.toNat sz = none := by unfold slA; split <;> rfl
                rw [this]; exact .sl0
            · rename_i L o
              have key : ∀ b κ, β.b L = some (b, κ) → ev env x = some (.slice (some ⟨b, o, none⟩) n c) → ∃ u, RV P I (h ++ F) env (.slc (.sl sz) x lo hi mx) u ∧ Rn β v u := by
                intro b κ hb hu
                refine ⟨_, r_slc_sl hu hl' hr' hm' h4 h0 h1 h2 h3, ?_⟩
                cases hml : leI m l with
                | true =>
                  simp only [hml, cond_true, Option.some.injEq] at e; subst e
                  have := leI_t hml
                  have e1 : m.toNat = l.toNat := by omega
                  rw [e1, slA_same]
                  exact .sl hb (by omega)
                | false =>
                  simp only [hml, cond_false, Option.some.injEq] at e; subst e
                  have := leI_f hml
                  rw [slA_some (by omega)]
                  exact .sl hb (by omega)
              cases hr with
              | sl hb _ => exact key _ _ hb hu
              | slo _ _ _ => omega
              | slr _ _ _ => omega
            · cases e
          · cases e
        | false =>
          have hcB : ¬ c < BIG := fun hlt => by rw [show Nat.blt c BIG = true from Nat.ble_eq_true_of_le hlt] at hcb; cases hcb
          simp only [hcb, cond_false] at e
          split at e
          · replace e := cond_some e; obtain ⟨hc, e⟩ := e
            simp only [Bool.and_eq_true] at hc
            obtain ⟨⟨h0, h1⟩, h2⟩ := hc
            have h0 := leI_t h0
            have h1 := leI_t h1
            have h2 := leI_t h2
            split at e
            · rename_i L o
              cases hr with
              | sl _ h => exact absurd h hcB
              | @slo _ b κ _ c' sz' hb hn hk =>
                cases hl0 : leI l 0 with
                | true =>
                  have := leI_t hl0
                  have hbig : Nat.blt BIG (BIG + 1 + sz') = true := Nat.ble_eq_true_of_le (by omega)
                  simp only [hl0, cond_true, hbig, Option.some.injEq] at e; subst e
                  refine ⟨_, r_slc_sl (M := c') hu hl' hr' rfl (.inl rfl) h0 h1 (by omega) (by omega), ?_⟩
                  have e0 : l.toNat = 0 := by omega
                  rw [e0, slA_zero]
                  exact .slo hb (by omega) (by simpa using hk)
                | false =>
                  have := leI_f hl0
                  simp only [hl0, cond_false] at e
                  cases hul : leI r l with
                  | true =>
                    have := leI_t hul
                    simp only [hul, cond_true, Option.some.injEq] at e; subst e
                    refine ⟨_, r_slc_sl (M := c') hu hl' hr' rfl (.inl rfl) h0 h1 (by omega) (by omega), ?_⟩
                    have e0 : r.toNat - l.toNat = 0 := by omega
                    rw [e0]
                    unfold slA
                    split <;> exact .sle
                  | false =>
                    have := leI_f hul
                    simp only [hul, cond_false, Option.some.injEq] at e; subst e
                    refine ⟨_, r_slc_sl (M := c') hu hl' hr' rfl (.inl rfl) h0 h1 (by omega) (by omega), ?_⟩
                    rw [slA_some (by omega)]
                    exact .slr hb (by omega) (by omega)
              | @slr _ b κ _ _ c' hb hn hk =>
                cases hl0 : leI l 0 with
                | true =>
                  have := leI_t hl0
                  have hbig : Nat.blt BIG BIG = false := by
                    cases h : Nat.blt BIG BIG with
                    | false => rfl
                    | true => have : BIG < BIG := Nat.le_of_ble_eq_true h; omega
                  have e0 : l.toNat = 0 := by omega
                  simp only [hl0, cond_true, hbig, cond_false] at e
                  cases h1u : leI 1 r with
                  | true =>
                    have := leI_t h1u
                    simp only [h1u, cond_true, Option.some.injEq] at e; subst e
                    refine ⟨_, r_slc_sl (M := c') hu hl' hr' rfl (.inl rfl) h0 h1 (by omega) (by omega), ?_⟩
                    rw [e0, slA_zero]
                    exact .slr hb (by omega) (by omega)
                  | false =>
                    have := leI_f h1u
                    simp only [h1u, cond_false, Option.some.injEq] at e; subst e
                    refine ⟨_, r_slc_sl (M := c') hu hl' hr' rfl (.inl rfl) h0 h1 (by omega) (by omega), ?_⟩
                    rw [e0, slA_zero, show r.toNat - 0 = 0 by omega]
                    exact .sle
                | false =>
                  have := leI_f hl0
                  simp only [hl0, cond_false] at e
                  cases hul : leI r l with
                  | true =>
                    have := leI_t hul
                    simp only [hul, cond_true, Option.some.injEq] at e; subst e
                    refine ⟨_, r_slc_sl (M := c') hu hl' hr' rfl (.inl rfl) h0 h1 (by omega) (by omega), ?_⟩
                    have e0 : r.toNat - l.toNat = 0 := by omega
                    rw [e0]
                    unfold slA
                    split <;> exact .sle
                  | false =>
                    have := leI_f hul
                    simp only [hul, cond_false, Option.some.injEq] at e; subst e
                    refine ⟨_, r_slc_sl (M := c') hu hl' hr' rfl (.inl rfl) h0 h1 (by omega) (by omega), ?_⟩
                    rw [slA_some (by omega)]
                    exact .slr hb (by omega) (by omega)
            · simp only [Option.some.injEq] at e; subst e
              cases hr with
              | @sle a c' =>
                refine ⟨_, r_slc_sl (M := c') hu hl' hr' rfl (.inl rfl) h0 h1 (by omega) (by omega), ?_⟩
                rw [show r.toNat - l.toNat = 0 by omega]
                unfold slA
                split <;> exact .sle
            · cases e
          · rename_i mo
            split at e
            · rename_i m hm
              have hm' := bndX_rel hE hm
              replace e := cond_some e; obtain ⟨hc, e⟩ := e
              simp only [Bool.and_eq_true] at hc
              obtain ⟨⟨⟨⟨⟨⟨h0, h1⟩, h2⟩, h3⟩, h5⟩, h4⟩, h6⟩ := hc
              have h0 := leI_t h0
              have h1 := leI_t h1
              have h2 := leI_t h2
              have h3 := leI_t h3
              have h5 := leI_t h5
              have hmB : m.toNat < BIG := Nat.le_of_ble_eq_true h6
              split at e
              · rename_i L o
                simp only [Option.some.injEq] at e; subst e
                cases hr with
                | sl _ h => exact absurd h hcB
                | slo hb hn hk =>
                  refine ⟨_, r_slc_sl hu hl' hr' hm' (.inr h4) h0 h1 h2 (by omega), ?_⟩
                  rw [slA_some (by omega)]
                  exact .sl hb (by omega)
                | slr hb hn hk =>
                  refine ⟨_, r_slc_sl hu hl' hr' hm' (.inr h4) h0 h1 h2 (by omega), ?_⟩
                  rw [slA_some (by omega)]
                  exact .sl hb (by omega)
              · cases e
            · cases e
      · cases e
    · cases e
end
end Go.Sx
