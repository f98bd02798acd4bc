/- A part of an engine of our own (the code is compiled to a smaller language, whose steps are proved right), nothing is claimed here: - is a value a key of that kind? -/
import Derived.Test.YtmpmagcepgjcdaaGreatSxSteps6
set_option linter.all false
namespace Go.Sx
section
variable {P : Program} {I : Imm} {env : Env} {h : List Chunk} {N : Value → Imm → List Chunk → Prop}

/-- is a value a key of that kind? -/
def keyV : EqK → Value → Bool
  | .int, .int _ _ => true
  | .bool, .bool _ => true
  | .str, .string _ => true
  | .agg n _, .agg xs => xs.size == n
  | _, _ => false

theorem keyOK_leaf : ∀ (D : Nat) (t : TypeId) (m : Nat) (k : EqK), eqLeaf P D t = some (m, k) → sizeOfT P t = some m → ∀ xs : List Value, xs.length = m → keyOK P D t (valOf P t xs) = true
  | 0, t, m, k, h, _, _, _ => by simp [eqLeaf] at h
  | D + 1, t, m, k, h, hsz, xs, hx => by
    unfold eqLeaf at h
    unfold keyOK
    cases hu : P.underlying t with
    | none => simp [hu] at h
    | some d =>
      simp only [hu] at h
      cases d <;> simp only at h <;> (try (cases h; done)) <;> (try rfl)
      case array n e =>
        cases he : eqLeaf P D e with
        | none => simp [he] at h
        | some q =>
          obtain ⟨me, ke⟩ := q
          simp only [he] at h
          split at h
          · rename_i hse
            simp only [Option.some.injEq, Prod.mk.injEq] at h
            obtain ⟨rfl, rfl⟩ := h
            have hv : valOf P t xs = .agg xs.toArray := by
              have : ∃ q, P.info? t = some q := by
                unfold sizeOfT at hsz
                cases hit : P.info? t with
                | none => simp [hit] at hsz
                | some q => exact ⟨q, rfl⟩
              obtain ⟨q, hq⟩ := this
              simp [valOf, aggOf, hu, hq]
            rw [hv]
            have hagg : ∃ q, aggOf P e = some q ∧ ((q = some me) ∨ (q = none ∧ me = 1)) := by
              cases D with
              | zero => simp [eqLeaf] at he
              | succ D =>
                unfold eqLeaf at he
                unfold aggOf
                cases hue : P.underlying e with
                | none => simp [hue] at he
                | some d =>
                  simp only [hue] at he
                  cases d <;> simp at he
                  · exact ⟨none, rfl, Or.inr ⟨rfl, he.1.symm⟩⟩
                  · exact ⟨none, rfl, Or.inr ⟨rfl, he.1.symm⟩⟩
                  · exact ⟨none, rfl, Or.inr ⟨rfl, he.1.symm⟩⟩
                  · refine ⟨some me, ?_, Or.inl rfl⟩
                    unfold sizeOfT at hse
                    simpa using hse
            obtain ⟨q, hq, hqm⟩ := hagg
            simp only [hse, hq, List.all_eq_true, List.mem_range]
            intro i hi
            have hle : i * me + me ≤ n * me := by
              have : (i + 1) * me ≤ n * me := Nat.mul_le_mul_right _ (by omega)
              rw [Nat.add_mul, Nat.one_mul] at this; exact this
            have ih := keyOK_leaf D e me ke he hse ((xs.drop (i * me)).take me) (by simp; omega)
            rcases hqm with rfl | ⟨rfl, rfl⟩
            · simp only [partV]
              simpa [valOf, hq] using ih
            · have hlt : i < xs.length := by omega
              simp only [partV, Nat.mul_one]
              simp only [Nat.mul_one] at ih
              rw [List.getElem?_eq_getElem hlt]
              simpa [valOf, hq, List.take_one, List.head?_drop, hlt] using ih
          · cases h

theorem keyOK_of {kt : TypeId} {v : Value} (h : keyV (eqKOf P kt) v = true) : keyOK P 5 kt v = true := by
  have single : ∀ {d : TypeDesc}, P.underlying kt = some d → (match d with | .bool | .int _ | .string => true | _ => false) = true → keyOK P 5 kt v = true := by
    intro d hu hd
    unfold keyOK
    cases d <;> simp at hd <;> simp [hu]
  unfold eqKOf at h
  cases hu : P.underlying kt with
  | none => simp only [hu] at h; cases v <;> simp [keyV] at h
  | some d =>
    simp only [hu] at h
    cases d <;> simp only at h
    case bool => exact single hu rfl
    case int => exact single hu rfl
    case string => exact single hu rfl
    case array n e =>
      cases hl : eqLeaf P 5 kt with
      | none => simp only [hl] at h; cases v <;> simp [keyV] at h
      | some q =>
        obtain ⟨m, k⟩ := q
        simp only [hl] at h
        split at h
        · cases v <;> simp [keyV] at h
        · split at h
          · rename_i hsz
            cases v <;> simp [keyV] at h
            rename_i xs
            have := keyOK_leaf 5 kt m k hl hsz xs.toList (by simpa using h)
            have hv : valOf P kt xs.toList = .agg xs := by
              have : ∃ q, P.info? kt = some q := by
                unfold sizeOfT at hsz
                cases hit : P.info? kt with
                | none => simp [hit] at hsz
                | some q => exact ⟨q, rfl⟩
              obtain ⟨q, hq⟩ := this
              simp [valOf, aggOf, hu, hq]
            rwa [hv] at this
          · cases v <;> simp [keyV] at h
    case pointer e => repeat' split at h
                      all_goals (cases v <;> simp [keyV] at h)
    all_goals (cases v <;> simp [keyV] at h)

theorem run_checkKey {kt : TypeId} {v : Value} (b : Bool) (h : keyV (eqKOf P kt) v = true) (w : World) : (Instr.checkKey b 10000 kt v).run P w = .ok () w :=
  checkKey_sound b w 5 9995 kt v (keyOK_of h)

def lookRes (r : Option (Nat × Value)) (z : Value) (ok : Bool) : Value :=
  match r with
  | some (_, v) => if ok then .tuple #[v, .bool true] else v
  | none => if ok then .tuple #[z, .bool false] else z

def mapIs (w : World) (m : Option Nat) (es : Array MapEntry) : Prop :=
  match m with
  | none => es = #[]
  | some b => ∃ ck, w.heap[b]? = some (.map es ck)

theorem r_lookup_of {ek : EqK} {z : Value} {ok : Bool} {x i : Opd} {m : Option Nat} {es : Array MapEntry} {kv : Value} {r : Option (Nat × Value)} (hx : ev env x = some (.map m)) (hi : ev env i = some kv)
    (hm : ∀ w : World, Sat I h w.hx → mapIs w m es) (hk : keyV ek kv = true) (hf : findV ek kv es.toList 0 = some r) :
    RV P I h env (.lookup ek z ok x i) (lookRes r z ok) := by
  intro o ρ w hio he hh
  obtain ⟨t, y, u, kt, e, hop, hy, hu', hut, rfl, hz⟩ := iop_inv_lookup hio
  have h1 := he y _ (by rw [hy]; exact hx)
  have h2 := he u _ (by rw [hu']; exact hi)
  have hmw := hm w hh
  have hdk : ∃ d, P.underlying kt = some d := by
    cases hd : P.underlying kt with
    | some d => exact ⟨d, rfl⟩
    | none => exfalso; unfold eqKOf at hk; rw [hd] at hk; cases kv <;> simp [keyV] at hk
  obtain ⟨d, hd⟩ := hdk
  unfold execOp
  simp only [hop, Sem.run_bind]
  unfold Instr.lookup
  simp only [h1, h2, Sem.run_bind, run_underlying_eq, hut, Result.andThen_ok]
  cases m with
  | none =>
    have hmw' : es = #[] := hmw
    subst hmw'
    simp only [Sem.run_bind, Sem.run_pure, Result.andThen_ok, run_checkKey _ hk w, findKey_sound hf hd w]
    cases r with
    | some q => obtain ⟨j, v⟩ := q; simp only [Sem.run_bind, Sem.run_pure, Result.andThen_ok, lookRes]
    | none => simp only [Sem.run_bind, run_zeroValue_of hz, Sem.run_pure, Result.andThen_ok, lookRes]
  | some b =>
    obtain ⟨ck, hb⟩ := hmw
    simp only [Sem.run_bind, run_getObj_map hb, Result.andThen_ok, Sem.run_pure, run_checkKey _ hk w, findKey_sound hf hd w]
    cases r with
    | some q => obtain ⟨j, v⟩ := q; simp only [Sem.run_bind, Sem.run_pure, Result.andThen_ok, lookRes]
    | none => simp only [Sem.run_bind, run_zeroValue_of hz, Sem.run_pure, Result.andThen_ok, lookRes]

theorem r_lookup {ek : EqK} {z : Value} {ok : Bool} {x i : Opd} {b : Nat} {es : Array MapEntry} {ck : Nat} {kv : Value} {r : Option (Nat × Value)} (hx : ev env x = some (.map (some b))) (hi : ev env i = some kv)
    (hb : Has b (.map es ck) h) (hk : keyV ek kv = true) (hf : findV ek kv es.toList 0 = some r) : RV P I h env (.lookup ek z ok x i) (lookRes r z ok) :=
  r_lookup_of hx hi (fun _ hs => ⟨ck, hs.get hb⟩) hk hf
theorem r_lookup_nil {ek : EqK} {z : Value} {ok : Bool} {x i : Opd} {kv : Value} (hx : ev env x = some (.map none)) (hi : ev env i = some kv) (hk : keyV ek kv = true) :
    RV P I h env (.lookup ek z ok x i) (lookRes none z ok) :=
  r_lookup_of (es := #[]) hx hi (fun _ _ => rfl) hk rfl

theorem sameBits_refl_int (n : Nat) (k : IntKind) (a : Int) : Instr.sameBits n (.int k a) (.int k a) = true := by cases n <;> simp [Instr.sameBits]
theorem bytes_beq_symm (a b : ByteArray) : (a == b) = (b == a) := by
  rw [beq_toListBytes, beq_toListBytes, Bool.eq_iff_iff]
  simp only [beq_iff_eq]; exact eq_comm
theorem leafEq_same {k : EqK} {a b : Value} (h : leafEq k a b = some true) (n : Nat) : Instr.sameBits n b a = true := by
  cases k <;> cases a <;> cases b <;> simp [leafEq] at h
  · obtain ⟨rfl, rfl⟩ := h; cases n <;> simp [Instr.sameBits]
  · subst h; cases n <;> simp [Instr.sameBits]
  · rename_i s1 s2
    have h' : Instr.sameBits n (.string s2) (.string s1) = (s2 == s1) := by cases n <;> rfl
    rw [h', bytes_beq_symm]; exact h
theorem cellsEq_same {k : EqK} (n : Nat) : ∀ (xs ys : List Value), cellsEq k xs ys = some true → ((ys.zip xs).all fun (x, y) => Instr.sameBits n x y) = true ∧ xs.length = ys.length
  | [], [], _ => ⟨rfl, rfl⟩
  | [], _ :: _, h => by simp [cellsEq] at h
  | _ :: _, [], h => by simp [cellsEq] at h
  | x :: xs, y :: ys, h => by
    simp only [cellsEq] at h
    cases e : leafEq k x y with
    | none => simp [e] at h
    | some b =>
      simp only [e] at h
      cases e2 : cellsEq k xs ys with
      | none => simp [e2] at h
      | some c =>
        simp only [e2, Option.some.injEq, Bool.and_eq_true] at h
        obtain ⟨rfl, rfl⟩ := h
        obtain ⟨h1, h2⟩ := cellsEq_same n xs ys e2
        refine ⟨?_, by simp [h2]⟩
        simp only [List.zip_cons_cons, List.all_cons, leafEq_same e n, Bool.true_and]
        exact h1
theorem eqV_same {k : EqK} {a b : Value} (hk : keyV k a = true) (h : eqV k a b = some true) : Instr.sameBits 10000 b a = true := by
  rw [show (10000 : Nat) = 9999 + 1 from rfl]
  cases k <;> cases a <;> simp [keyV] at hk <;> cases b <;> simp [eqV] at h
  · obtain ⟨rfl, rfl⟩ := h; simp [Instr.sameBits]
  · subst h; simp [Instr.sameBits]
  · simp only [Instr.sameBits]; rw [bytes_beq_symm]; exact h
  · rename_i n kk xs ys
    obtain ⟨⟨h1, h2⟩, h3⟩ := h
    obtain ⟨h4, h5⟩ := cellsEq_same (k := kk) 9999 xs.toList ys.toList h3
    simp only [Instr.sameBits, Bool.and_eq_true]
    exact ⟨by simp [h1, h2], h4⟩

theorem findV_get {k : EqK} {kv : Value} : ∀ (es : List MapEntry) (i j : Nat) (v : Value), findV k kv es i = some (some (j, v)) → i ≤ j ∧ ∃ e, es[j - i]? = some e ∧ e.val = v ∧ eqV k kv e.key = some true
  | [], i, j, v, h => by simp [findV] at h
  | e :: es, i, j, v, h => by
    simp only [findV] at h
    cases hq : eqV k kv e.key with
    | none => simp [hq] at h
    | some b =>
      simp only [hq] at h
      cases b
      · simp only at h
        obtain ⟨h1, e', h2, h3, h4⟩ := findV_get es (i + 1) j v h
        refine ⟨by omega, e', ?_, h3, h4⟩
        rw [show j - i = (j - (i + 1)) + 1 from by omega]; simpa using h2
      · simp only [Option.some.injEq, Prod.mk.injEq] at h
        obtain ⟨rfl, rfl⟩ := h
        exact ⟨Nat.le_refl _, e, by simp, rfl, hq⟩

/-- what a store makes of a map -/
def updMap (es : Array MapEntry) (ck : Nat) (r : Option (Nat × Value)) (kv v : Value) : Obj :=
  match r with
  | some (i, _) => .map (es.modify i fun e => { e with key := kv, val := v }) ck
  | none => .map (es.push { key := kv, val := v, born := ck }) (ck + 1)

theorem o_mapUpd {ek : EqK} {m i x : Opd} {b : Nat} {es : Array MapEntry} {ck : Nat} {kv v : Value} {r : Option (Nat × Value)} {h' : List Chunk} (hm : ev env m = some (.map (some b))) (hi : ev env i = some kv) (hx : ev env x = some v)
    (hk : keyV ek kv = true) (hf : findV ek kv es.toList 0 = some r) (hb : Upd b (.map es ck) (updMap es ck r kv v) h h') (K : N undef I h') : OpStep P I h env (.mapUpd ek m i x) N := by
  intro o ρ w hio he hh
  obtain ⟨t, y, u, c, kt, e, hop, hy, hu', hc, hut, rfl⟩ := iop_inv_mapUpd hio
  have h1 := he y _ (by rw [hy]; exact hm)
  have h2 := he u _ (by rw [hu']; exact hi)
  have h3 := he c _ (by rw [hc]; exact hx)
  have hbw := hh.get hb.has
  have hdk : ∃ d, P.underlying kt = some d := by
    cases hd : P.underlying kt with
    | some d => exact ⟨d, rfl⟩
    | none => exfalso; unfold eqKOf at hk; rw [hd] at hk; cases kv <;> simp [keyV] at hk
  obtain ⟨d, hd⟩ := hdk
  have hrun : (Instr.mapUpdate t (.map (some b)) kv v).run P w = .ok () { w with heap := w.heap.setIfInBounds b (updMap es ck r kv v) } := by
    unfold Instr.mapUpdate
    simp only [Sem.run_bind, run_underlying_eq, hut, Result.andThen_ok, run_getObj_map hbw, run_checkKey false hk w, findKey_sound hf hd w]
    cases r with
    | none => simp only [run_setObj_map hbw, updMap]
    | some q =>
      obtain ⟨j, v'⟩ := q
      obtain ⟨_, e', he1, he2, he3⟩ := findV_get _ _ _ _ hf
      have hj : es[j]? = some e' := by simpa using he1
      have hsame := eqV_same hk he3
      simp only [hj, Option.map_some, Option.getD_some, Sem.run_bind, Instr.keyThatStays, hsame, if_true, Sem.run_pure, Result.andThen_ok, run_setObj_map hbw, updMap]
  refine stepR_skip (w' := { w with heap := w.heap.setIfInBounds b (updMap es ck r kv v) }) ?_ ⟨I, h', K, hh.upd hb⟩
  unfold execOp
  rcases hop with hop | hop <;> simp only [hop, Sem.run_bind, h1, h2, h3, hrun, Result.andThen_ok, Sem.run_pure]

def delMap (es : Array MapEntry) (ck : Nat) (r : Option (Nat × Value)) : Obj :=
  match r with
  | some (i, _) => .map (es.eraseIdxIfInBounds i) ck
  | none => .map es ck

theorem o_delete {ek : EqK} {m i : Opd} {b : Nat} {es : Array MapEntry} {ck : Nat} {kv : Value} {r : Option (Nat × Value)} {h' : List Chunk} (hm : ev env m = some (.map (some b))) (hi : ev env i = some kv)
    (hk : keyV ek kv = true) (hf : findV ek kv es.toList 0 = some r) (hb : Upd b (.map es ck) (delMap es ck r) h h') (K : N (.tuple #[]) I h') : OpStep P I h env (.delete ek m i) N := by
  intro o ρ w hio he hh
  obtain ⟨s, u, t1, t2, kt, e, hop, hs, hu', hut, rfl⟩ := iop_inv_delete hio
  have h1 := he s _ (by rw [hs]; exact hm)
  have h2 := he u _ (by rw [hu']; exact hi)
  have hbw := hh.get hb.has
  have hdk : ∃ d, P.underlying kt = some d := by
    cases hd : P.underlying kt with
    | some d => exact ⟨d, rfl⟩
    | none => exfalso; unfold eqKOf at hk; rw [hd] at hk; cases kv <;> simp [keyV] at hk
  obtain ⟨d, hd⟩ := hdk
  refine stepR_value (v := .tuple #[]) (w' := { w with heap := w.heap.setIfInBounds b (delMap es ck r) }) ?_ ⟨I, h', K, hh.upd hb⟩
  unfold execOp
  simp only [hop, Sem.run_bind, resolve, Sem.run_pure, Result.andThen_ok, invoke, builtin, List.map_toArray, List.map_cons, List.map_nil, h1, h2]
  unfold Builtin.delete_
  simp only [List.getElem?_toArray, List.getElem?_cons_zero, List.getElem?_cons_succ, Sem.run_bind, run_underlying_eq, hut, Result.andThen_ok, run_getObj_map hbw, run_checkKey es.isEmpty hk w, findKey_sound hf hd w]
  cases r with
  | none => simp only [Sem.run_bind, run_setObj_map hbw, delMap, Result.andThen_ok, Sem.run_pure]
  | some q => simp only [Sem.run_bind, run_setObj_map hbw, delMap, Result.andThen_ok, Sem.run_pure]

/-! ### functions without a body -/
def XSpec (P : Program) (g : FuncId) (args : List Value) (I : Imm) (h : List Chunk) (Q : Value → Imm → List Chunk → Prop) : Prop :=
  ∀ F w, Sat I (h ++ F) w.hx → ∃ v w' I' h', (callFunc g args.toArray).run P w = .ok (.value v) w' ∧ I ≤ I' ∧ Q v I' h' ∧ Sat I' (h' ++ F) w'.hx

theorem o_xcall {f : Opd} {as : List Opd} {vs : List Value} {gf : FuncId} {hc F : List Chunk} {Q : Value → Imm → List Chunk → Prop}
    (hf : ev env f = some (.func (.func gf) #[] #[])) (has : evList (ev env) as = some vs) (hsplit : Weak h (hc ++ F)) (hspec : XSpec P gf vs I hc Q)
    (k : ∀ v I' h', I ≤ I' → Q v I' h' → N v I' (h' ++ F)) : OpStep P I h env (.call f as) N := by
  intro o ρ w hi he hh
  obtain ⟨y, args, tys, hop, hy, hargs⟩ := iop_inv_call hi
  have hfv := he y _ (by rw [hy]; exact hf)
  have hav := ev_map he args.toList vs (by rw [hargs]; exact has)
  obtain ⟨v, w', I', h', hrun, hle, q, hs'⟩ := hspec F w (hsplit _ _ hh)
  refine stepR_value (v := v) (w' := w') ?_ ⟨I', h' ++ F, k v I' h' hle q, hs'⟩
  unfold execOp
  have hargsv : args.map ρ = vs.toArray := by apply Array.toList_inj.1; simp [← hav]
  simp only [hop, Sem.run_bind, resolve, hfv, Deferred.ofValue, Sem.run_pure, Result.andThen_ok, invoke, hargsv, Array.empty_append, Array.append_empty, hrun]
end
end Go.Sx
