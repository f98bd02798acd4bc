/- A part of an engine of our own (the code is compiled to a smaller language, whose steps are proved right), nothing is claimed here: ### stores -/
import Derived.Test.YtmpmagcepgjcdaaGreatSxSteps
set_option linter.all false
namespace Go.Sx
section
variable {P : Program} {I : Imm} {env : Env} {h : List Chunk} {N : Value → Imm → List Chunk → Prop}

theorem stepR_value {r : Result Next} {v : Value} {w' : World} {M : Value → World → Prop} (hr : r = .ok (.value v) w') (m : M v w') : StepR P r M := by rw [hr]; exact m
theorem stepR_skip {r : Result Next} {w' : World} {M : Value → World → Prop} (hr : r = .ok .skip w') (m : M undef w') : StepR P r M := by rw [hr]; exact m

theorem o_newv {e : Nat} {z : List Value} (k : ∀ b, N (.pointer (some ⟨b, 0, none⟩)) I ((b, .cells z.toArray e (0, 0)) :: h)) : OpStep P I h env (.newv e z) N := by
  intro o ρ w hi he hh
  obtain ⟨hop, hz⟩ := iop_inv_newv hi
  obtain ⟨zv, hzv, hzc⟩ := run_zeroValue_cells hz w
  refine stepR_value (v := .pointer (some ⟨w.heap.size, 0, none⟩)) (w' := { w with heap := w.heap.push (.cells z.toArray e (0, 0)) }) ?_ ⟨I, _, k _, hh.new _⟩
  have hcell : zv.cells = z.toArray := by apply Array.toList_inj.1; simp [hzc]
  unfold execOp
  simp only [hop, Sem.run_bind, Instr.alloc, hzv, Result.andThen_ok, newVar, newRow, hcell]
  rfl

theorem o_box {e : Nat} {x : Opd} {v : Value} {c : Array Value} (hx : ev env x = some v) (hc : v.cells = c)
    (k : ∀ b, N (.pointer (some ⟨b, 0, none⟩)) I ((b, .cells c e (0, 0)) :: h)) : OpStep P I h env (.box e x) N := by
  intro o ρ w hi he hh
  obtain ⟨y, hop, hy⟩ := iop_inv_box hi
  have hv := he y v (by rw [hy]; exact hx)
  refine stepR_value (v := .pointer (some ⟨w.heap.size, 0, none⟩)) (w' := { w with heap := w.heap.push (.cells c e (0, 0)) }) ?_ ⟨I, _, k _, hh.new _⟩
  unfold execOp
  simp only [hop, Sem.run_bind, Instr.box, newVar, newRow, hv, hc]
  rfl
theorem o_box_agg {e : Nat} {x : Opd} {c : Array Value} (hx : ev env x = some (.agg c))
    (k : ∀ b, N (.pointer (some ⟨b, 0, none⟩)) I ((b, .cells c e (0, 0)) :: h)) : OpStep P I h env (.box e x) N := o_box hx rfl k
theorem o_box_cell {e : Nat} {x : Opd} {v : Value} (hx : ev env x = some v) (hc : v.cells = #[v])
    (k : ∀ b, N (.pointer (some ⟨b, 0, none⟩)) I ((b, .cells #[v] e (0, 0)) :: h)) : OpStep P I h env (.box e x) N := o_box hx hc k

theorem o_mkMap (k : ∀ b, N (.map (some b)) I ((b, .map #[] 0) :: h)) : OpStep P I h env .mkMap N := by
  intro o ρ w hi he hh
  obtain ⟨t, hop⟩ := iop_inv_mkMap hi
  refine stepR_value (v := .map (some w.heap.size)) (w' := { w with heap := w.heap.push (.map #[] 0) }) ?_ ⟨I, _, k _, hh.new _⟩
  unfold execOp
  simp only [hop, Sem.run_bind, Instr.makeMap]
  rfl

theorem o_bslice {e n : Nat} {z : List Value} {ps : List (Nat × Nat × Opd)} {l' : List (Nat × Nat × Value)} {cs : List Value} (hl : evParts (ev env) ps = some l') (hc : fillP z l' = some cs)
    (k : ∀ b, N (.slice (some ⟨b, 0, none⟩) n n) I ((b, .cells cs.toArray e (0, 0)) :: h)) : OpStep P I h env (.bslice e n z ps) N := by
  intro o ρ w hi he hh
  obtain ⟨t, qs, s, z0, hop, hu, hs, hz, hzl, hzr, hle, hp⟩ := iop_inv_bslice hi
  refine stepR_value (v := .slice (some ⟨w.heap.size, 0, none⟩) n n) (w' := { w with heap := w.heap.push (.cells cs.toArray e (0, 0)) }) ?_ ⟨I, _, k _, hh.new _⟩
  obtain ⟨zv, hzv, hzc⟩ := run_zeroValue_cells hz w
  unfold execOp
  simp only [hop, Sem.run_bind, Instr.buildSlice, run_underlying_eq, hu, Result.andThen_ok, run_sizeOf_of hs, Sem.run_ite]
  rw [if_neg (by omega)]
  have hrep : ∀ m, repCells z0 m = ((List.range (m * s)).map (z0.toArray[· % z0.toArray.size]!)) := by
    intro m
    induction m with
    | zero => simp [repCells]
    | succ m ih =>
      rw [repCells, ih, Nat.add_mul, Nat.one_mul, Nat.add_comm (m * s) s, List.range_add]
      simp only [List.map_append, List.map_map]
      congr 1
      · apply List.ext_getElem
        · simp [hzl]
        · intro i h1 h2
          have hi : i < s := by simpa using h2
          simp [hzl, Nat.mod_eq_of_lt hi, hi]
      · apply List.map_congr_left
        intro i hi
        simp [hzl]
  have hfill : ∀ a : Array Value, a = z.toArray → Instr.fill (fun i => some (i * s, s)) a (qs.map fun x => match x with | (i, x) => (i, ρ x)).toList = some cs.toArray := by
    intro a ea
    rw [ea]
    have := fill_fillP he (fun i => some (i * s, s)) qs.toList ps l' z cs hp hl hc
    rw [← this]
    congr 1
    simp
  by_cases h0 : n * s = 0
  · simp only [h0, if_true, Sem.run_pure, Result.andThen_ok]
    rw [hfill _ (by rw [hzr, hrep, h0]; simp)]
    rfl
  · simp only [h0, if_false, hzv, Result.andThen_ok, Sem.run_pure]
    have hcell : zv.cells = z0.toArray := by apply Array.toList_inj.1; simp [hzc]
    rw [hfill _ (by
      rw [hzr, hrep, hcell]
      apply Array.toList_inj.1
      simp)]
    rfl

theorem r_load_own {m : Option Nat} {x : Opd} {b off : Nat} {c : Array Value} {e : TypeId} {fr : Nat × Nat} {v : Value} (hx : ev env x = some (.pointer (some ⟨b, off, none⟩)))
    (hb : Has b (.cells c e fr) h) (hc : cutV c.toList off m = some v) : RV P I h env (.load m x) v := by
  intro o ρ w hi he hh
  obtain ⟨t, y, hop, hy, ha⟩ := iop_inv_load hi
  have hv := he y _ (by rw [hy]; exact hx)
  unfold execOp
  simp only [hop, Sem.run_bind, Instr.loadAt, hv, Instr.sureAddr, Sem.run_pure, Result.andThen_ok, load_sound (hh.get hb) ha hc]

theorem r_load_imm {m : Option Nat} {x : Opd} {b off : Nat} {c : Array Value} {e : TypeId} {fr : Nat × Nat} {v : Value} (hx : ev env x = some (.pointer (some ⟨b, off, none⟩)))
    (hb : I b = some (.cells c e fr)) (hc : cutV c.toList off m = some v) : RV P I h env (.load m x) v := by
  intro o ρ w hi he hh
  obtain ⟨t, y, hop, hy, ha⟩ := iop_inv_load hi
  have hv := he y _ (by rw [hy]; exact hx)
  unfold execOp
  simp only [hop, Sem.run_bind, Instr.loadAt, hv, Instr.sureAddr, Sem.run_pure, Result.andThen_ok, load_sound (hh.imm _ _ hb) ha hc]

theorem add_eq (b off n : Nat) : (Addr.add ⟨b, off, none⟩ n) = ⟨b, off + n, none⟩ := by
  unfold Addr.add; split
  · rename_i h0; simp [h0]
  · rfl

theorem r_idx_sl {s : Nat} {x i : Opd} {b off n cap : Nat} {k : IntKind} {j : Int} (hx : ev env x = some (.slice (some ⟨b, off, none⟩) n cap)) (hi : ev env i = some (.int k j)) (h0 : 0 ≤ j) (h1 : j < n) :
    RV P I h env (.idxAddr s none x i) (.pointer (some ⟨b, off + j.toNat * s, none⟩)) := by
  intro o ρ w hio he hh
  obtain ⟨t, y, ji, e, hop, hy, hj, hs, hu⟩ := iop_inv_idxAddr hio
  have hv := he y _ (by rw [hy]; exact hx)
  have hjv := he ji _ (by rw [hj]; exact hi)
  simp only at hu
  unfold execOp
  simp only [hop, Sem.run_bind, Instr.indexAt, hv, hjv, asIntOf, Sem.run_pure, Result.andThen_ok, run_underlying_eq, hu]
  simp only [h0, h1, and_self, if_true, Sem.run_bind, run_sizeOf_of hs, Result.andThen_ok, Sem.run_pure, add_eq]

theorem r_idx_arr {s m : Nat} {x i : Opd} {b off : Nat} {k : IntKind} {j : Int} (hx : ev env x = some (.pointer (some ⟨b, off, none⟩))) (hi : ev env i = some (.int k j)) (h0 : 0 ≤ j) (h1 : j < m) :
    RV P I h env (.idxAddr s (some m) x i) (.pointer (some ⟨b, off + j.toNat * s, none⟩)) := by
  intro o ρ w hio he hh
  obtain ⟨t, y, ji, e, hop, hy, hj, hs, hu⟩ := iop_inv_idxAddr hio
  have hv := he y _ (by rw [hy]; exact hx)
  have hjv := he ji _ (by rw [hj]; exact hi)
  simp only at hu
  unfold execOp
  simp only [hop, Sem.run_bind, Instr.indexAt, hv, hjv, asIntOf, Sem.run_pure, Result.andThen_ok, run_underlying_eq, hu, Instr.sureAddr]
  simp only [h0, h1, and_self, if_true, Sem.run_bind, run_sizeOf_of hs, Result.andThen_ok, Sem.run_pure, add_eq]

/-! ### stores -/
def putL (c : List Value) (off : Nat) (vs : List Value) : List Value := c.take off ++ vs ++ c.drop (off + vs.length)

def unfr (fr : Nat × Nat) (n : Nat) : Bool := decide (fr.2 ≤ fr.1) || decide (n ≤ fr.1)

theorem store_one {w : World} {b off : Nat} {c : Array Value} {e : TypeId} {fr : Nat × Nat} {v : Value} (hb : w.heap[b]? = some (.cells c e fr)) (hoff : off < c.size) (hv : v.oneCell' = true)
    (hfr : unfr fr c.size = true) : ∃ w', (store ⟨b, off, none⟩ v).run P w = .ok () w' ∧ w'.hx = ⟨w.heap.setIfInBounds b (.cells (c.setIfInBounds off v) e fr), w.os, w.output⟩ := by
  rw [run_store P w _ _ _ hv, cell_of hb]
  have : c[off]? = some c[off] := by simp [hoff]
  rw [this]
  have hz : w.frozen? ⟨b, off, none⟩ = false := by
    obtain ⟨lo, hi⟩ := fr
    unfold unfr at hfr
    simp only [Bool.or_eq_true, decide_eq_true_eq] at hfr
    simp only [World.frozen?, hb, Bool.and_eq_false_iff, decide_eq_false_iff_not]
    omega
  simp only [hz, Bool.false_eq_true, if_false]
  refine ⟨_, rfl, ?_⟩
  have hbl : b < w.heap.size := by
    rcases Nat.lt_or_ge b w.heap.size with h | h
    · exact h
    · rw [Array.getElem?_eq_none h] at hb; cases hb
  refine congrArg (fun A => (⟨A, w.os, w.output⟩ : HX)) (a₁ := (w.setCell ⟨b, off, none⟩ v).heap) ?_
  apply Array.ext_getElem?
  intro i
  simp only [World.setCell, Array.getElem?_modify, Array.getElem?_setIfInBounds]
  by_cases hi : b = i
  · subst hi; simp only [if_true, hbl, hb, Option.map_some]; rfl
  · simp [hi]

theorem set_put (c : List Value) (off : Nat) (v : Value) (vs : List Value) (h : off + (v :: vs).length ≤ c.length) : putL (c.set off v) (off + 1) vs = putL c off (v :: vs) := by
  simp only [List.length_cons] at h
  unfold putL
  have e1 : (c.set off v).take (off + 1) = c.take off ++ [v] := by
    rw [List.take_succ_eq_append_getElem (by simp; omega), List.take_set_of_le (Nat.le_refl _)]; simp
  have e2 : (c.set off v).drop (off + 1 + vs.length) = c.drop (off + (v :: vs).length) := by
    rw [List.drop_set_of_lt (by omega)]; congr 1; simp; omega
  rw [e1, e2]; simp

theorem storeCells_sound {b off : Nat} {e : TypeId} {fr : Nat × Nat} : ∀ (vs : List Value) (i : Nat) (w : World) (c : Array Value), w.heap[b]? = some (.cells c e fr) → off + i + vs.length ≤ c.size →
    (vs.all (·.oneCell')) = true → unfr fr c.size = true → ∃ w', (storeCells ⟨b, off, none⟩ vs i).run P w = .ok () w' ∧ w'.hx = ⟨w.heap.setIfInBounds b (.cells (putL c.toList (off + i) vs).toArray e fr), w.os, w.output⟩
  | [], i, w, c, hb, _, _, _ => by
    refine ⟨w, rfl, ?_⟩
    have : (putL c.toList (off + i) []).toArray = c := by apply Array.toList_inj.1; simp [putL]
    rw [this]
    refine congrArg (fun A => (⟨A, w.os, w.output⟩ : HX)) (a₁ := w.heap) ?_
    apply Array.ext_getElem?
    intro j
    rw [Array.getElem?_setIfInBounds]
    split
    · rename_i hj; subst hj; rw [hb]; split
      · rfl
      · rename_i hn; rw [Array.getElem?_eq_none (by omega)] at hb; cases hb
    · rfl
  | v :: vs, i, w, c, hb, hle, hall, hfr => by
    simp only [List.all_cons, Bool.and_eq_true] at hall
    simp only [List.length_cons] at hle
    have ha : (Addr.add ⟨b, off, none⟩ i) = ⟨b, off + i, none⟩ := by
      unfold Addr.add; split
      · rename_i h0; simp [h0]
      · rfl
    obtain ⟨w1, h1, h2⟩ := store_one (P := P) (v := v) hb (show off + i < c.size by omega) hall.1 hfr
    have hbl : b < w.heap.size := by
      rcases Nat.lt_or_ge b w.heap.size with h | h
      · exact h
      · rw [Array.getElem?_eq_none h] at hb; cases hb
    have hA : w1.heap = w.heap.setIfInBounds b (.cells (c.setIfInBounds (off + i) v) e fr) := congrArg HX.a h2
    have hO : w1.os = w.os := congrArg HX.os h2
    have hP : w1.output = w.output := congrArg HX.out h2
    have hb1 : w1.heap[b]? = some (.cells (c.setIfInBounds (off + i) v) e fr) := by rw [hA]; simp [hbl]
    obtain ⟨w2, h3, h4⟩ := storeCells_sound (off := off) vs (i + 1) w1 _ hb1 (by simp; omega) hall.2 (by simpa using hfr)
    refine ⟨w2, ?_, ?_⟩
    · simp only [storeCells, Sem.run_bind, ha, h1, Result.andThen_ok, h3]
    · rw [h4, hA, hO, hP, Array.setIfInBounds_setIfInBounds]
      congr 3
      have := set_put c.toList (off + i) v vs (by simp; omega)
      rw [← this]
      simp [Nat.add_assoc]

theorem o_store {n : Nat} {a x : Opd} {b off : Nat} {c : Array Value} {e : TypeId} {fr : Nat × Nat} {v : Value} {vs cs : List Value} {h' : List Chunk}
    (ha : ev env a = some (.pointer (some ⟨b, off, none⟩))) (hx : ev env x = some v) (hvs : v.cells.toList = vs) (hn : vs.length = n) (hall : (vs.all (·.oneCell')) = true) (hfr : unfr fr c.size = true)
    (hle : off + n ≤ c.size) (hcs : putL c.toList off vs = cs) (hb : Upd b (.cells c e fr) (.cells cs.toArray e fr) h h') (k : N undef I h') :
    OpStep P I h env (.store n a x) N := by
  intro o ρ w hi he hh
  obtain ⟨t, y, z, hop, hy, hz, hs⟩ := iop_inv_store hi
  have h1 := he y _ (by rw [hy]; exact ha)
  have h2 := he z _ (by rw [hz]; exact hx)
  have hvl : v.cells.size = n := by rw [← hn, ← hvs]; simp
  obtain ⟨w', hr, hw⟩ := storeCells_sound (P := P) (off := off) vs 0 w c (hh.get hb.has) (by omega) hall hfr
  refine stepR_skip (w' := w') ?_ ⟨I, h', k, ?_⟩
  · unfold execOp
    simp only [hop, Sem.run_bind, Instr.storeAt, h1, h2, Instr.sureAddr, Sem.run_pure, Result.andThen_ok, storeVar, run_sizeOf_of hs, Sem.run_ite, hvl]
    rw [if_neg (by simp), hvs]
    simp only [Result.andThen_ok, hr]
  · rw [hw]
    have := hh.upd hb
    rw [← hcs] at this
    exact this

/-! ### calls -/
def Callable (P : Program) (g : FuncId) : Prop := ∃ fn, P.funcs[g]? = some fn ∧ (fn.name == "runtime.NumGoroutine") = false ∧ fn.body.isNone = false

/-- what a call does: it returns, and all else stays -/
def Spec (P : Program) (g : FuncId) (args : List Value) (I : Imm) (h : List Chunk) (Q : Value → Imm → List Chunk → Prop) : Prop :=
  Callable P g ∧ ∀ F w, Sat I (h ++ F) w.hx → Calls P g args.toArray w (fun e w' => ∃ v I' h', e = .returned v ∧ I ≤ I' ∧ Q v I' h' ∧ Sat I' (h' ++ F) w'.hx)

theorem Spec.mono {g : FuncId} {args : List Value} {Q Q' : Value → Imm → List Chunk → Prop} (s : Spec P g args I h Q) (hq : ∀ v I' h', I ≤ I' → Q v I' h' → Q' v I' h') : Spec P g args I h Q' :=
  ⟨s.1, fun F w hs => (s.2 F w hs).mono fun _ _ ⟨v, I', h', e, hle, q, hs'⟩ => ⟨v, I', h', e, hle, hq _ _ _ hle q, hs'⟩⟩

theorem o_calls {f : Opd} {as : List Opd} {vs : List Value} {gf : FuncId} {first captured : Array Value} {hc F : List Chunk} {Q : Value → Imm → List Chunk → Prop}
    (hf : ev env f = some (.func (.func gf) first captured)) (has : evList (ev env) as = some vs) (hsplit : Weak h (hc ++ F)) (hspec : Spec P gf (first.toList ++ vs ++ captured.toList) I hc Q)
    (k : ∀ v I' h', I ≤ I' → Q v I' h' → N v I' (h' ++ F)) : OpStep P I h env (.call f as) N := by
  intro o ρ w hi he hh
  obtain ⟨y, args, tys, hop, hy, hargs⟩ := iop_inv_call hi
  have hfv := he y _ (by rw [hy]; exact hf)
  have hav := ev_map he args.toList vs (by rw [hargs]; exact has)
  obtain ⟨⟨fn, hfn, hng, hbody⟩, hspec⟩ := hspec
  have hrun : (execOp ρ o).run P w = .ok (.enter gf (first.toList ++ vs ++ captured.toList).toArray) w := by
    unfold execOp
    have hargsv : args.map ρ = vs.toArray := by apply Array.toList_inj.1; simp [← hav]
    have hcat : first ++ vs.toArray ++ captured = (first.toList ++ vs ++ captured.toList).toArray := by apply Array.toList_inj.1; simp
    simp only [hop, Sem.run_bind, resolve, hfv, Deferred.ofValue, Sem.run_pure, Result.andThen_ok, invoke, hargsv, hcat, callFunc, run_program, hfn, hng, hbody, Bool.false_eq_true, if_false]
  rw [hrun]
  refine (hspec F w (hsplit _ _ hh)).mono ?_
  rintro e w' ⟨v, I', h', rfl, hle, q, hs'⟩
  exact ⟨v, rfl, I', h' ++ F, k v I' h' hle q, hs'⟩

/-- a call of a function that is known, and that gets no chunk -/
theorem o_call0 {f : Opd} {as : List Opd} {vs : List Value} {gf : FuncId} {Q : Value → Imm → List Chunk → Prop}
    (hf : ev env f = some (.func (.func gf) #[] #[])) (has : evList (ev env) as = some vs) (hspec : Spec P gf vs I [] Q)
    (k : ∀ v I' h', I ≤ I' → Q v I' h' → N v I' (h' ++ h)) : OpStep P I h env (.call f as) N :=
  o_calls (hc := []) (F := h) hf has (fun _ _ s => s) (by simpa using hspec) k

/-- a call that gets one chunk -/
theorem o_call1 {f : Opd} {as : List Opd} {vs : List Value} {gf : FuncId} {c : Chunk} {F : List Chunk} {Q : Value → Imm → List Chunk → Prop}
    (hf : ev env f = some (.func (.func gf) #[] #[])) (has : evList (ev env) as = some vs) (hp : Pick c h F) (hspec : Spec P gf vs I [c] Q)
    (k : ∀ v I' h', I ≤ I' → Q v I' h' → N v I' (h' ++ F)) : OpStep P I h env (.call f as) N :=
  o_calls (hc := [c]) (F := F) hf has (fun _ _ s => s.pick hp) (by simpa using hspec) k
/-- a call that gets two chunks -/
theorem o_call2 {f : Opd} {as : List Opd} {vs : List Value} {gf : FuncId} {c c' : Chunk} {F F' : List Chunk} {Q : Value → Imm → List Chunk → Prop}
    (hf : ev env f = some (.func (.func gf) #[] #[])) (has : evList (ev env) as = some vs) (hp : Pick c h F) (hp' : Pick c' F F') (hspec : Spec P gf vs I [c, c'] Q)
    (k : ∀ v I' h', I ≤ I' → Q v I' h' → N v I' (h' ++ F')) : OpStep P I h env (.call f as) N :=
  o_calls (hc := [c, c']) (F := F') hf has (fun _ _ s => s.perm (hp.perm.trans (List.Perm.cons _ hp'.perm))) (by simpa using hspec) k

def envOf : Nat → List Value → Env
  | _, [] => []
  | i, v :: vs => (i, v) :: envOf (i + 1) vs

theorem look_envOf : ∀ (vs : List Value) (i d : Nat) (v : Value), look d (envOf i vs) = some v → i ≤ d ∧ vs[d - i]? = some v
  | [], i, d, v, h => by simp [envOf, look] at h
  | u :: vs, i, d, v, h => by
    simp only [envOf, look] at h
    cases hb : Nat.beq i d with
    | true =>
      have := Nat.eq_of_beq_eq_true hb
      subst this
      simp only [hb, cond_true] at h
      exact ⟨Nat.le_refl _, by simpa using h⟩
    | false =>
      simp only [hb, cond_false] at h
      obtain ⟨h1, h2⟩ := look_envOf vs (i + 1) d v h
      refine ⟨by omega, ?_⟩
      rw [show d - i = (d - (i + 1)) + 1 from by omega]
      simpa using h2

def postQ (Q : Value → Imm → List Chunk → Prop) (I : Imm) (F : List Chunk) (v : Value) (I' : Imm) (h : List Chunk) : Prop := I ≤ I' ∧ ∃ h', Q v I' h' ∧ Weak h (h' ++ F)

theorem spec_of {f : FuncId} {fn : Func} {args : List Value} {Q : Value → Imm → List Chunk → Prop} {c : Code} {x : IR} {rets : List IRet} (hf : P.funcs[f]? = some fn) (hb : fn.body = some c)
    (hng : (fn.name == "runtime.NumGoroutine") = false) (hc : compile P fn.ntmps c = some x) (hr : compileRets P fn.results.toList = some rets) (hm : P.follows .mixedOrders = true) (hn : args.length ≤ fn.ntmps)
    (H : ∀ cs F, SG ⟨P, f, fn, cs, postQ Q I F, rets, hf, hr, hm, []⟩ I (envOf 0 args) (h ++ F) [.ir x]) : Spec P f args I h Q := by
  refine ⟨⟨fn, hf, hng, by simp [hb]⟩, fun F w hs => ?_⟩
  refine Calls.mono (R := Cx.R ⟨P, f, fn, [], postQ Q I F, rets, hf, hr, hm, []⟩) (calls_of_good hf hb fun cs => ?_) ?_
  · refine H cs F _ w _ ?_ ?_ hs (.ir hc .nil)
    · simp; omega
    · intro d v hd
      obtain ⟨_, h2⟩ := look_envOf args 0 d v hd
      have hlt : d < args.length := by
        rcases Nat.lt_or_ge d args.length with h | h
        · exact h
        · rw [Nat.sub_zero, List.getElem?_eq_none h] at h2; cases h2
      rw [Array.getElem?_append_left (by simpa using hlt)]
      simpa using h2
  · rintro e w' ⟨v, I', h', rfl, ⟨hle, h'', hq, hw⟩, hs'⟩
    exact ⟨v, I', h'', rfl, hle, hq, hw _ _ hs'⟩
end
end Go.Sx
