/- A part of an engine of our own (the code is compiled to a smaller language, whose steps are proved right), nothing is claimed here: regions whose order is open: what holds whichever operations have been done -/
import Derived.Test.YtmpmagcepgjcdaaGreatSxDraw
set_option linter.all false
/-! regions whose order is open: what holds whichever operations have been done -/
namespace Go.Sx
section
variable {P : Program} {f : FuncId} {cs : List Frame} {R : Ending → World → Prop} {ds : List Deferred} {ops : Array Oper} {k : List Item}

def addD (D : Nat → Bool) (i : Nat) : Nat → Bool := fun j => bif Nat.beq j i then true else D j

/-- one more operation is done -/
def ParStep (P : Program) (ds : List Deferred) (ops : Array Oper) (anc : Nat → List Nat) (Inv : (Nat → Bool) → Array Value → World → Prop) : Prop :=
  ∀ D tmps w i o, ops[i]? = some o → D i = false → (∀ a ∈ anc i, D a = true) → Inv D tmps w →
    if Region.wanted o (yielded ops tmps) = true then StepR P ((execOp (Act.mk tmps ds).eval o).run P w) fun v w' => Inv (addD D i) (putT tmps o.dst v) w'
    else Inv (addD D i) (putT tmps o.dst undef) w

theorem par_go {anc : Nat → List Nat} {Inv : (Nat → Bool) → Array Value → World → Prop} (hlt : ∀ i, i < ops.size → ∀ a ∈ preds ops i, a < i)
    (hanc : ∀ i, i < ops.size → ∀ a ∈ anc i, a ∈ preds ops i ∨ ∃ j ∈ preds ops i, a ∈ anc j) (hstep : ParStep P ds ops anc Inv)
    (hend : ∀ D tmps w, (∀ i, i < ops.size → D i = true) → Inv D tmps w → Good P f cs R (at_ f ds tmps k cs w)) :
    ∀ (fuel t : Nat) (listed : Array Bool) (tmps : Array Value) (w : World), listed.toList.countP (fun b => !b) ≤ fuel → listed.size = ops.size →
      (∀ j, j < ops.size → listed.getD j false = true → ∀ a ∈ preds ops j, listed.getD a false = true) → Inv (fun j => listed.getD j false) tmps w →
      Good P f cs R (at_ f ds tmps (.inRegion ops (Region.linearise.go .any ops fuel t listed []) :: k) cs w) := by
  intro fuel
  have hall : ∀ listed : Array Bool, listed.size = ops.size → listed.toList.countP (fun b => !b) = 0 → ∀ i, i < ops.size → listed.getD i false = true := by
    intro listed hs hc i hi
    rw [List.countP_eq_zero] at hc
    have := hc (listed[i]'(by omega)) (by simp)
    simp [show i < listed.size by omega] at this ⊢
    exact this
  induction fuel with
  | zero =>
    intro t listed tmps w hc hs _ hI
    exact good_region_end (hend _ _ _ (hall listed hs (by omega)) hI)
  | succ fuel ih =>
    intro t listed tmps w hc hs hdown hI
    simp only [Region.linearise.go]
    change Good P f cs R (at_ f ds tmps (.inRegion ops (match (Region.ready .any ops listed)[t % (Region.ready .any ops listed).length]? with
      | some i => Region.linearise.go .any ops fuel (t / (Region.ready .any ops listed).length) (listed.setIfInBounds i true) [i]
      | none => [].reverse) :: k) cs w)
    cases hi : (Region.ready .any ops listed)[t % (Region.ready .any ops listed).length]? with
    | none =>
      have hnil : Region.ready .any ops listed = [] := by
        cases hr : Region.ready .any ops listed with
        | nil => rfl
        | cons x xs =>
          rw [hr] at hi
          have hlt : t % (x :: xs).length < (x :: xs).length := Nat.mod_lt _ (by simp)
          rw [List.getElem?_eq_getElem hlt] at hi; cases hi
      have hdone : ∀ i, i < ops.size → listed.getD i false = true := by
        intro i
        induction i using Nat.strongRecOn with
        | _ i ihi =>
          intro hil
          cases hb : listed.getD i false with
          | true => rfl
          | false =>
            exfalso
            have hready : i ∈ Region.ready .any ops listed := by
              rw [mem_ready]
              refine ⟨by rw [getD_true_false (by omega)]; exact hb, ops[i], by simp [hil], fun e he hbi => ?_⟩
              have hp : e.on ∈ preds ops i := (mem_preds (by simp [hil])).2 ⟨e, he, hbi, rfl⟩
              have halt := hlt i hil _ hp
              exact ihi _ halt (by omega)
            rw [hnil] at hready; cases hready
      exact good_region_end (hend _ _ _ hdone hI)
    | some i =>
      simp only []
      rw [linearise_go_acc, List.reverse_singleton, List.singleton_append]
      have hmem := List.mem_of_getElem? hi
      rw [mem_ready] at hmem
      obtain ⟨h0, o, ho, hpre⟩ := hmem
      have hilt : i < ops.size := (Array.getElem?_eq_some_iff.1 ho).1
      have hi0 : listed.getD i false = false := by rw [getD_true_false (by omega)] at h0; exact h0
      have hpl : ∀ a ∈ preds ops i, listed.getD a false = true := by
        intro a ha
        obtain ⟨e, he, hb, rfl⟩ := (mem_preds ho).1 ha
        exact hpre e he hb
      have hancl := anc_listed hlt hanc hdown i hilt hpl
      have hS := hstep (fun j => listed.getD j false) tmps w i o ho hi0 hancl hI
      have hD : addD (fun j => listed.getD j false) i = fun j => (listed.setIfInBounds i true).getD j false := by
        funext j
        unfold addD
        by_cases hji : i = j
        · subst hji; rw [Nat.beq_refl]; simp [hs, hilt]
        · rw [getD_set_ne false hji]
          have : Nat.beq j i = false := by
            cases e : Nat.beq j i with
            | false => rfl
            | true => exact absurd (Nat.eq_of_beq_eq_true e).symm hji
          rw [this]; rfl
      have hcount : (listed.setIfInBounds i true).toList.countP (fun b => !b) ≤ fuel := by
        have hil : i < listed.toList.length := by simpa [hs] using hilt
        have e1 : (listed.setIfInBounds i true).toList = listed.toList.set i true := by simp
        have e2 : listed.toList = listed.toList.take i ++ listed.toList[i] :: listed.toList.drop (i + 1) := by
          rw [← List.drop_eq_getElem_cons hil, List.take_append_drop]
        have hli : listed.toList[i] = false := by
          have : listed.getD i false = listed.toList[i] := by simp [show i < listed.size by omega]
          rw [← this]; exact hi0
        rw [e1, List.set_eq_take_append_cons_drop, if_pos hil]
        rw [e2, hli] at hc
        simp only [List.countP_append, List.countP_cons, Bool.not_false, Bool.not_true, if_true, Bool.false_eq_true, if_false] at hc ⊢
        omega
      have hdown' : ∀ j, j < ops.size → (listed.setIfInBounds i true).getD j false = true → ∀ a ∈ preds ops j, (listed.setIfInBounds i true).getD a false = true := by
        intro j hj hjl a ha
        by_cases hji : i = j
        · subst hji; exact getD_set_true (hpl a ha)
        · rw [getD_set_ne false hji] at hjl
          exact getD_set_true (hdown j hj hjl a ha)
      have hsz : (listed.setIfInBounds i true).size = ops.size := by simp [hs]
      rw [hD] at hS
      split at hS
      · rename_i hw
        exact good_step ho hw (hS.mono fun v w' hI' => ih _ _ _ _ hcount hsz hdown' hI')
      · rename_i hw
        exact good_op_skipped ho (by simpa using hw) (ih _ _ _ _ hcount hsz hdown' hS)

theorem parOK_spec {anc : List (List Nat)} (h : parOK ops anc = true) :
    (∀ i, i < ops.size → ∀ a ∈ preds ops i, a < i) ∧ (∀ i, i < ops.size → ∀ a ∈ anc.getD i [], a ∈ preds ops i ∨ ∃ j ∈ preds ops i, a ∈ anc.getD j []) ∧ (ops.toList.filterMap (·.dst)).Nodup := by
  simp only [parOK, Bool.and_eq_true] at h
  obtain ⟨⟨⟨h4, h5⟩, _⟩, h6⟩ := h
  refine ⟨fun i hi a ha => ?_, fun i hi a ha => ?_, nodupB_spec _ h6⟩
  · have := List.all_eq_true.1 (List.all_eq_true.1 h4 i (List.mem_range.2 hi)) a ha
    simpa using this
  · have := List.all_eq_true.1 (List.all_eq_true.1 h5 i (List.mem_range.2 hi)) a ha
    simp only [Bool.or_eq_true, List.contains_iff_mem, List.any_eq_true] at this
    exact this
end

theorem parOf_spec {P : Program} {n : Nat} {ops : Array Oper} {anc : List (List Nat)} : ∀ (os : List Oper) (i : Nat) (p : List (List Nat × In)), parOf P n ops anc os i = some p →
    p.length = os.length ∧ ∀ j o, os[j]? = some o → ∃ x, p[j]? = some (anc.getD (i + j) [], x) ∧ inOf P n ops o = some x
  | [], i, p, h => by simp only [parOf, Option.some.injEq] at h; subst h; exact ⟨rfl, fun j o e => by simp at e⟩
  | o :: os, i, p, h => by
    simp only [parOf] at h
    split at h
    · rename_i x l hx hl
      simp only [Option.some.injEq] at h; subst h
      obtain ⟨h1, h2⟩ := parOf_spec os (i + 1) l hl
      refine ⟨by simp [h1], fun j o' e => ?_⟩
      cases j with
      | zero => simp at e; subst e; exact ⟨x, by simp, hx⟩
      | succ j =>
        obtain ⟨y, g1, g2⟩ := h2 j o' (by simpa using e)
        exact ⟨y, by simp only [List.getElem?_cons_succ]; rw [g1]; congr 2; congr 1; omega, g2⟩
    · cases h

theorem compile_drawp {P : Program} {n : Nat} {c : Code} {l : Option (List (Option Bool × In))} {p : List (List Nat × In)} (h : compile P n c = some (.draw l p)) : ∃ id ops, c = .region id ops true ∧ parPlan P n ops = p := by
  cases c <;> simp [compile, Option.bind_eq_some_iff] at h
  case region id ops d =>
    rcases region_inv h with ⟨_, _, _, h2⟩ | ⟨rfl, o, l', h1, h3, h2⟩ | ⟨rfl, h2⟩
    · cases h2
    · cases h2; exact ⟨id, ops, rfl, rfl⟩
    · cases h2; exact ⟨id, ops, rfl, rfl⟩
theorem parPlan_spec {P : Program} {n : Nat} {ops : Array Oper} {p : List (List Nat × In)} (h : parPlan P n ops = p) (hp : p ≠ []) :
    parOK ops (parAnc ops) = true ∧ parOf P n ops (parAnc ops) ops.toList 0 = some p := by
  unfold parPlan at h
  split at h
  · rename_i hok
    refine ⟨hok, ?_⟩
    cases e : parOf P n ops (parAnc ops) ops.toList 0 with
    | none => rw [e] at h; exact absurd h.symm hp
    | some l => rw [e] at h; simp at h; rw [h]
  · exact absurd h.symm hp

/-- a region whose order is open -/
theorem sg_par {C : Cx} {I : Imm} {env : Env} {h : List Chunk} {K : List KI} {l : Option (List (Option Bool × In))} {p : List (List Nat × In)} (hp : p ≠ [])
    (g : ∀ (tmps : Array Value) (w : World) (ops : Array Oper) (k : List Item), tmps.size = C.fn.ntmps → Agree env tmps → Sat I h w.hx → RelK C.P C.fn.ntmps k K → ops.size = p.length →
      (∀ (i : Nat) (o : Oper), ops[i]? = some o → ∃ (a : List Nat) (x : In), p[i]? = some (a, x) ∧ inOf C.P C.fn.ntmps ops o = some x) → (ops.toList.filterMap (·.dst)).Nodup →
      ∃ Inv : (Nat → Bool) → Array Value → World → Prop, Inv (fun _ => false) tmps w ∧ ParStep C.P C.ds ops (fun i => ((p[i]?).map (·.1)).getD []) Inv ∧
        ∀ D tmps w, (∀ i, i < ops.size → D i = true) → Inv D tmps w → Good C.P C.f C.cs C.R (at_ C.f C.ds tmps k C.cs w)) :
    SG C I env h (.ir (.draw l p) :: K) := by
  intro tmps w todo hs ha hh hk
  cases hk with
  | @ir _ _ k _ hc hk =>
    obtain ⟨id, ops, rfl, hpl⟩ := compile_drawp hc
    obtain ⟨hok, hof⟩ := parPlan_spec hpl hp
    obtain ⟨h1, h2, h3⟩ := parOK_spec hok
    obtain ⟨h4, h5⟩ := parOf_spec _ _ _ hof
    refine good_region_draw fun t => ?_
    have hanc : ∀ i, i < ops.size → ((p[i]?).map (·.1)).getD [] = (parAnc ops).getD i [] := by
      intro i hi
      obtain ⟨x, g1, _⟩ := h5 i ops[i] (by simp [hi])
      rw [g1]; simp
    obtain ⟨Inv, g1, g2, g3⟩ := g tmps { w with drawn := w.drawn + 1 } ops k hs ha hh hk (by simpa using h4.symm)
      (fun i o ho => by
        obtain ⟨x, g1, g2⟩ := h5 i o (by simpa using ho)
        exact ⟨_, x, g1, g2⟩) h3
    unfold Region.schedule
    rw [C.hm]
    simp only [Bool.true_or, if_true, Region.linearise]
    refine par_go h1 (fun i hi a hai => ?_) g2 g3 ops.size t _ _ _ ?_ (by simp) (fun j hj hl => by simp [hj] at hl) ?_
    · rw [hanc i hi] at hai
      rcases h2 i hi a hai with h | ⟨j, hj, h⟩
      · exact .inl h
      · exact .inr ⟨j, hj, by rw [hanc j (by have := h1 i hi j hj; omega)]; exact h⟩
    · simpa using List.countP_le_length (p := fun b => !b) (l := List.replicate ops.size false)
    · have : (fun j => (Array.replicate ops.size false).getD j false) = fun _ => false := by
        funext j; by_cases hj : j < ops.size <;> simp [hj]
      rw [this]; exact g1
end Go.Sx
