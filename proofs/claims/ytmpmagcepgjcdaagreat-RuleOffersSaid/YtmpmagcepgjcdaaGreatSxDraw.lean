/- A part of an engine of our own (the code is compiled to a smaller language, whose steps are proved right), nothing is claimed here: - a region whose order is open, in one order: 'some lz' a read (lz: it may come behind what writes), 'none' what writes -/
import Derived.Test.YtmpmagcepgjcdaaGreatSxSteps7
import Derived.Orders
set_option linter.all false
namespace Go.Sx

section
variable {P : Program} {f : FuncId} {cs : List Frame} {R : Ending → World → Prop} {ds : List Deferred} {ops : Array Oper} {k : List Item} {Φ : World → Prop}

/-- a region whose order is open, in one order: 'some lz' a read (lz: it may come behind what writes), 'none' what writes -/
def TD (P : Program) (f : FuncId) (cs : List Frame) (R : Ending → World → Prop) (ds : List Deferred) (ops : Array Oper) (k : List Item) (Φ : World → Prop) : List (Option Bool × Nat) → Array Value → World → Prop
  | [], tmps, w => Good P f cs R (at_ f ds tmps k cs w)
  | (some lz, i) :: c, tmps, w => ∃ o, ops[i]? = some o ∧
      if Region.wanted o (yielded ops tmps) = true then ∃ v, (execOp (Act.mk tmps ds).eval o).run P w = .ok (.value v) w ∧ (lz = true → ∀ w', Φ w' → (execOp (Act.mk tmps ds).eval o).run P w' = .ok (.value v) w') ∧
        TD P f cs R ds ops k Φ c (putT tmps o.dst v) w
      else TD P f cs R ds ops k Φ c (putT tmps o.dst undef) w
  | (none, i) :: c, tmps, w => ∃ o, ops[i]? = some o ∧
      if Region.wanted o (yielded ops tmps) = true then StepR P ((execOp (Act.mk tmps ds).eval o).run P w) fun v w' => Φ w' ∧ TD P f cs R ds ops k Φ c (putT tmps o.dst v) w'
      else TD P f cs R ds ops k Φ c (putT tmps o.dst undef) w

theorem noSelect_spec {o : Oper} (h : noSelect o = true) : ∀ cs b, o.op ≠ .select cs b := by
  intro cs b e; simp [noSelect, e] at h

theorem exec_putT (o : Oper) (hs : noSelect o = true) (tmps : Array Value) (d : Option Tmp) (v : Value) (h : ∀ i, d = some i → i ∉ o.looksAt ops) :
    execOp (Act.mk (putT tmps d v) ds).eval o = execOp (Act.mk tmps ds).eval o := by
  have := execOp_put (ops := ops) o (noSelect_spec hs) ⟨tmps, ds⟩ d v h
  rwa [put_eq] at this
theorem wanted_putT (o : Oper) (tmps : Array Value) (d : Option Tmp) (v : Value) (h : ∀ i, d = some i → i ∉ o.looksAt ops) :
    Region.wanted o (yielded ops (putT tmps d v)) = Region.wanted o (yielded ops tmps) := by
  have := wanted_put (ops := ops) o ⟨tmps, []⟩ d v h
  rwa [put_eq] at this
theorem putT_comm (tmps : Array Value) {x y : Option Tmp} (v u : Value) (h : ∀ d, x = some d → y ≠ some d) : putT (putT tmps x v) y u = putT (putT tmps y u) x v := by
  have := Act.put_comm ⟨tmps, []⟩ v u h
  simpa [put_eq] using this

theorem td_swap {lz : Bool} {kq : Option Bool} {p q : Nat} {c : List (Option Bool × Nat)} {op oq : Oper} (hp : ops[p]? = some op) (hq : ops[q]? = some oq) (hap : op.apart ops oq = true) (hsp : noSelect op = true) (hsq : noSelect oq = true)
    (hk : kq = none → lz = true) {tmps : Array Value} {w : World} (H : TD P f cs R ds ops k Φ ((some lz, p) :: (kq, q) :: c) tmps w) : TD P f cs R ds ops k Φ ((kq, q) :: (some lz, p) :: c) tmps w := by
  obtain ⟨h1, h2, h3⟩ := Oper.apart_spec hap
  obtain ⟨op', hp', H⟩ := H
  rw [hp] at hp'; cases hp'
  -- the read, behind whatever the other does to the slots
  have readAgain : ∀ (u : Value) (w' : World), (Region.wanted op (yielded ops tmps) = true → ∃ v, (execOp (Act.mk tmps ds).eval op).run P w' = .ok (.value v) w' ∧ (lz = true → ∀ w', Φ w' → (execOp (Act.mk tmps ds).eval op).run P w' = .ok (.value v) w') ∧
        TD P f cs R ds ops k Φ c (putT (putT tmps op.dst v) oq.dst u) w') →
      (Region.wanted op (yielded ops tmps) ≠ true → TD P f cs R ds ops k Φ c (putT (putT tmps op.dst undef) oq.dst u) w') →
      TD P f cs R ds ops k Φ ((some lz, p) :: c) (putT tmps oq.dst u) w' := by
    intro u w' hyes hno
    refine ⟨op, hp, ?_⟩
    rw [wanted_putT op tmps oq.dst u h3]
    split
    · rename_i hw
      obtain ⟨v, r1, r2, r3⟩ := hyes hw
      rw [exec_putT op hsp tmps oq.dst u h3]
      exact ⟨v, r1, r2, by rw [← putT_comm tmps v u h2]; exact r3⟩
    · rename_i hw
      rw [← putT_comm tmps undef u h2]; exact hno hw
  -- the other one, ahead of the read
  have otherW : ∀ v, Region.wanted oq (yielded ops (putT tmps op.dst v)) = Region.wanted oq (yielded ops tmps) := fun v => wanted_putT oq tmps op.dst v h1
  have otherE : ∀ v, execOp (Act.mk (putT tmps op.dst v) ds).eval oq = execOp (Act.mk tmps ds).eval oq := fun v => exec_putT oq hsq tmps op.dst v h1
  by_cases hwp : Region.wanted op (yielded ops tmps) = true
  · simp only [hwp, if_true] at H
    obtain ⟨v, r1, r2, H⟩ := H
    cases kq with
    | some lq =>
      obtain ⟨oq', hq', H⟩ := H
      rw [hq] at hq'; cases hq'
      rw [otherW v, otherE v] at H
      refine ⟨oq, hq, ?_⟩
      split
      · rename_i hwq
        simp only [hwq, if_true] at H
        obtain ⟨u, s1, s2, H⟩ := H
        exact ⟨u, s1, s2, readAgain u w (fun _ => ⟨v, r1, r2, H⟩) (fun n => absurd hwp n)⟩
      · rename_i hwq
        simp only [hwq, Bool.false_eq_true, if_false] at H
        exact readAgain undef w (fun _ => ⟨v, r1, r2, H⟩) (fun n => absurd hwp n)
    | none =>
      obtain ⟨oq', hq', H⟩ := H
      rw [hq] at hq'; cases hq'
      rw [otherW v, otherE v] at H
      refine ⟨oq, hq, ?_⟩
      split
      · rename_i hwq
        simp only [hwq, if_true] at H
        exact H.mono fun u w' ⟨hΦ, H⟩ => ⟨hΦ, readAgain u w' (fun _ => ⟨v, r2 (hk rfl) w' hΦ, r2, H⟩) (fun n => absurd hwp n)⟩
      · rename_i hwq
        simp only [hwq, Bool.false_eq_true, if_false] at H
        exact readAgain undef w (fun _ => ⟨v, r1, r2, H⟩) (fun n => absurd hwp n)
  · simp only [hwp, Bool.false_eq_true, if_false] at H
    cases kq with
    | some lq =>
      obtain ⟨oq', hq', H⟩ := H
      rw [hq] at hq'; cases hq'
      rw [otherW undef, otherE undef] at H
      refine ⟨oq, hq, ?_⟩
      split
      · rename_i hwq
        simp only [hwq, if_true] at H
        obtain ⟨u, s1, s2, H⟩ := H
        exact ⟨u, s1, s2, readAgain u w (fun y => absurd y hwp) (fun _ => H)⟩
      · rename_i hwq
        simp only [hwq, Bool.false_eq_true, if_false] at H
        exact readAgain undef w (fun y => absurd y hwp) (fun _ => H)
    | none =>
      obtain ⟨oq', hq', H⟩ := H
      rw [hq] at hq'; cases hq'
      rw [otherW undef, otherE undef] at H
      refine ⟨oq, hq, ?_⟩
      split
      · rename_i hwq
        simp only [hwq, if_true] at H
        exact H.mono fun u w' ⟨hΦ, H⟩ => ⟨hΦ, readAgain u w' (fun y => absurd y hwp) (fun _ => H)⟩
      · rename_i hwq
        simp only [hwq, Bool.false_eq_true, if_false] at H
        exact readAgain undef w (fun y => absurd y hwp) (fun _ => H)

/-- one operation's step -/
theorem td_mono_tail {x : Option Bool × Nat} {c c' : List (Option Bool × Nat)} (hc : ∀ tmps w, TD P f cs R ds ops k Φ c tmps w → TD P f cs R ds ops k Φ c' tmps w) {tmps : Array Value} {w : World}
    (H : TD P f cs R ds ops k Φ (x :: c) tmps w) : TD P f cs R ds ops k Φ (x :: c') tmps w := by
  obtain ⟨kx, i⟩ := x
  cases kx with
  | some lz =>
    obtain ⟨o, ho, H⟩ := H
    refine ⟨o, ho, ?_⟩
    split at H
    · rename_i hw; rw [if_pos hw]; obtain ⟨v, h1, h2, h3⟩ := H; exact ⟨v, h1, h2, hc _ _ h3⟩
    · rename_i hw; rw [if_neg hw]; exact hc _ _ H
  | none =>
    obtain ⟨o, ho, H⟩ := H
    refine ⟨o, ho, ?_⟩
    split at H
    · rename_i hw; rw [if_pos hw]; exact H.mono fun v w' ⟨h1, h2⟩ => ⟨h1, hc _ _ h2⟩
    · rename_i hw; rw [if_neg hw]; exact hc _ _ H

theorem td_front {y : Option Bool × Nat} {c2 : List (Option Bool × Nat)} : ∀ (c1 : List (Option Bool × Nat)), (∀ x ∈ c1, mayPass ops x y = true) → ∀ (tmps : Array Value) (w : World), TD P f cs R ds ops k Φ (c1 ++ y :: c2) tmps w → TD P f cs R ds ops k Φ (y :: (c1 ++ c2)) tmps w
  | [], _, tmps, w, H => H
  | x :: c1, hx, tmps, w, H => by
    have ih := td_front (y := y) (c2 := c2) c1 (fun z hz => hx z (List.mem_cons_of_mem _ hz))
    have H2 : TD P f cs R ds ops k Φ (x :: y :: (c1 ++ c2)) tmps w := td_mono_tail ih H
    have hm := hx x List.mem_cons_self
    unfold mayPass at hm
    obtain ⟨kx, p⟩ := x
    obtain ⟨ky, q⟩ := y
    simp only at hm
    split at hm
    · rename_i lz op oq hp hq
      simp only [Bool.and_eq_true, Bool.or_eq_true] at hm
      obtain ⟨⟨⟨h1, h2⟩, h3⟩, h4⟩ := hm
      exact td_swap hp hq h1 h2 h3 (fun e => by subst e; simpa using h4) H2
    · cases hm

/-- what is left, and what has been done -/
structure Left (ops : Array Oper) (anc : Nat → List Nat) (listed : Array Bool) (c : List (Option Bool × Nat)) : Prop where
  size : listed.size = ops.size
  mem : ∀ j, j < ops.size → (listed.getD j true = false ↔ j ∈ c.map (·.2))
  nodup : (c.map (·.2)).Nodup
  lt : ∀ x ∈ c, x.2 < ops.size
  down : ∀ j, j < ops.size → listed.getD j false = true → ∀ a ∈ preds ops j, listed.getD a false = true
  self : ∀ x ∈ c, x.2 ∉ preds ops x.2
  order : c.Pairwise fun y z => z.2 ∉ preds ops y.2
  pass : c.Pairwise fun y z => y.2 ∈ anc z.2 ∨ mayPass ops y z = true

theorem mem_preds {i a : Nat} {o : Oper} (ho : ops[i]? = some o) : a ∈ preds ops i ↔ ∃ e ∈ o.after, Region.binds .any e = true ∧ e.on = a := by
  simp only [preds, ho, List.mem_filterMap, Array.mem_toList_iff]
  constructor
  · rintro ⟨e, he, h⟩
    split at h
    · rename_i hb; simp only [Option.some.injEq] at h; exact ⟨e, he, hb, h⟩
    · cases h
  · rintro ⟨e, he, hb, rfl⟩
    exact ⟨e, he, by simp [hb]⟩

theorem anc_listed {anc : Nat → List Nat} {listed : Array Bool} (hlt : ∀ i, i < ops.size → ∀ a ∈ preds ops i, a < i) (hanc : ∀ i, i < ops.size → ∀ a ∈ anc i, a ∈ preds ops i ∨ ∃ j ∈ preds ops i, a ∈ anc j)
    (hdown : ∀ j, j < ops.size → listed.getD j false = true → ∀ a ∈ preds ops j, listed.getD a false = true) : ∀ (i : Nat), i < ops.size → (∀ a ∈ preds ops i, listed.getD a false = true) → ∀ a ∈ anc i, listed.getD a false = true := by
  intro i
  induction i using Nat.strongRecOn with
  | _ i ih =>
    intro hi hp a ha
    rcases hanc i hi a ha with h | ⟨j, hj, h⟩
    · exact hp a h
    · have hji := hlt i hi j hj
      exact ih j hji (by omega) (hdown j (by omega) (hp j hj)) a h

theorem getD_true_false {l : Array Bool} {j : Nat} (hj : j < l.size) : l.getD j true = l.getD j false := by simp [hj]

theorem td_go {anc : Nat → List Nat} (hlt : ∀ i, i < ops.size → ∀ a ∈ preds ops i, a < i) (hanc : ∀ i, i < ops.size → ∀ a ∈ anc i, a ∈ preds ops i ∨ ∃ j ∈ preds ops i, a ∈ anc j) :
    ∀ (fuel t : Nat) (listed : Array Bool) (c : List (Option Bool × Nat)) (tmps : Array Value) (w : World), c.length ≤ fuel → Left ops anc listed c → TD P f cs R ds ops k Φ c tmps w →
      Good P f cs R (at_ f ds tmps (.inRegion ops (Region.linearise.go .any ops fuel t listed []) :: k) cs w) := by
  intro fuel
  induction fuel with
  | zero =>
    intro t listed c tmps w hc hL H
    have : c = [] := List.length_eq_zero_iff.1 (by omega)
    subst this
    exact good_region_end H
  | succ fuel ih =>
    intro t listed c tmps w hc hL H
    simp only [Region.linearise.go]
    change Good P f cs R (at_ f ds tmps (.inRegion ops (match (Region.ready .any ops listed)[t % (Region.ready .any ops listed).length]? with
      | some i => Region.linearise.go .any ops fuel (t / (Region.ready .any ops listed).length) (listed.setIfInBounds i true) [i]
      | none => [].reverse) :: k) cs w)
    cases hi : (Region.ready .any ops listed)[t % (Region.ready .any ops listed).length]? with
    | none =>
      have hnil : Region.ready .any ops listed = [] := by
        cases hr : Region.ready .any ops listed with
        | nil => rfl
        | cons x xs =>
          rw [hr] at hi
          have hlt : t % (x :: xs).length < (x :: xs).length := Nat.mod_lt _ (by simp)
          rw [List.getElem?_eq_getElem hlt] at hi; cases hi
      cases c with
      | nil => exact good_region_end H
      | cons y c' =>
        exfalso
        have hylt := hL.lt y List.mem_cons_self
        have hready : y.2 ∈ Region.ready .any ops listed := by
          rw [mem_ready]
          refine ⟨(hL.mem _ hylt).2 (by simp), ops[y.2], by simp [hylt], fun e he hb => ?_⟩
          have hp : e.on ∈ preds ops y.2 := (mem_preds (by simp [hylt])).2 ⟨e, he, hb, rfl⟩
          have halt := hlt y.2 hylt _ hp
          have hnot : e.on ∉ (y :: c').map (·.2) := by
            intro hm
            obtain ⟨z, hz, hze⟩ := List.mem_map.1 hm
            rcases List.mem_cons.1 hz with rfl | hz
            · exact hL.self z List.mem_cons_self (by have := hp; rw [← hze] at this; exact this)
            · exact (List.pairwise_cons.1 hL.order).1 z hz (by rw [hze]; exact hp)
          have := mt (hL.mem e.on (by omega)).1 hnot
          rw [getD_true_false (by rw [hL.size]; omega)] at this
          simpa using this
        rw [hnil] at hready; cases hready
    | some i =>
      simp only []
      rw [linearise_go_acc, List.reverse_singleton, List.singleton_append]
      have hmem := List.mem_of_getElem? hi
      rw [mem_ready] at hmem
      obtain ⟨h0, o, ho, hall⟩ := hmem
      have hilt : i < ops.size := (Array.getElem?_eq_some_iff.1 ho).1
      have hic := (hL.mem i hilt).1 h0
      obtain ⟨y, hy, hyi⟩ := List.mem_map.1 hic
      obtain ⟨c1, c2, rfl⟩ := List.append_of_mem hy
      have hpl : ∀ a ∈ preds ops i, listed.getD a false = true := by
        intro a ha
        obtain ⟨e, he, hb, rfl⟩ := (mem_preds ho).1 ha
        exact hall e he hb
      have hancl := anc_listed hlt hanc hL.down i hilt hpl
      have hpass : ∀ x ∈ c1, mayPass ops x y = true := by
        intro x hx
        have hpw := (List.pairwise_append.1 hL.pass).2.2 x hx y List.mem_cons_self
        rcases hpw with h | h
        · exfalso
          rw [hyi] at h
          have hxlt := hL.lt x (List.mem_append_left _ hx)
          have h1 := hancl _ h
          have h2 := (hL.mem x.2 hxlt).2 (List.mem_map.2 ⟨x, List.mem_append_left _ hx, rfl⟩)
          rw [getD_true_false (by rw [hL.size]; exact hxlt), h1] at h2
          cases h2
        · exact h
      have H2 := td_front c1 hpass tmps w H
      have hsub : (c1 ++ c2).Sublist (c1 ++ y :: c2) := List.Sublist.append_left (List.sublist_cons_self _ _) _
      have hnd := hL.nodup
      have hL' : Left ops anc (listed.setIfInBounds i true) (c1 ++ c2) := by
        refine ⟨by simp [hL.size], fun j hj => ?_, (hsub.map _).nodup hnd, fun x hx => hL.lt x (hsub.subset hx), fun j hj hjl a ha => ?_, fun x hx => hL.self x (hsub.subset hx), hL.order.sublist hsub, hL.pass.sublist hsub⟩
        · by_cases hji : i = j
          · subst hji
            have hni : i ∉ (c1 ++ c2).map (·.2) := by
              intro hm
              have hp : (c1 ++ y :: c2).Perm (y :: (c1 ++ c2)) := List.perm_middle
              have := (hp.map (·.2)).nodup_iff.1 hnd
              simp only [List.map_cons, List.nodup_cons] at this
              exact this.1 (by rw [hyi]; exact hm)
            constructor
            · intro h; simp [hL.size, hilt] at h
            · intro h; exact absurd h hni
          · rw [getD_set_ne true hji, hL.mem j hj]
            simp only [List.map_append, List.map_cons, List.mem_append, List.mem_cons]
            constructor
            · rintro (h | h | h)
              · exact Or.inl h
              · exact absurd (h.trans hyi) (Ne.symm hji)
              · exact Or.inr h
            · rintro (h | h)
              · exact Or.inl h
              · exact Or.inr (Or.inr h)
        · by_cases hji : i = j
          · subst hji; exact getD_set_true (hpl a ha)
          · rw [getD_set_ne false hji] at hjl
            exact getD_set_true (hL.down j hj hjl a ha)
      have hlen : (c1 ++ c2).length ≤ fuel := by
        have : (c1 ++ y :: c2).length = (c1 ++ c2).length + 1 := by simp; omega
        omega
      obtain ⟨ky, iy⟩ := y
      simp only at hyi; subst hyi
      cases ky with
      | some lz =>
        obtain ⟨o', ho', H3⟩ := H2
        rw [ho] at ho'; cases ho'
        split at H3
        · rename_i hw
          obtain ⟨v, r1, _, r3⟩ := H3
          exact good_op_value ho hw r1 (ih _ _ _ _ _ hlen hL' r3)
        · rename_i hw
          exact good_op_skipped ho (by simpa using hw) (ih _ _ _ _ _ hlen hL' H3)
      | none =>
        obtain ⟨o', ho', H3⟩ := H2
        rw [ho] at ho'; cases ho'
        split at H3
        · rename_i hw
          exact good_step ho hw (H3.mono fun v w' ⟨_, r⟩ => ih _ _ _ _ _ hlen hL' r)
        · rename_i hw
          exact good_op_skipped ho (by simpa using hw) (ih _ _ _ _ _ hlen hL' H3)

theorem nodupB_spec : ∀ (l : List Nat), nodupB l = true → l.Nodup
  | [], _ => List.nodup_nil
  | a :: r, h => by
    simp only [nodupB, Bool.and_eq_true, Bool.not_eq_true', List.contains_iff_mem, ← Bool.not_eq_true] at h
    rw [List.nodup_cons]
    exact ⟨h.1, nodupB_spec r h.2⟩

theorem pairB_spec {anc : List (List Nat)} : ∀ (c : List (Option Bool × Nat)), pairB ops anc c = true → (c.Pairwise fun y z => z.2 ∉ preds ops y.2) ∧ (c.Pairwise fun y z => y.2 ∈ anc.getD z.2 [] ∨ mayPass ops y z = true)
  | [], _ => ⟨List.Pairwise.nil, List.Pairwise.nil⟩
  | y :: c, h => by
    simp only [pairB, Bool.and_eq_true, List.all_eq_true, Bool.not_eq_true', Bool.or_eq_true, List.contains_iff_mem, ← Bool.not_eq_true] at h
    obtain ⟨h1, h2⟩ := pairB_spec c h.2
    exact ⟨List.Pairwise.cons (fun z hz => (h.1 z hz).1) h1, List.Pairwise.cons (fun z hz => (h.1 z hz).2) h2⟩

theorem draw_left {anc : List (List Nat)} {order : List (Option Bool × Nat)} (h : drawOK ops anc order = true) :
    Left ops (fun i => anc.getD i []) (Array.replicate ops.size false) order ∧ (∀ i, i < ops.size → ∀ a ∈ preds ops i, a < i) ∧ (∀ i, i < ops.size → ∀ a ∈ anc.getD i [], a ∈ preds ops i ∨ ∃ j ∈ preds ops i, a ∈ anc.getD j []) ∧ order.length = ops.size := by
  simp only [drawOK, Bool.and_eq_true, beq_iff_eq] at h
  obtain ⟨⟨⟨⟨⟨⟨h1, h2⟩, h0⟩, h3⟩, h4⟩, h5⟩, h6⟩ := h
  have hlt : ∀ x ∈ order, x.2 < ops.size := by
    intro x hx; have := List.all_eq_true.1 h3 x hx; simpa using this
  have hp : ∀ i, i < ops.size → ∀ a ∈ preds ops i, a < i := by
    intro i hi a ha
    have := List.all_eq_true.1 (List.all_eq_true.1 h4 i (List.mem_range.2 hi)) a ha
    simpa using this
  have ha : ∀ i, i < ops.size → ∀ a ∈ anc.getD i [], a ∈ preds ops i ∨ ∃ j ∈ preds ops i, a ∈ anc.getD j [] := by
    intro i hi a ha
    have := List.all_eq_true.1 (List.all_eq_true.1 h5 i (List.mem_range.2 hi)) a ha
    simp only [Bool.or_eq_true, List.contains_iff_mem, List.any_eq_true] at this
    exact this
  have hnd := nodupB_spec _ h2
  obtain ⟨h7, h8⟩ := pairB_spec order h6
  refine ⟨⟨by simp, fun j hj => ?_, hnd, hlt, fun j hj hl => ?_, fun x hx hs => ?_, h7, h8⟩, hp, ha, h1⟩
  · have := List.all_eq_true.1 h0 j (List.mem_range.2 hj)
    rw [List.contains_iff_mem] at this
    simp only [this, iff_true]
    simp [hj]
  · simp [hj] at hl
  · have := hp x.2 (hlt x hx) x.2 hs; omega
end

/-! ### in the words of chunks -/
inductive RelD (P : Program) (n : Nat) (ops : Array Oper) : List (Option Bool × Nat) → List (Option Bool × In) → Prop where
  | nil : RelD P n ops [] []
  | cons {i o k x c l} : ops[i]? = some o → inOf P n ops o = some x → RelD P n ops c l → RelD P n ops ((k, i) :: c) ((k, x) :: l)

theorem relD_of {P : Program} {n : Nat} {ops : Array Oper} : ∀ (c : List (Option Bool × Nat)) (l : List (Option Bool × In)), insOf P n ops c = some l → RelD P n ops c l
  | [], l, h => by simp only [insOf, Option.some.injEq] at h; subst h; exact .nil
  | (k, i) :: c, l, h => by
    simp only [insOf] at h
    split at h
    · rename_i o ho
      split at h
      · rename_i x hx
        split at h
        · rename_i l' hl
          simp only [Option.some.injEq] at h; subst h
          exact .cons ho hx (relD_of c l' hl)
        · cases h
      · cases h
    · cases h

/-- as SG, inside a region whose order is open. I0, h0: what stays so till the region's end, whatever is done in it -/
def SD (C : Cx) (I0 : Imm) (h0 : List Chunk) (I : Imm) (env : Env) (h : List Chunk) (l : List (Option Bool × In)) (K : List KI) : Prop :=
  ∀ (tmps : Array Value) (w : World) (todo : List Item) (ops : Array Oper) (c : List (Option Bool × Nat)), tmps.size = C.fn.ntmps → Agree env tmps → Sat I h w.hx → RelK C.P C.fn.ntmps todo K → RelD C.P C.fn.ntmps ops c l →
    TD C.P C.f C.cs C.R C.ds ops todo (fun w => Sat I0 h0 w.hx) c tmps w

section
variable {C : Cx} {I0 I : Imm} {h0 h : List Chunk} {env : Env} {K : List KI} {l : List (Option Bool × In)}


theorem compile_draw {P : Program} {n : Nat} {c : Code} {l : List (Option Bool × In)} {p : List (List Nat × In)} (h : compile P n c = some (.draw (some l) p)) : ∃ id ops o, c = .region id ops true ∧ drawPlan P ops = some o ∧ insOf P n ops o = some l := by
  cases c <;> simp [compile, Option.bind_eq_some_iff] at h
  case region id ops d =>
    rcases region_inv h with ⟨_, _, _, h2⟩ | ⟨rfl, o, _, h1, h3, h2⟩ | ⟨_, h2⟩ <;> cases h2
    exact ⟨id, ops, o, rfl, h1, h3⟩

theorem sg_draw (I0 : Imm) (h0 : List Chunk) {p : List (List Nat × In)} (g : SD C I0 h0 I env h l K) : SG C I env h (.ir (.draw (some l) p) :: K) := by
  intro tmps w todo hs ha hh hk
  cases hk with
  | ir hc hk =>
    obtain ⟨id, ops, o, rfl, hp, hl⟩ := compile_draw hc
    refine good_region_draw fun t => ?_
    have hok : drawOK ops (ancTab ops ops.size []) o = true := by
      unfold drawPlan at hp
      simp only at hp
      split at hp
      · rename_i hd; simp only [Option.some.injEq] at hp; subst hp; exact hd
      · cases hp
    obtain ⟨hL, h1, h2, h3⟩ := draw_left hok
    have H := g tmps { w with drawn := w.drawn + 1 } _ ops o hs ha hh hk (relD_of o l hl)
    unfold Region.schedule
    rw [C.hm]
    simp only [Bool.true_or, if_true, Region.linearise]
    exact td_go h1 h2 ops.size t _ o _ _ (by omega) hL H

theorem sd_nil (g : SG C I env h K) : SD C I0 h0 I env h [] K := by
  intro tmps w todo ops c hs ha hh hk hd
  cases hd
  exact g tmps w todo hs ha hh hk

theorem sd_read {d : Option Nat} {gd : Option (Nat × Bool)} {op : IOp} {v : Value} (hg : gst env gd = some true) (r : RV C.P I h env op v)
    (k : SD C I0 h0 I (setE d v env) h l K) : SD C I0 h0 I env h ((some false, ⟨d, gd, op⟩) :: l) K := by
  intro tmps w todo ops c hs ha hh hk hd
  cases hd with
  | cons ho hx hd =>
    rename_i i o c
    obtain ⟨h1, h2, h3, h4⟩ := inOf_inv hx
    refine ⟨o, ho, ?_⟩
    rw [if_pos (wanted_of ha h3 hg)]
    refine ⟨v, r o _ w h1 ha.ev hh, fun e => (by cases e), k _ _ _ _ _ ?_ ?_ hh hk hd⟩
    · rw [putT_size]; exact hs
    · rw [h2]; exact ha.set (fun d e => by rw [hs]; exact h4 d e) v

/-- a read that may come behind what writes: it must rest on what stays -/
theorem sd_lz {d : Option Nat} {gd : Option (Nat × Bool)} {op : IOp} {v : Value} (hg : gst env gd = some true) (hw : ∀ H, Sat I h H → Sat I0 h0 H) (r : RV C.P I0 h0 env op v)
    (k : SD C I0 h0 I (setE d v env) h l K) : SD C I0 h0 I env h ((some true, ⟨d, gd, op⟩) :: l) K := by
  intro tmps w todo ops c hs ha hh hk hd
  cases hd with
  | cons ho hx hd =>
    rename_i i o c
    obtain ⟨h1, h2, h3, h4⟩ := inOf_inv hx
    refine ⟨o, ho, ?_⟩
    rw [if_pos (wanted_of ha h3 hg)]
    refine ⟨v, r o _ w h1 ha.ev (hw _ hh), fun _ w' hw' => r o _ w' h1 ha.ev hw', k _ _ _ _ _ ?_ ?_ hh hk hd⟩
    · rw [putT_size]; exact hs
    · rw [h2]; exact ha.set (fun d e => by rw [hs]; exact h4 d e) v

theorem sd_op {d : Option Nat} {gd : Option (Nat × Bool)} {op : IOp} (hg : gst env gd = some true)
    (H : OpStep C.P I h env op fun v I' h' => (∀ H, Sat I' h' H → Sat I0 h0 H) ∧ SD C I0 h0 I' (setE d v env) h' l K) : SD C I0 h0 I env h ((none, ⟨d, gd, op⟩) :: l) K := by
  intro tmps w todo ops c hs ha hh hk hd
  cases hd with
  | cons ho hx hd =>
    rename_i i o c
    obtain ⟨h1, h2, h3, h4⟩ := inOf_inv hx
    refine ⟨o, ho, ?_⟩
    rw [if_pos (wanted_of ha h3 hg)]
    refine (H o _ w h1 ha.ev hh).mono ?_
    rintro v w' ⟨I', h', ⟨hw, hsd⟩, hsat⟩
    refine ⟨hw _ hsat, hsd _ _ _ _ _ ?_ ?_ hsat hk hd⟩
    · rw [putT_size]; exact hs
    · rw [h2]; exact ha.set (fun d e => by rw [hs]; exact h4 d e) v

theorem sd_no {k : Option Bool} {x : In} (hg : gst env x.guard = some false) (g : SD C I0 h0 I (setE x.dst undef env) h l K) : SD C I0 h0 I env h ((k, x) :: l) K := by
  intro tmps w todo ops c hs ha hh hk hd
  cases hd with
  | cons ho hx hd =>
    rename_i i o c
    obtain ⟨h1, h2, h3, h4⟩ := inOf_inv hx
    have hwf := wanted_of ha h3 hg
    have hrest := g (putT tmps o.dst undef) w todo ops c (by rw [putT_size]; exact hs) (by rw [h2]; exact ha.set (fun d e => by rw [hs]; exact h4 d e) undef) hh hk hd
    cases k with
    | some lz => exact ⟨o, ho, by rw [if_neg (by rw [hwf]; simp)]; exact hrest⟩
    | none => exact ⟨o, ho, by rw [if_neg (by rw [hwf]; simp)]; exact hrest⟩

theorem sd_env {e' : Env} (hle : Env.Le e' env) (g : SD C I0 h0 I e' h l K) : SD C I0 h0 I env h l K :=
  fun tmps w todo ops c hs ha hh hk hd => g tmps w todo ops c hs (fun d v hd => ha d v (hle d v hd)) hh hk hd
end
end Go.Sx
