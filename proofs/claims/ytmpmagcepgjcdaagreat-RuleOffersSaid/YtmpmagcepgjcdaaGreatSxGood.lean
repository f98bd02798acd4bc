/- A part of an engine of our own (the code is compiled to a smaller language, whose steps are proved right), nothing is claimed here: - the frame of a function that runs -/
import Derived.Calls
set_option linter.all false
namespace Go.Sx

/-- the frame of a function that runs -/
def base (f : FuncId) : Frame := { (default : Frame) with fn := f, kind := .normal }

/-- from this machine on the function ends as R says -/
def Good (P : Program) (f : FuncId) (cs : List Frame) (R : Ending → World → Prop) (m : Machine) : Prop :=
  ∃ e w' fr, R e w' ∧ Comes P m (lone fr cs w') e ∧ fr.fn = f ∧ fr.leaving P w' e

theorem Good.steps {P : Program} {f : FuncId} {cs : List Frame} {R : Ending → World → Prop} {m m₁ : Machine} (h : Steps P m m₁) (g : Good P f cs R m₁) : Good P f cs R m :=
  let ⟨e, w', fr, r, hc, rest⟩ := g
  ⟨e, w', fr, r, Comes.of_steps h hc, rest⟩

theorem Good.step {P : Program} {f : FuncId} {cs : List Frame} {R : Ending → World → Prop} {m m₁ : Machine} (h : step P m = .next m₁) (g : Good P f cs R m₁) : Good P f cs R m :=
  g.steps (.one h)

/-- the machine in the middle of a function's text -/
abbrev at_ (f : FuncId) (ds : List Deferred) (tmps : Array Value) (todo : List Item) (cs : List Frame) (w : World) : Machine := lone ((base f).at ⟨tmps, ds⟩ todo) cs w

theorem calls_of_good {P : Program} {f : FuncId} {fn : Func} {c : Code} {args : Array Value} {w : World} {R : Ending → World → Prop}
    (hf : P.funcs[f]? = some fn) (hb : fn.body = some c)
    (h : ∀ cs, Good P f cs R (at_ f [] (args ++ Array.replicate (fn.ntmps - args.size) undef) [.code c] cs w)) : Calls P f args w R := by
  intro cs
  have henter : Frame.enter P f args .normal = (base f).at ⟨args ++ Array.replicate (fn.ntmps - args.size) undef, []⟩ [.code c] := by
    simp [Frame.enter, Frame.at, hf, hb, base]
  rw [henter]
  exact h cs

section
variable {P : Program} {f : FuncId} {cs : List Frame} {R : Ending → World → Prop} {w : World} {tmps : Array Value} {ds : List Deferred} {k : List Item}

theorem good_skip (h : Good P f cs R (at_ f ds tmps k cs w)) : Good P f cs R (at_ f ds tmps (.code .skip :: k) cs w) := h.step step_skip
theorem good_label {l : Nat} (h : Good P f cs R (at_ f ds tmps k cs w)) : Good P f cs R (at_ f ds tmps (.code (.label l) :: k) cs w) := h.step step_label
theorem good_inBlock {id : Nat} (h : Good P f cs R (at_ f ds tmps k cs w)) : Good P f cs R (at_ f ds tmps (.inBlock id :: k) cs w) := h.step step_inBlock
theorem good_seq {x y : Code} (h : Good P f cs R (at_ f ds tmps (.code x :: .code y :: k) cs w)) : Good P f cs R (at_ f ds tmps (.code (.seq x y) :: k) cs w) := h.step step_seq
theorem good_cond {c : Operand} {x y : Code} {t : Bool} (hc : (Act.mk tmps ds).eval c = .bool t) (h : Good P f cs R (at_ f ds tmps (.code (if t then x else y) :: k) cs w)) :
    Good P f cs R (at_ f ds tmps (.code (.cond c x y) :: k) cs w) := h.step (step_cond hc)
theorem good_block {id : Nat} {c : Code} (h : Good P f cs R (at_ f ds tmps (.code c :: .inBlock id :: k) cs w)) : Good P f cs R (at_ f ds tmps (.code (.block id c) :: k) cs w) := h.step step_block
theorem good_loop {c : Code} (h : Good P f cs R (at_ f ds tmps (.code c :: .inLoop c :: k) cs w)) : Good P f cs R (at_ f ds tmps (.code (.loop c) :: k) cs w) := h.step step_loop
theorem good_inLoop {c : Code} (h : Good P f cs R (at_ f ds tmps (.code c :: .inLoop c :: k) cs w)) : Good P f cs R (at_ f ds tmps (.inLoop c :: k) cs w) := h.step step_inLoop
theorem good_exit {id : Nat} {k' : List Item} (hk : exitTo id k = some k') (h : Good P f cs R (at_ f ds tmps k' cs w)) : Good P f cs R (at_ f ds tmps (.code (.exit id) :: k) cs w) := h.step (step_exit hk)

theorem good_region {id : Nat} {ops : Array Oper} (h : Good P f cs R (at_ f ds tmps (.inRegion ops (List.range ops.size) :: k) cs w)) :
    Good P f cs R (at_ f ds tmps (.code (.region id ops false) :: k) cs w) := h.step step_region
theorem good_region_draw {id : Nat} {ops : Array Oper}
    (h : ∀ t, Good P f cs R (at_ f ds tmps (.inRegion ops (Region.schedule (P.follows .mixedOrders) ops t) :: k) cs { w with drawn := w.drawn + 1 })) :
    Good P f cs R (at_ f ds tmps (.code (.region id ops true) :: k) cs w) := (h _).step step_region_draw
theorem good_region_end {ops : Array Oper} (h : Good P f cs R (at_ f ds tmps k cs w)) : Good P f cs R (at_ f ds tmps (.inRegion ops [] :: k) cs w) := h.step step_region_end

/-- what a slot holds behind an operation -/
def putT (tmps : Array Value) (d : Option Tmp) (v : Value) : Array Value := match d with | some d => tmps.setIfInBounds d v | none => tmps

theorem put_eq (tmps : Array Value) (ds : List Deferred) (d : Option Tmp) (v : Value) : (Act.mk tmps ds).put d v = ⟨putT tmps d v, ds⟩ := by cases d <;> rfl

theorem good_op_skipped {ops : Array Oper} {i : Nat} {rest : List Nat} {o : Oper} (ho : ops[i]? = some o) (hw : Region.wanted o (yielded ops tmps) = false)
    (h : Good P f cs R (at_ f ds (putT tmps o.dst undef) (.inRegion ops rest :: k) cs w)) : Good P f cs R (at_ f ds tmps (.inRegion ops (i :: rest) :: k) cs w) := by
  have hs := step_op_skip (P := P) (b := base f) (a := ⟨tmps, ds⟩) (k := k) (cs := cs) (w := w) (ops := ops) (i := i) (rest := rest) (by simp [ho, hw])
  simp only [ho, Option.bind_some, put_eq] at hs
  exact h.step hs

theorem good_op_none {ops : Array Oper} {i : Nat} {rest : List Nat} (ho : ops[i]? = none)
    (h : Good P f cs R (at_ f ds tmps (.inRegion ops rest :: k) cs w)) : Good P f cs R (at_ f ds tmps (.inRegion ops (i :: rest) :: k) cs w) := by
  have hs := step_op_skip (P := P) (b := base f) (a := ⟨tmps, ds⟩) (k := k) (cs := cs) (w := w) (ops := ops) (i := i) (rest := rest) (by simp [ho])
  simp only [ho, Option.bind_none, Act.put] at hs
  exact h.step hs

theorem good_op_value {ops : Array Oper} {i : Nat} {rest : List Nat} {o : Oper} {v : Value} {w' : World} (ho : ops[i]? = some o) (hw : Region.wanted o (yielded ops tmps) = true)
    (hr : (execOp (Act.mk tmps ds).eval o).run P w = .ok (.value v) w')
    (h : Good P f cs R (at_ f ds (putT tmps o.dst v) (.inRegion ops rest :: k) cs w')) : Good P f cs R (at_ f ds tmps (.inRegion ops (i :: rest) :: k) cs w) := by
  have hg := stepG_op (P := P) (b := base f) (a := ⟨tmps, ds⟩) (k := k) (cs := cs) (w := w) (rest := rest) ho hw
  refine h.step (step_lone_go ?_)
  have hfin : ((base f).at ⟨tmps, ds⟩ (.inRegion ops (i :: rest) :: k)).finish v = (base f).at ⟨putT tmps o.dst v, ds⟩ (.inRegion ops rest :: k) := by
    rw [Frame.finish_at, ho, Option.bind_some, put_eq]
  rw [hg, ← hfin]; simp [stepG.apply, hr]

theorem good_op_skip {ops : Array Oper} {i : Nat} {rest : List Nat} {o : Oper} {w' : World} (ho : ops[i]? = some o) (hw : Region.wanted o (yielded ops tmps) = true)
    (hr : (execOp (Act.mk tmps ds).eval o).run P w = .ok .skip w')
    (h : Good P f cs R (at_ f ds (putT tmps o.dst undef) (.inRegion ops rest :: k) cs w')) : Good P f cs R (at_ f ds tmps (.inRegion ops (i :: rest) :: k) cs w) := by
  have hg := stepG_op (P := P) (b := base f) (a := ⟨tmps, ds⟩) (k := k) (cs := cs) (w := w) (rest := rest) ho hw
  refine h.step (step_lone_go ?_)
  have hfin : ((base f).at ⟨tmps, ds⟩ (.inRegion ops (i :: rest) :: k)).finish undef = (base f).at ⟨putT tmps o.dst undef, ds⟩ (.inRegion ops rest :: k) := by
    rw [Frame.finish_at, ho, Option.bind_some, put_eq]
  rw [hg, ← hfin]; simp [stepG.apply, hr]

theorem good_op_enter {ops : Array Oper} {i : Nat} {rest : List Nat} {o : Oper} {g : FuncId} {args : Array Value} {w' : World} (ho : ops[i]? = some o)
    (hw : Region.wanted o (yielded ops tmps) = true) (hr : (execOp (Act.mk tmps ds).eval o).run P w = .ok (.enter g args) w')
    (h : Calls P g args w' fun e w'' => ∃ v, e = .returned v ∧ Good P f cs R (at_ f ds (putT tmps o.dst v) (.inRegion ops rest :: k) cs w'')) :
    Good P f cs R (at_ f ds tmps (.inRegion ops (i :: rest) :: k) cs w) := by
  have hg := stepG_op (P := P) (b := base f) (a := ⟨tmps, ds⟩) (k := k) (cs := cs) (w := w) (rest := rest) ho hw
  obtain ⟨e, w'', fr, ⟨v, rfl, hR⟩, hsteps, _, hleave⟩ := h ((base f).at ⟨tmps, ds⟩ (.inRegion ops (i :: rest) :: k) :: cs)
  have henter : step P (at_ f ds tmps (.inRegion ops (i :: rest) :: k) cs w) =
      .next (lone (Frame.enter P g args .normal) ((base f).at ⟨tmps, ds⟩ (.inRegion ops (i :: rest) :: k) :: cs) w') :=
    step_lone_go (by rw [hg]; simp [stepG.apply, hr, Frame.at])
  have hfin : ((base f).at ⟨tmps, ds⟩ (.inRegion ops (i :: rest) :: k)).finish v = (base f).at ⟨putT tmps o.dst v, ds⟩ (.inRegion ops rest :: k) := by
    rw [Frame.finish_at, ho, Option.bind_some, put_eq]
  refine hR.steps (.head henter (Steps.trans hsteps (.one ?_)))
  rw [at_, ← hfin]; exact step_leave_returned hleave

/-- the end: the results are read -/
theorem good_ret {fn : Func} {v : Value} (hf : P.funcs[f]? = some fn) (hr : (results fn tmps).run P w = .ok v w) (h : R (.returned v) w) :
    Good P f cs R (at_ f [] tmps (.code .ret :: k) cs w) :=
  ⟨.returned v, w, { (base f).at ⟨tmps, []⟩ (.code .ret :: k) with mode := .returning }, h, .one step_ret, rfl, rfl, rfl, rfl, fn, hf, hr⟩
theorem good_end {fn : Func} {v : Value} (hf : P.funcs[f]? = some fn) (hr : (results fn tmps).run P w = .ok v w) (h : R (.returned v) w) :
    Good P f cs R (at_ f [] tmps [] cs w) :=
  ⟨.returned v, w, { (base f).at ⟨tmps, []⟩ [] with mode := .returning }, h, .one step_end, rfl, rfl, rfl, rfl, fn, hf, hr⟩
end
end Go.Sx
