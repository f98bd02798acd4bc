/- A part of an engine of our own (the code is compiled to a smaller language, whose steps are proved right), nothing is claimed here: ### a range over a function -/
import Derived.Test.YtmpmagcepgjcdaaGreatSxSteps8
import Derived.Test.YtmpmagcepgjcdaaGreatSxNorm
import Derived.RangeFuncLeaves
import Derived.RangeFuncRecord
set_option linter.all false
namespace Go.Sx

/-! ### a range over a function -/
theorem compile_rangeF {P : Program} {n : Nat} {c : Code} {o : Opd} {ps : List Nat} {a b : IR} (h : compile P n c = some (.rangeF o ps a b)) :
    ∃ q x y, c = .rangeFunc q ps.toArray x y ∧ Opd.of q = o ∧ compile P n x = some a ∧ compile P n y = some b := by
  cases c <;> simp [compile, Option.bind_eq_some_iff] at h
  case rangeFunc q ps' x y =>
    obtain ⟨x', hx, y', hy, rfl, rfl, rfl, rfl⟩ := h
    exact ⟨q, x, y, by simp, rfl, hx, hy⟩
  case region id ops d => rcases region_inv h with ⟨_, _, _, h2⟩ | ⟨_, _, _, _, _, h2⟩ | ⟨_, h2⟩ <;> cases h2

section
variable {C : Cx} {I : Imm} {env : Env} {h : List Chunk} {K : List KI}

def mark (r : Nat) : List Deferred := [{ target := .collected r, args := #[] }]

theorem base_atR (f : FuncId) (a : Act) (todo : List Item) : (base f).atR a todo = (base f).at a todo := Frame.atR_of_none rfl a todo

/-- the function that is ranged over calls nothing -/
theorem sg_rangeF0 {o : Opd} {ps : List Nat} {a b : IR} {gf : FuncId} {captured : Array Value} {hc F : List Chunk} {Q : Value → Imm → List Chunk → Prop} (hds : C.ds = [])
    (hf : ev env o = some (.func (.func gf) #[] captured)) (hsplit : Weak h (hc ++ F))
    (hspec : ∀ l, Spec C.P gf (.func (.yield l) #[] #[] :: captured.toList) I hc Q)
    (k : ∀ v I' h' r, I ≤ I' → Q v I' h' → SG { C with ds := mark r } I' env ((r, .deferred (some [])) :: (h' ++ F)) K) :
    SG C I env h (.ir (.rangeF o ps a b) :: K) := by
  intro tmps w todo hs ha hh hk
  cases hk with
  | @ir _ _ k' _ hcc hk =>
  obtain ⟨q, x, y, rfl, hq, hx, hy⟩ := compile_rangeF hcc
  have hfv := ha.ev (ds := C.ds) q _ (by rw [hq]; exact hf)
  obtain ⟨⟨fn, hfn, hng, hbody⟩, hspec⟩ := hspec (w.heap.size + 1)
  let lp : Loop := { state := .ready, pending := none, fn := C.f, tmps := tmps, params := ps.toArray, assign := x, body := y, defers := w.heap.size }
  let w1 : World := (w.alloc (.deferred (some []))).alloc (.loop lp)
  have henter := stepR_rangeFunc (P := C.P) (b := base C.f) (a := ⟨tmps, C.ds⟩) (k := k') (cs := C.cs) (w := w) (g := q) (ps := ps.toArray) (assign := x) (body := y)
    (l := w.heap.size + 1) (mark := mark w.heap.size) (w₁ := w1) (w₁' := w1) (w₂ := w1) (d := ⟨.fn (.func gf) captured, #[.func (.yield (w.heap.size + 1)) #[] #[]]⟩) (f := gf)
    (args := (.func (.yield (w.heap.size + 1)) #[] #[] :: captured.toList).toArray)
    (by exact run_enterLoop_outer (P := C.P) (w := w) C.f tmps ps.toArray x y)
    (by
      simp only [resolve, rangeCall, hfv, Deferred.ofValue, Sem.run_bind, Sem.run_pure, Result.andThen_ok]
      simp [Act.eval])
    (by
      simp only [invoke, callFunc, Sem.run_bind, run_program, Result.andThen_ok]
      have : (#[.func (.yield (w.heap.size + 1)) #[] #[]] ++ captured : Array Value) = (.func (.yield (w.heap.size + 1)) #[] #[] :: captured.toList).toArray := by
        apply Array.toList_inj.1; simp
      simp only [this, hfn, hng, hbody, Bool.false_eq_true, if_false, Sem.run_pure])
  have hsat2 : Sat I (hc ++ ((w.heap.size + 1, .loop lp) :: (w.heap.size, .deferred (some [])) :: F)) w1.hx := by
    have e1 := ((hsplit _ _ hh).new (.deferred (some []))).new (.loop lp)
    have e2 : (w.heap.push (.deferred (some []))).size = w.heap.size + 1 := by simp
    rw [e2] at e1
    refine e1.perm ?_
    exact (((List.perm_middle (a := (w.heap.size, Obj.deferred (some []))) (l₁ := hc) (l₂ := F)).symm).cons (w.heap.size + 1, Obj.loop lp)).trans (List.perm_middle.symm)
  obtain ⟨e, w2, fr, ⟨v, I', h', rfl, hle, hq', hs'⟩, hsteps, hfn2, hleave⟩ := hspec _ w1 hsat2 ((base C.f).atR ⟨tmps, mark w.heap.size ++ C.ds⟩ (.inRangeFunc (w.heap.size + 1) :: k') :: C.cs)
  have hl2 : w2.heap[w.heap.size + 1]? = some (.loop lp) := by
    refine (hs'.own (w.heap.size + 1, .loop lp) ?_).1
    simp
  have hend := run_endLoop (P := C.P) hl2 (by simp [lp])
  have hsteps1 : Steps C.P (lone ((base C.f).atR ⟨tmps, C.ds⟩ (.code (.rangeFunc q ps.toArray x y) :: k')) C.cs w)
      (lone ((base C.f).atR ⟨tmps, mark w.heap.size ++ C.ds⟩ k') C.cs (w2.putObj (w.heap.size + 1) (.loop { lp with state := .exhausted }))) := by
    refine .head henter (Steps.trans hsteps (.head (m₁ := lone ((base C.f).atR ⟨tmps, mark w.heap.size ++ C.ds⟩ (.endRangeFunc (w.heap.size + 1) :: k')) C.cs w2) ?_ (.one (stepR_endRangeFunc hend))))
    rw [← finish_atR_inRangeFunc (w.heap.size + 1) v]
    exact step_leave_returned hleave
  rw [base_atR, base_atR] at hsteps1
  refine Good.steps hsteps1 ?_
  have hds' : mark w.heap.size ++ C.ds = mark w.heap.size := by rw [hds]; simp
  rw [hds']
  refine k v I' h' w.heap.size hle hq' tmps _ k' hs ha ?_ hk
  have e4 : Sat I' ((w.heap.size + 1, .loop lp) :: (w.heap.size, .deferred (some [])) :: (h' ++ F)) w2.hx := by
    refine hs'.perm ?_
    exact (List.perm_middle).trans ((List.perm_middle).cons _)
  exact (e4.upd .head).drop

theorem good_ret_mark {P : Program} {f : FuncId} {cs : List Frame} {R : Ending → World → Prop} {tmps : Array Value} {w : World} {k : List Item} {r : Nat} {fn : Func} {v : Value} (hf : P.funcs[f]? = some fn)
    (hr : w.heap[r]? = some (.deferred (some []))) (hres : (results fn tmps).run P (w.putObj r (.deferred none)) = .ok v (w.putObj r (.deferred none))) (h : R (.returned v) (w.putObj r (.deferred none))) :
    Good P f cs R (at_ f (mark r) tmps (.code .ret :: k) cs w) := by
  refine ⟨.returned v, w.putObj r (.deferred none), { (base f).at ⟨tmps, mark r⟩ (.code .ret :: k) with mode := .returning, defers := [] }, h, ?_, rfl, rfl, rfl, rfl, fn, hf, hres⟩
  refine .head step_ret (.one ?_)
  exact step_collected (fr := { (base f).at ⟨tmps, mark r⟩ (.code .ret :: k) with mode := .returning }) (calls := []) (by simp) rfl rfl (run_takeDeferred hr)

theorem sg_ret_mark {vs : List Value} {r : Nat} {h' : List Chunk} (hds : C.ds = mark r) (hp : Pick (r, .deferred (some [])) h h') (hv : RetV I env h' C.rets vs) (q : C.Q (mkRet vs) I h') : SG C I env h (.ir .ret :: K) := by
  intro tmps w todo hs ha hh hk
  cases hk with
  | ir hc hk =>
    obtain rfl := compile_ret hc
    rw [hds]
    have hs1 := hh.pick hp
    have hs2 : Sat I h' (w.putObj r (.deferred none)).hx := (hs1.upd .head).drop
    exact good_ret_mark C.hf (hs1.get .head) (results_sound ha hs2 hv) ⟨_, I, h', rfl, q, hs2⟩
end
end Go.Sx
