/- A part of an engine of our own (the code is compiled to a smaller language, whose steps are proved right), nothing is claimed here: - nothing is left -/
import Derived.Test.YtmpmagcepgjcdaaGreatSxSteps9
set_option linter.all false
namespace Go.Sx
section
variable {P : Program} {I : Imm} {env : Env} {h : List Chunk} {N : Value → Imm → List Chunk → Prop}
theorem o_rangeMap {x : Opd} {m ck : Nat} {es : Array MapEntry} (hx : ev env x = some (.map (some m))) (hb : Has m (.map es ck) h)
    (k : ∀ b, N (.pointer (some ⟨b, 0, none⟩)) I ((b, .mapIter (some m) ck #[] ck) :: h)) : OpStep P I h env (.rangeMap x) N := by
  intro o ρ w hi he hh
  obtain ⟨t, y, kt, e, hop, hy, hu⟩ := iop_inv_rangeMap hi
  have hv := he y _ (by rw [hy]; exact hx)
  refine stepR_value (v := .pointer (some ⟨w.heap.size, 0, none⟩)) (w' := { w with heap := w.heap.push (.mapIter (some m) ck #[] ck) }) ?_ ⟨I, _, k _, hh.new _⟩
  unfold execOp
  simp only [hop, hv]
  unfold Instr.range
  simp only [Sem.run_bind, run_underlying_eq, hu, Result.andThen_ok, run_getObj_map (hh.get hb), Sem.run_pure, run_newObj]
/-- nothing is left -/
theorem r_next_empty {x : Opd} {m r since last ck : Nat} (hx : ev env x = some (.pointer (some ⟨r, 0, none⟩))) (hr : Has r (.mapIter (some m) since #[] last) h) (hb : Has m (.map #[] ck) h)
    (k : N (.tuple #[.bool false]) I h) : OpStep P I h env (.next x false) N := by
  intro o ρ w hi he hh
  obtain ⟨y, hop, hy⟩ := iop_inv_next hi
  have hv := he y _ (by rw [hy]; exact hx)
  refine stepR_value (v := .tuple #[.bool false]) (w' := w) ?_ ⟨I, h, k, hh⟩
  have hg : (getObj r).run P w = .ok (.mapIter (some m) since #[] last) w := by simp [getObj, Sem.run, hh.get hr]
  unfold execOp
  simp only [hop, hv]
  unfold Instr.next
  simp only [Sem.run_bind, Sem.run_pure, Result.andThen_ok, hg, run_getObj_map (hh.get hb)]
  have ef : ∀ f : MapEntry → Bool, Array.filter f #[] = #[] := fun f => by apply Array.toList_inj.1; rfl
  simp only [ef]
  have e1 : ((if (#[] : Array MapEntry).isEmpty = true then #[none] else #[]) ++ Array.map some ((#[] : Array MapEntry) ++ #[])) = (#[none] : Array (Option MapEntry)) := by simp
  simp only [e1]
  rw [if_neg (by simp)]
  simp only [Sem.run_bind, run_choose]
  rw [if_pos (by rfl)]
  rfl
end
end Go.Sx
