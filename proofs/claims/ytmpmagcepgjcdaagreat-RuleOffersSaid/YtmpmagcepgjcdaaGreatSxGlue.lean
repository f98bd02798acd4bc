/- A part of an engine of our own (the code is compiled to a smaller language, whose steps are proved right), nothing is claimed here: from a contract to the row's words -/
import Derived.Test.YtmpmagcepgjcdaaGreatSxEx13
import Derived.Below
import Derived.Carry
set_option linter.all false
/-! from a contract to the row's words -/
namespace Go.Sx
open Go.RowKit
/-- all blocks that there are -/
def allB (H : Array Obj) : Nat → List Chunk
  | 0 => []
  | n + 1 => match H[n]? with
    | some o => (n, o) :: allB H n
    | none => allB H n
theorem allB_mem {H : Array Obj} {n : Nat} {c : Chunk} (h : c ∈ allB H n) : c.1 < n ∧ H[c.1]? = some c.2 := by
  induction n with
  | zero => cases h
  | succ n ih =>
    unfold allB at h
    split at h
    · rename_i o ho
      rcases List.mem_cons.1 h with rfl | h
      · exact ⟨Nat.lt_succ_self _, ho⟩
      · have := ih h; exact ⟨by omega, this.2⟩
    · have := ih h; exact ⟨by omega, this.2⟩
theorem allB_nodup (H : Array Obj) (n : Nat) : ((allB H n).map Prod.fst).Nodup := by
  induction n with
  | zero => exact List.nodup_nil
  | succ n ih =>
    unfold allB
    split
    · simp only [List.map_cons, List.nodup_cons]
      refine ⟨fun h => ?_, ih⟩
      obtain ⟨c, hc, he⟩ := List.mem_map.1 h
      have := (allB_mem hc).1
      omega
    · exact ih
theorem mem_allB {H : Array Obj} {b : Nat} {o : Obj} (h : H[b]? = some o) : ∀ n, b < n → (b, o) ∈ allB H n := by
  intro n
  induction n with
  | zero => intro h; omega
  | succ n ih =>
    intro hb
    unfold allB
    by_cases hn : b = n
    · subst hn; rw [h]; exact List.mem_cons_self
    · have := ih (by omega)
      split
      · exact List.mem_cons_of_mem _ this
      · exact this
/-- the blocks that are lent: all of them stay -/
def immAll (w : World) : Imm := ⟨fun b => w.heap[b]?, w.os, w.output⟩
theorem sat_all (w : World) : Sat (immAll w) [] w.hx := by
  refine ⟨fun _ _ h => h, ?_, List.nodup_nil, rfl, rfl⟩
  intro _ h; cases h

/-- what there was is as it was -/
structure Kept (w w' : World) : Prop where
  os : w'.os = w.os
  output : w'.output = w.output
  size : w.heap.size ≤ w'.heap.size
  block : ∀ k, k < w.heap.size → w'.heap[k]? = w.heap[k]?
theorem Kept.frame {w w' : World} (h : Kept w w') (may : MemPlace → Prop) : w.keptBut w' may := by
  refine ⟨h.os, h.output, fun i hi => ?_⟩
  rw [h.block i hi]
  split <;> simp_all
theorem Kept.same {W W' : World} (h : Kept W W') {p : MemPlace} (hp : p.block < W.heap.size) : W.sameAt W' p := by
  cases p with
  | cell b o => exact World.cell?_of_block (w := W) (h.block b hp)
  | map b => exact h.block b hp
theorem Kept.trod {H : Type} {enc : TypeId × Value → H} {P : Program} {t : TypeId} (hl : laidOutB P = true) (hr : P.readableRec t = true) (hrow : t < P.types.size) {W W' : World} {v : Value} {d : DataW H} {ps : List MemPlace}
    (h : DataW.Trod enc P W 0 (fun _ => true) true t v d ps) (hb : Kept W W') (hlt : ∀ x ∈ ps, x.block < W.heap.size) :
    DataW.Trod enc P W' 0 (fun b => decide (b < W.heap.size)) true t v d ps :=
  WideElems.Trod_stays hl hr hrow h (fun x hx => hb.same (hlt x hx)) (fun x hx => by simpa using hlt x hx)

/-- a call that only reads what there was leaves it as it was -/
theorem calls_of_spec {P : Program} {g : FuncId} {args : List Value} {w : World} {Q : Value → Imm → List Chunk → Prop} (s : Spec P g args (immAll w) [] Q) :
    Calls P g args.toArray w fun e w' => ∃ v I' h, e = .returned v ∧ Q v I' h ∧ Kept w w' := by
  refine (s.2 [] w (sat_all w)).mono ?_
  rintro e w' ⟨v, I', h, rfl, hle, q, hs⟩
  have hsame : ∀ k, k < w.heap.size → w'.heap[k]? = w.heap[k]? := by
    intro k hk
    have h1 : (immAll w) k = some w.heap[k] := by simp [immAll, hk]
    have h2 := hs.imm _ _ (hle _ _ h1)
    have h3 : w.heap[k]? = some w.heap[k] := by simp [hk]
    rw [h3]; exact h2
  refine ⟨v, I', h, rfl, q, hs.os.trans hle.os.symm, hs.out.trans hle.out.symm, ?_, hsame⟩
  rcases Nat.lt_or_ge w'.heap.size w.heap.size with hlt | hge
  · have := hsame w'.heap.size hlt
    rw [Array.getElem?_eq_none (Nat.le_refl _), Array.getElem?_eq_getElem hlt] at this; cases this
  · exact hge
end Go.Sx
