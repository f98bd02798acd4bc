/- A part of an engine of our own (the code is compiled to a smaller language, whose steps are proved right), nothing is claimed here: the closed machine is right: a call -/
import Derived.Test.YtmpmagcepgjcdaaGreatSxEx11
set_option linter.all false
/-! the closed machine is right: a call -/
namespace Go.Sx
theorem HR.empty {β : Bm} : HR β .nil [] := by
  refine ⟨fun L o e => ?_, fun L L' b κ κ' h1 => ?_⟩
  · rw [Tr.get_nil] at e; cases e
  · exact absurd (Tr.get_nil L) h1
theorem spec_closed {P : Program} {tab : XTab} {ext : XExt} (htab : TabOK P tab) (hext : ExtOK P ext) (hm : P.follows .mixedOrders = true) {f g : Nat} {F : XFn} {args : List Value} {v : Value} {T' : Tr Obj} {n' : Nat} {I : Imm}
    (hF : tab.get g = some F) (hlen : (Nat.ble args.length F.ntmps && Nat.ble (F.ntmps + 2) 16384 && cstL args) = true)
    (he : ex tab ext f F.rets (envX 0 args .nil) .nil 0 false [.ir F.ir] = some (v, T', n')) : Spec P g args I [] (fun u J h => J = I ∧ ∃ β, Rn β v u ∧ HR β T' h) := by
  simp only [Bool.and_eq_true] at hlen
  have hr := rec_of (ext := ext) htab hm (ex_sound htab hext hm f)
  have s := hr g F args .nil 0 v T' n' hF (Nat.le_of_ble_eq_true hlen.1.1) (Nat.le_of_ble_eq_true hlen.1.2) he ⟨fun _ => none, fun _ => none⟩ args I [] (cstL_rn hlen.2)
    .empty (fun _ _ => ⟨rfl, rfl⟩)
  exact s.mono fun u I' h' _ ⟨p1, β', p2, p3, p4, p5⟩ => ⟨p1, β', p3, p4⟩
/-- what comes out, without the memory -/
def exV (r : XRes) : Option Value := match r with | some (v, _, _) => some v | none => none
theorem spec_bool {P : Program} {tab : XTab} {ext : XExt} (htab : TabOK P tab) (hext : ExtOK P ext) (hm : P.follows .mixedOrders = true) {f g : Nat} {F : XFn} {args : List Value} {b : Bool} {I : Imm}
    (hF : tab.get g = some F) (hlen : (Nat.ble args.length F.ntmps && Nat.ble (F.ntmps + 2) 16384 && cstL args) = true)
    (he : exV (ex tab ext f F.rets (envX 0 args .nil) .nil 0 false [.ir F.ir]) = some (.bool b)) : Spec P g args I [] (fun u J h => J = I ∧ u = .bool b) := by
  unfold exV at he
  split at he
  · rename_i w T' n' h
    simp only [Option.some.injEq] at he; subst he
    exact (spec_closed htab hext hm hF hlen h).mono fun u J h _ ⟨p1, β, p2, p3⟩ => ⟨p1, by cases p2; rfl⟩
  · cases he
end Go.Sx
