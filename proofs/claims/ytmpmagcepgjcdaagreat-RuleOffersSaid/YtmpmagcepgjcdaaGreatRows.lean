/-
  No cell of these rows narrows 'for every input' (looked for: loops, veiled, ifaces, maps, wideKeys, modest, calm, conditions, laid).
  DERIVED. THE GIVEN ROWS OF THIS SEAT. 3 by the template 'for every input the law returns true; each argument reads behind the call as it read before'; 0 by the template 'total and deterministic' (their statements: YtmpmagcepgjcdaaGreatTotals.lean).
  GIVEN WITH THE SEED: the statements are not yours to turn. If you find one false, say at which input.
  Laid BY PROGRAM, IN A SANDBOX (cutbox-rows.mjs): the forced cells as the released guide's own fill.sh prints them over the translation 341618832cbb810e… (all of the seat's roots in one cut). By AI agents, Wed Nov 11 2026. No macro, syntax, notation, axiom, sorry.
-/
import Derived.Test.YtmpmagcepgjcdaaGreatChecked
import GoSem.Claim
import GoSem.ClaimJoined
import GoSem.ClaimMapViews
import Derived.JoinedTies
import Derived.KernelRfl
namespace Go.Proofs.YtmpmagcepgjcdaaGreat
/- THE CELL 'sum', in the pinned program and in every row, IS THE sha256 OF THE DUMP (.gsa) THAT YtmpmagcepgjcdaaGreatProg.lean LOADS. Nothing in Lean hashes anything: it is a label: what it is worth is what the hold of that sum in a sandbox is worth. -/
noncomputable def Tryz.pinned : Pinned := { name := "ytmpmagcepgjcdaagreat", sum := "341618832cbb810e660f117b5c91ee360bde20c71288cbb1740d0f1dd8ee83f1", checked := Tryz.checked }
namespace Rows
def none {H : Type} : Left H := { results := [], args := [] }

/-- 'gabellelaw12.RuleOffers': WHATEVER THE INPUT: true; the input reads as it did. -/
def ruleOffersSpec : ChangeSpec := { name := "ruleOffers", fn := fun _ => fun
  | [d] => { results := [.lit (.bool true)], args := [d] }
  | _ => none }
def ruleOffersRow : OpenClaim := { program := "ytmpmagcepgjcdaagreat", sum := "341618832cbb810e660f117b5c91ee360bde20c71288cbb1740d0f1dd8ee83f1", func := "gabelle/gabellelaw12.RuleOffers", spec := "ruleOffers", unfollowed := true, recurses := true, apart := false }
def RuleOffersSaid : Prop := ruleOffersRow.holds Tryz.pinned (OpenSpec.ofChange ruleOffersSpec)

/-- ITS FALSE NEIGHBOUR: 'it returns false'. Refute it at one input. -/
def ruleOffersWrong : ChangeSpec := { name := "ruleOffers", fn := fun _ => fun
  | [d] => { results := [.lit (.bool false)], args := [d] }
  | _ => none }
def RuleOffersWrongFalsely : Prop := ruleOffersRow.holds Tryz.pinned (OpenSpec.ofChange ruleOffersWrong)

/-- 'gabellelaw12.RuleSizes': WHATEVER THE INPUT: true; the input reads as it did. -/
def ruleSizesSpec : ChangeSpec := { name := "ruleSizes", fn := fun _ => fun
  | [d1, d2] => { results := [.lit (.bool true)], args := [d1, d2] }
  | _ => none }
def ruleSizesRow : OpenClaim := { program := "ytmpmagcepgjcdaagreat", sum := "341618832cbb810e660f117b5c91ee360bde20c71288cbb1740d0f1dd8ee83f1", func := "gabelle/gabellelaw12.RuleSizes", spec := "ruleSizes", unfollowed := true, recurses := true, apart := false }
def RuleSizesSaid : Prop := ruleSizesRow.holds Tryz.pinned (OpenSpec.ofChange ruleSizesSpec)

/-- ITS FALSE NEIGHBOUR: 'it returns false'. Refute it at one input. -/
def ruleSizesWrong : ChangeSpec := { name := "ruleSizes", fn := fun _ => fun
  | [d1, d2] => { results := [.lit (.bool false)], args := [d1, d2] }
  | _ => none }
def RuleSizesWrongFalsely : Prop := ruleSizesRow.holds Tryz.pinned (OpenSpec.ofChange ruleSizesWrong)

/-- 'gabellelaw12.RuleOnly': WHATEVER THE INPUT: true; the input reads as it did. -/
def ruleOnlySpec : ChangeSpec := { name := "ruleOnly", fn := fun _ => fun
  | [d1, d2] => { results := [.lit (.bool true)], args := [d1, d2] }
  | _ => none }
def ruleOnlyRow : OpenClaim := { program := "ytmpmagcepgjcdaagreat", sum := "341618832cbb810e660f117b5c91ee360bde20c71288cbb1740d0f1dd8ee83f1", func := "gabelle/gabellelaw12.RuleOnly", spec := "ruleOnly", unfollowed := true, recurses := true, apart := false }
def RuleOnlySaid : Prop := ruleOnlyRow.holds Tryz.pinned (OpenSpec.ofChange ruleOnlySpec)

/-- ITS FALSE NEIGHBOUR: 'it returns false'. Refute it at one input. -/
def ruleOnlyWrong : ChangeSpec := { name := "ruleOnly", fn := fun _ => fun
  | [d1, d2] => { results := [.lit (.bool false)], args := [d1, d2] }
  | _ => none }
def RuleOnlyWrongFalsely : Prop := ruleOnlyRow.holds Tryz.pinned (OpenSpec.ofChange ruleOnlyWrong)

/- THE SECOND FORM. 'bulk': how many values and letters a reading holds, each counted each time it is reached (what is shared counts as often as it is met; a slice's spare places count too). A statement '..UptoSaid' is the law's where the arguments, and the package variables that the reading takes, are together of bulk at most 1048576: NARROWER than '..Said'. Prove '..Said' where nothing that the law and all that it calls make is longer than what came in: it says more and counts as full. Else prove '..UptoSaid'. A law counts once. -/
mutual
def uptoBulk {H : Type} : DataW H → Nat
  | .lit (.string bytes) => bytes.length + 1
  | .lit _ => 1
  | .nil => 1
  | .ptr d => uptoBulk d + 1
  | .slice elems spare => uptoBulkAll elems + uptoBulkAll spare + 1
  | .agg parts => uptoBulkAll parts + 1
  | .iface _ d => uptoBulk d + 1
  | .map entries => uptoBulkEntries entries + 1
  | .held _ => 1
def uptoBulkAll {H : Type} : List (DataW H) → Nat
  | [] => 0
  | d :: r => uptoBulk d + uptoBulkAll r
def uptoBulkEntries {H : Type} : List (Lit × DataW H) → Nat
  | [] => 0
  | x :: r => uptoBulkEntry x + uptoBulkEntries r
def uptoBulkEntry {H : Type} : Lit × DataW H → Nat
  | (.string bytes, d) => bytes.length + uptoBulk d + 1
  | (_, d) => uptoBulk d + 1
 end
def uptoSmall : (H : Type) → List (DataW H) → Bool := fun _ ds => decide (uptoBulkAll ds ≤ 1048576)
def OpenSpec.upto (s : _root_.Go.ChangeSpec) : _root_.Go.OpenSpec := { _root_.Go.OpenSpec.ofChange s with cond := some uptoSmall }

/-- 'gabellelaw12.RuleOffers', WHERE WHAT IT READS IS OF BULK AT MOST 1048576: true; the input reads as it did. -/
def ruleOffersUptoRow : OpenClaim := { program := "ytmpmagcepgjcdaagreat", sum := "341618832cbb810e660f117b5c91ee360bde20c71288cbb1740d0f1dd8ee83f1", func := "gabelle/gabellelaw12.RuleOffers", spec := "ruleOffers", unfollowed := true, recurses := true, apart := false, narrowed := true }
def RuleOffersUptoSaid : Prop := ruleOffersUptoRow.holds Tryz.pinned (OpenSpec.upto ruleOffersSpec)

/-- 'gabellelaw12.RuleSizes', WHERE WHAT IT READS IS OF BULK AT MOST 1048576: true; the input reads as it did. -/
def ruleSizesUptoRow : OpenClaim := { program := "ytmpmagcepgjcdaagreat", sum := "341618832cbb810e660f117b5c91ee360bde20c71288cbb1740d0f1dd8ee83f1", func := "gabelle/gabellelaw12.RuleSizes", spec := "ruleSizes", unfollowed := true, recurses := true, apart := false, narrowed := true }
def RuleSizesUptoSaid : Prop := ruleSizesUptoRow.holds Tryz.pinned (OpenSpec.upto ruleSizesSpec)

/-- 'gabellelaw12.RuleOnly', WHERE WHAT IT READS IS OF BULK AT MOST 1048576: true; the input reads as it did. -/
def ruleOnlyUptoRow : OpenClaim := { program := "ytmpmagcepgjcdaagreat", sum := "341618832cbb810e660f117b5c91ee360bde20c71288cbb1740d0f1dd8ee83f1", func := "gabelle/gabellelaw12.RuleOnly", spec := "ruleOnly", unfollowed := true, recurses := true, apart := false, narrowed := true }
def RuleOnlyUptoSaid : Prop := ruleOnlyUptoRow.holds Tryz.pinned (OpenSpec.upto ruleOnlySpec)

end Rows
end Go.Proofs.YtmpmagcepgjcdaaGreat
