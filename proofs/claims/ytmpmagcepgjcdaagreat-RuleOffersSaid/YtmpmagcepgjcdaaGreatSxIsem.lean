/- A part of an engine of our own (the code is compiled to a smaller language, whose steps are proved right), nothing is claimed here: - are two values one, compared so? -/
import Derived.Test.YtmpmagcepgjcdaaGreatSxHeap
set_option linter.all false
namespace Go.Sx

def fillP : List Value → List (Nat × Nat × Value) → Option (List Value)
  | cells, [] => some cells
  | cells, (off, size, v) :: rest =>
    if v.cells.size ≠ size || off + v.cells.size > cells.length then none
    else fillP (cells.take off ++ v.cells.toList ++ cells.drop (off + v.cells.size)) rest

/-- are two values one, compared so? -/
def leafEq : EqK → Value → Value → Option Bool
  | .int, .int k a, .int k' b => if k = k' then some (a == b) else none
  | .bool, .bool a, .bool b => some (a == b)
  | .str, .string a, .string b => some (a == b)
  | _, _, _ => none

def cellsEq (k : EqK) : List Value → List Value → Option Bool
  | [], [] => some true
  | x :: xs, y :: ys => match leafEq k x y with
    | some b => match cellsEq k xs ys with
      | some c => some (b && c)
      | none => none
    | none => none
  | _, _ => none

def eqV : EqK → Value → Value → Option Bool
  | .int, .int k a, .int k' b => if k = k' then some (a == b) else none
  | .bool, .bool a, .bool b => some (a == b)
  | .str, .string a, .string b => some (a == b)
  | .ptr, .pointer none, .pointer b => some b.isNone
  | .ptr, .pointer _, .pointer none => some false
  | .slice, .slice none _ _, .slice b _ _ => some b.isNone
  | .slice, .slice _ _ _, .slice none _ _ => some false
  | .map, .map none, .map b => some b.isNone
  | .map, .map _, .map none => some false
  | .func, .nilFunc, .nilFunc => some true
  | .func, .nilFunc, .func _ _ _ => some false
  | .func, .func _ _ _, .nilFunc => some false
  | .agg n k, .agg xs, .agg ys => if xs.size = n ∧ ys.size = n then cellsEq k xs.toList ys.toList else none
  | _, _, _ => none

def intBin (op : BinOp) (k : IntKind) (a b : Int) : Option Value :=
  match op with
  | .add => some (.int k (k.wrap (a + b)))
  | .sub => some (.int k (k.wrap (a - b)))
  | .mul => some (.int k (k.wrap (a * b)))
  | .and => some (.int k (k.wrap (BitVec.ofInt k.bits a &&& BitVec.ofInt k.bits b).toNat))
  | .or => some (.int k (k.wrap (BitVec.ofInt k.bits a ||| BitVec.ofInt k.bits b).toNat))
  | .xor => some (.int k (k.wrap (BitVec.ofInt k.bits a ^^^ BitVec.ofInt k.bits b).toNat))
  | .andNot => some (.int k (k.wrap (BitVec.ofInt k.bits a &&& ~~~ BitVec.ofInt k.bits b).toNat))
  | .eql => some (.bool (a == b))
  | .neq => some (.bool (a != b))
  | .lss => some (.bool (a < b))
  | .leq => some (.bool (a ≤ b))
  | .gtr => some (.bool (a > b))
  | .geq => some (.bool (a ≥ b))
  | _ => none

def strBin (op : BinOp) (x y : ByteArray) : Option Value :=
  match op with
  | .eql => some (.bool (x.toList == y.toList))
  | .neq => some (.bool !(x.toList == y.toList))
  | .lss => some (.bool (Op.bytesLess x.toList y.toList))
  | .leq => some (.bool (Op.bytesLess x.toList y.toList || x.toList == y.toList))
  | .gtr => some (.bool !(Op.bytesLess x.toList y.toList || x.toList == y.toList))
  | .geq => some (.bool !(Op.bytesLess x.toList y.toList))
  | _ => none

/-- operations that only compute; what they need beyond their operands' shape is in `pureCond` -/
def binV (op : BinOp) (ek : EqK) (x y : Value) : Option Value :=
  match x, y with
  | .int k a, .int k' b => match op with
    | .shl | .shr | .quo | .rem => none
    | _ => if k = k' then intBin op k a b else none
  | .string a, .string b => strBin op a b
  | x, y => match op with
    | .eql => (eqV ek x y).map .bool
    | .neq => (eqV ek x y).map fun b => .bool !b
    | _ => none

/-- a value cut out of cells -/
def partV (cs : List Value) (off : Nat) : Option Nat → Option Value
  | none => cs[off]?
  | some n => some (.agg ((cs.drop off).take n).toArray)

def maxV : Value → Value → Option Value
  | .int k x, .int _ y => some (.int k (if y > x then y else x))
  | _, _ => none
def minV : Value → Value → Option Value
  | .int k x, .int _ y => some (.int k (if y < x then y else x))
  | _, _ => none
def foldV (f : Value → Value → Option Value) : Value → List Value → Option Value
  | a, [] => some a
  | a, b :: l => match f a b with | some c => foldV f c l | none => none

def evParts (ρ : Opd → Option Value) : List (Nat × Nat × Opd) → Option (List (Nat × Nat × Value))
  | [] => some []
  | p :: r => match ρ p.2.2 with
    | some v => match evParts ρ r with
      | some l => some ((p.1, p.2.1, v) :: l)
      | none => none
    | none => none

def evList (ρ : Opd → Option Value) : List Opd → Option (List Value)
  | [] => some []
  | x :: r => match ρ x with
    | some v => match evList ρ r with
      | some l => some (v :: l)
      | none => none
    | none => none

def pureV (ρ : Opd → Option Value) : IOp → Option Value
  | .mv x => ρ x
  | .pick c a b => match ρ c with
    | some (.bool t) => match ρ a, ρ b with
      | some u, some v => match t with | true => some u | false => some v
      | _, _ => none
    | _ => none
  | .build z ps => match evParts ρ ps with
    | some l => (fillP z l).map fun cs => .agg cs.toArray
    | none => none
  | .nilCheck x => match ρ x with
    | some (.pointer (some a)) => some (.pointer (some a))
    | some (.func (.func f) a b) => some (.func (.func f) a b)
    | _ => none
  | .bin op ek x y => match ρ x, ρ y with
    | some a, some b => binV op ek a b
    | _, _ => none
  | .un .not x => match ρ x with
    | some (.bool b) => some (.bool !b)
    | _ => none
  | .un .neg x => match ρ x with
    | some (.int k n) => some (.int k (k.wrap (0 - n)))
    | _ => none
  | .un .xor x => match ρ x with
    | some (.int k n) => some (.int k (k.wrap (BitVec.ofInt k.bits (if k.signed then -1 else k.max) ^^^ BitVec.ofInt k.bits n).toNat))
    | _ => none
  | .conv (.int k) x => match ρ x with
    | some (.int _ n) => some (.int k (k.wrap n))
    | _ => none
  | .conv .same x => match ρ x with
    | some (.string s) => some (.string s)
    | _ => none
  | .conv .intStr x => match ρ x with
    | some (.int _ n) => some (.string (Utf8.encode n))
    | _ => none
  | .conv .bytesStr x => match ρ x with
    | some (.slice none _ _) => some (.string .empty)
    | _ => none
  | .mkFunc fn a b => match evList ρ a, evList ρ b with
    | some u, some v => some (.func fn u.toArray v.toArray)
    | _, _ => none
  | .fieldAddr off x => match ρ x with
    | some (.pointer (some ⟨b, o, none⟩)) => some (.pointer (some ⟨b, o + off, none⟩))
    | _ => none
  | .field off n x => match ρ x with
    | some (.agg cs) => partV cs.toList off n
    | _ => none
  | .extract x i => match ρ x with
    | some (.tuple vs) => vs.toList[i]?
    | _ => none
  | .mkIface t x => (ρ x).map (.iface t)
  | .len .str x => match ρ x with
    | some (.string s) => some (.int .i64 s.size)
    | _ => none
  | .len .sl x => match ρ x with
    | some (.slice _ n _) => some (.int .i64 n)
    | _ => none
  | .len .map x => match ρ x with
    | some (.map none) => some (.int .i64 0)
    | _ => none
  | .len (.arr n) _ => some (.int .i64 n)
  | .cap x => match ρ x with
    | some (.slice _ _ n) => some (.int .i64 n)
    | _ => none
  | .max l => match evList ρ l with
    | some (a :: r) => foldV maxV a r
    | _ => none
  | .min l => match evList ρ l with
    | some (a :: r) => foldV minV a r
    | _ => none
  | _ => none
end Go.Sx
