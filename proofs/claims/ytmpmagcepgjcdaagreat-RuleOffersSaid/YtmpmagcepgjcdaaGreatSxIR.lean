/- A part of an engine of our own (the code is compiled to a smaller language, whose steps are proved right), nothing is claimed here: - an operand -/
import Derived.Test.YtmpmagcepgjcdaaGreatSxGood
import Derived.Orders
set_option linter.all false
namespace Go.Sx

/-- an operand -/
inductive Opd where
  | tm (n : Nat)
  | cn (v : Value)
  deriving Inhabited

def Opd.of : Operand → Opd
  | .tmp i => .tm i
  | .const v => .cn v
  | .global g => .cn (.pointer (some ⟨g, 0, none⟩))
  | .func f => .cn (.func (.func f) #[] #[])

/-- how two values are compared: by their type -/
inductive EqK where
  | no | int | bool | str | ptr | slice | map | func | iface
  | agg (n : Nat) (leaf : EqK)        -- so many cells, each compared so
  deriving Inhabited, DecidableEq

inductive SlK where
  | str
  | sl (size : Nat)
  | arr (n size : Nat)
  deriving Inhabited, DecidableEq

inductive CvK where
  | int (k : IntKind)
  | same
  | intStr
  | strBytes (elem : Nat)
  | bytesStr
  deriving Inhabited, DecidableEq

inductive LenK where
  | arr (n : Nat) | str | sl | map
  deriving Inhabited, DecidableEq

inductive IOp where
  | mv (x : Opd)
  | pick (c a b : Opd)
  | newv (elem : Nat) (zero : List Value)
  | box (elem : Nat) (x : Opd)
  | build (zero : List Value) (parts : List (Nat × Nat × Opd))
  | bslice (elem : Nat) (len : Nat) (zero : List Value) (parts : List (Nat × Nat × Opd))
  | load (n : Option Nat) (x : Opd)
  | store (n : Nat) (a x : Opd)
  | nilCheck (x : Opd)
  | bin (op : BinOp) (ek : EqK) (x y : Opd)
  | un (op : UnOp) (x : Opd)
  | conv (k : CvK) (x : Opd)
  | mkFunc (fn : Fn) (first captured : List Opd)
  | mkMap
  | mkSlice (elem size bytes : Nat) (zero : List Value) (l c : Opd)
  | slc (k : SlK) (x : Opd) (lo hi mx : Option Opd)
  | fieldAddr (off : Nat) (x : Opd)
  | field (off : Nat) (n : Option Nat) (x : Opd)
  | idxAddr (size : Nat) (len : Option Nat) (x i : Opd)
  | idx (k : SlK) (n : Option Nat) (x i : Opd)
  | lookup (ek : EqK) (zero : Value) (commaOk : Bool) (x i : Opd)
  | mapUpd (ek : EqK) (m k v : Opd)
  | mapEntry (ek : EqK) (zero : Value) (m k : Opd)
  | entryStore (m s v : Opd)
  | rangeMap (x : Opd)
  | rangeStr (x : Opd)
  | next (x : Opd) (isString : Bool)
  | entry (x : Opd)
  | extract (x : Opd) (i : Nat)
  | mkIface (t : Nat) (x : Opd)
  | call (f : Opd) (args : List Opd)
  | len (k : LenK) (x : Opd)
  | cap (x : Opd)
  | append (elem size bytes : Nat) (zero : List Value) (s x : Opd)
  | appendN (elem size bytes : Nat) (zero : List Value) (s x : Opd)
  | copy (size : Nat) (d s : Opd)
  | max (l : List Opd)
  | min (l : List Opd)
  | delete (ek : EqK) (m k : Opd)
  | clearSl (zero : List Value) (x : Opd)
  | other
  deriving Inhabited

structure In where
  dst : Option Nat
  guard : Option (Nat × Bool)
  op : IOp
  deriving Inhabited

inductive IR where
  | skip
  | ops (l : List In)
  | draw (l : Option (List (Option Bool × In))) (p : List (List Nat × In))     -- l: reads: 'some' (true: it may come behind what writes), what writes: 'none'; p: each behind these
  | seq (a b : IR)
  | cond (c : Opd) (t e : IR)
  | block (id : Nat) (a : IR)
  | loop (a : IR)
  | exit (id : Nat)
  | ret
  | rangeF (f : Opd) (ps : List Nat) (a b : IR)
  | other
  deriving Inhabited

/-! ### the tables -/
def aggOf (P : Program) (t : TypeId) : Option (Option Nat) :=
  match P.underlying t with
  | some (.struct _) | some (.array _ _) => (P.info? t).map fun i => some i.size
  | some _ => some none
  | none => none

def zeroOf (P : Program) (t : TypeId) : Option (List Value) := ((P.info? t).bind (·.zero)).map (·.cells.toList)
def sizeOfT (P : Program) (t : TypeId) : Option Nat := (P.info? t).map (·.size)
def bytesOfT (P : Program) (t : TypeId) : Option Nat := (P.info? t).map (·.bytes)

/-- all parts of one kind -/
def mergeK : List (Nat × EqK) → Option (Nat × EqK)
  | [] => some (0, .int)
  | [x] => some x
  | (n, k) :: r => match mergeK r with
    | some (m, k') => if m = 0 then some (n, k) else if n = 0 then some (m, k') else if k = k' then some (n + m, k) else none
    | none => none

def eqLeaf (P : Program) : Nat → TypeId → Option (Nat × EqK)
  | 0, _ => none
  | d + 1, t => match P.underlying t with
    | some (.int _) => some (1, .int)
    | some .bool => some (1, .bool)
    | some .string => some (1, .str)
    | some (.array n e) => match eqLeaf P d e with
      | some (m, k) => if sizeOfT P e = some m then some (n * m, k) else none
      | none => none
    | _ => none

def eqKOf (P : Program) (t : TypeId) : EqK :=
  match P.underlying t with
  | some (.int _) => .int
  | some .bool => .bool
  | some .string => .str
  | some (.pointer e) => match sizeOfT P e with | some 0 => .no | some _ => .ptr | none => .no
  | some (.slice _) => .slice
  | some (.map _ _) => .map
  | some (.func _ _ _) => .func
  | some (.interface _) => .iface
  | some (.array _ _) => match eqLeaf P 5 t with
    | some (n, k) => if P.eqGuardType P.depth t then .no else if sizeOfT P t = some n then .agg n k else .no
    | none => .no
  | _ => .no

def slKOf (P : Program) (t : TypeId) : Option SlK :=
  match P.underlying t with
  | some .string => some .str
  | some (.slice e) => (sizeOfT P e).map .sl
  | some (.array n e) => (sizeOfT P e).map (.arr n)
  | _ => none

def partsAt (pl : Nat → Option (Nat × Nat)) : List (Nat × Operand) → Option (List (Nat × Nat × Opd))
  | [] => some []
  | p :: r => match pl p.1, partsAt pl r with
    | some q, some l => some ((q.1, q.2, Opd.of p.2) :: l)
    | _, _ => none

def placeOf (P : Program) (t : TypeId) (i : Nat) : Option (Nat × Nat) :=
  match P.underlying t with
  | some (.struct fs) => match fs[i]? with
    | some f => match sizeOfT P f.type with
      | some s => some (f.offset, s)
      | none => none
    | none => none
  | some (.array _ e) => match sizeOfT P e with
    | some s => some (i * s, s)
    | none => none
  | _ => none

/-- do all fields have a size? -/
def fieldsSized (P : Program) (t : TypeId) : Bool :=
  match P.underlying t with
  | some (.struct fs) => fs.toList.all fun f => (sizeOfT P f.type).isSome
  | some (.array _ e) => (sizeOfT P e).isSome
  | _ => false

def repCells (zero : List Value) : Nat → List Value
  | 0 => []
  | n + 1 => zero ++ repCells zero n

def lenK (P : Program) (t : TypeId) : Option LenK :=
  match P.underlying t with
  | some (.array n _) => some (.arr n)
  | some .string => some .str
  | some (.slice _) => some .sl
  | some (.map _ _) => some .map
  | some (.pointer e) => match P.underlying e with
    | some (.array n _) => some (.arr n)
    | _ => none
  | _ => none

def appK (P : Program) (t u : TypeId) : Option (Nat × Nat × Nat × List Value) :=
  match P.underlying t with
  | some (.slice e) => match P.underlying u with
    | some (.slice _) | some .string => match sizeOfT P e, bytesOfT P e, zeroOf P e with
      | some sz, some b, some z => if z.length = sz then some (e, sz, b, z) else none
      | _, _, _ => none
    | _ => none
  | _ => none

/-- a builtin function -/
def iopB (P : Program) (b : Builtin) (args : List Operand) (tys : List TypeId) : IOp :=
  match b with
  | .len => match args, tys with
    | [x], [t] => match lenK P t with | some k => .len k (Opd.of x) | none => .other
    | _, _ => .other
  | .cap => match args, tys with
    | [x], [t] => match P.underlying t with | some (.slice _) => .cap (Opd.of x) | _ => .other
    | _, _ => .other
  | .append => match args, tys with
    | [s, x], [t, u] => match appK P t u with
      | some (e, sz, b, z) => .append e sz b z (Opd.of s) (Opd.of x)
      | none => match appK P t t, P.underlying u with
        | some (e, sz, b, z), some (.int _) => .appendN e sz b z (Opd.of s) (Opd.of x)
        | _, _ => .other
    | _, _ => .other
  | .copy => match args, tys with
    | [d, s], [t, _] => match P.underlying t with
      | some (.slice e) => match sizeOfT P e with | some sz => .copy sz (Opd.of d) (Opd.of s) | none => .other
      | _ => .other
    | _, _ => .other
  | .max => .max (args.map Opd.of)
  | .min => .min (args.map Opd.of)
  | .delete => match args, tys with
    | [m, k], [t, _] => match P.underlying t with
      | some (.map kt _) => .delete (eqKOf P kt) (Opd.of m) (Opd.of k)
      | _ => .other
    | _, _ => .other
  | .clear => match args, tys with
    | [x], [t] => match P.underlying t with
      | some (.slice e) => match zeroOf P e with | some z => .clearSl z (Opd.of x) | none => .other
      | _ => .other
    | _, _ => .other
  | _ => .other

/-- the table's word on an operation -/
def iop (P : Program) (o : Oper) : IOp :=
  let O := Opd.of
  match o.op with
  | .move x | .assign x => .mv (O x)
  | .pick c a b => .pick (O c) (O a) (O b)
  | .alloc e => match zeroOf P e with | some z => .newv e z | none => .other
  | .box e x => .box e (O x)
  | .build t ps => match zeroOf P t, partsAt (placeOf P t) ps.toList, fieldsSized P t with
    | some z, some l, true => .build z l
    | _, _, _ => .other
  | .buildSlice t len ps => match P.underlying t with
    | some (.slice e) => match sizeOfT P e, zeroOf P e with
      | some s, some z => match partsAt (fun i => some (i * s, s)) ps.toList with
        | some l => if len * s ≤ 2 ^ 24 ∧ z.length = s then .bslice e len (repCells z len) l else .other
        | none => .other
      | _, _ => .other
    | _ => .other
  | .load t a => match aggOf P t with | some n => .load n (O a) | none => .other
  | .store t a x => match sizeOfT P t with | some n => .store n (O a) (O x) | none => .other
  | .nilCheck x => .nilCheck (O x)
  | .binOp op t x y _ => .bin op (eqKOf P t) (O x) (O y)
  | .unOp op _ x => .un op (O x)
  | .convert src dst x => match P.underlying src, P.underlying dst with
    | some (.int _), some (.int k) => .conv (.int k) (O x)
    | some .string, some .string => .conv .same (O x)
    | some (.int _), some .string => .conv .intStr (O x)
    | some .string, some (.slice e) => match P.underlying e with
      | some (.int .u8) => .conv (.strBytes e) (O x)
      | _ => .other
    | some (.slice e), some .string => match P.underlying e with
      | some (.int .u8) => .conv .bytesStr (O x)
      | _ => .other
    | _, _ => .other
  | .makeFunc fn a b => .mkFunc fn (a.toList.map O) (b.toList.map O)
  | .makeMap _ none => .mkMap
  | .makeSlice t l c => match P.underlying t with
    | some (.slice e) => match sizeOfT P e, bytesOfT P e, zeroOf P e with
      | some s, some b, some z => if z.length = s then .mkSlice e s b z (O l) (O c) else .other
      | _, _, _ => .other
    | _ => .other
  | .slice t x lo hi mx => match slKOf P t with
    | some k => .slc k (O x) (lo.map O) (hi.map O) (mx.map O)
    | none => .other
  | .fieldAddr s x f => match P.underlying s with
    | some (.struct fs) => match fs[f]? with
      | some fd => match sizeOfT P fd.type with
        | some (_ + 1) => .fieldAddr fd.offset (O x)
        | _ => .other
      | none => .other
    | _ => .other
  | .field t x f => match P.underlying t with
    | some (.struct fs) => match fs[f]? with
      | some fd => match aggOf P fd.type with
        | some n => .field fd.offset n (O x)
        | none => .other
      | none => .other
    | _ => .other
  | .indexAddr t x i => match P.underlying t with
    | some (.array n e) => match sizeOfT P e with | some s => .idxAddr s (some n) (O x) (O i) | none => .other
    | some (.slice e) => match sizeOfT P e with | some s => .idxAddr s none (O x) (O i) | none => .other
    | _ => .other
  | .index t x i => match P.underlying t with
    | some .string => .idx .str none (O x) (O i)
    | some (.array n e) => match sizeOfT P e, aggOf P e with
      | some s, some m => .idx (.arr n s) m (O x) (O i)
      | _, _ => .other
    | _ => .other
  | .lookup t x i ok => match P.underlying t with
    | some (.map k e) => match (P.info? e).bind (·.zero) with
      | some z => .lookup (eqKOf P k) z ok (O x) (O i)
      | none => .other
    | _ => .other
  | .mapUpdate t m k x | .insert t m k x => match P.underlying t with
    | some (.map kt _) => .mapUpd (eqKOf P kt) (O m) (O k) (O x)
    | _ => .other
  | .mapEntry t m k => match P.underlying t with
    | some (.map kt e) => match (P.info? e).bind (·.zero) with
      | some z => .mapEntry (eqKOf P kt) z (O m) (O k)
      | none => .other
    | _ => .other
  | .entryStore _ m s x => .entryStore (O m) (O s) (O x)
  | .range t x => match P.underlying t with
    | some (.map _ _) => .rangeMap (O x)
    | some .string => .rangeStr (O x)
    | _ => .other
  | .next x s => .next (O x) s
  | .entry x => .entry (O x)
  | .extract x i => .extract (O x) i
  | .makeInterface t x => match P.underlying t with
    | some (.interface _) => .other
    | some _ => .mkIface t (O x)
    | none => .other
  | .call { callee := .value f, args, .. } => .call (O f) (args.toList.map O)
  | .call { callee := .builtin b, args, argTypes } => iopB P b args.toList argTypes.toList
  | _ => .other

/-- the guard of an operation: the slot that is asked, and what it must hold -/
def guardOf (ops : Array Oper) (o : Oper) : Option (Option (Nat × Bool)) :=
  match o.guard with
  | none => some none
  | some (j, b) => match ops[j]? with
    | some q => match q.dst with
      | some d => some (some (d, b))
      | none => none
    | none => none

def inOf (P : Program) (n : Nat) (ops : Array Oper) (o : Oper) : Option In :=
  match guardOf ops o, iop P o with
  | some g, op => match o.dst with
    | none => some ⟨none, g, op⟩
    | some d => if d < n then some ⟨some d, g, op⟩ else none
  | none, _ => none

/-! ### regions whose order is open -/
def noSelect (o : Oper) : Bool := match o.op with | .select .. => false | _ => true

/-- may the first come behind the second? -/
def mayPass (ops : Array Oper) (x y : Option Bool × Nat) : Bool :=
  match x.1, ops[x.2]?, ops[y.2]? with
  | some lz, some op, some oq => op.apart ops oq && noSelect op && noSelect oq && (y.1.isSome || lz)
  | _, _, _ => false

/-- the direct forerunners of an operation -/
def preds (ops : Array Oper) (i : Nat) : List Nat :=
  match ops[i]? with
  | some o => o.after.toList.filterMap fun e => if Region.binds .any e then some e.on else none
  | none => []

def isRead : IOp → Bool
  | .newv .. | .box .. | .bslice .. | .store .. | .mkMap | .mkSlice .. | .mapUpd .. | .mapEntry .. | .entryStore .. | .rangeMap .. | .rangeStr .. | .next .. | .call .. | .append .. | .copy .. | .delete .. | .clearSl .. | .other => false
  | .conv (.strBytes _) _ => false
  | _ => true

def ancTab (ops : Array Oper) : Nat → List (List Nat) → List (List Nat)
  | 0, tab => tab
  | n + 1, tab =>
    let ps := preds ops tab.length
    ancTab ops n (tab ++ [(ps ++ ps.flatMap fun j => tab.getD j []).eraseDups])

/-- reads as early as may be -/
def planGo (ops : Array Oper) (rd : List Bool) : Nat → List Nat → List Nat → List Nat
  | 0, _, acc => acc.reverse
  | f + 1, left, acc =>
    let ready := left.filter fun i => (preds ops i).all fun j => acc.contains j
    match (match ready.find? fun i => rd.getD i false with | some i => some i | none => ready.head?) with
    | some i => planGo ops rd f (left.filter fun j => j != i) (i :: acc)
    | none => acc.reverse

def withLz (rd : List Bool) (anc : List (List Nat)) : List Nat → List (Option Bool × Nat)
  | [] => []
  | i :: r => ((if rd.getD i false then some (r.any fun q => !rd.getD q false && !(anc.getD q []).contains i) else none), i) :: withLz rd anc r

def nodupB : List Nat → Bool
  | [] => true
  | a :: r => !r.contains a && nodupB r
def pairB (ops : Array Oper) (anc : List (List Nat)) : List (Option Bool × Nat) → Bool
  | [] => true
  | y :: c => c.all (fun z => !(preds ops y.2).contains z.2 && ((anc.getD z.2 []).contains y.2 || mayPass ops y z)) && pairB ops anc c

def drawOK (ops : Array Oper) (anc : List (List Nat)) (order : List (Option Bool × Nat)) : Bool :=
  (order.length == ops.size) && nodupB (order.map (·.2)) && (List.range ops.size).all (fun i => (order.map (·.2)).contains i) && order.all (fun x => decide (x.2 < ops.size)) &&
  (List.range ops.size).all (fun i => (preds ops i).all fun a => decide (a < i)) &&
  (List.range ops.size).all (fun i => (anc.getD i []).all fun a => (preds ops i).contains a || (preds ops i).any fun j => (anc.getD j []).contains a) &&
  pairB ops anc order

def drawPlan (P : Program) (ops : Array Oper) : Option (List (Option Bool × Nat)) :=
  let rd := ops.toList.map fun o => isRead (iop P o)
  let anc := ancTab ops ops.size []
  let order := withLz rd anc (planGo ops rd ops.size (List.range ops.size) [])
  if drawOK ops anc order then some order else none

def insOf (P : Program) (n : Nat) (ops : Array Oper) : List (Option Bool × Nat) → Option (List (Option Bool × In))
  | [] => some []
  | (k, i) :: r => match ops[i]? with
    | some o => match inOf P n ops o with
      | some x => match insOf P n ops r with
        | some l => some ((k, x) :: l)
        | none => none
      | none => none
    | none => none

/-- may each operation be done as soon as those are done behind which it stands? -/
def parOK (ops : Array Oper) (anc : List (List Nat)) : Bool :=
  (List.range ops.size).all (fun i => (preds ops i).all fun a => decide (a < i)) &&
  (List.range ops.size).all (fun i => (anc.getD i []).all fun a => (preds ops i).contains a || (preds ops i).any fun j => (anc.getD j []).contains a) &&
  ops.toList.all noSelect && nodupB (ops.toList.filterMap (·.dst))

def parOf (P : Program) (n : Nat) (ops : Array Oper) (anc : List (List Nat)) : List Oper → Nat → Option (List (List Nat × In))
  | [], _ => some []
  | o :: os, i => match inOf P n ops o, parOf P n ops anc os (i + 1) with
    | some x, some l => some ((anc.getD i [], x) :: l)
    | _, _ => none

def insN (n : Nat) : List Nat → List Nat
  | [] => [n]
  | m :: l => bif Nat.ble n m then n :: m :: l else m :: insN n l
def sortN : List Nat → List Nat
  | [] => []
  | n :: l => insN n (sortN l)
def parAnc (ops : Array Oper) : List (List Nat) := (ancTab ops ops.size []).map sortN
def parPlan (P : Program) (n : Nat) (ops : Array Oper) : List (List Nat × In) :=
  if parOK ops (parAnc ops) then (parOf P n ops (parAnc ops) ops.toList 0).getD [] else []

def compileRegion (P : Program) (n : Nat) (ops : Array Oper) (d : Bool) : Option IR :=
  match d with
  | false => (ops.toList.mapM (inOf P n ops)).map .ops
  | true => match drawPlan P ops with
    | some order => (insOf P n ops order).map fun l => .draw (some l) (parPlan P n ops)
    | none => some (.draw none (parPlan P n ops))

def compile (P : Program) (n : Nat) : Code → Option IR
  | .skip => some .skip
  | .region _ ops d => compileRegion P n ops d
  | .seq a b => (compile P n a).bind fun x => (compile P n b).map fun y => .seq x y
  | .cond c a b => (compile P n a).bind fun x => (compile P n b).map fun y => .cond (Opd.of c) x y
  | .block id a => (compile P n a).map (.block id)
  | .loop a => (compile P n a).map .loop
  | .exit id => some (.exit id)
  | .ret => some .ret
  | .rangeFunc f ps a b => (compile P n a).bind fun x => (compile P n b).map fun y => .rangeF (Opd.of f) ps.toList x y
  | _ => some .other

end Go.Sx
