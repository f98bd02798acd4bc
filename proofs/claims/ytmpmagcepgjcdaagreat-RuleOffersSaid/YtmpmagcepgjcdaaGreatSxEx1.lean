/- A part of an engine of our own (the code is compiled to a smaller language, whose steps are proved right), nothing is claimed here: a machine that runs closed code, and what its values stand for -/
import Derived.Test.YtmpmagcepgjcdaaGreatSxSteps8
import Derived.Test.YtmpmagcepgjcdaaGreatSxNorm
set_option linter.all false
/-! a machine that runs closed code, and what its values stand for -/
namespace Go.Sx

/-! ### trees of numbered things -/
inductive Tr (α : Type) where
  | nil
  | node (v : Option α) (l r : Tr α)

def Tr.get {α : Type} : Tr α → Nat → Option α
  | .nil, _ => none
  | .node v l r, k => bif Nat.beq k 0 then v else bif Nat.beq (k % 2) 1 then l.get (k / 2) else r.get (k / 2 - 1)

def Tr.set {α : Type} : Nat → Tr α → Nat → Option α → Tr α
  | 0, t, _, _ => t
  | d + 1, .nil, k, x => bif Nat.beq k 0 then .node x .nil .nil else bif Nat.beq (k % 2) 1 then .node none (Tr.set d .nil (k / 2) x) .nil else .node none .nil (Tr.set d .nil (k / 2 - 1) x)
  | d + 1, .node v l r, k, x => bif Nat.beq k 0 then .node x l r else bif Nat.beq (k % 2) 1 then .node v (Tr.set d l (k / 2) x) r else .node v l (Tr.set d r (k / 2 - 1) x)

theorem beq_t {a b : Nat} (h : a = b) : Nat.beq a b = true := by subst h; exact Nat.beq_refl a
theorem beq_f {a b : Nat} (h : a ≠ b) : Nat.beq a b = false := by
  cases e : Nat.beq a b with
  | false => rfl
  | true => exact absurd (Nat.eq_of_beq_eq_true e) h

theorem Tr.get_nil {α : Type} (k : Nat) : (Tr.nil : Tr α).get k = none := by unfold Tr.get; rfl

theorem Tr.get_set {α : Type} : ∀ (d : Nat) (t : Tr α) (k k' : Nat) (x : Option α), k + 2 ≤ 2 ^ d → (Tr.set d t k x).get k' = if k = k' then x else t.get k'
  | 0, _, k, _, _, h => by simp at h
  | d + 1, .nil, k, k', x, h => by
    have ih1 := Tr.get_set d (.nil : Tr α) (k / 2) (k' / 2) x
    have ih2 := Tr.get_set d (.nil : Tr α) (k / 2 - 1) (k' / 2 - 1) x
    simp only [Tr.get_nil] at ih1 ih2 ⊢
    rw [Nat.pow_succ] at h
    unfold Tr.set
    by_cases h0 : k = 0
    · subst h0
      simp only [Nat.beq_refl, cond_true, Tr.get]
      by_cases h1 : k' = 0
      · subst h1; simp
      · rw [beq_f h1, if_neg (fun e => h1 e.symm)]; simp
    · rw [beq_f h0]
      by_cases h2 : k % 2 = 1
      · rw [beq_t h2]
        simp only [cond_false, cond_true, Tr.get]
        by_cases h1 : k' = 0
        · subst h1; simp [h0]
        · rw [beq_f h1]
          by_cases h3 : k' % 2 = 1
          · rw [beq_t h3]
            simp only [cond_true, cond_false]
            rw [ih1 (by omega)]
            by_cases h4 : k = k'
            · subst h4; simp
            · rw [if_neg h4, if_neg (by omega)]
          · rw [beq_f h3, if_neg (by omega)]; simp
      · rw [beq_f h2]
        simp only [cond_false, Tr.get]
        by_cases h1 : k' = 0
        · subst h1; simp [h0]
        · rw [beq_f h1]
          by_cases h3 : k' % 2 = 1
          · rw [beq_t h3, if_neg (by omega)]; simp
          · rw [beq_f h3]
            simp only [cond_false]
            rw [ih2 (by omega)]
            by_cases h4 : k = k'
            · subst h4; simp
            · rw [if_neg h4, if_neg (by omega)]
  | d + 1, .node v l r, k, k', x, h => by
    have ih1 := Tr.get_set d l (k / 2) (k' / 2) x
    have ih2 := Tr.get_set d r (k / 2 - 1) (k' / 2 - 1) x
    rw [Nat.pow_succ] at h
    unfold Tr.set
    by_cases h0 : k = 0
    · subst h0
      simp only [Nat.beq_refl, cond_true]
      by_cases h1 : k' = 0
      · subst h1; simp [Tr.get]
      · rw [if_neg (fun e => h1 e.symm)]
        simp only [Tr.get, beq_f h1, cond_false]
    · rw [beq_f h0]
      by_cases h2 : k % 2 = 1
      · rw [beq_t h2]
        simp only [cond_false, cond_true]
        by_cases h1 : k' = 0
        · subst h1; simp [h0, Tr.get]
        · simp only [Tr.get, beq_f h1, cond_false]
          by_cases h3 : k' % 2 = 1
          · simp only [beq_t h3, cond_true]
            rw [ih1 (by omega)]
            by_cases h4 : k = k'
            · subst h4; simp
            · rw [if_neg h4, if_neg (by omega)]
          · simp only [beq_f h3, cond_false]; rw [if_neg (by omega)]
      · rw [beq_f h2]
        simp only [cond_false]
        by_cases h1 : k' = 0
        · subst h1; simp [h0, Tr.get]
        · simp only [Tr.get, beq_f h1, cond_false]
          by_cases h3 : k' % 2 = 1
          · simp only [beq_t h3, cond_true]; rw [if_neg (by omega)]
          · simp only [beq_f h3, cond_false]
            rw [ih2 (by omega)]
            by_cases h4 : k = k'
            · subst h4; simp
            · rw [if_neg h4, if_neg (by omega)]

/-- a store whose tree is laid at once -/
def Tr.setC {α β : Type} : Nat → Tr α → Nat → Option α → (Tr α → β) → β
  | 0, t, _, _, c => c t
  | d + 1, .nil, k, x, c => bif Nat.beq k 0 then c (.node x .nil .nil) else bif Nat.beq (k % 2) 1 then Tr.setC d .nil (k / 2) x (fun t => c (.node none t .nil)) else Tr.setC d .nil (k / 2 - 1) x (fun t => c (.node none .nil t))
  | d + 1, .node v l r, k, x, c => bif Nat.beq k 0 then c (.node x l r) else bif Nat.beq (k % 2) 1 then Tr.setC d l (k / 2) x (fun t => c (.node v t r)) else Tr.setC d r (k / 2 - 1) x (fun t => c (.node v l t))
theorem Tr.setC_eq {α β : Type} : ∀ (d : Nat) (t : Tr α) (k : Nat) (x : Option α) (c : Tr α → β), Tr.setC d t k x c = c (Tr.set d t k x)
  | 0, _, _, _, _ => rfl
  | d + 1, .nil, k, x, c => by
    unfold Tr.setC Tr.set
    cases Nat.beq k 0 <;> cases Nat.beq (k % 2) 1 <;> simp [Tr.setC_eq d]
  | d + 1, .node v l r, k, x, c => by
    unfold Tr.setC Tr.set
    cases Nat.beq k 0 <;> cases Nat.beq (k % 2) 1 <;> simp [Tr.setC_eq d]

/-! ### values laid at once -/
def fNat {β : Type} (n : Nat) (c : Nat → β) : β := match n with | 0 => c 0 | .succ m => c (.succ m)
theorem fNat_eq {β : Type} (n : Nat) (c : Nat → β) : fNat n c = c n := by cases n <;> rfl
def fInt {β : Type} (i : Int) (c : Int → β) : β := match i with | .ofNat n => fNat n fun n => c (.ofNat n) | .negSucc n => fNat n fun n => c (.negSucc n)
theorem fInt_eq {β : Type} (i : Int) (c : Int → β) : fInt i c = c i := by cases i <;> simp [fInt, fNat_eq]
def fOAddr {β : Type} (a : Option Addr) (c : Option Addr → β) : β := match a with
  | none => c none
  | some ⟨b, o, s⟩ => fNat b fun b => fNat o fun o => match s with | none => c (some ⟨b, o, none⟩) | some s => c (some ⟨b, o, some s⟩)
theorem fOAddr_eq {β : Type} (a : Option Addr) (c : Option Addr → β) : fOAddr a c = c a := by
  cases a with
  | none => rfl
  | some a => obtain ⟨b, o, s⟩ := a; cases s <;> simp [fOAddr, fNat_eq]
def fBool {β : Type} (b : Bool) (c : Bool → β) : β := match b with | true => c true | false => c false
theorem fBool_eq {β : Type} (b : Bool) (c : Bool → β) : fBool b c = c b := by cases b <;> rfl
def fBytes {β : Type} : List UInt8 → (List UInt8 → β) → β
  | [], c => c []
  | b :: l, c => fBytes l fun l => c (b :: l)
theorem fBytes_eq {β : Type} : ∀ (l : List UInt8) (c : List UInt8 → β), fBytes l c = c l
  | [], _ => rfl
  | b :: l, c => by simp [fBytes, fBytes_eq l]

mutual
def fVal {β : Type} : Value → (Value → β) → β
  | .bool b, c => fBool b fun b => c (.bool b)
  | .int k n, c => fInt n fun n => c (.int k n)
  | .string ⟨⟨l⟩⟩, c => fBytes l fun l => c (.string ⟨⟨l⟩⟩)
  | .pointer a, c => fOAddr a fun a => c (.pointer a)
  | .slice a n m, c => fOAddr a fun a => fNat n fun n => fNat m fun m => c (.slice a n m)
  | .agg ⟨l⟩, c => fVals l fun l => c (.agg ⟨l⟩)
  | .tuple ⟨l⟩, c => fVals l fun l => c (.tuple ⟨l⟩)
  | .func f ⟨l⟩ ⟨m⟩, c => fVals l fun l => fVals m fun m => c (.func f ⟨l⟩ ⟨m⟩)
  | .iface t v, c => fVal v fun v => c (.iface t v)
  | v, c => c v
def fVals {β : Type} : List Value → (List Value → β) → β
  | [], c => c []
  | v :: l, c => fVal v fun v => fVals l fun l => c (v :: l)
end
mutual
theorem fVal_eq {β : Type} : ∀ (v : Value) (c : Value → β), fVal v c = c v
  | .bool b, c => by simp [fVal, fBool_eq]
  | .int k n, c => by simp [fVal, fInt_eq]
  | .string ⟨⟨l⟩⟩, c => by simp [fVal, fBytes_eq]
  | .pointer a, c => by simp [fVal, fOAddr_eq]
  | .slice a n m, c => by simp [fVal, fOAddr_eq, fNat_eq]
  | .agg ⟨l⟩, c => by simp [fVal, fVals_eq l]
  | .tuple ⟨l⟩, c => by simp [fVal, fVals_eq l]
  | .func f ⟨l⟩ ⟨m⟩, c => by simp [fVal, fVals_eq l, fVals_eq m]
  | .iface t v, c => by simp [fVal, fVal_eq v]
  | .float _ _, c => by simp [fVal]
  | .complex _ _ _, c => by simp [fVal]
  | .map _, c => by simp [fVal]
  | .chan _, c => by simp [fVal]
  | .nilFunc, c => by simp [fVal]
  | .nilIface, c => by simp [fVal]
theorem fVals_eq {β : Type} : ∀ (l : List Value) (c : List Value → β), fVals l c = c l
  | [], _ => by simp [fVals]
  | v :: l, c => by simp [fVals, fVal_eq v, fVals_eq l]
end

/-! ### what a value stands for -/
def BIG : Nat := 2 ^ 56

/-- a: values that are handed on, not looked into; b: the blocks, and how many cells they have -/
structure Bm where
  a : Nat → Option Value
  b : Nat → Option (Nat × Nat)
def Bm.le (β γ : Bm) : Prop := (∀ i x, β.a i = some x → γ.a i = some x) ∧ ∀ L x, β.b L = some x → γ.b L = some x
instance : LE Bm := ⟨Bm.le⟩
theorem Bm.le_refl (β : Bm) : β ≤ β := ⟨fun _ _ h => h, fun _ _ h => h⟩
theorem Bm.le_trans {α β γ : Bm} (h : α ≤ β) (h' : β ≤ γ) : α ≤ γ := ⟨fun i x e => h'.1 i x (h.1 i x e), fun L x e => h'.2 L x (h.2 L x e)⟩
def Bm.put (β : Bm) (L b κ : Nat) : Bm := ⟨β.a, fun K => if K = L then some (b, κ) else β.b K⟩
theorem Bm.le_put {β : Bm} {L b κ : Nat} (h : β.b L = none) : β ≤ β.put L b κ := ⟨fun _ _ h => h, fun K x e => by
  unfold Bm.put
  show (if K = L then some (b, κ) else β.b K) = some x
  rw [if_neg]
  · exact e
  · rintro rfl; rw [h] at e; cases e⟩
/-- from n on nothing is laid -/
def Bm.fresh (β : Bm) (n : Nat) : Prop := ∀ L, n ≤ L → β.b L = none ∧ β.a L = none
/-- more is laid, but nothing below n -/
def Bm.ext (n : Nat) (β γ : Bm) : Prop := β ≤ γ ∧ ∀ L, L < n → γ.b L = β.b L ∧ γ.a L = β.a L
theorem Bm.ext_refl (n : Nat) (β : Bm) : Bm.ext n β β := ⟨Bm.le_refl β, fun _ _ => ⟨rfl, rfl⟩⟩
theorem Bm.ext_trans {n m : Nat} {α β γ : Bm} (h : Bm.ext n α β) (h' : Bm.ext m β γ) (hnm : n ≤ m) : Bm.ext n α γ :=
  ⟨Bm.le_trans h.1 h'.1, fun L hL => ⟨(h'.2 L (by omega)).1.trans (h.2 L hL).1, (h'.2 L (by omega)).2.trans (h.2 L hL).2⟩⟩
theorem Bm.put_self (β : Bm) (L b κ : Nat) : (β.put L b κ).b L = some (b, κ) := by simp [Bm.put]
theorem Bm.put_ext {β : Bm} {n b κ : Nat} (h : β.fresh n) : Bm.ext n β (β.put n b κ) := ⟨Bm.le_put (h n (Nat.le_refl _)).1, fun L hL => by
  unfold Bm.put
  exact ⟨by show (if L = n then some (b, κ) else β.b L) = β.b L; rw [if_neg (by omega)], rfl⟩⟩
theorem Bm.put_fresh {β : Bm} {n b κ : Nat} (h : β.fresh n) : (β.put n b κ).fresh (n + 1) := fun L hL => by
  unfold Bm.put
  exact ⟨by show (if L = n then some (b, κ) else β.b L) = none; rw [if_neg (by omega)]; exact (h L (by omega)).1, (h L (by omega)).2⟩
theorem Bm.put_ne {β : Bm} {L K b κ : Nat} (h : K ≠ L) : (β.put L b κ).b K = β.b K := by simp [Bm.put, h]

mutual
inductive Rn (β : Bm) : Value → Value → Prop where
  | bool {b} : Rn β (.bool b) (.bool b)
  | int {k n} : Rn β (.int k n) (.int k n)
  | str {s} : Rn β (.string s) (.string s)
  | ptr0 : Rn β (.pointer none) (.pointer none)
  | ptr {L b κ o} : β.b L = some (b, κ) → Rn β (.pointer (some ⟨L, o, none⟩)) (.pointer (some ⟨b, o, none⟩))
  | sl0 {n c} : Rn β (.slice none n c) (.slice none n c)
  | sl {L b κ o n c} : β.b L = some (b, κ) → c < BIG → Rn β (.slice (some ⟨L, o, none⟩) n c) (.slice (some ⟨b, o, none⟩) n c)
  | slo {L b κ n c sz} : β.b L = some (b, κ) → n ≤ c → c * sz = κ → Rn β (.slice (some ⟨L, 0, none⟩) n (BIG + 1 + sz)) (.slice (some ⟨b, 0, none⟩) n c)
  | slr {L b κ o n c} : β.b L = some (b, κ) → n ≤ c → 0 < n → Rn β (.slice (some ⟨L, o, none⟩) n BIG) (.slice (some ⟨b, o, none⟩) n c)
  | sle {a c} : Rn β (.slice (some ⟨0, 0, some 0⟩) 0 BIG) (.slice (some a) 0 c)
  | map0 : Rn β (.map none) (.map none)
  | map {L b κ} : β.b L = some (b, κ) → Rn β (.map (some L)) (.map (some b))
  | nilFunc : Rn β .nilFunc .nilFunc
  | func {f l l' m m'} : RnL β l l' → RnL β m m' → Rn β (.func f ⟨l⟩ ⟨m⟩) (.func f ⟨l'⟩ ⟨m'⟩)
  | iface {t v v'} : Rn β v v' → Rn β (.iface t v) (.iface t v')
  | nilIface : Rn β .nilIface .nilIface
  | agg {l l'} : RnL β l l' → Rn β (.agg ⟨l⟩) (.agg ⟨l'⟩)
  | tuple {l l'} : RnL β l l' → Rn β (.tuple ⟨l⟩) (.tuple ⟨l'⟩)
  | atom {i u} : β.a i = some u → u.oneCell' = true → Rn β (.chan (some i)) u
inductive RnL (β : Bm) : List Value → List Value → Prop where
  | nil : RnL β [] []
  | cons {v v' l l'} : Rn β v v' → RnL β l l' → RnL β (v :: l) (v' :: l')
end

mutual
theorem Rn.mono {β γ : Bm} (hle : β ≤ γ) : ∀ {v u}, Rn β v u → Rn γ v u
  | _, _, .bool => .bool
  | _, _, .int => .int
  | _, _, .str => .str
  | _, _, .ptr0 => .ptr0
  | _, _, .ptr h => .ptr (hle.2 _ _ h)
  | _, _, .sl0 => .sl0
  | _, _, .sl h h' => .sl (hle.2 _ _ h) h'
  | _, _, .slo h h' h'' => .slo (hle.2 _ _ h) h' h''
  | _, _, .slr h h' h'' => .slr (hle.2 _ _ h) h' h''
  | _, _, .sle => .sle
  | _, _, .map0 => .map0
  | _, _, .map h => .map (hle.2 _ _ h)
  | _, _, .nilFunc => .nilFunc
  | _, _, .func h h' => .func (RnL.mono hle h) (RnL.mono hle h')
  | _, _, .iface h => .iface (Rn.mono hle h)
  | _, _, .nilIface => .nilIface
  | _, _, .agg h => .agg (RnL.mono hle h)
  | _, _, .tuple h => .tuple (RnL.mono hle h)
  | _, _, .atom h h' => .atom (hle.1 _ _ h) h'
theorem RnL.mono {β γ : Bm} (hle : β ≤ γ) : ∀ {v u}, RnL β v u → RnL γ v u
  | _, _, .nil => .nil
  | _, _, .cons h h' => .cons (Rn.mono hle h) (RnL.mono hle h')
end

section
variable {β : Bm}
theorem RnL.length : ∀ {l l' : List Value}, RnL β l l' → l.length = l'.length
  | _, _, .nil => rfl
  | _, _, .cons _ h => by simp [RnL.length h]
theorem RnL.append : ∀ {l l' m m' : List Value}, RnL β l l' → RnL β m m' → RnL β (l ++ m) (l' ++ m')
  | _, _, _, _, .nil, h => h
  | _, _, _, _, .cons a h, h' => .cons a (RnL.append h h')
theorem RnL.take : ∀ {l l' : List Value} (n : Nat), RnL β l l' → RnL β (l.take n) (l'.take n)
  | _, _, 0, _ => by simpa using RnL.nil
  | _, _, _ + 1, .nil => by simpa using RnL.nil
  | _, _, n + 1, .cons a h => by simpa using RnL.cons a (RnL.take n h)
theorem RnL.drop : ∀ {l l' : List Value} (n : Nat), RnL β l l' → RnL β (l.drop n) (l'.drop n)
  | _, _, 0, h => by simpa using h
  | _, _, _ + 1, .nil => by simpa using RnL.nil
  | _, _, n + 1, .cons a h => by simpa using RnL.drop n h
theorem RnL.get : ∀ {l l' : List Value} {i : Nat} {v : Value}, RnL β l l' → l[i]? = some v → ∃ u, l'[i]? = some u ∧ Rn β v u
  | _, _, 0, _, .cons a _, e => by simp at e; subst e; exact ⟨_, rfl, a⟩
  | _, _, i + 1, _, .cons _ h, e => by simpa using RnL.get (i := i) h (by simpa using e)

theorem Rn.oneCell {v u : Value} (h : Rn β v u) : v.oneCell' = u.oneCell' := by
  cases h <;> try rfl
  rename_i h1 h2; rw [h2]; rfl
theorem Value.cells_one {u : Value} (h : u.oneCell' = true) : u.cells = #[u] := by cases u <;> first | rfl | simp [Value.oneCell'] at h
theorem Rn.cells {v u : Value} (h : Rn β v u) : RnL β v.cells.toList u.cells.toList := by
  cases h with
  | agg h => exact h
  | tuple h => exact .cons (.tuple h) .nil
  | atom h1 h2 => rw [Value.cells_one h2]; exact .cons (.atom h1 h2) .nil
  | bool => exact .cons .bool .nil
  | int => exact .cons .int .nil
  | str => exact .cons .str .nil
  | ptr0 => exact .cons .ptr0 .nil
  | ptr h => exact .cons (.ptr h) .nil
  | sl0 => exact .cons .sl0 .nil
  | sl h h' => exact .cons (.sl h h') .nil
  | slo h h' h'' => exact .cons (.slo h h' h'') .nil
  | slr h h' h'' => exact .cons (.slr h h' h'') .nil
  | sle => exact .cons .sle .nil
  | map0 => exact .cons .map0 .nil
  | map h => exact .cons (.map h) .nil
  | nilFunc => exact .cons .nilFunc .nil
  | func h h' => exact .cons (.func h h') .nil
  | iface h => exact .cons (.iface h) .nil
  | nilIface => exact .cons .nilIface .nil
theorem RnL.oneCells : ∀ {l l' : List Value}, RnL β l l' → (l.all (·.oneCell')) = (l'.all (·.oneCell'))
  | _, _, .nil => rfl
  | _, _, .cons a h => by simp [a.oneCell, RnL.oneCells h]

/-! ### constants -/
mutual
def cst : Value → Bool
  | .bool _ => true
  | .int _ _ => true
  | .string _ => true
  | .pointer a => a.isNone
  | .slice a _ _ => a.isNone
  | .map m => m.isNone
  | .nilFunc => true
  | .func _ ⟨l⟩ ⟨m⟩ => cstL l && cstL m
  | .iface _ v => cst v
  | .nilIface => true
  | .agg ⟨l⟩ => cstL l
  | .tuple ⟨l⟩ => cstL l
  | _ => false
def cstL : List Value → Bool
  | [] => true
  | v :: l => cst v && cstL l
end
mutual
theorem cst_rn : ∀ {v : Value}, cst v = true → Rn β v v
  | .bool _, _ => .bool
  | .int _ _, _ => .int
  | .string _, _ => .str
  | .pointer none, _ => .ptr0
  | .pointer (some _), h => by simp [cst] at h
  | .slice none _ _, _ => .sl0
  | .slice (some _) _ _, h => by simp [cst] at h
  | .map none, _ => .map0
  | .map (some _), h => by simp [cst] at h
  | .nilFunc, _ => .nilFunc
  | .func _ ⟨l⟩ ⟨m⟩, h => by simp only [cst, Bool.and_eq_true] at h; exact .func (cstL_rn h.1) (cstL_rn h.2)
  | .iface _ v, h => by simp only [cst] at h; exact .iface (cst_rn h)
  | .nilIface, _ => .nilIface
  | .agg ⟨l⟩, h => by simp only [cst] at h; exact .agg (cstL_rn h)
  | .tuple ⟨l⟩, h => by simp only [cst] at h; exact .tuple (cstL_rn h)
  | .chan _, h => by simp [cst] at h
  | .float _ _, h => by simp [cst] at h
  | .complex _ _ _, h => by simp [cst] at h
theorem cstL_rn : ∀ {l : List Value}, cstL l = true → RnL β l l
  | [], _ => .nil
  | v :: l, h => by simp only [cstL, Bool.and_eq_true] at h; exact .cons (cst_rn h.1) (cstL_rn h.2)
end

/-! ### what only computes -/
def EvR (β : Bm) (ρ ρ' : Opd → Option Value) : Prop := ∀ x v, ρ x = some v → ∃ u, ρ' x = some u ∧ Rn β v u

variable {ρ ρ' : Opd → Option Value}

theorem evParts_rel (h : EvR β ρ ρ') : ∀ (ps : List (Nat × Nat × Opd)) (l : List (Nat × Nat × Value)), evParts ρ ps = some l →
    ∃ l', evParts ρ' ps = some l' ∧ ∀ z z' cs, RnL β z z' → fillP z l = some cs → ∃ cs', fillP z' l' = some cs' ∧ RnL β cs cs'
  | [], l, e => by
    simp only [evParts, Option.some.injEq] at e; subst e
    exact ⟨[], rfl, fun z z' cs hz hc => by simp only [fillP, Option.some.injEq] at hc; subst hc; exact ⟨z', rfl, hz⟩⟩
  | p :: ps, l, e => by
    simp only [evParts] at e
    cases hv : ρ p.2.2 with
    | none => simp [hv] at e
    | some v =>
      cases hl : evParts ρ ps with
      | none => simp [hv, hl] at e
      | some l0 =>
        simp only [hv, hl, Option.some.injEq] at e; subst e
        obtain ⟨u, hu, hr⟩ := h _ _ hv
        obtain ⟨l', hl', H⟩ := evParts_rel h ps l0 hl
        refine ⟨(p.1, p.2.1, u) :: l', by simp [evParts, hu, hl'], fun z z' cs hz hc => ?_⟩
        have hcl := hr.cells
        have hlen := hcl.length
        have hzl := hz.length
        simp only [Array.length_toList] at hlen
        simp only [fillP] at hc ⊢
        split at hc
        · cases hc
        · rename_i hn
          rw [← hlen, ← hzl, if_neg hn]
          exact H _ _ _ (((hz.take _).append hcl).append (hz.drop _)) hc

theorem evList_rel (h : EvR β ρ ρ') : ∀ (xs : List Opd) (l : List Value), evList ρ xs = some l → ∃ l', evList ρ' xs = some l' ∧ RnL β l l'
  | [], l, e => by simp only [evList, Option.some.injEq] at e; subst e; exact ⟨[], rfl, .nil⟩
  | x :: xs, l, e => by
    simp only [evList] at e
    cases hv : ρ x with
    | none => simp [hv] at e
    | some v =>
      cases hl : evList ρ xs with
      | none => simp [hv, hl] at e
      | some l0 =>
        simp only [hv, hl, Option.some.injEq] at e; subst e
        obtain ⟨u, hu, hr⟩ := h _ _ hv
        obtain ⟨l', hl', H⟩ := evList_rel h xs l0 hl
        exact ⟨u :: l', by simp [evList, hu, hl'], .cons hr H⟩

theorem leafEq_rel {k : EqK} {a b a' b' : Value} {r : Bool} (ha : Rn β a a') (hb : Rn β b b') (h : leafEq k a b = some r) : leafEq k a' b' = some r := by
  unfold leafEq at h
  split at h
  · cases ha; cases hb; exact h
  · cases ha; cases hb; exact h
  · cases ha; cases hb; exact h
  · cases h
theorem cellsEq_rel {k : EqK} : ∀ {xs ys xs' ys' : List Value} {r : Bool}, RnL β xs xs' → RnL β ys ys' → cellsEq k xs ys = some r → cellsEq k xs' ys' = some r
  | _, _, _, _, _, .nil, .nil, h => h
  | _, _, _, _, _, .nil, .cons _ _, h => by simp [cellsEq] at h
  | _, _, _, _, _, .cons _ _, .nil, h => by simp [cellsEq] at h
  | _, _, _, _, _, .cons a h1, .cons b h2, h => by
    simp only [cellsEq] at h ⊢
    split at h
    · rename_i e1
      rw [leafEq_rel a b e1]
      split at h
      · rename_i e2
        simp only [cellsEq_rel h1 h2 e2]; exact h
      · cases h
    · cases h
theorem eqV_rel {k : EqK} {a b a' b' : Value} {r : Bool} (ha : Rn β a a') (hb : Rn β b b') (h : eqV k a b = some r) : eqV k a' b' = some r := by
  unfold eqV at h
  split at h
  · cases ha; cases hb; exact h
  · cases ha; cases hb; exact h
  · cases ha; cases hb; exact h
  · cases ha; cases hb <;> exact h
  · cases hb; cases ha <;> first | exact h | (exfalso; simp_all)
  · cases ha; cases hb <;> exact h
  · cases hb; cases ha <;> first | exact h | (exfalso; simp_all)
  · cases ha; cases hb <;> exact h
  · cases hb; cases ha <;> first | exact h | (exfalso; simp_all)
  · cases ha; cases hb; exact h
  · cases ha; cases hb; exact h
  · cases ha; cases hb; exact h
  · rename_i n k xs ys
    cases ha with
    | agg h1 => cases hb with
      | agg h2 =>
        have e1 := h1.length
        have e2 := h2.length
        split at h
        · rename_i hn
          have hn1 : _ = n := hn.1
          have hn2 : _ = n := hn.2
          simp only [List.size_toArray] at hn1 hn2
          simp only [eqV, List.size_toArray]
          rw [if_pos ⟨by omega, by omega⟩]
          exact cellsEq_rel h1 h2 h
        · cases h
  · cases h

theorem binV_rel {op : BinOp} {k : EqK} {a b a' b' r : Value} (ha : Rn β a a') (hb : Rn β b b') (h : binV op k a b = some r) : ∃ r', binV op k a' b' = some r' ∧ Rn β r r' := by
  unfold binV at h
  split at h
  · cases ha; cases hb
    have key : ∀ o : Option Value, o = some r → (∀ x, o = some x → cst x = true) → ∃ r', o = some r' ∧ Rn β r r' := fun o e hc => ⟨r, e, cst_rn (hc _ e)⟩
    refine key _ h ?_
    clear h key
    intro x hx
    simp only [binV] at hx
    split at hx
    · cases hx
    · cases hx
    · cases hx
    · cases hx
    · split at hx
      · unfold intBin at hx
        split at hx <;> first | (cases hx; rfl) | cases hx
      · cases hx
  · cases ha; cases hb
    have key : ∀ o : Option Value, o = some r → (∀ x, o = some x → cst x = true) → ∃ r', o = some r' ∧ Rn β r r' := fun o e hc => ⟨r, e, cst_rn (hc _ e)⟩
    refine key _ h ?_
    clear h key
    intro x hx
    simp only [binV] at hx
    unfold strBin at hx
    split at hx <;> first | (cases hx; rfl) | cases hx
  · rename_i hni hns
    have hni' : ∀ k1 x k2 y, a' = .int k1 x → b' = .int k2 y → (∃ i, a = .chan (some i)) ∨ ∃ i, b = .chan (some i) := by
      rintro k1 x k2 y rfl rfl
      cases ha with
      | int => cases hb with
        | int => exact absurd rfl (hni _ _ _ _ rfl)
        | atom => exact .inr ⟨_, rfl⟩
      | atom => exact .inl ⟨_, rfl⟩
    have hns' : ∀ x y, a' = .string x → b' = .string y → (∃ i, a = .chan (some i)) ∨ ∃ i, b = .chan (some i) := by
      rintro x y rfl rfl
      cases ha with
      | str => cases hb with
        | str => exact absurd rfl (hns _ _ rfl)
        | atom => exact .inr ⟨_, rfl⟩
      | atom => exact .inl ⟨_, rfl⟩
    have hno : ∀ r, eqV k a b = some r → ¬ ((∃ i, a = .chan (some i)) ∨ ∃ i, b = .chan (some i)) := by
      rintro r e (⟨i, rfl⟩ | ⟨i, rfl⟩)
      · unfold eqV at e; split at e <;> simp_all
      · unfold eqV at e; split at e <;> simp_all
    have body : ∀ (f : Bool → Bool), ∀ r0, eqV k a b = some r0 → binV op k a' b' = (match op with | .eql => (eqV k a' b').map .bool | .neq => (eqV k a' b').map fun b => .bool !b | _ => none) := by
      intro _ r0 e
      unfold binV
      split
      · exact absurd (hni' _ _ _ _ rfl rfl) (hno _ e)
      · exact absurd (hns' _ _ rfl rfl) (hno _ e)
      · cases op <;> rfl
    split at h
    · simp only [Option.map_eq_some_iff] at h
      obtain ⟨q, hq, rfl⟩ := h
      rw [body id _ hq]
      simp only [eqV_rel ha hb hq, Option.map_some]
      exact ⟨_, rfl, .bool⟩
    · simp only [Option.map_eq_some_iff] at h
      obtain ⟨q, hq, rfl⟩ := h
      rw [body id _ hq]
      simp only [eqV_rel ha hb hq, Option.map_some]
      exact ⟨_, rfl, .bool⟩
    · cases h

theorem partV_rel {cs cs' : List Value} {off : Nat} {n : Option Nat} {v : Value} (hc : RnL β cs cs') (h : partV cs off n = some v) : ∃ u, partV cs' off n = some u ∧ Rn β v u := by
  cases n with
  | none => exact hc.get h
  | some n =>
    simp only [partV, Option.some.injEq] at h; subst h
    exact ⟨_, rfl, .agg ((hc.drop off).take n)⟩
theorem cutV_rel {cs cs' sp : List Value} {off : Nat} {n : Option Nat} {v : Value} (hc : RnL β cs cs') (h : cutV cs off n = some v) : ∃ u, cutV (cs' ++ sp) off n = some u ∧ Rn β v u := by
  have hl := hc.length
  cases n with
  | none =>
    obtain ⟨u, h1, h2⟩ := hc.get h
    refine ⟨u, ?_, h2⟩
    simp only [cutV]
    rw [List.getElem?_append_left]
    · exact h1
    · exact (List.getElem?_eq_some_iff.1 h1).1
  | some n =>
    simp only [cutV] at h
    split at h
    · rename_i hle
      simp only [Option.some.injEq] at h; subst h
      refine ⟨.agg (((cs'.drop off).take n)).toArray, ?_, .agg ((hc.drop off).take n)⟩
      simp only [cutV, List.length_append]
      rw [if_pos (by omega), List.drop_append_of_le_length (by omega), List.take_append_of_le_length (by simp; omega)]
    · cases h

theorem foldV_rel {f : Value → Value → Option Value} (hf : ∀ a b a' b' r, Rn β a a' → Rn β b b' → f a b = some r → ∃ r', f a' b' = some r' ∧ Rn β r r') : ∀ {l l' : List Value} {a a' r : Value}, RnL β l l' → Rn β a a' → foldV f a l = some r → ∃ r', foldV f a' l' = some r' ∧ Rn β r r'
  | _, _, _, _, _, .nil, ha, h => by simp only [foldV, Option.some.injEq] at h; subst h; exact ⟨_, rfl, ha⟩
  | _, _, _, _, _, .cons hb hl, ha, h => by
    simp only [foldV] at h
    split at h
    · rename_i c hc
      obtain ⟨c', h1, h2⟩ := hf _ _ _ _ _ ha hb hc
      simp only [foldV, h1]
      exact foldV_rel hf hl h2 h
    · cases h

/-- 'pureV', but for what a capacity is: only where it is known -/
def pureX (ρ : Opd → Option Value) (op : IOp) : Option Value :=
  match op with
  | .cap x => match ρ x with
    | some (.slice _ _ c) => bif Nat.blt c BIG then some (.int .i64 c) else none
    | _ => none
  | .build z ps => bif cstL z then pureV ρ (.build z ps) else none
  | op => pureV ρ op

theorem pure_rel (h : EvR β ρ ρ') {op : IOp} {v : Value} (e : pureX ρ op = some v) : ∃ u, pureV ρ' op = some u ∧ Rn β v u := by
  unfold pureX at e
  split at e
  · rename_i x
    split at e
    · rename_i a n c hx
      obtain ⟨u, hu, hr⟩ := h _ _ hx
      cases hb : Nat.blt c BIG with
      | false => simp [hb] at e
      | true =>
        simp only [hb, cond_true, Option.some.injEq] at e; subst e
        have hlt : c < BIG := Nat.le_of_ble_eq_true hb
        cases hr with
        | sl0 => exact ⟨_, by simp [pureV, hu], .int⟩
        | sl _ _ => exact ⟨_, by simp [pureV, hu], .int⟩
        | slo _ _ _ => omega
        | slr _ _ _ => omega
        | sle => omega
    · cases e
  · rename_i z ps
    cases hb : cstL z with
    | false => simp [hb] at e
    | true =>
      simp only [hb, cond_true, pureV] at e
      split at e
      · rename_i l hl
        obtain ⟨l', hl', H⟩ := evParts_rel h ps l hl
        simp only [Option.map_eq_some_iff] at e
        obtain ⟨cs, hcs, rfl⟩ := e
        obtain ⟨cs', h1, h2⟩ := H _ _ _ (cstL_rn hb) hcs
        exact ⟨.agg cs'.toArray, by simp [pureV, hl', h1], .agg h2⟩
      · cases e
  · rename_i hncap hnb
    unfold pureV at e
    split at e
    case h_1 => exact h _ _ e
    case h_2 c a b =>
      split at e
      · rename_i t hc
        obtain ⟨u, hu, hr⟩ := h _ _ hc
        cases hr
        split at e
        · rename_i x y hx hy
          obtain ⟨x', hx', rx⟩ := h _ _ hx
          obtain ⟨y', hy', ry⟩ := h _ _ hy
          simp only [pureV, hu, hx', hy']
          cases t
          · simp only [Option.some.injEq] at e; subst e; exact ⟨_, rfl, ry⟩
          · simp only [Option.some.injEq] at e; subst e; exact ⟨_, rfl, rx⟩
        · cases e
      · cases e
    case h_3 z ps => exact absurd rfl (hnb _ _)
    case h_4 x =>
      split at e
      · rename_i a hx
        obtain ⟨u, hu, hr⟩ := h _ _ hx
        simp only [Option.some.injEq] at e; subst e
        cases hr with
        | ptr hb => exact ⟨_, by simp [pureV, hu], .ptr hb⟩
      · rename_i f a b hx
        obtain ⟨u, hu, hr⟩ := h _ _ hx
        simp only [Option.some.injEq] at e; subst e
        cases hr with
        | func h1 h2 => exact ⟨_, by simp [pureV, hu], .func h1 h2⟩
      · cases e
    case h_5 op k x y =>
      split at e
      · rename_i a b hx hy
        obtain ⟨x', hx', rx⟩ := h _ _ hx
        obtain ⟨y', hy', ry⟩ := h _ _ hy
        simp only [pureV, hx', hy']
        exact binV_rel rx ry e
      · cases e
    case h_6 x =>
      split at e
      · rename_i b hx
        obtain ⟨u, hu, hr⟩ := h _ _ hx
        simp only [Option.some.injEq] at e; subst e
        cases hr
        exact ⟨_, by simp only [pureV, hu], .bool⟩
      · cases e
    case h_7 x =>
      split at e
      · rename_i k b hx
        obtain ⟨u, hu, hr⟩ := h _ _ hx
        simp only [Option.some.injEq] at e; subst e
        cases hr
        exact ⟨_, by simp only [pureV, hu], .int⟩
      · cases e
    case h_8 x =>
      split at e
      · rename_i k b hx
        obtain ⟨u, hu, hr⟩ := h _ _ hx
        simp only [Option.some.injEq] at e; subst e
        cases hr
        exact ⟨_, by simp only [pureV, hu], .int⟩
      · cases e
    case h_9 k x =>
      split at e
      · rename_i k b hx
        obtain ⟨u, hu, hr⟩ := h _ _ hx
        simp only [Option.some.injEq] at e; subst e
        cases hr
        exact ⟨_, by simp only [pureV, hu], .int⟩
      · cases e
    case h_10 x =>
      split at e
      · rename_i b hx
        obtain ⟨u, hu, hr⟩ := h _ _ hx
        simp only [Option.some.injEq] at e; subst e
        cases hr
        exact ⟨_, by simp only [pureV, hu], .str⟩
      · cases e
    case h_11 x =>
      split at e
      · rename_i k b hx
        obtain ⟨u, hu, hr⟩ := h _ _ hx
        simp only [Option.some.injEq] at e; subst e
        cases hr
        exact ⟨_, by simp only [pureV, hu], .str⟩
      · cases e
    case h_12 x =>
      split at e
      · rename_i k b hx
        obtain ⟨u, hu, hr⟩ := h _ _ hx
        simp only [Option.some.injEq] at e; subst e
        cases hr
        exact ⟨_, by simp only [pureV, hu], .str⟩
      · cases e
    case h_13 f a b =>
      split at e
      · rename_i x y hx hy
        obtain ⟨x', hx', rx⟩ := evList_rel h _ _ hx
        obtain ⟨y', hy', ry⟩ := evList_rel h _ _ hy
        simp only [Option.some.injEq] at e; subst e
        exact ⟨.func f x'.toArray y'.toArray, by simp only [pureV, hx', hy'], .func rx ry⟩
      · cases e
    case h_14 off x =>
      split at e
      · rename_i b o hx
        obtain ⟨u, hu, hr⟩ := h _ _ hx
        simp only [Option.some.injEq] at e; subst e
        cases hr with
        | ptr hb => exact ⟨_, by simp only [pureV, hu], .ptr hb⟩
      · cases e
    case h_15 off n x =>
      split at e
      · rename_i cs hx
        obtain ⟨u, hu, hr⟩ := h _ _ hx
        cases hr with
        | agg hl =>
          obtain ⟨u, h1, h2⟩ := partV_rel hl e
          exact ⟨u, by simp only [pureV, hu]; exact h1, h2⟩
      · cases e
    case h_16 x i =>
      split at e
      · rename_i cs hx
        obtain ⟨u, hu, hr⟩ := h _ _ hx
        cases hr with
        | tuple hl =>
          obtain ⟨u, h1, h2⟩ := hl.get e
          exact ⟨u, by simp only [pureV, hu]; exact h1, h2⟩
      · cases e
    case h_17 t x =>
      simp only [Option.map_eq_some_iff] at e
      obtain ⟨v, hx, rfl⟩ := e
      obtain ⟨u, hu, hr⟩ := h _ _ hx
      exact ⟨.iface t u, by simp only [pureV, hu, Option.map_some], .iface hr⟩
    case h_18 x =>
      split at e
      · rename_i s hx
        obtain ⟨u, hu, hr⟩ := h _ _ hx
        simp only [Option.some.injEq] at e; subst e
        cases hr
        exact ⟨_, by simp only [pureV, hu], .int⟩
      · cases e
    case h_19 x =>
      split at e
      · rename_i a n c hx
        obtain ⟨u, hu, hr⟩ := h _ _ hx
        simp only [Option.some.injEq] at e; subst e
        cases hr <;> exact ⟨_, by simp only [pureV, hu], .int⟩
      · cases e
    case h_20 x =>
      split at e
      · rename_i hx
        obtain ⟨u, hu, hr⟩ := h _ _ hx
        simp only [Option.some.injEq] at e; subst e
        cases hr
        exact ⟨_, by simp only [pureV, hu], .int⟩
      · cases e
    case h_21 n x =>
      simp only [Option.some.injEq] at e; subst e
      exact ⟨_, rfl, .int⟩
    case h_22 x => exact absurd rfl (hncap _)
    case h_23 l =>
      split at e
      · rename_i a r hx
        obtain ⟨l', hl', rl⟩ := evList_rel h _ _ hx
        cases rl with
        | cons ha hr =>
          obtain ⟨r', h1, h2⟩ := foldV_rel (f := maxV) (fun a b a' b' r ra rb hf => by
            unfold maxV at hf
            split at hf
            · cases ra; cases rb; simp only [Option.some.injEq] at hf; subst hf; exact ⟨_, rfl, .int⟩
            · cases hf) hr ha e
          exact ⟨r', by simp only [pureV, hl', h1], h2⟩
      · cases e
    case h_24 l =>
      split at e
      · rename_i a r hx
        obtain ⟨l', hl', rl⟩ := evList_rel h _ _ hx
        cases rl with
        | cons ha hr =>
          obtain ⟨r', h1, h2⟩ := foldV_rel (f := minV) (fun a b a' b' r ra rb hf => by
            unfold minV at hf
            split at hf
            · cases ra; cases rb; simp only [Option.some.injEq] at hf; subst hf; exact ⟨_, rfl, .int⟩
            · cases hf) hr ha e
          exact ⟨r', by simp only [pureV, hl', h1], h2⟩
      · cases e
    case h_25 => cases e
end
end Go.Sx
