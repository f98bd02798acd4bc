/- A part of an engine of our own (the code is compiled to a smaller language, whose steps are proved right), nothing is claimed here: numbers and values, quickly -/
import Derived.Test.YtmpmagcepgjcdaaGreatSxEx12
set_option linter.all false
/-! numbers and values, quickly -/
namespace Go.Sx

def kTop : IntKind → Nat
  | .i8 => 128 | .i16 => 32768 | .i32 => 2147483648 | .i64 => 9223372036854775808 | .u8 => 256 | .u16 => 65536 | .u32 => 4294967296 | .u64 => 18446744073709551616
def kLow : IntKind → Nat
  | .i8 => 128 | .i16 => 32768 | .i32 => 2147483648 | .i64 => 9223372036854775808 | _ => 0
def wrapF (k : IntKind) (n : Int) : Int := match n with
  | .ofNat m => bif Nat.blt m (kTop k) then .ofNat m else k.wrap n
  | .negSucc m => bif Nat.blt m (kLow k) then .negSucc m else k.wrap n
theorem wrap_in {k : IntKind} {n : Int} (h0 : -(kLow k : Int) ≤ n) (h1 : n < kTop k) : k.wrap n = n := by
  unfold IntKind.wrap
  cases k <;> simp only [IntKind.signed, IntKind.bits, kLow, kTop, Bool.true_and, Bool.false_and, decide_eq_true_eq, Bool.false_eq_true, if_false, ge_iff_le] at h0 h1 ⊢ <;> first | (split <;> omega) | omega
theorem wrapF_eq (k : IntKind) (n : Int) : wrapF k n = k.wrap n := by
  cases n with
  | ofNat m =>
    simp only [wrapF]
    cases h : Nat.blt m (kTop k) with
    | false => rfl
    | true =>
      have : m < kTop k := Nat.le_of_ble_eq_true h
      simp only [cond_true]
      exact (wrap_in (by simp only [Int.ofNat_eq_natCast]; omega) (by simp only [Int.ofNat_eq_natCast]; omega)).symm
  | negSucc m =>
    simp only [wrapF]
    cases h : Nat.blt m (kLow k) with
    | false => rfl
    | true =>
      have : m < kLow k := Nat.le_of_ble_eq_true h
      simp only [cond_true]
      exact (wrap_in (by simp only [Int.negSucc_eq]; omega) (by simp only [Int.negSucc_eq]; omega)).symm

def ltF (a b : Int) : Bool := match a with
  | .ofNat a => match b with | .ofNat b => Nat.blt a b | .negSucc _ => false
  | .negSucc a => match b with | .ofNat _ => true | .negSucc b => Nat.blt b a
theorem ltF_eq (a b : Int) : ltF a b = decide (a < b) := by
  have hb : ∀ a b : Nat, Nat.blt a b = decide (a < b) := fun a b => by
    cases h : Nat.blt a b with
    | true => exact (decide_eq_true (Nat.le_of_ble_eq_true h)).symm
    | false => refine (decide_eq_false fun hlt => ?_).symm; rw [show Nat.blt a b = true from Nat.ble_eq_true_of_le hlt] at h; cases h
  cases a with
  | ofNat a => cases b with
    | ofNat b => simp only [ltF, hb, Int.ofNat_eq_natCast, Int.ofNat_lt]
    | negSucc b => simp only [ltF]; symm; apply decide_eq_false; simp only [Int.ofNat_eq_natCast, Int.negSucc_eq]; omega
  | negSucc a => cases b with
    | ofNat b => simp only [ltF]; symm; apply decide_eq_true; simp only [Int.ofNat_eq_natCast, Int.negSucc_eq]; omega
    | negSucc b => simp only [ltF, hb]; congr 1; simp only [Int.negSucc_eq, eq_iff_iff]; omega
theorem intEq_beq (a b : Int) : intEq a b = (a == b) := by
  have hb : ∀ a b : Nat, Nat.beq a b = decide (a = b) := fun a b => by
    by_cases h : a = b
    · subst h; rw [Nat.beq_refl]; simp
    · rw [beq_f h]; simp [h]
  rw [show (a == b) = decide (a = b) from rfl]
  cases a with
  | ofNat a => cases b with
    | ofNat b => simp [intEq, hb]; omega
    | negSucc b => simp [intEq]
  | negSucc a => cases b with
    | ofNat b => simp [intEq]
    | negSucc b => simp [intEq, hb]

/-- one kind of value, or the rest -/
noncomputable def vInt {β : Type} (v : Value) (f : IntKind → Int → β) (d : β) : β :=
  Value.rec (motive_1 := fun _ => β) (motive_2 := fun _ => PUnit) (motive_3 := fun _ => PUnit) (fun _ => d) (fun k n => f k n) (fun _ _ => d) (fun _ _ _ => d) (fun _ => d) (fun _ => d) (fun _ _ _ => d) (fun _ => d) (fun _ => d) (fun _ _ _ _ _ => d) d (fun _ _ _ => d) d (fun _ _ => d) (fun _ _ => d) (fun _ _ => ⟨⟩) ⟨⟩ (fun _ _ _ _ => ⟨⟩) v
noncomputable def vPtr {β : Type} (v : Value) (f : Option Addr → β) (d : β) : β :=
  Value.rec (motive_1 := fun _ => β) (motive_2 := fun _ => PUnit) (motive_3 := fun _ => PUnit) (fun _ => d) (fun _ _ => d) (fun _ _ => d) (fun _ _ _ => d) (fun _ => d) (fun a => f a) (fun _ _ _ => d) (fun _ => d) (fun _ => d) (fun _ _ _ _ _ => d) d (fun _ _ _ => d) d (fun _ _ => d) (fun _ _ => d) (fun _ _ => ⟨⟩) ⟨⟩ (fun _ _ _ _ => ⟨⟩) v
noncomputable def vSl {β : Type} (v : Value) (f : Option Addr → Nat → Nat → β) (d : β) : β :=
  Value.rec (motive_1 := fun _ => β) (motive_2 := fun _ => PUnit) (motive_3 := fun _ => PUnit) (fun _ => d) (fun _ _ => d) (fun _ _ => d) (fun _ _ _ => d) (fun _ => d) (fun _ => d) (fun a n c => f a n c) (fun _ => d) (fun _ => d) (fun _ _ _ _ _ => d) d (fun _ _ _ => d) d (fun _ _ => d) (fun _ _ => d) (fun _ _ => ⟨⟩) ⟨⟩ (fun _ _ _ _ => ⟨⟩) v
noncomputable def vBool {β : Type} (v : Value) (f : Bool → β) (d : β) : β :=
  Value.rec (motive_1 := fun _ => β) (motive_2 := fun _ => PUnit) (motive_3 := fun _ => PUnit) (fun b => f b) (fun _ _ => d) (fun _ _ => d) (fun _ _ _ => d) (fun _ => d) (fun _ => d) (fun _ _ _ => d) (fun _ => d) (fun _ => d) (fun _ _ _ _ _ => d) d (fun _ _ _ => d) d (fun _ _ => d) (fun _ _ => d) (fun _ _ => ⟨⟩) ⟨⟩ (fun _ _ _ _ => ⟨⟩) v
noncomputable def vAgg {β : Type} (v : Value) (f : Array Value → β) (d : β) : β :=
  Value.rec (motive_1 := fun _ => β) (motive_2 := fun _ => PUnit) (motive_3 := fun _ => PUnit) (fun _ => d) (fun _ _ => d) (fun _ _ => d) (fun _ _ _ => d) (fun _ => d) (fun _ => d) (fun _ _ _ => d) (fun _ => d) (fun _ => d) (fun _ _ _ _ _ => d) d (fun _ _ _ => d) d (fun cs _ => f cs) (fun _ _ => d) (fun _ _ => ⟨⟩) ⟨⟩ (fun _ _ _ _ => ⟨⟩) v
noncomputable def vTup {β : Type} (v : Value) (f : Array Value → β) (d : β) : β :=
  Value.rec (motive_1 := fun _ => β) (motive_2 := fun _ => PUnit) (motive_3 := fun _ => PUnit) (fun _ => d) (fun _ _ => d) (fun _ _ => d) (fun _ _ _ => d) (fun _ => d) (fun _ => d) (fun _ _ _ => d) (fun _ => d) (fun _ => d) (fun _ _ _ _ _ => d) d (fun _ _ _ => d) d (fun _ _ => d) (fun cs _ => f cs) (fun _ _ => ⟨⟩) ⟨⟩ (fun _ _ _ _ => ⟨⟩) v

noncomputable def nthF (l : List Value) : Nat → Option Value :=
  List.rec (motive := fun _ => Nat → Option Value) (fun _ => none) (fun v _ ih n => match n with | 0 => some v | n + 1 => ih n) l
theorem nthF_eq (l : List Value) (n : Nat) : nthF l n = l[n]? := by
  induction l generalizing n with
  | nil => rfl
  | cons v l ih => cases n with
    | zero => rfl
    | succ n => simp only [List.getElem?_cons_succ]; exact ih n
noncomputable def dropF (l : List Value) : Nat → List Value :=
  List.rec (motive := fun _ => Nat → List Value) (fun _ => []) (fun v l ih n => match n with | 0 => v :: l | n + 1 => ih n) l
theorem dropF_eq (l : List Value) (n : Nat) : dropF l n = l.drop n := by
  induction l generalizing n with
  | nil => simp [dropF]
  | cons v l ih => cases n with
    | zero => rfl
    | succ n => simp only [List.drop_succ_cons]; exact ih n
noncomputable def takeF (l : List Value) : Nat → List Value :=
  List.rec (motive := fun _ => Nat → List Value) (fun _ => []) (fun v l ih n => match n with | 0 => [] | n + 1 => v :: ih n) l
theorem takeF_eq (l : List Value) (n : Nat) : takeF l n = l.take n := by
  induction l generalizing n with
  | nil => simp [takeF]
  | cons v l ih => cases n with
    | zero => rfl
    | succ n => simp only [List.take_succ_cons]; exact congrArg _ (ih n)
noncomputable def lenF (l : List Value) : Nat := List.rec (motive := fun _ => Nat) 0 (fun _ _ ih => Nat.succ ih) l
theorem lenF_eq (l : List Value) : lenF l = l.length := by
  induction l with
  | nil => rfl
  | cons v l ih => exact congrArg Nat.succ ih

noncomputable def cutF (n : Option Nat) : List Value → Nat → Option Value := match n with
  | none => fun cs off => nthF cs off
  | some n => fun cs off => bif Nat.ble (off + n) (lenF cs) then some (.agg ⟨takeF (dropF cs off) n⟩) else none
theorem cutF_eq (n : Option Nat) (cs : List Value) (off : Nat) : cutF n cs off = cutV cs off n := by
  cases n with
  | none => exact nthF_eq cs off
  | some n =>
    simp only [cutF, cutV, lenF_eq, takeF_eq, dropF_eq]
    by_cases h : off + n ≤ cs.length
    · rw [Nat.ble_eq_true_of_le h, if_pos h]; rfl
    · rw [if_neg h]
      cases hb : Nat.ble (off + n) cs.length with
      | true => exact absurd (Nat.le_of_ble_eq_true hb) h
      | false => rfl
noncomputable def partF (n : Option Nat) : List Value → Nat → Option Value := match n with
  | none => fun cs off => nthF cs off
  | some n => fun cs off => some (.agg ⟨takeF (dropF cs off) n⟩)
theorem partF_eq (n : Option Nat) (cs : List Value) (off : Nat) : partF n cs off = partV cs off n := by
  cases n with
  | none => exact nthF_eq cs off
  | some n => simp only [partF, partV, takeF_eq, dropF_eq]
def kNum : IntKind → Nat
  | .i8 => 0 | .i16 => 1 | .i32 => 2 | .i64 => 3 | .u8 => 4 | .u16 => 5 | .u32 => 6 | .u64 => 7
theorem kNum_eq {k k' : IntKind} : Nat.beq (kNum k) (kNum k') = decide (k = k') := by cases k <;> cases k' <;> rfl

noncomputable def oCells {β : Type} (o : Option Obj) (f : Array Value → TypeId → Nat × Nat → β) (d : β) : β := match o with
  | some (.cells c e fr) => f c e fr
  | _ => d

/-- 'Tr.setC', by the recursor -/
noncomputable def setG {α β : Type} (d : Nat) : Tr α → Nat → Option α → (Tr α → β) → β :=
  Nat.rec (motive := fun _ => Tr α → Nat → Option α → (Tr α → β) → β) (fun t _ _ c => c t)
    (fun _ ih t k x c => match t with
      | .nil => bif Nat.beq k 0 then c (.node x .nil .nil) else bif Nat.beq (k % 2) 1 then ih .nil (k / 2) x (fun t => c (.node none t .nil)) else ih .nil (k / 2 - 1) x (fun t => c (.node none .nil t))
      | .node v l r => bif Nat.beq k 0 then c (.node x l r) else bif Nat.beq (k % 2) 1 then ih l (k / 2) x (fun t => c (.node v t r)) else ih r (k / 2 - 1) x (fun t => c (.node v l t))) d
theorem setG_eq {α β : Type} (d : Nat) (t : Tr α) (k : Nat) (x : Option α) (c : Tr α → β) : setG d t k x c = c (Tr.set d t k x) := by
  refine Eq.trans ?_ (Tr.setC_eq d t k x c)
  induction d generalizing t k c with
  | zero => cases t <;> rfl
  | succ d ih =>
    cases t with
    | nil =>
      show (bif Nat.beq k 0 then c (.node x .nil .nil) else bif Nat.beq (k % 2) 1 then setG d .nil (k / 2) x (fun t => c (.node none t .nil)) else setG d .nil (k / 2 - 1) x (fun t => c (.node none .nil t))) = _
      rw [ih, ih]; rfl
    | node v l r =>
      show (bif Nat.beq k 0 then c (.node x l r) else bif Nat.beq (k % 2) 1 then setG d l (k / 2) x (fun t => c (.node v t r)) else setG d r (k / 2 - 1) x (fun t => c (.node v l t))) = _
      rw [ih, ih]; rfl

/-- a string's rest: each one rests on the one before it -/
noncomputable def dropR (l : List UInt8) (p : Nat) : List UInt8 := Nat.rec (motive := fun _ => List UInt8) l (fun _ ih => match ih with | [] => [] | _ :: r => r) p
theorem dropR_eq (l : List UInt8) (p : Nat) : dropR l p = l.drop p := by
  induction p with
  | zero => rfl
  | succ p ih =>
    show (match dropR l p with | [] => [] | _ :: r => r) = _
    rw [ih, ← List.drop_drop (i := 1), List.drop_one]
    cases l.drop p <;> rfl
theorem decode_ascii {s : ByteArray} {p : Nat} {b : UInt8} {r : List UInt8} (h : s.data.toList.drop p = b :: r) (hb : Nat.blt b.toNat 128 = true) : Utf8.decode s p = (b.toNat, 1) := by
  have hb : b.toNat < 128 := Nat.le_of_ble_eq_true hb
  have hlt : p < s.data.toList.length := by
    rcases Nat.lt_or_ge p s.data.toList.length with h' | h'
    · exact h'
    · rw [List.drop_eq_nil_of_le h'] at h; cases h
  have hg : s.get! p = b := by
    rw [List.drop_eq_getElem_cons hlt] at h
    simp only [List.cons.injEq] at h
    have h2 : p < s.data.size := by simpa using hlt
    obtain ⟨bs⟩ := s
    show bs[p]! = b
    rw [getElem!_pos bs p h2, ← h.1]
    simp
  unfold Utf8.decode
  simp only [Nat.add_zero, hg]
  rw [if_pos (by omega)]
end Go.Sx
