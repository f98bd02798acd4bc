/- A helper of the claim: what rule.Find and gabelleref12.Find give -/
import Derived.Test.YtmpmagcepgjcdaaGreatTabB
import Derived.Test.YtmpmagcepgjcdaaGreatSxEx17
set_option linter.all false
/-! what rule.Find and gabelleref12.Find give -/
set_option maxRecDepth 100000
namespace Go.Sx.Rule
open Go Go.Sx

def names : List (List UInt8) := [[105, 110, 112, 117, 116, 95, 108, 101, 110],
  [105, 110, 112, 117, 116],
  [99, 97, 108, 108, 101, 114],
  [115, 101, 108, 102],
  [118, 97, 108, 117, 101],
  [98, 97, 108, 97, 110, 99, 101],
  [114, 101, 97, 100],
  [119, 114, 105, 116, 101],
  [114, 101, 109, 111, 118, 101],
  [101, 109, 105, 116],
  [99, 97, 108, 108],
  [114, 101, 116, 95, 108, 101, 110],
  [114, 101, 116],
  [102, 105, 110, 105, 115, 104],
  [114, 101, 118, 101, 114, 116],
  [103, 97, 115, 95, 108, 101, 102, 116]]
/-- the same text? -/
def sameL : List UInt8 → List UInt8 → Bool
  | [], [] => true
  | a :: l, b :: m => Nat.beq a.toNat b.toNat && sameL l m
  | _, _ => false
theorem sameL_iff : ∀ {a b : List UInt8}, sameL a b = true ↔ a = b
  | [], [] => by simp [sameL]
  | [], _ :: _ => by simp [sameL]
  | _ :: _, [] => by simp [sameL]
  | a :: l, b :: m => by
    simp only [sameL, Bool.and_eq_true, sameL_iff, List.cons.injEq]
    refine and_congr_left fun _ => ⟨fun h => UInt8.toNat_inj.1 (Nat.eq_of_beq_eq_true h), fun h => by subst h; exact Nat.beq_refl _⟩
def idxL (t : List UInt8) : List (List UInt8) → Nat → Option Nat
  | [], _ => none
  | n :: l, i => bif sameL t n then some i else idxL t l (i + 1)
theorem idxL_some {t : List UInt8} : ∀ {l : List (List UInt8)} {i j : Nat}, idxL t l i = some j → ∃ k, j = i + k ∧ l[k]? = some t
  | [], i, j, h => by simp [idxL] at h
  | n :: l, i, j, h => by
    unfold idxL at h
    cases hs : sameL t n with
    | true =>
      rw [hs] at h
      simp only [cond_true, Option.some.injEq] at h
      exact ⟨0, by omega, by simp [sameL_iff.1 hs]⟩
    | false =>
      rw [hs] at h
      obtain ⟨k, h1, h2⟩ := idxL_some h
      exact ⟨k + 1, by omega, by simpa using h2⟩
theorem idxL_none {t : List UInt8} : ∀ {l : List (List UInt8)} {i : Nat}, idxL t l i = none → t ∉ l
  | [], i, h => by simp
  | n :: l, i, h => by
    unfold idxL at h
    cases hs : sameL t n with
    | true => rw [hs] at h; simp at h
    | false =>
      rw [hs] at h
      have := idxL_none h
      simp only [List.mem_cons, not_or]
      refine ⟨fun e => ?_, this⟩
      rw [sameL_iff.2 e] at hs; cases hs

/-- which one the text is; 16: none -/
def ixOf (t : List UInt8) : Nat := (idxL t names 0).getD 16
def cmpJ (j : Nat) (t : List UInt8) : Option Bool := match idxL t names 0 with
  | some i => some (Nat.beq i j)
  | none => none
theorem names_inj : ∀ i < 16, ∀ j < 16, names[i]? = names[j]? → i = j := by decide +kernel
theorem cmpJ_ok {s : List UInt8} {t : List UInt8} {b : Bool} (h : cmpJ (ixOf s) t = some b) : (t == s) = b := by
  unfold cmpJ at h
  split at h
  · rename_i i hi
    simp only [Option.some.injEq] at h; subst h
    obtain ⟨k, h1, h2⟩ := idxL_some hi
    obtain rfl : i = k := by omega
    unfold ixOf
    cases hs : idxL s names 0 with
    | none =>
      have h3 := idxL_none hs
      have : t ≠ s := by rintro rfl; exact h3 (List.mem_of_getElem? h2)
      have hl : i < names.length := (List.getElem?_eq_some_iff.1 h2).1
      have hl : i < 16 := hl
      simp only [Option.getD_none]
      rw [beq_f (by omega)]
      simpa using this
    | some j =>
      obtain ⟨k, h4, h5⟩ := idxL_some hs
      obtain rfl : j = k := by omega
      simp only [Option.getD_some]
      by_cases he : i = j
      · subst he
        rw [h2] at h5; simp only [Option.some.injEq] at h5; subst h5
        rw [beq_t rfl]; simp
      · rw [beq_f he]
        have : t ≠ s := by
          rintro rfl
          exact he (names_inj _ (List.getElem?_eq_some_iff.1 h2).1 _ (List.getElem?_eq_some_iff.1 h5).1 (h2.trans h5.symm))
        simpa using this
  · cases h
theorem ixOf_le (t : List UInt8) : ixOf t ≤ 16 := by
  unfold ixOf
  cases h : idxL t names 0 with
  | none => simp
  | some j =>
    obtain ⟨k, h4, h5⟩ := idxL_some h
    have : k < 16 := (List.getElem?_eq_some_iff.1 h5).1
    simp only [Option.getD_some]; omega
theorem ixOf_at {t : List UInt8} {i : Nat} (h : idxL t names 0 = some i) : ixOf t = i := by unfold ixOf; rw [h]; rfl

def hkJ (j : Nat) : Hook := ⟨cmpJ j, fun _ _ => none⟩
def findV (j : Nat) : Value := bif Nat.blt j 16 then .tuple #[.int .i64 j, .bool true] else .tuple #[.int .i64 0, .bool false]
def rfindV (j : Nat) : Value := bif Nat.blt j 16 then .int .i64 j else .int .i64 (-1)
/-- do all of these come to what is wanted? -/
noncomputable def allJ (k : Nat → Hook) (Fn : XFn) (want : Nat → Value) : List Nat → Bool
  | [] => true
  | j :: l => (match runV tab (k j) Fn [.chan (some 0)] 1 with | some v => valEq v (want j) | none => false) && allJ k Fn want l
theorem allJ_mem {k : Nat → Hook} {Fn : XFn} {want : Nat → Value} : ∀ {l : List Nat} {j : Nat}, allJ k Fn want l = true → j ∈ l → runV tab (k j) Fn [.chan (some 0)] 1 = some (want j)
  | i :: l, j, h, hm => by
    simp only [allJ, Bool.and_eq_true] at h
    rcases List.mem_cons.1 hm with rfl | hm
    · have h1 := h.1
      split at h1
      · rename_i v hv
        rw [hv, valEq_eq h1]
      · cases h1
    · exact allJ_mem h.2 hm
theorem find_run0 : allJ hkJ fn10 findV [0, 1, 2, 3, 4] = true := by kernel_rfl
theorem find_run1 : allJ hkJ fn10 findV [5, 6, 7, 8, 9, 10] = true := by kernel_rfl
theorem find_run2 : allJ hkJ fn10 findV [11, 12, 13, 14, 15, 16] = true := by kernel_rfl
theorem rfind_run : allJ hkJ fn11 rfindV [0, 1, 2, 3, 4, 5, 6, 7, 8, 9, 10, 11, 12, 13, 14, 15, 16] = true := by kernel_rfl
theorem find_run {j : Nat} (h : j ≤ 16) : runV tab (hkJ j) fn10 [.chan (some 0)] 1 = some (findV j) := by
  rcases Nat.lt_or_ge j 5 with h1 | h1
  · exact allJ_mem find_run0 (by have : j = 0 ∨ j = 1 ∨ j = 2 ∨ j = 3 ∨ j = 4 := by omega
                                 simpa using this)
  rcases Nat.lt_or_ge j 11 with h2 | h2
  · exact allJ_mem find_run1 (by have : j = 5 ∨ j = 6 ∨ j = 7 ∨ j = 8 ∨ j = 9 ∨ j = 10 := by omega
                                 simpa using this)
  · exact allJ_mem find_run2 (by have : j = 11 ∨ j = 12 ∨ j = 13 ∨ j = 14 ∨ j = 15 ∨ j = 16 := by omega
                                 simpa using this)
theorem rfind_runs {j : Nat} (h : j ≤ 16) : runV tab (hkJ j) fn11 [.chan (some 0)] 1 = some (rfindV j) :=
  allJ_mem rfind_run (List.mem_range.2 (by omega : j < 17))

/-- the text is the first atom -/
def bS (s : ByteArray) : Bm := ⟨fun i => if i = 0 then some (.string s) else none, fun _ => none⟩
theorem bS_fresh (s : ByteArray) : (bS s).fresh 1 := fun L hL => ⟨rfl, by show (if L = 0 then _ else _) = none; rw [if_neg (by omega)]⟩
theorem findV_cst (j : Nat) : cst (findV j) = true := by unfold findV; cases Nat.blt j 16 <;> rfl
theorem rfindV_cst (j : Nat) : cst (rfindV j) = true := by unfold rfindV; cases Nat.blt j 16 <;> rfl
theorem mo : Go.Proofs.Tryz.prog.follows .mixedOrders = true := by kernel_rfl

theorem hkJ_ok {I : Imm} {n0 : Nat} (s : ByteArray) : SymOK Go.Proofs.Tryz.prog I (bS s) n0 (hkJ (ixOf s.data.toList)).sym :=
  Hook.ok (s := s) (by simp [bS]) (fun t b h => cmpJ_ok h) (fun g vs v h => by cases h)
theorem find_spec (s : ByteArray) (I : Imm) : Spec Go.Proofs.Tryz.prog 10 [.string s] I [] (fun u J _ => J = I ∧ u = findV (ixOf s.data.toList)) :=
  spec_run tabOK mo (hkJ_ok s) (Fn := fn10) («as» := [.chan (some 0)]) (n0 := 1) rfl (by simp only [findV_cst]; rfl) (.cons (.atom (by simp [bS]) rfl) .nil) (bS_fresh s) (find_run (ixOf_le _))
theorem rfind_spec (s : ByteArray) (I : Imm) : Spec Go.Proofs.Tryz.prog 11 [.string s] I [] (fun u J _ => J = I ∧ u = rfindV (ixOf s.data.toList)) :=
  spec_run tabOK mo (hkJ_ok s) (Fn := fn11) («as» := [.chan (some 0)]) (n0 := 1) rfl (by simp only [rfindV_cst]; rfl) (.cons (.atom (by simp [bS]) rfl) .nil) (bS_fresh s) (rfind_runs (ixOf_le _))
end Go.Sx.Rule
