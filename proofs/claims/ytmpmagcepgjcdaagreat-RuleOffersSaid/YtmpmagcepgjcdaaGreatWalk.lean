/- A helper of the claim: RuleOffers: the walk -/
import Derived.Test.YtmpmagcepgjcdaaGreatKnown
import Derived.Test.YtmpmagcepgjcdaaGreatFind
set_option linter.all false
/-! RuleOffers: the walk -/
set_option maxRecDepth 100000
namespace Go.Sx.Rule
open Go Go.Sx

theorem known_spec (I : Imm) : Spec Go.Proofs.Tryz.prog 6 [] I [] (fun u J _ => J = I ∧ u = .bool true) := by
  refine spec_parts tabOK mo (Fn := fn6) («as» := []) (us := []) (β0 := ⟨fun _ => none, fun _ => none⟩) (n0 := 0) (Q := fun u => u = .bool true) rfl rfl rfl .nil (fun _ _ => ⟨rfl, rfl⟩) fun F C hP hr hds hQ => ?_
  have ht : TabOK C.P tab := hP ▸ tabOK
  refine segC_sound ht (noExt_ok _) (s := kn0) rfl kn1_run ?_
  refine segC_sound ht (noExt_ok _) (s := kn1) rfl kn2_run ?_
  refine segC_sound ht (noExt_ok _) (s := kn2) rfl kn3_run ?_
  refine segC_sound ht (noExt_ok _) (s := kn3) rfl kn4_run ?_
  exact end_sound ht (noExt_ok _) hds rfl (f := 1000000) (by rw [hr]; exact kn_end) fun β u h hx r => hQ u h (by cases r; rfl)

/-- what is known in RuleOffers -/
def hkO (j : Nat) : Hook := ⟨fun _ => none, fun g vs => match vs with
  | [] => bif Nat.beq g 6 then some (.bool true) else none
  | [.string ⟨⟨t⟩⟩] => bif Nat.beq g 10 then (match idxL t names 0 with | some i => some (findV i) | none => none) else none
  | [.chan (some 0)] => bif Nat.beq g 10 then some (findV j) else bif Nat.beq g 11 then some (rfindV j) else none
  | _ => none⟩
theorem hkO_ok {I : Imm} {n0 : Nat} (s : ByteArray) : SymOK Go.Proofs.Tryz.prog I (bS s) n0 (hkO (ixOf s.data.toList)).sym := by
  refine Hook.ok (s := s) (by simp [bS]) (fun t b h => by cases h) (fun g vs v h β us hx hr => ?_)
  simp only [hkO] at h
  split at h
  · replace h := cond_some h
    obtain ⟨hg, h⟩ := h
    obtain rfl := Nat.eq_of_beq_eq_true hg
    simp only [Option.some.injEq] at h; subst h
    cases hr
    exact known_spec I
  · rename_i t
    replace h := cond_some h
    obtain ⟨hg, h⟩ := h
    obtain rfl := Nat.eq_of_beq_eq_true hg
    split at h
    · rename_i i hi
      simp only [Option.some.injEq] at h; subst h
      cases hr with
      | cons r1 r2 =>
        cases r1; cases r2
        have := find_spec ⟨⟨t⟩⟩ I
        rw [ixOf_at hi] at this
        exact this
    · cases h
  · cases hr with
    | cons r1 r2 =>
      cases r2
      cases r1 with
      | atom ha _ =>
        have : β.a 0 = some (.string s) := hx.1.1 _ _ (by simp [bS])
        rw [this] at ha; simp only [Option.some.injEq] at ha; subst ha
        cases h10 : Nat.beq g 10 with
        | true =>
          obtain rfl := Nat.eq_of_beq_eq_true h10
          rw [h10] at h
          simp only [cond_true, Option.some.injEq] at h; subst h
          exact find_spec s I
        | false =>
          rw [h10] at h
          simp only [cond_false] at h
          replace h := cond_some h
          obtain ⟨hg, h⟩ := h
          obtain rfl := Nat.eq_of_beq_eq_true hg
          simp only [Option.some.injEq] at h; subst h
          exact rfind_spec s I
  · cases h
theorem offers_run0 : allJ hkO fn3 (fun _ => .bool true) [0, 1, 2, 3, 4] = true := by kernel_rfl
theorem offers_run1 : allJ hkO fn3 (fun _ => .bool true) [5, 6, 7, 8, 9, 10] = true := by kernel_rfl
theorem offers_run2 : allJ hkO fn3 (fun _ => .bool true) [11, 12, 13, 14, 15, 16] = true := by kernel_rfl
theorem offers_run {j : Nat} (h : j ≤ 16) : runV tab (hkO j) fn3 [.chan (some 0)] 1 = some (.bool true) := by
  rcases Nat.lt_or_ge j 5 with h1 | h1
  · exact allJ_mem offers_run0 (by have : j = 0 ∨ j = 1 ∨ j = 2 ∨ j = 3 ∨ j = 4 := by omega
                                   simpa using this)
  rcases Nat.lt_or_ge j 11 with h2 | h2
  · exact allJ_mem offers_run1 (by have : j = 5 ∨ j = 6 ∨ j = 7 ∨ j = 8 ∨ j = 9 ∨ j = 10 := by omega
                                   simpa using this)
  · exact allJ_mem offers_run2 (by have : j = 11 ∨ j = 12 ∨ j = 13 ∨ j = 14 ∨ j = 15 ∨ j = 16 := by omega
                                   simpa using this)
theorem offers_spec (s : ByteArray) (I : Imm) : Spec Go.Proofs.Tryz.prog 3 [.string s] I [] (fun u J _ => J = I ∧ u = .bool true) :=
  spec_run tabOK mo (hkO_ok s) (Fn := fn3) («as» := [.chan (some 0)]) (n0 := 1) rfl rfl (.cons (.atom (by simp [bS]) rfl) .nil) (bS_fresh s) (offers_run (ixOf_le _))
theorem offers_walk (s : ByteArray) (w : World) : Calls Go.Proofs.Tryz.prog 3 #[.string s] w fun e w' => e = .returned (.bool true) ∧ Kept w w' :=
  (calls_of_spec (offers_spec s (immAll w))).mono fun e w' ⟨v, I', h, e1, q, k⟩ => ⟨by rw [e1, q.2], k⟩
end Go.Sx.Rule
