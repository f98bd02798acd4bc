/- A part of an engine of our own (the code is compiled to a smaller language, whose steps are proved right), nothing is claimed here: - new blocks, that rest on nothing, join the memory -/
import Derived.Test.YtmpmagcepgjcdaaGreatSxEx8
set_option linter.all false
namespace Go.Sx

theorem ER.set' {β : Bm} {E : Tr Value} {env : Env} (h : ER β E env) {d : Nat} {v u : Value} (hd : d + 2 ≤ 2 ^ SLOTS) (hl : look d env = some u) (r : Rn β v u) : ER β (Tr.set SLOTS E d (some v)) env := by
  intro k x e
  rw [Tr.get_set _ _ _ _ _ hd] at e
  by_cases hk : d = k
  · subst hk; rw [if_pos rfl] at e; simp only [Option.some.injEq] at e; subst e; exact ⟨u, hl, r⟩
  · rw [if_neg hk] at e; exact h k x e
theorem slotOK_le {d : Nat} (h : slotOK (some d) = true) : d + 2 ≤ 2 ^ SLOTS := Nat.le_of_ble_eq_true h

theorem er_envAt {β : Bm} {Eb : Tr Value} {env : Env} {anc : List Nat} (hE : ER β Eb env) : ∀ (vals : List (Nat × Option Nat × Value)),
    (∀ i d v, (i, some d, v) ∈ vals → i ∈ anc → d + 2 ≤ 2 ^ SLOTS ∧ ∃ u, look d env = some u ∧ Rn β v u) → ER β (envAt Eb anc vals) env
  | [], _ => hE
  | (j, d, v) :: r, H => by
    have ih := er_envAt hE r (fun i d v h => H i d v (List.mem_cons_of_mem _ h))
    unfold envAt
    cases hm : memN j anc with
    | false => exact ih
    | true =>
      simp only [cond_true]
      cases d with
      | none => exact ih
      | some d =>
        obtain ⟨h1, u, h2, h3⟩ := H j d v List.mem_cons_self (memN_iff.1 hm)
        exact ih.set' h1 h2 h3
theorem er_setAll {β : Bm} {Eb : Tr Value} {env : Env} (hE : ER β Eb env) : ∀ (vals : List (Nat × Option Nat × Value)),
    (∀ i d v, (i, some d, v) ∈ vals → d + 2 ≤ 2 ^ SLOTS ∧ ∃ u, look d env = some u ∧ Rn β v u) → ER β (setAll Eb vals) env
  | [], _ => hE
  | (j, d, v) :: r, H => by
    have ih := er_setAll hE r (fun i d v h => H i d v (List.mem_cons_of_mem _ h))
    unfold setAll
    cases d with
    | none => exact ih
    | some d =>
      obtain ⟨h1, u, h2, h3⟩ := H j d v List.mem_cons_self
      exact ih.set' h1 h2 h3

theorem HR.add {β : Bm} {T : Tr Obj} {h h2 : List Chunk} (H : HR β T h) {L b κ : Nat} {o o' : Obj} (hL : L + 2 ≤ 2 ^ BLOCKS) (hb : β.b L = some (b, κ)) (hin : (b, o') ∈ h2) (hsub : ∀ c ∈ h, c ∈ h2) (r : RnO β κ o o')
    (hne : ∀ K κ', T.get K ≠ none → β.b K = some (b, κ') → K = L) : HR β (Tr.set BLOCKS T L (some o)) h2 := by
  refine ⟨fun K p e => ?_, fun K K' b1 κ1 κ2 h1 h2 e1 e2 => ?_⟩
  · rw [Tr.get_set _ _ _ _ _ hL] at e
    by_cases hK : L = K
    · subst hK; rw [if_pos rfl] at e; simp only [Option.some.injEq] at e; subst e; exact ⟨b, κ, o', hb, hin, r⟩
    · rw [if_neg hK] at e
      obtain ⟨b1, κ1, o1, g1, g2, g3⟩ := H.own K p e
      exact ⟨b1, κ1, o1, g1, hsub _ g2, g3⟩
  · rw [Tr.get_set _ _ _ _ _ hL] at h1 h2
    by_cases hK : L = K
    · subst hK
      by_cases hK' : L = K'
      · exact hK'
      · rw [if_neg hK'] at h2
        rw [hb] at e1; cases e1
        exact (hne K' _ h2 e2).symm
    · rw [if_neg hK] at h1
      by_cases hK' : L = K'
      · subst hK'
        rw [hb] at e2; cases e2
        exact hne K _ h1 e1
      · rw [if_neg hK'] at h2
        exact H.inj K K' b1 κ1 κ2 h1 h2 e1 e2

/-- new blocks, that rest on nothing, join the memory -/
theorem hr_merge {β : Bm} {n0 : Nat} {S : Tr Obj} {anc mg : List Nat} {hT h2 : List Chunk} (H : HR β S hT) (hsub : ∀ c ∈ hT, c ∈ h2) : ∀ (al : List (Nat × Obj)), (al.map (·.1)).Nodup →
    (∀ k o, (k, o) ∈ al → k ∈ anc → k ∉ mg → n0 + k + 2 ≤ 2 ^ BLOCKS ∧ ∃ b κ o', β.b (n0 + k) = some (b, κ) ∧ (b, o') ∈ h2 ∧ RnO β κ o o' ∧ b ∉ hT.map Prod.fst) →
    (∀ k o k' o' b κ κ', (k, o) ∈ al → (k', o') ∈ al → k ∈ anc → k' ∈ anc → k ∉ mg → k' ∉ mg → β.b (n0 + k) = some (b, κ) → β.b (n0 + k') = some (b, κ') → k = k') →
    HR β (mergeAt n0 S anc mg al) h2 ∧ ∀ K, (mergeAt n0 S anc mg al).get K ≠ none → S.get K ≠ none ∨ ∃ k o, (k, o) ∈ al ∧ K = n0 + k ∧ k ∈ anc ∧ k ∉ mg
  | [], _, _, _ => ⟨⟨fun L o e => by
      obtain ⟨b, κ, o', g1, g2, g3⟩ := H.own L o e
      exact ⟨b, κ, o', g1, hsub _ g2, g3⟩, H.inj⟩, fun K h => .inl h⟩
  | (j, o) :: r, hnd, hp, hi => by
    simp only [List.map_cons, List.nodup_cons] at hnd
    obtain ⟨ih, idom⟩ := hr_merge H hsub r hnd.2 (fun k o h => hp k o (List.mem_cons_of_mem _ h)) (fun k o k' o' b κ κ' h h' => hi k o k' o' b κ κ' (List.mem_cons_of_mem _ h) (List.mem_cons_of_mem _ h'))
    unfold mergeAt
    cases hc : memN j anc && !memN j mg with
    | false =>
      simp only [cond_false]
      exact ⟨ih, fun K h => by
        rcases idom K h with h | ⟨k, o', h1, h2⟩
        · exact .inl h
        · exact .inr ⟨k, o', List.mem_cons_of_mem _ h1, h2⟩⟩
    | true =>
      simp only [cond_true]
      simp only [Bool.and_eq_true, Bool.not_eq_true', ← Bool.not_eq_true, memN_iff] at hc
      obtain ⟨hL, b, κ, o', g1, g2, g3, g4⟩ := hp j o List.mem_cons_self hc.1 hc.2
      refine ⟨ih.add hL g1 g2 (fun _ h => h) g3 (fun K κ' hK eK => ?_), fun K h => ?_⟩
      · rcases idom K hK with h | ⟨k, o2, h1, rfl, h2, h3⟩
        · exfalso
          cases ho : S.get K with
          | none => exact h ho
          | some p =>
            obtain ⟨b1, κ1, o1, q1, q2, _⟩ := H.own K p ho
            rw [eK] at q1; cases q1
            exact g4 (List.mem_map.2 ⟨_, q2, rfl⟩)
        · have := hi j o k o2 b κ κ' List.mem_cons_self (List.mem_cons_of_mem _ h1) hc.1 h2 hc.2 h3 g1 eK
          rw [this]
      · rw [Tr.get_set _ _ _ _ _ hL] at h
        by_cases hK : n0 + j = K
        · exact .inr ⟨j, o, List.mem_cons_self, hK.symm, hc.1, hc.2⟩
        · rw [if_neg hK] at h
          rcases idom K h with h | ⟨k, o2, h1, h2⟩
          · exact .inl h
          · exact .inr ⟨k, o2, List.mem_cons_of_mem _ h1, h2⟩

theorem mgNew_mem {anc mg : List Nat} {k : Nat} : ∀ {al : List (Nat × Obj)}, k ∈ mgNew anc mg al ↔ k ∈ mg ∨ (k ∈ anc ∧ ∃ o, (k, o) ∈ al)
  | [] => by simp [mgNew]
  | (j, o) :: r => by
    unfold mgNew
    cases hm : memN j anc with
    | true =>
      have := memN_iff.1 hm
      simp only [cond_true, List.mem_cons, mgNew_mem (al := r)]
      constructor
      · rintro (rfl | h | ⟨h1, o', h2⟩)
        · exact .inr ⟨this, o, .inl rfl⟩
        · exact .inl h
        · exact .inr ⟨h1, o', .inr h2⟩
      · rintro (h | ⟨h1, o', h2 | h2⟩)
        · exact .inr (.inl h)
        · cases h2; exact .inl rfl
        · exact .inr (.inr ⟨h1, o', h2⟩)
    | false =>
      have : j ∉ anc := fun h => by rw [memN_iff.2 h] at hm; cases hm
      simp only [cond_false, List.mem_cons, mgNew_mem (al := r)]
      constructor
      · rintro (h | ⟨h1, o', h2⟩)
        · exact .inl h
        · exact .inr ⟨h1, o', .inr h2⟩
      · rintro (h | ⟨h1, o', h2 | h2⟩)
        · exact .inl h
        · cases h2; exact absurd h1 this
        · exact .inr ⟨h1, o', h2⟩

theorem OpStep.weaken {P : Program} {I : Imm} {h h' : List Chunk} {env : Env} {op : IOp} {N : Value → Imm → List Chunk → Prop} (hw : Weak h h') (s : OpStep P I h' env op N) : OpStep P I h env op N :=
  fun o ρ w hi he hs => s o ρ w hi he (hw _ _ hs)

/-- in the middle of a region -/
structure RInv (g : RG) (p : List (List Nat × In)) (β0 : Bm) (Eb : Tr Value) (n0 : Nat) (I : Imm) (F : List Chunk) (ntmps : Nat) (D : Nat → Bool) (tmps : Array Value) (w : World) (β : Bm) (env : Env) (hT hA : List Chunk) (j : Nat) (c : Ch) : Prop where
  size : tmps.size = ntmps
  agree : Agree env tmps
  sat : Sat I (hT ++ (hA ++ F)) w.hx
  st : stAt g.c g.cs j = some c
  jle : j ≤ g.es.length
  todo : ∀ e ∈ g.es.take j, D e = false
  done : ∀ e ∈ g.es.drop j, D e = true ∧ ∀ a ∈ ancOf p e, D a = true
  mg : ∀ k ∈ c.mg, D k = true
  ext : Bm.ext n0 β0 β
  er : ER β Eb env
  vals : ∀ i d v, D i = true → (i, some d, v) ∈ g.vals → ∃ u, look d env = some u ∧ Rn β v u
  hr : HR β c.S hT
  pend : ∀ k o, (k, o) ∈ g.al → D k = true → k ∉ c.mg → ∃ b κ o', β.b (n0 + k) = some (b, κ) ∧ (b, o') ∈ hA ∧ RnO β κ o o'
  inj : ∀ k o k' o' b κ κ', (k, o) ∈ g.al → (k', o') ∈ g.al → D k = true → D k' = true → k ∉ c.mg → k' ∉ c.mg → β.b (n0 + k) = some (b, κ) → β.b (n0 + k') = some (b, κ') → k = k'
  fresh : β.fresh c.n
  free : ∀ k, k < p.length → D k = false → β.b (n0 + k) = none ∧ β.a (n0 + k) = none
end Go.Sx
