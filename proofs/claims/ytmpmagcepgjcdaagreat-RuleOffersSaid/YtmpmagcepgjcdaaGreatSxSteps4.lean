/- A part of an engine of our own (the code is compiled to a smaller language, whose steps are proved right), nothing is claimed here: ### slicing -/
import Derived.Test.YtmpmagcepgjcdaaGreatSxSteps3
set_option linter.all false
namespace Go.Sx
section
variable {P : Program} {I : Imm} {env : Env} {h : List Chunk} {N : Value → Imm → List Chunk → Prop}

/-! ### slicing -/
def bnd (env : Env) : Option Opd → Int → Option Int
  | none, d => some d
  | some x, _ => match ev env x with
    | some (.int _ j) => some j
    | _ => none

theorem run_sliceBound {k : IntKind} {j : Int} {y : Nat} {code : BoundsCode} (w : World) (h0 : 0 ≤ j) (h1 : j ≤ y) :
    (Instr.sliceBound (.int k j) y code).run P w = .ok j.toNat w := by
  unfold Instr.sliceBound
  simp only [asIntOf, Sem.run_bind, Sem.run_pure, Result.andThen_ok, Sem.run_ite, h0, h1, and_self, if_true]

theorem bnd_some {x : Opd} {d j : Int} (hb : bnd env (some x) d = some j) : ∃ k, ev env x = some (.int k j) := by
  simp only [bnd] at hb
  split at hb
  · rename_i k j' e; simp only [Option.some.injEq] at hb; subst hb; exact ⟨k, e⟩
  · cases hb

/-- the bounds of a slice expression -/
theorem run_sliceBounds {ρ : Operand → Value} (he : EvOK (ev env) ρ) {isSl : Bool} {n cap : Nat} {lo hi mx : Option Operand} {L U M : Int} (w : World)
    (hL : bnd env (lo.map Opd.of) 0 = some L) (hU : bnd env (hi.map Opd.of) n = some U) (hM : bnd env (mx.map Opd.of) cap = some M) (hmx : mx = none ∨ hi.isSome)
    (h0 : 0 ≤ L) (h1 : L ≤ U) (h2 : U ≤ M) (h3 : M ≤ cap) : (Instr.sliceBounds isSl n cap (lo.map ρ) (hi.map ρ) (mx.map ρ)).run P w = .ok (L.toNat, U.toNat, M.toNat) w := by
  unfold Instr.sliceBounds
  have e0 : 0 ≤ U := by omega
  have e1 : U ≤ (M.toNat : Nat) := by omega
  have e2 : L ≤ (U.toNat : Nat) := by omega
  have e3 : 0 ≤ M := by omega
  cases mx with
  | none =>
    simp only [Option.map_none, bnd, Option.some.injEq] at hM
    have em : M.toNat = cap := by omega
    rw [em] at e1 ⊢
    cases hi with
    | none =>
      simp only [Option.map_none, bnd, Option.some.injEq] at hU
      have eu : U.toNat = n := by omega
      rw [eu] at e2 ⊢
      cases lo with
      | none =>
        simp only [Option.map_none, bnd, Option.some.injEq] at hL
        have el : L.toNat = 0 := by omega
        rw [el]; rfl
      | some z =>
        obtain ⟨k, hk⟩ := bnd_some hL
        simp only [Option.map_some, Option.map_none, he z _ hk, Sem.run_bind, Sem.run_pure, Result.andThen_ok, run_sliceBound w h0 e2]
    | some y =>
      obtain ⟨ky, hky⟩ := bnd_some hU
      cases lo with
      | none =>
        simp only [Option.map_none, bnd, Option.some.injEq] at hL
        have el : L.toNat = 0 := by omega
        rw [el]
        simp only [Option.map_some, Option.map_none, he y _ hky, Sem.run_bind, Sem.run_pure, Result.andThen_ok, run_sliceBound w e0 e1]
      | some z =>
        obtain ⟨k, hk⟩ := bnd_some hL
        simp only [Option.map_some, Option.map_none, he z _ hk, he y _ hky, Sem.run_bind, Sem.run_pure, Result.andThen_ok, run_sliceBound w h0 e2, run_sliceBound w e0 e1]
  | some x =>
    obtain ⟨kx, hkx⟩ := bnd_some hM
    cases hi with
    | none => rcases hmx with h | h <;> simp at h
    | some y =>
      obtain ⟨ky, hky⟩ := bnd_some hU
      cases lo with
      | none =>
        simp only [Option.map_none, bnd, Option.some.injEq] at hL
        have el : L.toNat = 0 := by omega
        rw [el]
        simp only [Option.map_some, Option.map_none, he x _ hkx, he y _ hky, Sem.run_bind, Sem.run_pure, Result.andThen_ok, run_sliceBound w e0 e1, run_sliceBound w e3 h3]
      | some z =>
        obtain ⟨k, hk⟩ := bnd_some hL
        simp only [Option.map_some, he x _ hkx, he z _ hk, he y _ hky, Sem.run_bind, Sem.run_pure, Result.andThen_ok, run_sliceBound w h0 e2, run_sliceBound w e0 e1, run_sliceBound w e3 h3]

/-- where a slice of a slice begins -/
def slA (a : Option Addr) (l m size : Nat) : Option Addr := if m = l then a else a.map (·.add (l * size))
theorem slA_zero (a : Option Addr) (m size : Nat) : slA a 0 m size = a := by
  unfold slA; split
  · rfl
  · cases a with
    | none => rfl
    | some a => simp [Addr.add]
theorem slA_some {b off l m size : Nat} (h : l < m) : slA (some ⟨b, off, none⟩) l m size = some ⟨b, off + l * size, none⟩ := by
  unfold slA; rw [if_neg (by omega)]; simp only [Option.map_some, add_eq]
theorem slA_same (a : Option Addr) (l size : Nat) : slA a l l size = a := by unfold slA; rw [if_pos rfl]

theorem slK_inv {t : TypeId} {k : SlK} (h : slKOf P t = some k) : (k = .str ∧ P.underlying t = some .string) ∨ (∃ e s, k = .sl s ∧ P.underlying t = some (.slice e) ∧ sizeOfT P e = some s) ∨ (∃ n e s, k = .arr n s ∧ P.underlying t = some (.array n e) ∧ sizeOfT P e = some s) := by
  unfold slKOf at h
  split at h
  · rename_i hu; simp only [Option.some.injEq] at h; exact Or.inl ⟨h.symm, hu⟩
  · rename_i e hu
    simp only [Option.map_eq_some_iff] at h
    obtain ⟨s, hs, rfl⟩ := h
    exact Or.inr (Or.inl ⟨e, s, rfl, hu, hs⟩)
  · rename_i n e hu
    simp only [Option.map_eq_some_iff] at h
    obtain ⟨s, hs, rfl⟩ := h
    exact Or.inr (Or.inr ⟨n, e, s, rfl, hu, hs⟩)
  · cases h

theorem r_slc_sl {size : Nat} {x : Opd} {lo hi mx : Option Opd} {a : Option Addr} {n cap : Nat} {L U M : Int} (hx : ev env x = some (.slice a n cap))
    (hL : bnd env lo 0 = some L) (hU : bnd env hi n = some U) (hM : bnd env mx cap = some M) (hmx : mx = none ∨ hi.isSome = true)
    (h0 : 0 ≤ L) (h1 : L ≤ U) (h2 : U ≤ M) (h3 : M ≤ cap) : RV P I h env (.slc (.sl size) x lo hi mx) (.slice (slA a L.toNat M.toNat size) (U.toNat - L.toNat) (M.toNat - L.toNat)) := by
  intro o ρ w hio he hh
  obtain ⟨t, y, l, u, m, hop, hy, rfl, rfl, rfl, hk⟩ := iop_inv_slc hio
  rcases slK_inv hk with ⟨hk, _⟩ | ⟨e, s, hk, hu, hs⟩ | ⟨_, _, _, hk, _⟩ <;> cases hk
  have hv := he y _ (by rw [hy]; exact hx)
  have hmx' : m = none ∨ u.isSome = true := by
    rcases hmx with h | h
    · left; cases m <;> simp at h ⊢
    · right; simpa using h
  unfold execOp
  simp only [hop, Sem.run_bind, Instr.sliceAt, hv, run_underlying_eq, hu, Result.andThen_ok, Instr.slice, run_sliceBounds he w hL hU hM hmx' h0 h1 h2 h3, run_sizeOf_of hs, Sem.run_pure, slA]

theorem r_slc_str {x : Opd} {lo hi : Option Opd} {s : ByteArray} {L U : Int} (hx : ev env x = some (.string s))
    (hL : bnd env lo 0 = some L) (hU : bnd env hi s.size = some U) (h0 : 0 ≤ L) (h1 : L ≤ U) (h2 : U ≤ s.size) : RV P I h env (.slc .str x lo hi none) (.string (s.extract L.toNat U.toNat)) := by
  intro o ρ w hio he hh
  obtain ⟨t, y, l, u, m, hop, hy, rfl, rfl, hm, hk⟩ := iop_inv_slc hio
  rcases slK_inv hk with ⟨_, hu⟩ | ⟨e, s, hk, hu, hs⟩ | ⟨_, _, _, hk, _⟩
  · have hv := he y _ (by rw [hy]; exact hx)
    have hm' : m = none := by cases m <;> simp at hm ⊢
    subst hm'
    have hb := run_sliceBounds (P := P) (isSl := false) (n := s.size) (cap := s.size) (mx := none) he w hL hU rfl (Or.inl rfl) h0 h1 h2 (Int.le_refl _)
    unfold execOp
    simp only [hop, Sem.run_bind, Instr.sliceAt, hv, run_underlying_eq, hu, Result.andThen_ok, Instr.slice]
    simp only [Option.map_none, Option.isSome_none, Bool.false_eq_true, if_false, Sem.run_bind] at hb ⊢
    rw [hb]
    rfl
  · cases hk
  · cases hk

theorem r_slc_arr {n size : Nat} {x : Opd} {lo hi mx : Option Opd} {b off : Nat} {L U M : Int} (hx : ev env x = some (.pointer (some ⟨b, off, none⟩)))
    (hL : bnd env lo 0 = some L) (hU : bnd env hi n = some U) (hM : bnd env mx n = some M) (hmx : mx = none ∨ hi.isSome = true)
    (h0 : 0 ≤ L) (h1 : L ≤ U) (h2 : U ≤ M) (h3 : M ≤ n) : RV P I h env (.slc (.arr n size) x lo hi mx) (.slice (slA (some ⟨b, off, none⟩) L.toNat M.toNat size) (U.toNat - L.toNat) (M.toNat - L.toNat)) := by
  intro o ρ w hio he hh
  obtain ⟨t, y, l, u, m, hop, hy, rfl, rfl, rfl, hk⟩ := iop_inv_slc hio
  rcases slK_inv hk with ⟨hk, _⟩ | ⟨e, s, hk, hu, hs⟩ | ⟨n', e, s, hk, hu, hs⟩ <;> cases hk
  have hv := he y _ (by rw [hy]; exact hx)
  have hmx' : m = none ∨ u.isSome = true := by
    rcases hmx with h | h
    · left; cases m <;> simp at h ⊢
    · right; simpa using h
  unfold execOp
  simp only [hop, Sem.run_bind, Instr.sliceAt, hv, run_underlying_eq, hu, Result.andThen_ok, Instr.sureAddr, Sem.run_pure, run_sliceBounds he w hL hU hM hmx' h0 h1 h2 h3, run_sizeOf_of hs, slA, Option.map_some]
  congr 3
  split <;> rfl

/-- whole arrays and slices -/
theorem r_slc_arr_all {n size : Nat} {x : Opd} {b off : Nat} (hx : ev env x = some (.pointer (some ⟨b, off, none⟩))) : RV P I h env (.slc (.arr n size) x none none none) (.slice (some ⟨b, off, none⟩) n n) := by
  have := r_slc_arr (P := P) (I := I) (h := h) (size := size) (lo := none) (hi := none) (mx := none) (n := n) hx rfl rfl rfl (Or.inl rfl) (Int.le_refl 0) (by omega) (Int.le_refl _) (Int.le_refl _)
  simpa [slA_zero] using this

/-! ### numbers -/
theorem bin_ints {op : BinOp} {k : EqK} {x y : Opd} {kx ky : IntKind} {a b : Int} {v : Value} (hx : ev env x = some (.int kx a)) (hy : ev env y = some (.int ky b))
    (hr : ∀ (t : TypeId) (w : World), (Go.binOp op t (.int kx a) (.int ky b)).run P w = .ok v w) : RV P I h env (.bin op k x y) v := by
  intro o ρ w hi he hh
  obtain ⟨t, p, q, u, hop, hp, hq, _⟩ := iop_inv_bin hi
  have h1 := he p _ (by rw [hp]; exact hx)
  have h2 := he q _ (by rw [hq]; exact hy)
  unfold execOp
  simp only [hop, Sem.run_bind, h1, h2]
  rw [run_eqGuard w (show GuardFree P t (.int kx a) (.int ky b) from trivial)]
  simp only [Result.andThen_ok, hr t w, Sem.run_pure]

theorem r_shr {k : EqK} {x y : Opd} {kx ky : IntKind} {a b : Int} (hx : ev env x = some (.int kx a)) (hy : ev env y = some (.int ky b)) (hb : 0 ≤ b) :
    RV P I h env (.bin .shr k x y) (.int kx (a.fdiv (2 ^ (min b.toNat kx.bits)))) :=
  bin_ints hx hy fun t w => by
    simp only [Go.binOp, Op.shift, show ¬ b < 0 by omega, if_false]; rfl
theorem r_shl {k : EqK} {x y : Opd} {kx ky : IntKind} {a b : Int} (hx : ev env x = some (.int kx a)) (hy : ev env y = some (.int ky b)) (hb : 0 ≤ b) :
    RV P I h env (.bin .shl k x y) (.int kx (kx.wrap (a * 2 ^ (min b.toNat kx.bits)))) :=
  bin_ints hx hy fun t w => by
    simp only [Go.binOp, Op.shift, show ¬ b < 0 by omega, if_false]; rfl
theorem r_quo {k : EqK} {x y : Opd} {kx : IntKind} {a b : Int} (hx : ev env x = some (.int kx a)) (hy : ev env y = some (.int kx b)) (hb : b ≠ 0) :
    RV P I h env (.bin .quo k x y) (.int kx (kx.wrap (a.tdiv b))) :=
  bin_ints hx hy fun t w => by
    simp only [Go.binOp, ne_eq, not_true_eq_false, if_false, Op.intDiv, hb]; rfl
theorem r_rem {k : EqK} {x y : Opd} {kx : IntKind} {a b : Int} (hx : ev env x = some (.int kx a)) (hy : ev env y = some (.int kx b)) (hb : b ≠ 0) :
    RV P I h env (.bin .rem k x y) (.int kx (a.tmod b)) :=
  bin_ints hx hy fun t w => by
    simp only [Go.binOp, ne_eq, not_true_eq_false, if_false, Op.intDiv, hb]; rfl

/-- sums and differences that stay in range -/
theorem r_add {k : EqK} {x y : Opd} {kx : IntKind} {a b : Int} (hx : ev env x = some (.int kx a)) (hy : ev env y = some (.int kx b)) (hw : kx.wrap (a + b) = a + b) :
    RV P I h env (.bin .add k x y) (.int kx (a + b)) := by
  have := r_pure (P := P) (I := I) (h := h) (env := env) (op := .bin .add k x y) (v := .int kx (a + b)) (by simp only [pureV, hx, hy, binV, if_true, intBin, hw])
  exact this
theorem r_sub {k : EqK} {x y : Opd} {kx : IntKind} {a b : Int} (hx : ev env x = some (.int kx a)) (hy : ev env y = some (.int kx b)) (hw : kx.wrap (a - b) = a - b) :
    RV P I h env (.bin .sub k x y) (.int kx (a - b)) := by
  have := r_pure (P := P) (I := I) (h := h) (env := env) (op := .bin .sub k x y) (v := .int kx (a - b)) (by simp only [pureV, hx, hy, binV, if_true, intBin, hw])
  exact this
theorem r_mul {k : EqK} {x y : Opd} {kx : IntKind} {a b : Int} (hx : ev env x = some (.int kx a)) (hy : ev env y = some (.int kx b)) (hw : kx.wrap (a * b) = a * b) :
    RV P I h env (.bin .mul k x y) (.int kx (a * b)) := by
  have := r_pure (P := P) (I := I) (h := h) (env := env) (op := .bin .mul k x y) (v := .int kx (a * b)) (by simp only [pureV, hx, hy, binV, if_true, intBin, hw])
  exact this
end
end Go.Sx
