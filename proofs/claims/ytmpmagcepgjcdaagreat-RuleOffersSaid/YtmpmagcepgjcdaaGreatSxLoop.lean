/- A part of an engine of our own (the code is compiled to a smaller language, whose steps are proved right), nothing is claimed here: - a loop -/
import Derived.Test.YtmpmagcepgjcdaaGreatSxDraw
import Derived.Test.YtmpmagcepgjcdaaGreatSxNorm
import Derived.Test.YtmpmagcepgjcdaaGreatSxSteps10
set_option linter.all false
namespace Go.Sx
section
variable {C : Cx} {I : Imm} {env : Env} {h : List Chunk} {K : List KI}

/-- a loop -/
theorem sg_while {σ : Type} (Pr : σ → Prop) (m : σ → Nat) (J : σ → Imm) (E : σ → Env) (H : σ → List Chunk) {a : IR}
    (step : ∀ s, Pr s → (∀ s', Pr s' → m s' < m s → SG C (J s') (E s') (H s') (.lp a :: K)) → SG C (J s) (E s) (H s) (.ir a :: .lp a :: K)) (s : σ) (hs : Pr s) :
    SG C (J s) (E s) (H s) (.ir a :: .lp a :: K) := by
  have key : ∀ (n : Nat) (s : σ), m s ≤ n → Pr s → SG C (J s) (E s) (H s) (.ir a :: .lp a :: K) := by
    intro n
    induction n with
    | zero => exact fun s hn hp => step s hp fun s' hp' hlt => absurd hlt (by omega)
    | succ n ih => exact fun s hn hp => step s hp fun s' hp' hlt => sg_lp (ih s' (by omega) hp')
  exact key _ s (Nat.le_refl _) hs

theorem sd_conv {I0 : Imm} {h0 : List Chunk} {I' : Imm} {h' : List Chunk} {l : List (Option Bool × In)} (hc : ∀ H, Sat I h H → Sat I' h' H) (g : SD C I0 h0 I' env h' l K) : SD C I0 h0 I env h l K := by
  exact fun tmps w todo ops c hs ha hh hk hd => g tmps w todo ops c hs ha (hc _ hh) hk hd
theorem sg_conv {I' : Imm} {h' : List Chunk} (hc : ∀ H, Sat I h H → Sat I' h' H) (g : SG C I' env h' K) : SG C I env h K :=
  fun tmps w todo hs ha hh hk => g tmps w todo hs ha (hc _ hh) hk
theorem sg_freezeJ {b o h'} (x : Pick (b, o) h h') (g : ∀ J, I ≤ J → J b = some o → SG C J env h' K) : SG C I env h K :=
  sg_freeze x fun hle => g _ hle (by simp [Imm.add])
theorem sd_freezeJ {I0 : Imm} {h0 : List Chunk} {l : List (Option Bool × In)} {b o h'} (x : Pick (b, o) h h') (g : ∀ J, I ≤ J → J b = some o → SD C I0 h0 J env h' l K) : SD C I0 h0 I env h l K :=
  fun tmps w todo ops c hs ha hh hk hd => g (I.add b o) (hh.pick x).le_add (by simp [Imm.add]) tmps w todo ops c hs ha (hh.pick x).freeze hk hd
theorem satw {J : Imm} {H : HX} (hle : I ≤ J) (s : Sat J h H) : Sat I [] H := (s.weaken hle).sub (List.nil_sublist _)
theorem satb {J : Imm} {H : HX} (hle : I ≤ J) (s : Sat J h H) : Sat I h H := s.weaken hle

theorem Sl.imm {J : Imm} {e sz n b : Nat} {xs spare : List Value} {fr : Nat × Nat} {cap : Nat} (hb : J b = some (.cells (xs ++ spare).toArray e fr)) (hn : xs.length = n * sz) : SrcC J [] sz (.slice (some ⟨b, 0, none⟩) n cap) n xs := by
  refine .imm hb (by simp [hn]) ?_
  simp [← hn]
theorem sg_freezeSl {e sz n : Nat} {v : Value} {xs : List Value} {hs F : List Chunk} (s : Sl e sz v xs n hs) (g : ∀ J a c, I ≤ J → v = .slice a n c → SrcC J [] sz v n xs → SG C J env F K) : SG C I env (hs ++ F) K := by
  cases s with
  | nil => exact g I none 0 (Imm.le_refl _) rfl .nil
  | own h1 h2 h3 => exact sg_freezeJ .head fun J hJ hb => g J _ _ hJ rfl (Sl.imm hb h1)
theorem sd_freezeSl {I0 : Imm} {h0 : List Chunk} {l : List (Option Bool × In)} {e sz n : Nat} {v : Value} {xs : List Value} {hs F : List Chunk} (s : Sl e sz v xs n hs) (g : ∀ J a c, I ≤ J → v = .slice a n c → SrcC J [] sz v n xs → SD C I0 h0 J env F l K) :
    SD C I0 h0 I env (hs ++ F) l K := by
  cases s with
  | nil => exact g I none 0 (Imm.le_refl _) rfl .nil
  | own h1 h2 h3 => exact sd_freezeJ .head fun J hJ hb => g J _ _ hJ rfl (Sl.imm hb h1)
theorem r_conv {P : Program} {k k' : IntKind} {x : Opd} {a : Int} (hx : ev env x = some (.int k' a)) (hw : k.wrap a = a) : RV P I h env (.conv (.int k) x) (.int k a) := by
  have := r_pure (P := P) (I := I) (h := h) (env := env) (op := .conv (.int k) x) (v := .int k a) (by simp only [pureV, hx, hw])
  exact this
theorem r_idx_agg {P : Program} {m s : Nat} {n : Option Nat} {x i : Opd} {cs : Array Value} {k : IntKind} {j : Int} {v : Value} (hx : ev env x = some (.agg cs)) (hi : ev env i = some (.int k j)) (h0 : 0 ≤ j) (h1 : j < m)
    (hv : partV cs.toList (j.toNat * s) n = some v) : RV P I h env (.idx (.arr m s) n x i) v := by
  intro o ρ w hio he hh
  obtain ⟨t, y, ji, hop, hy, hj, hk⟩ := iop_inv_idx hio
  have h2 := he y _ (by rw [hy]; exact hx)
  have h3 := he ji _ (by rw [hj]; exact hi)
  rcases hk with ⟨hk, _⟩ | ⟨m', e, s', hk, hu, hs, ha⟩
  · cases hk
  · cases hk
    unfold execOp
    simp only [hop, Sem.run_bind, Instr.index, h2, h3, asIntOf, Sem.run_pure, Result.andThen_ok, run_underlying_eq, hu]
    rw [if_pos ⟨h0, h1⟩]
    simp only [Sem.run_bind, run_sizeOf_of hs, Result.andThen_ok, run_part_of ha hv]
theorem r_idx_str {P : Program} {n : Option Nat} {x i : Opd} {s : ByteArray} {k : IntKind} {j : Int} {b : UInt8} (hx : ev env x = some (.string s)) (hi : ev env i = some (.int k j)) (h0 : 0 ≤ j)
    (hv : s[j.toNat]? = some b) : RV P I h env (.idx .str n x i) (.int .u8 b.toNat) := by
  intro o ρ w hio he hh
  obtain ⟨t, y, ji, hop, hy, hj, hk⟩ := iop_inv_idx hio
  have h2 := he y _ (by rw [hy]; exact hx)
  have h3 := he ji _ (by rw [hj]; exact hi)
  rcases hk with ⟨_, hu⟩ | ⟨m', e, s', hk, _⟩
  · unfold execOp
    simp only [hop, Sem.run_bind, Instr.index, h2, h3, asIntOf, Sem.run_pure, Result.andThen_ok, run_underlying_eq, hu]
    rw [if_pos h0, hv]
    simp only [Sem.run_pure, Result.andThen_ok]
  · cases hk
/-- a call with what it may turn -/
theorem o_callw {P : Program} {N : Value → Imm → List Chunk → Prop} {f : Opd} {as : List Opd} {vs : List Value} {gf : FuncId} {hc F : List Chunk} {Q : Value → Imm → List Chunk → Prop}
    (hf : ev env f = some (.func (.func gf) #[] #[])) (has : evList (ev env) as = some vs) (hsplit : Weak h (hc ++ F)) (hspec : Spec P gf vs I hc Q)
    (k : ∀ v I' h', I ≤ I' → Q v I' h' → N v I' (h' ++ F)) : OpStep P I h env (.call f as) N :=
  o_calls hf has hsplit (by simpa using hspec) k
/-- a call of a function value -/
theorem o_callc {P : Program} {N : Value → Imm → List Chunk → Prop} {f : Opd} {as : List Opd} {vs ws : List Value} {gf : FuncId} {cap : Array Value} {hc F : List Chunk} {Q : Value → Imm → List Chunk → Prop}
    (hf : ev env f = some (.func (.func gf) #[] cap)) (has : evList (ev env) as = some vs) (hws : vs ++ cap.toList = ws) (hsplit : Weak h (hc ++ F)) (hspec : Spec P gf ws I hc Q)
    (k : ∀ v I' h', I ≤ I' → Q v I' h' → N v I' (h' ++ F)) : OpStep P I h env (.call f as) N :=
  o_calls hf has hsplit (by subst hws; simpa using hspec) k
theorem r_lss_t {P : Program} {k : EqK} {x y : Opd} {kx : IntKind} {a b : Int} (hx : ev env x = some (.int kx a)) (hy : ev env y = some (.int kx b)) (hab : a < b) : RV P I h env (.bin .lss k x y) (.bool true) := by
  have := r_pure (P := P) (I := I) (h := h) (env := env) (op := .bin .lss k x y) (v := .bool true) (by simp only [pureV, hx, hy, binV, if_true, intBin, Option.some.injEq, Value.bool.injEq]; simp; omega)
  exact this
theorem r_lss_f {P : Program} {k : EqK} {x y : Opd} {kx : IntKind} {a b : Int} (hx : ev env x = some (.int kx a)) (hy : ev env y = some (.int kx b)) (hab : b ≤ a) : RV P I h env (.bin .lss k x y) (.bool false) := by
  have := r_pure (P := P) (I := I) (h := h) (env := env) (op := .bin .lss k x y) (v := .bool false) (by simp only [pureV, hx, hy, binV, if_true, intBin, Option.some.injEq, Value.bool.injEq]; simp; omega)
  exact this
theorem r_leq_t {P : Program} {k : EqK} {x y : Opd} {kx : IntKind} {a b : Int} (hx : ev env x = some (.int kx a)) (hy : ev env y = some (.int kx b)) (hab : a ≤ b) : RV P I h env (.bin .leq k x y) (.bool true) := by
  have := r_pure (P := P) (I := I) (h := h) (env := env) (op := .bin .leq k x y) (v := .bool true) (by simp only [pureV, hx, hy, binV, if_true, intBin, Option.some.injEq, Value.bool.injEq]; simp; omega)
  exact this
theorem r_leq_f {P : Program} {k : EqK} {x y : Opd} {kx : IntKind} {a b : Int} (hx : ev env x = some (.int kx a)) (hy : ev env y = some (.int kx b)) (hab : b < a) : RV P I h env (.bin .leq k x y) (.bool false) := by
  have := r_pure (P := P) (I := I) (h := h) (env := env) (op := .bin .leq k x y) (v := .bool false) (by simp only [pureV, hx, hy, binV, if_true, intBin, Option.some.injEq, Value.bool.injEq]; simp; omega)
  exact this
theorem r_gtr_t {P : Program} {k : EqK} {x y : Opd} {kx : IntKind} {a b : Int} (hx : ev env x = some (.int kx a)) (hy : ev env y = some (.int kx b)) (hab : a > b) : RV P I h env (.bin .gtr k x y) (.bool true) := by
  have := r_pure (P := P) (I := I) (h := h) (env := env) (op := .bin .gtr k x y) (v := .bool true) (by simp only [pureV, hx, hy, binV, if_true, intBin, Option.some.injEq, Value.bool.injEq]; simp; omega)
  exact this
theorem r_gtr_f {P : Program} {k : EqK} {x y : Opd} {kx : IntKind} {a b : Int} (hx : ev env x = some (.int kx a)) (hy : ev env y = some (.int kx b)) (hab : a ≤ b) : RV P I h env (.bin .gtr k x y) (.bool false) := by
  have := r_pure (P := P) (I := I) (h := h) (env := env) (op := .bin .gtr k x y) (v := .bool false) (by simp only [pureV, hx, hy, binV, if_true, intBin, Option.some.injEq, Value.bool.injEq]; simp; omega)
  exact this
theorem r_geq_t {P : Program} {k : EqK} {x y : Opd} {kx : IntKind} {a b : Int} (hx : ev env x = some (.int kx a)) (hy : ev env y = some (.int kx b)) (hab : a ≥ b) : RV P I h env (.bin .geq k x y) (.bool true) := by
  have := r_pure (P := P) (I := I) (h := h) (env := env) (op := .bin .geq k x y) (v := .bool true) (by simp only [pureV, hx, hy, binV, if_true, intBin, Option.some.injEq, Value.bool.injEq]; simp; omega)
  exact this
theorem r_geq_f {P : Program} {k : EqK} {x y : Opd} {kx : IntKind} {a b : Int} (hx : ev env x = some (.int kx a)) (hy : ev env y = some (.int kx b)) (hab : a < b) : RV P I h env (.bin .geq k x y) (.bool false) := by
  have := r_pure (P := P) (I := I) (h := h) (env := env) (op := .bin .geq k x y) (v := .bool false) (by simp only [pureV, hx, hy, binV, if_true, intBin, Option.some.injEq, Value.bool.injEq]; simp; omega)
  exact this
theorem r_eql_t {P : Program} {k : EqK} {x y : Opd} {kx : IntKind} {a b : Int} (hx : ev env x = some (.int kx a)) (hy : ev env y = some (.int kx b)) (hab : a = b) : RV P I h env (.bin .eql k x y) (.bool true) := by
  have := r_pure (P := P) (I := I) (h := h) (env := env) (op := .bin .eql k x y) (v := .bool true) (by simp only [pureV, hx, hy, binV, if_true, intBin, Option.some.injEq, Value.bool.injEq]; simp; omega)
  exact this
theorem r_eql_f {P : Program} {k : EqK} {x y : Opd} {kx : IntKind} {a b : Int} (hx : ev env x = some (.int kx a)) (hy : ev env y = some (.int kx b)) (hab : a ≠ b) : RV P I h env (.bin .eql k x y) (.bool false) := by
  have := r_pure (P := P) (I := I) (h := h) (env := env) (op := .bin .eql k x y) (v := .bool false) (by simp only [pureV, hx, hy, binV, if_true, intBin, Option.some.injEq, Value.bool.injEq]; simp; omega)
  exact this
theorem r_neq_t {P : Program} {k : EqK} {x y : Opd} {kx : IntKind} {a b : Int} (hx : ev env x = some (.int kx a)) (hy : ev env y = some (.int kx b)) (hab : a ≠ b) : RV P I h env (.bin .neq k x y) (.bool true) := by
  have := r_pure (P := P) (I := I) (h := h) (env := env) (op := .bin .neq k x y) (v := .bool true) (by simp only [pureV, hx, hy, binV, if_true, intBin, Option.some.injEq, Value.bool.injEq]; simp; omega)
  exact this
theorem r_neq_f {P : Program} {k : EqK} {x y : Opd} {kx : IntKind} {a b : Int} (hx : ev env x = some (.int kx a)) (hy : ev env y = some (.int kx b)) (hab : a = b) : RV P I h env (.bin .neq k x y) (.bool false) := by
  have := r_pure (P := P) (I := I) (h := h) (env := env) (op := .bin .neq k x y) (v := .bool false) (by simp only [pureV, hx, hy, binV, if_true, intBin, Option.some.injEq, Value.bool.injEq]; simp; omega)
  exact this
theorem r_half {P : Program} {k : EqK} {x y : Opd} {kx ky : IntKind} {a : Int} (hx : ev env x = some (.int kx a)) (hy : ev env y = some (.int ky 1)) (hk : 1 ≤ kx.bits) : RV P I h env (.bin .shr k x y) (.int kx (a / 2)) := by
  have := r_shr (P := P) (I := I) (h := h) (k := k) hx hy (by omega)
  have e : a.fdiv (2 ^ (min (1 : Int).toNat kx.bits)) = a / 2 := by
    rw [show min (1 : Int).toNat kx.bits = 1 by simp; omega]
    rw [Int.fdiv_eq_ediv_of_nonneg _ (by decide)]; rfl
  rw [e] at this
  exact this
theorem r_lookup_imm {P : Program} {ek : EqK} {z : Value} {ok : Bool} {x i : Opd} {b : Nat} {es : Array MapEntry} {ck : Nat} {kv : Value} {r : Option (Nat × Value)} (hx : ev env x = some (.map (some b))) (hi : ev env i = some kv)
    (hb : I b = some (.map es ck)) (hk : keyV ek kv = true) (hf : findV ek kv es.toList 0 = some r) : RV P I h env (.lookup ek z ok x i) (lookRes r z ok) :=
  r_lookup_of hx hi (fun _ hs => ⟨ck, hs.imm _ _ hb⟩) hk hf
theorem o_rangeMap_imm {P : Program} {N : Value → Imm → List Chunk → Prop} {x : Opd} {m ck : Nat} {es : Array MapEntry} (hx : ev env x = some (.map (some m))) (hb : I m = some (.map es ck))
    (k : ∀ b, N (.pointer (some ⟨b, 0, none⟩)) I ((b, .mapIter (some m) ck #[] ck) :: h)) : OpStep P I h env (.rangeMap x) N := by
  intro o ρ w hi he hh
  obtain ⟨t, y, kt, e, hop, hy, hu⟩ := iop_inv_rangeMap hi
  have hv := he y _ (by rw [hy]; exact hx)
  refine stepR_value (v := .pointer (some ⟨w.heap.size, 0, none⟩)) (w' := { w with heap := w.heap.push (.mapIter (some m) ck #[] ck) }) ?_ ⟨I, _, k _, hh.new _⟩
  unfold execOp
  simp only [hop, hv]
  unfold Instr.range
  simp only [Sem.run_bind, run_underlying_eq, hu, Result.andThen_ok, run_getObj_map (hh.imm _ _ hb), Sem.run_pure, run_newObj]
theorem r_next_empty_imm {P : Program} {N : Value → Imm → List Chunk → Prop} {x : Opd} {m r since last ck : Nat} (hx : ev env x = some (.pointer (some ⟨r, 0, none⟩))) (hr : Has r (.mapIter (some m) since #[] last) h) (hb : I m = some (.map #[] ck))
    (k : N (.tuple #[.bool false]) I h) : OpStep P I h env (.next x false) N := by
  intro o ρ w hi he hh
  obtain ⟨y, hop, hy⟩ := iop_inv_next hi
  have hv := he y _ (by rw [hy]; exact hx)
  refine stepR_value (v := .tuple #[.bool false]) (w' := w) ?_ ⟨I, h, k, hh⟩
  have hg : (getObj r).run P w = .ok (.mapIter (some m) since #[] last) w := by simp [getObj, Sem.run, hh.get hr]
  unfold execOp
  simp only [hop, hv]
  unfold Instr.next
  simp only [Sem.run_bind, Sem.run_pure, Result.andThen_ok, hg, run_getObj_map (hh.imm _ _ hb)]
  have ef : ∀ f : MapEntry → Bool, Array.filter f #[] = #[] := fun f => by apply Array.toList_inj.1; rfl
  simp only [ef]
  have e1 : ((if (#[] : Array MapEntry).isEmpty = true then #[none] else #[]) ++ Array.map some ((#[] : Array MapEntry) ++ #[])) = (#[none] : Array (Option MapEntry)) := by simp
  simp only [e1]
  rw [if_neg (by simp)]
  simp only [Sem.run_bind, run_choose]
  rw [if_pos (by rfl)]
  rfl
theorem imm_elemN {sz n cap : Nat} {j : Int} {a : Option Addr} {L : List Value} (s : SrcC I [] sz (.slice a n cap) n L) (h0 : 0 ≤ j) (hj : j < n) :
    ∃ b off cs e fr, a = some ⟨b, off, none⟩ ∧ I b = some (.cells cs e fr) ∧ cutV cs.toList (off + j.toNat * sz) (some sz) = some (.agg ((L.drop (j.toNat * sz)).take sz).toArray) ∧
      ∀ k, k < sz → cutV cs.toList (off + j.toNat * sz + k) none = L[j.toNat * sz + k]? := by
  have hlen := s.length
  generalize hv : Value.slice a n cap = v at s
  cases s with
  | nil => cases hv; omega
  | own hb _ _ => cases hb
  | str h => cases hv
  | @imm b off _ cap' cs e fr _ hb h1 h2 =>
    cases hv
    have hm : (j.toNat + 1) * sz ≤ n * sz := Nat.mul_le_mul_right _ (by omega)
    rw [Nat.add_mul, Nat.one_mul] at hm
    subst h2
    refine ⟨b, off, cs, e, fr, rfl, hb, ?_, fun k hk => ?_⟩
    · unfold cutV
      simp only
      rw [if_pos (by rw [Array.length_toList]; omega)]
      congr 3
      rw [List.drop_take, List.drop_drop, List.take_take]
      congr 1
      omega
    · unfold cutV
      simp only
      rw [List.getElem?_take, List.getElem?_drop, if_pos (by omega)]
      congr 1
      omega
theorem imm_elem {n cap : Nat} {j : Int} {a : Option Addr} {L : List Value} (s : SrcC I [] 1 (.slice a n cap) n L) (h0 : 0 ≤ j) (hj : j < n) :
    ∃ b off cs e fr, a = some ⟨b, off, none⟩ ∧ I b = some (.cells cs e fr) ∧ ∀ v, L[j.toNat]? = some v → cutV cs.toList (off + j.toNat * 1) none = some v := by
  obtain ⟨b, off, cs, e, fr, h1, h2, _, h4⟩ := imm_elemN s h0 hj
  refine ⟨b, off, cs, e, fr, h1, h2, fun v hv => ?_⟩
  have := h4 0 (by omega)
  rw [Nat.add_zero] at this
  rw [this, ← hv]
  congr 1
  omega
end
end Go.Sx
