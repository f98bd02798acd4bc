/- A part of an engine of our own (the code is compiled to a smaller language, whose steps are proved right), nothing is claimed here: - an append that has room, into any owned cells -/
import Derived.Test.YtmpmagcepgjcdaaGreatSxSteps5
import Derived.Laws.BitsLemmas
set_option linter.all false
namespace Go.Sx
section
variable {P : Program} {I : Imm} {env : Env} {h : List Chunk} {N : Value → Imm → List Chunk → Prop}

theorem w_i64 {n : Int} (h0 : -9223372036854775808 ≤ n) (h1 : n ≤ 9223372036854775807) : IntKind.i64.wrap n = n := by rw [IntKind.wrap_i64]; omega
theorem w_u64 {n : Int} (h0 : 0 ≤ n) (h1 : n ≤ 18446744073709551615) : IntKind.u64.wrap n = n := by
  have : IntKind.u64.wrap n = n % 18446744073709551616 := by simp [IntKind.wrap, IntKind.bits, IntKind.signed]
  rw [this]; omega
theorem w_u32 {n : Int} (h0 : 0 ≤ n) (h1 : n ≤ 4294967295) : IntKind.u32.wrap n = n := by
  have : IntKind.u32.wrap n = n % 4294967296 := by simp [IntKind.wrap, IntKind.bits, IntKind.signed]
  rw [this]; omega
theorem w_u16 {n : Int} (h0 : 0 ≤ n) (h1 : n ≤ 65535) : IntKind.u16.wrap n = n := by
  have : IntKind.u16.wrap n = n % 65536 := by simp [IntKind.wrap, IntKind.bits, IntKind.signed]
  rw [this]; omega
theorem w_u8 {n : Int} (h0 : 0 ≤ n) (h1 : n ≤ 255) : IntKind.u8.wrap n = n := by rw [IntKind.wrap_u8]; omega

theorem info_of_bytes {e bt : Nat} (hbt : bytesOfT P e = some bt) : ∃ i, P.info? e = some i ∧ i.bytes = bt := by
  unfold bytesOfT at hbt
  cases hie : P.info? e with
  | none => simp [hie] at hbt
  | some i => simp [hie] at hbt; exact ⟨i, rfl, hbt⟩

/-- an append that has room, into any owned cells -/
theorem o_append_in {e sz bt n k cap b off : Nat} {z : List Value} {x y : Opd} {u : Value} {l : List Value} {c : Array Value} {fr : Nat × Nat} {e' : TypeId} {h' : List Chunk} (hx : ev env x = some (.slice (some ⟨b, off, none⟩) n cap))
    (hy : ev env y = some u) (hsrc : SrcC I h sz u k l) (hall : (l.all (·.oneCell')) = true) (hle : n + k ≤ cap) (hoff : off + (n + k) * sz ≤ c.size) (hfr : unfr fr c.size = true) (hb : (n + k) * bt ≤ 2 ^ 47) (hb2 : n + k ≤ 2 ^ 47)
    (hu : Upd b (.cells c e' fr) (.cells (putL c.toList (off + n * sz) l).toArray e' fr) h h')
    (K : N (.slice (some ⟨b, off, none⟩) (n + k) cap) I h') : OpStep P I h env (.append e sz bt z x y) N := by
  intro o ρ w hi he hh
  obtain ⟨s, q, t1, t2, hop, hs1, hq1, hu1, hu2, hsz, hbt, hz, hzl⟩ := iop_inv_append hi
  have h1 := he s _ (by rw [hs1]; exact hx)
  have h2 := he q _ (by rw [hq1]; exact hy)
  obtain ⟨hlen, hfirst⟩ := hsrc.run (P := P) hh
  have hll := hsrc.length
  obtain ⟨i, hi1, hib⟩ := info_of_bytes hbt
  have hl : ∀ w, (Builtin.lenOf u).run P w = .ok k w := by intro w; cases hsrc <;> rfl
  have hbw := hh.get hu.has
  obtain ⟨w', hr, hw'⟩ := storeCells_sound (P := P) (b := b) (off := off + n * sz) l 0 w _ hbw (by rw [Nat.add_mul] at hoff; omega) hall hfr
  refine stepR_value (v := .slice (some ⟨b, off, none⟩) (n + k) cap) (w' := w') ?_ ⟨I, h', K, ?_⟩
  · unfold execOp
    simp only [hop, Sem.run_bind, resolve, Sem.run_pure, Result.andThen_ok, invoke, builtin, List.map_toArray, List.map_cons, List.map_nil, h1, h2]
    rw [run_append_front (T := o.type) hu1 hu2 hsz hi1 hib hl hb hb2 w, if_pos hle]
    simp only [Sem.run_bind, hfirst, Result.andThen_ok, add_eq, hr, Sem.run_pure]
  · rw [hw']
    exact hh.upd hu

theorem o_copy {sz n m k cap b off : Nat} {x y : Opd} {u : Value} {l : List Value} {c : Array Value} {fr : Nat × Nat} {e' : TypeId} {h' : List Chunk} (hx : ev env x = some (.slice (some ⟨b, off, none⟩) n cap))
    (hy : ev env y = some u) (hsrc : SrcC I h sz u m l) (hk : k = Nat.min m n) (hall : (l.all (·.oneCell')) = true) (hoff : off + n * sz ≤ c.size) (hfr : unfr fr c.size = true)
    (hu : Upd b (.cells c e' fr) (.cells (putL c.toList off (l.take (k * sz))).toArray e' fr) h h')
    (K : N (.int .i64 k) I h') : OpStep P I h env (.copy sz x y) N := by
  intro o ρ w hi he hh
  obtain ⟨s, q, t1, t2, e, hop, hs1, hq1, hu1, hsz⟩ := iop_inv_copy hi
  have h1 := he s _ (by rw [hs1]; exact hx)
  have h2 := he q _ (by rw [hq1]; exact hy)
  obtain ⟨hlen, _⟩ := hsrc.run (P := P) hh
  have hll := hsrc.length
  have hbw := hh.get hu.has
  have hkn : k ≤ n := by rw [hk]; exact Nat.min_le_right _ _
  have hkm : k ≤ m := by rw [hk]; exact Nat.min_le_left _ _
  have hks : k * sz ≤ n * sz := Nat.mul_le_mul_right _ hkn
  have hkms : k * sz ≤ m * sz := Nat.mul_le_mul_right _ hkm
  have hfirst : (Builtin.firstCells sz k u).run P w = .ok (l.take (k * sz)).toArray w := by
    cases hsrc with
    | nil => simp at hkm; subst hkm; simp [Builtin.firstCells]
    | own hb1 h3 h4 => rw [run_firstCells (hh.get hb1) (by omega), ← h4, List.take_take, Nat.min_eq_left hkms]
    | imm hb1 h3 h4 => rw [run_firstCells (hh.imm _ _ hb1) (by omega), ← h4, List.take_take, Nat.min_eq_left hkms]
    | @str s h3 =>
      subst h3
      unfold Builtin.firstCells
      simp only [Sem.run_pure, Result.ok.injEq, and_true]
      apply Array.toList_inj.1
      simp
  have hall' : ((l.take (k * sz)).all (·.oneCell')) = true := by
    rw [List.all_eq_true] at hall ⊢
    intro x hx; exact hall x (List.mem_of_mem_take hx)
  obtain ⟨w', hr, hw'⟩ := storeCells_sound (P := P) (b := b) (off := off) (l.take (k * sz)) 0 w _ hbw (by simp; omega) hall' hfr
  refine stepR_value (v := .int .i64 k) (w' := w') ?_ ⟨I, h', K, ?_⟩
  · unfold execOp
    simp only [hop, Sem.run_bind, resolve, Sem.run_pure, Result.andThen_ok, invoke, builtin, List.map_toArray, List.map_cons, List.map_nil, h1, h2]
    unfold Builtin.copy_
    simp only [List.getElem?_toArray, List.getElem?_cons_zero, List.getElem?_cons_succ, Sem.run_bind, run_underlying_eq, hu1, Result.andThen_ok, run_sizeOf_of hsz, hlen, ← hk, hfirst, hr, Sem.run_pure]
    rfl
  · rw [hw']
    exact hh.upd hu

theorem zeroCells_eq (z : List Value) (n : Nat) : (Builtin.zeroCells z.toArray n).toList = repCells z n := by
  unfold Builtin.zeroCells
  induction n with
  | zero => simp [repCells]
  | succ n ih =>
    rw [repCells, ← ih]
    simp only [Array.toList_map, Array.toList_range, List.size_toArray]
    rw [Nat.add_mul, Nat.one_mul, Nat.add_comm (n * z.length) z.length, List.range_add]
    simp only [List.map_append, List.map_map]
    congr 1
    · apply List.ext_getElem
      · simp
      · intro i h1 h2
        have hi : i < z.length := by simpa using h1
        simp [Nat.mod_eq_of_lt hi, hi]
    · apply List.map_congr_left
      intro i hi
      simp

theorem repCells_length (z : List Value) (n : Nat) : (repCells z n).length = n * z.length := by
  induction n with
  | zero => simp [repCells]
  | succ n ih => simp [repCells, ih, Nat.add_mul]; omega

theorem o_clear {n cap b off : Nat} {z : List Value} {x : Opd} {c : Array Value} {fr : Nat × Nat} {e' : TypeId} {h' : List Chunk} (hx : ev env x = some (.slice (some ⟨b, off, none⟩) n cap))
    (hall : (z.all (·.oneCell')) = true) (hoff : off + n * z.length ≤ c.size) (hfr : unfr fr c.size = true)
    (hu : Upd b (.cells c e' fr) (.cells (putL c.toList off (repCells z n)).toArray e' fr) h h')
    (K : N (.tuple #[]) I h') : OpStep P I h env (.clearSl z x) N := by
  intro o ρ w hi he hh
  obtain ⟨s, t1, e, hop, hs1, hu1, hz⟩ := iop_inv_clearSl hi
  have h1 := he s _ (by rw [hs1]; exact hx)
  have hbw := hh.get hu.has
  obtain ⟨zv, hzv, hzc⟩ := run_zeroValue_cells hz w
  have hzc' : zv.cells = z.toArray := by apply Array.toList_inj.1; simp [hzc]
  have hall' : ((repCells z n).all (·.oneCell')) = true := by
    clear hu hoff hx K h1
    induction n with
    | zero => rfl
    | succ n ih => simp only [repCells, List.all_append, hall, ih, Bool.and_self]
  by_cases hn : n = 0
  · subst hn
    refine stepR_value (v := .tuple #[]) (w' := w) ?_ ⟨I, h', K, ?_⟩
    · unfold execOp
      simp only [hop, Sem.run_bind, resolve, Sem.run_pure, Result.andThen_ok, invoke, builtin, List.map_toArray, List.map_cons, List.map_nil, h1]
      unfold Builtin.clear_
      simp only [List.getElem?_toArray, List.getElem?_cons_zero, Sem.run_bind, run_underlying_eq, hu1, Result.andThen_ok]
      rfl
    · have := hh.upd hu
      have e1 : (putL c.toList off (repCells z 0)).toArray = c := by apply Array.toList_inj.1; simp [putL, repCells]
      rw [e1] at this
      have e2 : w.heap.setIfInBounds b (.cells c e' fr) = w.heap := by
        apply Array.ext_getElem?
        intro j
        rw [Array.getElem?_setIfInBounds]
        split
        · rename_i hj; subst hj; rw [hbw]; split
          · rfl
          · rename_i hn
            have hbw' : w.heap[b]? = some (.cells c e' fr) := hbw
            rw [Array.getElem?_eq_none (by omega)] at hbw'; cases hbw'
        · rfl
      have e3 : (⟨w.heap.setIfInBounds b (.cells c e' fr), w.os, w.output⟩ : HX) = w.hx := congrArg (fun A => (⟨A, w.os, w.output⟩ : HX)) e2
      exact e3 ▸ this
  · obtain ⟨w', hr, hw'⟩ := storeCells_sound (P := P) (b := b) (off := off) (repCells z n) 0 w _ hbw (by rw [repCells_length]; omega) hall' hfr
    refine stepR_value (v := .tuple #[]) (w' := w') ?_ ⟨I, h', K, ?_⟩
    · unfold execOp
      simp only [hop, Sem.run_bind, resolve, Sem.run_pure, Result.andThen_ok, invoke, builtin, List.map_toArray, List.map_cons, List.map_nil, h1]
      unfold Builtin.clear_
      obtain ⟨m, rfl⟩ : ∃ m, n = m + 1 := ⟨n - 1, by omega⟩
      simp only [List.getElem?_toArray, List.getElem?_cons_zero, Sem.run_bind, run_underlying_eq, hu1, Result.andThen_ok, hzv, hzc', zeroCells_eq, hr, Sem.run_pure]
    · rw [hw']
      exact hh.upd hu

theorem o_mkSlice {e sz bt : Nat} {z : List Value} {x y : Opd} {kl kc : IntKind} {l c : Int} (hx : ev env x = some (.int kl l)) (hy : ev env y = some (.int kc c)) (h0 : 0 ≤ l) (h1 : l ≤ c) (h2 : c * bt ≤ 2 ^ 47) (h3 : c ≤ 2 ^ 47)
    (K : ∀ b, N (.slice (some ⟨b, 0, none⟩) l.toNat c.toNat) I ((b, .cells (repCells z c.toNat).toArray e (0, 0)) :: h)) : OpStep P I h env (.mkSlice e sz bt z x y) N := by
  intro o ρ w hi he hh
  obtain ⟨t, p, q, hop, hp, hq, hu, hsz, hbt, hz, hzl⟩ := iop_inv_mkSlice hi
  have hp' := he p _ (by rw [hp]; exact hx)
  have hq' := he q _ (by rw [hq]; exact hy)
  obtain ⟨i, hi1, hib⟩ := info_of_bytes hbt
  obtain ⟨zv, hzv, hzc⟩ := run_zeroValue_cells hz w
  have hzc' : zv.cells = z.toArray := by apply Array.toList_inj.1; simp [hzc]
  have hwl : IntKind.i64.wrap l = l := w_i64 (by omega) (by omega)
  have hwc : IntKind.i64.wrap c = c := w_i64 (by omega) (by omega)
  refine stepR_value (v := .slice (some ⟨w.heap.size, 0, none⟩) l.toNat c.toNat) (w' := { w with heap := w.heap.push (.cells (repCells z c.toNat).toArray e (0, 0)) }) ?_ ⟨I, _, K _, hh.new _⟩
  unfold execOp
  simp only [hop, Sem.run_bind]
  unfold Instr.makeSlice
  have hcomm : (bt : Int) * c ≤ 2 ^ 48 := by rw [Int.mul_comm]; omega
  simp only [Sem.run_bind, run_underlying_eq, hu, Result.andThen_ok, hp', hq', asInt, asIntOf, Sem.run_pure, run_typeInfo_eq, hi1, hib, hwl, hwc]
  rw [if_neg (by
    simp only [Bool.or_eq_true, decide_eq_true_eq, not_or]
    omega)]
  simp only [Sem.run_bind, run_askRoom, Result.andThen_ok, run_sizeOf_of hsz, Sem.run_ite]
  have hcells : ∀ a : Array Value, a.toList = z ∨ c.toNat * sz = 0 → ((Array.range (c.toNat * sz)).map (a[· % a.size]!)) = (repCells z c.toNat).toArray := by
    intro a ha
    rcases ha with ha | ha
    · have : a = z.toArray := by apply Array.toList_inj.1; simp [ha]
      subst this
      have := zeroCells_eq z c.toNat
      apply Array.toList_inj.1
      rw [← this]
      simp [Builtin.zeroCells, hzl]
    · have : repCells z c.toNat = [] := List.length_eq_zero_iff.1 (by rw [repCells_length, hzl, ha])
      rw [this, ha]; simp
  by_cases hn : c.toNat * sz = 0
  · simp only [hn, if_true, Sem.run_pure, Result.andThen_ok]
    have := hcells #[] (Or.inr hn)
    rw [hn] at this
    rw [this]
    rfl
  · simp only [hn, if_false, hzv, Result.andThen_ok, Sem.run_pure]
    rw [hcells zv.cells (Or.inl hzc)]
    rfl

theorem r_strcat {k : EqK} {x y : Opd} {s t : ByteArray} (hx : ev env x = some (.string s)) (hy : ev env y = some (.string t)) (hb : s.size + t.size ≤ 9223372036854775807) :
    RV P I h env (.bin .add k x y) (.string (s ++ t)) := by
  intro o ρ w hi he hh
  obtain ⟨ty, p, q, u, hop, hp, hq, _⟩ := iop_inv_bin hi
  have h1 := he p _ (by rw [hp]; exact hx)
  have h2 := he q _ (by rw [hq]; exact hy)
  unfold execOp
  simp only [hop, Sem.run_bind, h1, h2]
  rw [run_eqGuard w (show GuardFree P ty (.string s) (.string t) from trivial)]
  simp only [Result.andThen_ok, Go.binOp, Op.stringOp]
  rw [if_neg (by rw [show IntKind.i64.max = 9223372036854775807 from by decide]; omega)]
  rfl

theorem run_getObj_map {b : Nat} {es : Array MapEntry} {ck : Nat} {w : World} (hb : w.heap[b]? = some (.map es ck)) : (getObj b).run P w = .ok (.map es ck) w := by
  simp only [getObj, Sem.run, hb]
theorem run_setObj_map {b : Nat} {es : Array MapEntry} {ck : Nat} {o : Obj} {w : World} (hb : w.heap[b]? = some (.map es ck)) : (setObj b o).run P w = .ok () { w with heap := w.heap.setIfInBounds b o } := by
  simp only [setObj, Sem.run, hb]

theorem r_len_map {x : Opd} {b : Nat} {es : Array MapEntry} {ck : Nat} (hx : ev env x = some (.map (some b))) (hb : Has b (.map es ck) h) :
    RV P I h env (.len .map x) (.int .i64 es.size) := by
  intro o ρ w hi he hh
  obtain ⟨s, t1, hop, hs, hk⟩ := iop_inv_len hi
  have h1 := he s _ (by rw [hs]; exact hx)
  have hbw := hh.get hb
  unfold execOp
  simp only [hop, Sem.run_bind, resolve, Sem.run_pure, Result.andThen_ok, invoke, builtin, List.map_toArray, List.map_cons, List.map_nil, h1]
  unfold Builtin.len_
  simp only [List.getElem?_toArray, List.getElem?_cons_zero, Sem.run_bind, run_underlying_eq]
  unfold lenK at hk
  split at hk <;> (try (cases hk; done))
  · rename_i hu
    simp only [hu, Result.andThen_ok, Sem.run_bind, run_getObj_map hbw]
    rfl
  · split at hk <;> cases hk

/-! ### maps -/
def findV (ek : EqK) (k : Value) : List MapEntry → Nat → Option (Option (Nat × Value))
  | [], _ => some none
  | e :: es, i => match eqV ek k e.key with
    | some true => some (some (i, e.val))
    | some false => findV ek k es (i + 1)
    | none => none

theorem findAsking_sound {kt : TypeId} {k : Value} (w : World) : ∀ (es : List MapEntry) (i : Nat) (r : Option (Nat × Value)), findV (eqKOf P kt) k es i = some r → (Instr.findAsking kt k es i).run P w = .ok r w
  | [], i, r, h => by simp only [findV, Option.some.injEq] at h; subst h; rfl
  | e :: es, i, r, h => by
    simp only [findV] at h
    simp only [Instr.findAsking, Sem.run_bind]
    cases hq : eqV (eqKOf P kt) k e.key with
    | none => simp [hq] at h
    | some b =>
      rw [eqV_sound hq w]
      simp only [hq] at h
      cases b
      · simp only at h
        simp only [Result.andThen_ok, Bool.false_eq_true, if_false]
        exact findAsking_sound w es (i + 1) r h
      · simp only [Option.some.injEq] at h; subst h
        simp only [Result.andThen_ok, if_true, Sem.run_pure]

theorem sameNow_eqV {kt : TypeId} {d : TypeDesc} {a b : Value} {r r' : Bool} (hu : P.underlying kt = some d) (h1 : Instr.sameNow d a b = some r) (h2 : eqV (eqKOf P kt) a b = some r') : r = r' := by
  unfold eqKOf at h2
  rw [hu] at h2
  cases d <;> simp only at h2 <;> cases a <;> cases b <;> simp only [Instr.sameNow] at h1 <;> (try (cases h1; done)) <;> simp only [eqV] at h2 <;> (try (cases h2; done))
  · simp only [Option.some.injEq] at h1 h2; rw [← h1, ← h2]
  · rename_i k1 a1 k2 a2
    by_cases hk : k1 = k2
    · simp only [hk, if_true, Option.some.injEq] at h1 h2; rw [← h1, ← h2]
    · simp [hk] at h1
  · simp only [Option.some.injEq] at h1 h2; rw [← h1, ← h2]

theorem findNow_findV {kt : TypeId} {d : TypeDesc} {k : Value} (hu : P.underlying kt = some d) : ∀ (es : List MapEntry) (i : Nat) (r r' : Option (Nat × Value)), Instr.findNow d k es i = some r → findV (eqKOf P kt) k es i = some r' → r = r'
  | [], i, r, r', h1, h2 => by simp only [Instr.findNow, findV, Option.some.injEq] at h1 h2; rw [← h1, ← h2]
  | e :: es, i, r, r', h1, h2 => by
    simp only [Instr.findNow] at h1
    simp only [findV] at h2
    cases hq : eqV (eqKOf P kt) k e.key with
    | none => simp [hq] at h2
    | some b =>
      cases hs : Instr.sameNow d k e.key with
      | none => simp [hs] at h1
      | some b' =>
        have := sameNow_eqV hu hs hq
        subst this
        simp only [hs] at h1
        simp only [hq] at h2
        cases b'
        · simp only at h1 h2; exact findNow_findV hu es (i + 1) r r' h1 h2
        · simp only [Option.some.injEq] at h1 h2; rw [← h1, ← h2]

theorem findKey_sound {kt : TypeId} {k : Value} {es : List MapEntry} {r : Option (Nat × Value)} (h : findV (eqKOf P kt) k es 0 = some r) {d : TypeDesc} (hu : P.underlying kt = some d) (w : World) :
    (Instr.findKey kt k es).run P w = .ok r w := by
  unfold Instr.findKey
  rw [Sem.run_bind, run_underlying_eq, hu]
  simp only [Result.andThen_ok]
  cases hn : Instr.findNow d k es 0 with
  | some r' => simp only [Sem.run_pure]; rw [findNow_findV hu es 0 r' r hn h]
  | none => exact findAsking_sound w es 0 r h

/-- keys of these kinds are never refused -/
def keyOK (P : Program) : Nat → TypeId → Value → Bool
  | 0, _, _ => false
  | n + 1, t, v => match P.underlying t, v with
    | some (.interface _), _ => false
    | some (.struct _), _ => false
    | some (.array len e), .agg cs => match sizeOfT P e, aggOf P e with
      | some s, some m => (List.range len).all fun i => match partV cs.toList (i * s) m with | some v => keyOK P n e v | none => false
      | _, _ => false
    | some (.array _ _), _ => false
    | some _, _ => true
    | none, _ => false

theorem checkKey_sound (b : Bool) (w : World) : ∀ (n m : Nat) (t : TypeId) (v : Value), keyOK P n t v = true → (Instr.checkKey b (n + m) t v).run P w = .ok () w
  | 0, m, t, v, h => by simp [keyOK] at h
  | n + 1, m, t, v, h => by
    rw [show n + 1 + m = (n + m) + 1 from by omega]
    unfold keyOK at h
    unfold Instr.checkKey
    rw [Sem.run_bind, run_underlying_eq]
    cases hu : P.underlying t with
    | none => simp [hu] at h
    | some d =>
      simp only [hu] at h
      simp only [Result.andThen_ok]
      cases d <;> (try simp only at h) <;> (try (cases h; done)) <;> (try rfl)
      case array len e =>
        cases v <;> (try (simp only at h)) <;> (try (cases h; done))
        rename_i cs
        cases hs : sizeOfT P e with
        | none => simp [hs] at h
        | some s =>
          cases hm : aggOf P e with
          | none => simp [hs, hm] at h
          | some q =>
            simp only [hs, hm, List.all_eq_true, List.mem_range] at h
            simp only [Std.Legacy.Range.forIn_eq_forIn_range', Std.Legacy.Range.size, Nat.sub_zero, Nat.add_one_sub_one, Nat.div_one]
            have key : ∀ is : List Nat, (∀ i ∈ is, i < len) → (forIn is () (fun i _ => (do let x ← sizeOf e; let y ← part e cs (i * x); Instr.checkKey b (n + m) e y; pure (ForInStep.yield ()) : Sem (ForInStep Unit))) : Sem Unit).run P w = .ok () w := by
              intro is
              induction is with
              | nil => intro _; rfl
              | cons i is ih =>
                intro hi
                have h1 := h i (hi i List.mem_cons_self)
                split at h1
                · rename_i v' hv'
                  simp only [List.forIn_cons, Sem.run_bind, run_sizeOf_of hs, Result.andThen_ok, run_part_of hm hv', checkKey_sound b w n m e v' h1, Sem.run_pure]
                  exact ih (fun j hj => hi j (List.mem_cons_of_mem _ hj))
                · cases h1
            have := key (List.range' 0 len) (fun i hi => by simpa using hi)
            simpa using this
end
end Go.Sx
