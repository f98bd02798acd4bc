/- A part of an engine of our own (the code is compiled to a smaller language, whose steps are proved right), nothing is claimed here: - elements that are read -/
import Derived.Test.YtmpmagcepgjcdaaGreatSxSteps4
set_option linter.all false
namespace Go.Sx
section
variable {P : Program} {I : Imm} {env : Env} {h : List Chunk} {N : Value → Imm → List Chunk → Prop}

/-- elements that are read -/
inductive SrcC (I : Imm) (h : List Chunk) (sz : Nat) : Value → Nat → List Value → Prop where
  | nil {c} : SrcC I h sz (.slice none 0 c) 0 []
  | own {b off n cap c e fr l} : Has b (.cells c e fr) h → off + n * sz ≤ c.size → (c.toList.drop off).take (n * sz) = l → SrcC I h sz (.slice (some ⟨b, off, none⟩) n cap) n l
  | imm {b off n cap c e fr l} : I b = some (.cells c e fr) → off + n * sz ≤ c.size → (c.toList.drop off).take (n * sz) = l → SrcC I h sz (.slice (some ⟨b, off, none⟩) n cap) n l
  | str {s : ByteArray} : sz = 1 → SrcC I h sz (.string s) s.size (s.data.toList.map fun b => .int .u8 b.toNat)

theorem SrcC.length {sz : Nat} {v : Value} {n : Nat} {l : List Value} (s : SrcC I h sz v n l) : l.length = n * sz := by
  cases s with
  | nil => simp
  | own _ h1 h2 => rw [← h2]; simp; omega
  | imm _ h1 h2 => rw [← h2]; simp; omega
  | str h => subst h; simp

theorem run_firstCells {w : World} {sz b off n cap m : Nat} {c : Array Value} {e : TypeId} {fr : Nat × Nat} (hb : w.heap[b]? = some (.cells c e fr)) (hle : off + m * sz ≤ c.size) :
    (Builtin.firstCells sz m (.slice (some ⟨b, off, none⟩) n cap)).run P w = .ok ((c.toList.drop off).take (m * sz)).toArray w := by
  unfold Builtin.firstCells
  simp only [loadCells]
  rw [loadCellsFrom_sound hb off (m * sz) 0 #[] (by omega)]
  simp

theorem SrcC.run {sz : Nat} {v : Value} {n : Nat} {l : List Value} (s : SrcC I h sz v n l) {w : World} (hs : Sat I h w.hx) :
    (Builtin.lenOf v).run P w = .ok n w ∧ (Builtin.firstCells sz n v).run P w = .ok l.toArray w := by
  cases s with
  | nil => exact ⟨rfl, rfl⟩
  | own hb h1 h2 => exact ⟨rfl, by rw [run_firstCells (hs.get hb) h1, h2]⟩
  | imm hb h1 h2 => exact ⟨rfl, by rw [run_firstCells (hs.imm _ _ hb) h1, h2]⟩
  | @str s h =>
    refine ⟨rfl, ?_⟩
    unfold Builtin.firstCells
    simp only [Sem.run_pure, Result.ok.injEq, and_true]
    apply Array.toList_inj.1
    have : (s.extract 0 s.size).data = s.data := by
      rw [show s.extract 0 s.size = s from by simp]
    rw [this]; simp

/-- a slice of the function's own -/
inductive Sl (e sz : Nat) : Value → List Value → Nat → List Chunk → Prop where
  | nil : Sl e sz (.slice none 0 0) [] 0 []
  | own {b n cap xs spare} : xs.length = n * sz → n ≤ cap → xs.length + spare.length = cap * sz → Sl e sz (.slice (some ⟨b, 0, none⟩) n cap) xs n [(b, .cells (xs ++ spare).toArray e (0, 0))]

theorem growBy_le (n : Nat) : ∀ (r c : Nat), 256 ≤ c → c ≤ 2 * n → Builtin.growBy n r c ≤ 2 * n
  | 0, c, _, h => h
  | r + 1, c, h1, h2 => by
    unfold Builtin.growBy
    split
    · exact h2
    · exact growBy_le n r _ (by omega) (by omega)

theorem nextslicecap_le {n c : Nat} (h : c < n) : Builtin.nextslicecap n c ≤ 2 * n := by
  unfold Builtin.nextslicecap
  split
  · omega
  · split
    · omega
    · exact growBy_le n 4 c (by omega) (by omega)

theorem run_append_front {t1 t2 e T : TypeId} {sz bt n k c : Nat} {a : Option Addr} {u : Value} {i : TypeInfo} (hu1 : P.underlying t1 = some (.slice e)) (hu2 : (∃ e2, P.underlying t2 = some (.slice e2)) ∨ P.underlying t2 = some .string) (hsz : sizeOfT P e = some sz)
  (hi1 : P.info? e = some i) (hib : i.bytes = bt) (hlen : ∀ w, (Builtin.lenOf u).run P w = .ok k w) (hb : (n + k) * bt ≤ 2 ^ 47) (hb2 : n + k ≤ 2 ^ 47) (w : World) :
   (Builtin.append_ #[t1, t2] T #[.slice a n c, u]).run P w = (if n + k ≤ c then (do
        let new ← Builtin.firstCells sz k u
        if let some a := a then storeCells (a.add (n * sz)) new.toList
        pure (.slice a (n + k) c) : Sem Value)
      else (do
        let newCap ← choose (.appendCap (n + k) c e)
        askRoom (newCap * bt)
        let old ← Builtin.firstCells sz n (.slice a n c)
        let new ← Builtin.firstCells sz k u
        let rest := Builtin.zeroCells (← zeroValue e).cells (newCap - (n + k))
        pure (.slice (some (← newRow e (old ++ new ++ rest))) (n + k) newCap) : Sem Value)).run P w := by
  unfold Builtin.append_
  simp only [List.getElem?_toArray, List.getElem?_cons_zero, List.getElem?_cons_succ, Sem.run_bind, run_underlying_eq, hu1, Result.andThen_ok, run_sizeOf_of hsz]
  rcases hu2 with ⟨e2, hu2⟩ | hu2
  all_goals
    simp only [hu2, Result.andThen_ok, Sem.run_pure, Bool.false_eq_true, if_false, Bool.not_false, if_true]
    rw [Sem.run_bind, hlen]
    simp only [Result.andThen_ok]
    by_cases hle : n + k ≤ c
    · simp only [hle, if_true]
      cases a <;> rfl
    · simp only [hle, if_false]
      rw [Sem.run_bind, run_typeInfo_eq, hi1]
      simp only [Result.andThen_ok, hib]
      rw [if_neg (by rw [show IntKind.i64.max = 9223372036854775807 from by decide]; omega)]
      rw [Sem.run_bind, run_typeInfo_eq, hi1]
      simp only [Result.andThen_ok, hib]
      have hcap := nextslicecap_le (n := n + k) (c := c) (by omega)
      have h4 : Builtin.nextslicecap (n + k) c * bt ≤ 2 * (n + k) * bt := Nat.mul_le_mul_right _ hcap
      have h3 : 2 * (n + k) * bt = 2 * ((n + k) * bt) := by rw [Nat.mul_assoc]
      rw [if_neg (by omega)]
      simp only [Sem.run_bind, run_typeInfo_eq, hi1, Result.andThen_ok, hib]
theorem zeroCells_length (z : Array Value) (n : Nat) : (Builtin.zeroCells z n).toList.length = n * z.size := by simp [Builtin.zeroCells]

theorem o_append {e sz bt n k : Nat} {z : List Value} {x y : Opd} {v u : Value} {xs l : List Value} {hs F : List Chunk} (hx : ev env x = some v) (hv : Sl e sz v xs n hs) (hw : Weak h (hs ++ F))
    (hy : ev env y = some u) (hsrc : SrcC I h sz u k l) (hall : (l.all (·.oneCell')) = true) (hb : (n + k) * bt ≤ 2 ^ 47) (hb2 : n + k ≤ 2 ^ 47)
    (K : ∀ v' hs', Sl e sz v' (xs ++ l) (n + k) hs' → N v' I (hs' ++ F)) : OpStep P I h env (.append e sz bt z x y) N := by
  intro o ρ w hi he hh
  obtain ⟨s, q, t1, t2, hop, hs1, hq1, hu1, hu2, hsz, hbt, hz, hzl⟩ := iop_inv_append hi
  have h1 := he s _ (by rw [hs1]; exact hx)
  have h2 := he q _ (by rw [hq1]; exact hy)
  obtain ⟨hlen, hfirst⟩ := hsrc.run (P := P) hh
  have hll := hsrc.length
  have hsat := hw _ _ hh
  obtain ⟨i, hi1, hib⟩ : ∃ i, P.info? e = some i ∧ i.bytes = bt := by
    unfold bytesOfT at hbt
    cases hie : P.info? e with
    | none => simp [hie] at hbt
    | some i => simp [hie] at hbt; exact ⟨i, rfl, hbt⟩
  obtain ⟨zv, hzv, hzc⟩ := run_zeroValue_cells hz w
  have front : ∀ (a : Option Addr) (c : Nat), v = .slice a n c → (execOp ρ o).run P w = ((if n + k ≤ c then (do
        let new ← Builtin.firstCells sz k u
        if let some a := a then storeCells (a.add (n * sz)) new.toList
        pure (.slice a (n + k) c) : Sem Value)
      else (do
        let newCap ← choose (.appendCap (n + k) c e)
        askRoom (newCap * bt)
        let old ← Builtin.firstCells sz n (.slice a n c)
        let new ← Builtin.firstCells sz k u
        let rest := Builtin.zeroCells (← zeroValue e).cells (newCap - (n + k))
        pure (.slice (some (← newRow e (old ++ new ++ rest))) (n + k) newCap) : Sem Value)).run P w).andThen fun v w' => .ok (.value v) w' := by
    intro a c hva
    have hl : ∀ w, (Builtin.lenOf u).run P w = .ok k w := by intro w; cases hsrc <;> rfl
    rw [← run_append_front (T := o.type) (a := a) (c := c) hu1 hu2 hsz hi1 hib hl hb hb2 w]
    unfold execOp
    simp only [hop, Sem.run_bind, resolve, Sem.run_pure, Result.andThen_ok, invoke, builtin, List.map_toArray, List.map_cons, List.map_nil, h1, h2, hva]
  have hzc' : zv.cells = z.toArray := by apply Array.toList_inj.1; simp [hzc]
  have hzrun : ∀ w', (zeroValue e).run P w' = .ok zv w' := by
    intro w'
    unfold zeroValue at hzv ⊢
    rw [Sem.run_bind, run_typeInfo_eq, hi1] at hzv ⊢
    simp only [Result.andThen_ok] at hzv ⊢
    cases hz0 : i.zero with
    | none => simp [hz0] at hzv
    | some z0 => simp [hz0] at hzv ⊢; exact hzv
  -- growing
  have grow : ∀ (a : Option Addr) (c : Nat) (old : List Value), v = .slice a n c → c < n + k → old.length = n * sz → (∀ w', w'.heap = w.heap → (Builtin.firstCells sz n (.slice a n c)).run P w' = .ok old.toArray w') → old = xs →
      StepR P ((execOp ρ o).run P w) fun v w' => ∃ I' h', N v I' h' ∧ Sat I' h' w'.hx := by
    intro a c old hva hlt hol hold hox
    rw [front a c hva, if_neg (by omega)]
    have hch : ∃ cap, n + k ≤ cap ∧ (choose (.appendCap (n + k) c e)).run P w = .ok cap { w with drawn := w.drawn + 1 } := by
      refine ⟨(Question.appendCap (n + k) c e).cut (w.tape w.drawn (.appendCap (n + k) c e)), ?_, ?_⟩
      · simp only [Question.cut]; omega
      · rw [run_choose]; simp [Question.forced]
    obtain ⟨cap, hcap, hch⟩ := hch
    have hfirst' : (Builtin.firstCells sz k u).run P { w with drawn := w.drawn + 1 } = .ok l.toArray { w with drawn := w.drawn + 1 } := (hsrc.run (P := P) (w := { w with drawn := w.drawn + 1 }) hh).2
    have hold' := hold { w with drawn := w.drawn + 1 } rfl
    simp only [Sem.run_bind, hch, Result.andThen_ok, run_askRoom, hold', hfirst', hzrun, newRow, run_newObj, Sem.run_pure]
    have hcell : (old.toArray ++ l.toArray ++ Builtin.zeroCells zv.cells (cap - (n + k))) = (xs ++ l ++ (Builtin.zeroCells zv.cells (cap - (n + k))).toList).toArray := by
      apply Array.toList_inj.1; simp [hox]
    have hzlen : (Builtin.zeroCells zv.cells (cap - (n + k))).toList.length = (cap - (n + k)) * sz := by
      rw [zeroCells_length, hzc']; simp [hzl]
    have hsl : Sl e sz (.slice (some ⟨w.heap.size, 0, none⟩) (n + k) cap) (xs ++ l) (n + k) [(w.heap.size, .cells (xs ++ l ++ (Builtin.zeroCells zv.cells (cap - (n + k))).toList).toArray e (0, 0))] := by
      refine .own ?_ hcap ?_
      · rw [List.length_append, hll, ← hox, hol, Nat.add_mul]
      · rw [List.length_append, hll, ← hox, hol, hzlen, ← Nat.add_mul, ← Nat.add_mul]; congr 1; omega
    refine ⟨I, _, K _ _ hsl, ?_⟩
    have h0 := hsat.new (.cells (xs ++ l ++ (Builtin.zeroCells zv.cells (cap - (n + k))).toList).toArray e (0, 0))
    rw [hcell]
    refine h0.sub ?_
    simp only [List.singleton_append]
    exact List.Sublist.cons_cons _ (List.sublist_append_right _ _)
  cases hv with
  | nil =>
    by_cases hk : k = 0
    · subst hk
      rw [front none 0 rfl, if_pos (by omega)]
      simp only [Sem.run_bind, hfirst, Result.andThen_ok, Sem.run_pure]
      have hl0 : l = [] := List.length_eq_zero_iff.1 (by rw [hll]; simp)
      subst hl0
      exact ⟨I, _, K _ [] .nil, hsat⟩
    · exact grow none 0 [] rfl (by omega) (by simp) (fun w' _ => rfl) rfl
  | @own b _ cap _ spare hxl hnc hcl =>
    by_cases hle : n + k ≤ cap
    · rw [front _ cap rfl, if_pos hle]
      have hbw : w.heap[b]? = some (.cells (xs ++ spare).toArray e (0, 0)) := hsat.get .head
      have hmul : (n + k) * sz ≤ cap * sz := Nat.mul_le_mul_right _ hle
      rw [Nat.add_mul] at hmul
      obtain ⟨w', hr, hw'⟩ := storeCells_sound (P := P) (b := b) (off := n * sz) l 0 w _ hbw (by simp; omega) hall (by simp [unfr])
      simp only [Sem.run_bind, hfirst, Result.andThen_ok, add_eq, Nat.zero_add, hr, Sem.run_pure]
      have hput : putL (xs ++ spare) (n * sz) l = xs ++ l ++ spare.drop l.length := by
        unfold putL
        rw [← hxl]
        simp
      have hsl : Sl e sz (.slice (some ⟨b, 0, none⟩) (n + k) cap) (xs ++ l) (n + k) [(b, .cells (xs ++ l ++ spare.drop l.length).toArray e (0, 0))] := by
        refine .own ?_ hle ?_
        · rw [List.length_append, hll, hxl, Nat.add_mul]
        · rw [List.length_append, List.length_drop, hll, hxl]; omega
      refine ⟨I, _, K _ _ hsl, ?_⟩
      rw [hw']
      have := hsat.upd (b := b) (o' := .cells (xs ++ l ++ spare.drop l.length).toArray e (0, 0)) .head
      simpa [hput] using this
    · refine grow _ cap xs rfl (by omega) hxl ?_ rfl
      intro w' hw'
      have hbw : w'.heap[b]? = some (.cells (xs ++ spare).toArray e (0, 0)) := by rw [hw']; exact hsat.get .head
      rw [run_firstCells hbw (by simp [hxl])]
      congr 1
      apply Array.toList_inj.1
      simp [← hxl]
end
end Go.Sx
