/- A part of an engine of our own (the code is compiled to a smaller language, whose steps are proved right), nothing is claimed here: - an append for which there is no room -/
import Derived.Test.YtmpmagcepgjcdaaGreatSxEx3
set_option linter.all false
namespace Go.Sx

section
variable {P : Program} {I : Imm} {env : Env} {h : List Chunk} {N : Value → Imm → List Chunk → Prop}

theorem append_front {e sz bt n k c : Nat} {a : Option Addr} {u : Value} {z : List Value} {x y : Opd} (hx : ev env x = some (.slice a n c)) (hy : ev env y = some u) (hlen : ∀ w, (Builtin.lenOf u).run P w = .ok k w)
    (hb : (n + k) * bt ≤ 2 ^ 47) (hb2 : n + k ≤ 2 ^ 47) {o : Oper} {ρ : Operand → Value} {w : World} (hi : iop P o = .append e sz bt z x y) (he : EvOK (ev env) ρ) :
    (execOp ρ o).run P w = ((if n + k ≤ c then (do
        let new ← Builtin.firstCells sz k u
        if let some a := a then storeCells (a.add (n * sz)) new.toList
        pure (.slice a (n + k) c) : Sem Value)
      else (do
        let newCap ← choose (.appendCap (n + k) c e)
        askRoom (newCap * bt)
        let old ← Builtin.firstCells sz n (.slice a n c)
        let new ← Builtin.firstCells sz k u
        let rest := Builtin.zeroCells (← zeroValue e).cells (newCap - (n + k))
        pure (.slice (some (← newRow e (old ++ new ++ rest))) (n + k) newCap) : Sem Value)).run P w).andThen fun v w' => .ok (.value v) w' := by
  obtain ⟨s, q, t1, t2, hop, hs1, hq1, hu1, hu2, hsz, hbt, hz, hzl⟩ := iop_inv_append hi
  have h1 := he s _ (by rw [hs1]; exact hx)
  have h2 := he q _ (by rw [hq1]; exact hy)
  obtain ⟨i, hi1, hib⟩ := info_of_bytes hbt
  unfold execOp
  simp only [hop, Sem.run_bind, resolve, Sem.run_pure, Result.andThen_ok, invoke, builtin, List.map_toArray, List.map_cons, List.map_nil, h1, h2]
  rw [run_append_front (T := o.type) (a := a) (c := c) hu1 hu2 hsz hi1 hib hlen hb hb2 w]
  rfl

theorem SrcC.lenOf {sz : Nat} {v : Value} {n : Nat} {l : List Value} (s : SrcC I h sz v n l) (w : World) : (Builtin.lenOf v).run P w = .ok n w := by cases s <;> rfl

/-- an append for which there is no room -/
theorem o_append_grow {e sz bt n k c : Nat} {z : List Value} {x y : Opd} {a : Option Addr} {u : Value} {xs l : List Value} (hx : ev env x = some (.slice a n c)) (hsx : SrcC I h sz (.slice a n c) n xs)
    (hy : ev env y = some u) (hsrc : SrcC I h sz u k l) (hroom : c < n + k) (hb : (n + k) * bt ≤ 2 ^ 47) (hb2 : n + k ≤ 2 ^ 47)
    (K : ∀ b rest cap, n + k ≤ cap → (xs ++ l).length + rest.length = cap * sz → N (.slice (some ⟨b, 0, none⟩) (n + k) cap) I ((b, .cells (xs ++ l ++ rest).toArray e (0, 0)) :: h)) : OpStep P I h env (.append e sz bt z x y) N := by
  intro o ρ w hi he hh
  rw [append_front hx hy hsrc.lenOf hb hb2 hi he, if_neg (by omega)]
  obtain ⟨s, q, t1, t2, hop, hs1, hq1, hu1, hu2, hsz, hbt, hz, hzl⟩ := iop_inv_append hi
  have hll := hsrc.length
  have hxl := hsx.length
  have hzrun : ∀ w', ∃ zv, (zeroValue e).run P w' = .ok zv w' ∧ zv.cells = z.toArray := by
    intro w'
    obtain ⟨zv, h3, h4⟩ := run_zeroValue_cells hz w'
    exact ⟨zv, h3, by apply Array.toList_inj.1; simp [h4]⟩
  have hch : ∃ cap, n + k ≤ cap ∧ (choose (.appendCap (n + k) c e)).run P w = .ok cap { w with drawn := w.drawn + 1 } := by
    refine ⟨(Question.appendCap (n + k) c e).cut (w.tape w.drawn (.appendCap (n + k) c e)), ?_, ?_⟩
    · simp only [Question.cut]; omega
    · rw [run_choose]; simp [Question.forced]
  obtain ⟨cap, hcap, hch⟩ := hch
  obtain ⟨zv, hz1, hz2⟩ := hzrun { w with drawn := w.drawn + 1 }
  have hold := (hsx.run (P := P) (w := { w with drawn := w.drawn + 1 }) hh).2
  have hnew := (hsrc.run (P := P) (w := { w with drawn := w.drawn + 1 }) hh).2
  simp only [Sem.run_bind, hch, Result.andThen_ok, run_askRoom, hold, hnew, hz1, newRow, run_newObj, Sem.run_pure]
  have hcell : (xs.toArray ++ l.toArray ++ Builtin.zeroCells zv.cells (cap - (n + k))) = (xs ++ l ++ (Builtin.zeroCells zv.cells (cap - (n + k))).toList).toArray := by
    apply Array.toList_inj.1; simp
  rw [hcell]
  refine ⟨I, _, K _ _ cap hcap ?_, hh.new _⟩
  have hzlen : (Builtin.zeroCells zv.cells (cap - (n + k))).toList.length = (cap - (n + k)) * sz := by
    rw [zeroCells_length, hz2]; simp [hzl]
  rw [List.length_append, hll, hxl, hzlen, ← Nat.add_mul, ← Nat.add_mul]; congr 1; omega

/-- an append of nothing -/
theorem o_append_zero {e sz bt n c : Nat} {z : List Value} {x y : Opd} {a : Option Addr} {u : Value} (hx : ev env x = some (.slice a n c)) (hy : ev env y = some u)
    (hu : u = .string ⟨⟨[]⟩⟩ ∨ ∃ a' c', u = .slice a' 0 c') (hn : n ≤ c) (hb : n * bt ≤ 2 ^ 47) (hb2 : n ≤ 2 ^ 47) (K : N (.slice a n c) I h) : OpStep P I h env (.append e sz bt z x y) N := by
  intro o ρ w hi he hh
  have hl : ∀ w, (Builtin.lenOf u).run P w = .ok 0 w := by
    intro w
    rcases hu with rfl | ⟨a', c', rfl⟩ <;> rfl
  have hf : (Builtin.firstCells sz 0 u).run P w = .ok #[] w := by
    rcases hu with rfl | ⟨a', c', rfl⟩
    · simp [Builtin.firstCells]
    · cases a' with
      | none => rfl
      | some a' => simp [Builtin.firstCells, loadCells, loadCellsFrom]
  rw [append_front hx hy hl (by simpa using hb) hb2 hi he, if_pos (by omega)]
  simp only [Sem.run_bind, hf, Result.andThen_ok]
  cases a with
  | none => exact ⟨I, h, K, hh⟩
  | some a => exact ⟨I, h, K, hh⟩

theorem first_zero {sz : Nat} {u : Value} (hu : (∃ s, u = .string s) ∨ ∃ a n c, u = .slice a n c) (w : World) : (Builtin.firstCells sz 0 u).run P w = .ok #[] w := by
  rcases hu with ⟨s, rfl⟩ | ⟨a, n, c, rfl⟩
  · simp [Builtin.firstCells]
  · cases a with
    | none => rfl
    | some a => simp [Builtin.firstCells, loadCells, loadCellsFrom]
theorem SrcC.shape {sz : Nat} {v : Value} {n : Nat} {l : List Value} (s : SrcC I h sz v n l) : (∃ s, v = .string s) ∨ ∃ a n c, v = .slice a n c := by
  cases s
  · exact .inr ⟨_, _, _, rfl⟩
  · exact .inr ⟨_, _, _, rfl⟩
  · exact .inr ⟨_, _, _, rfl⟩
  · exact .inl ⟨_, rfl⟩

/-- a copy of nothing -/
theorem o_copy_zero {sz m k c : Nat} {x y : Opd} {a : Option Addr} {u : Value} (hx : ev env x = some (.slice a m c)) (hy : ev env y = some u) (hu : (∃ s, u = .string s) ∨ ∃ a n c, u = .slice a n c)
    (hl : ∀ w, (Builtin.lenOf u).run P w = .ok k w) (h0 : Nat.min k m = 0) (K : N (.int .i64 0) I h) : OpStep P I h env (.copy sz x y) N := by
  intro o ρ w hi he hh
  obtain ⟨s, q, t1, t2, e, hop, hs1, hq1, hu1, hsz⟩ := iop_inv_copy hi
  have h1 := he s _ (by rw [hs1]; exact hx)
  have h2 := he q _ (by rw [hq1]; exact hy)
  refine stepR_value (v := .int .i64 0) (w' := w) ?_ ⟨I, h, K, hh⟩
  unfold execOp
  simp only [hop, Sem.run_bind, resolve, Sem.run_pure, Result.andThen_ok, invoke, builtin, List.map_toArray, List.map_cons, List.map_nil, h1, h2]
  unfold Builtin.copy_
  simp only [List.getElem?_toArray, List.getElem?_cons_zero, List.getElem?_cons_succ, Sem.run_bind, run_underlying_eq, hu1, Result.andThen_ok, run_sizeOf_of hsz, hl, h0, first_zero hu]
  cases a <;> rfl

theorem o_strBytes {el : Nat} {x : Opd} {s : ByteArray} (hx : ev env x = some (.string s)) 
    (K : ∀ b rest cap fr, s.size ≤ cap → s.size + rest.length = cap → unfr fr cap = true → N (.slice (some ⟨b, 0, none⟩) s.size cap) I ((b, .cells ((s.data.toList.map fun b => .int .u8 b.toNat) ++ rest).toArray el fr) :: h)) :
    OpStep P I h env (.conv (.strBytes el) x) N := by
  intro o ρ w hi he hh
  obtain ⟨s', d, y, hop, hy, hus, hud, hu8⟩ := iop_inv_conv hi
  have hv := he y _ (by rw [hy]; exact hx)
  have hch : ∃ (cap : Nat) (w1 : World), w1.hx = w.hx ∧ s.size ≤ cap ∧ (choose (.appendCap s.size 0 el)).run P w = .ok cap w1 := by
    refine ⟨(Question.appendCap s.size 0 el).cut (w.tape w.drawn (.appendCap s.size 0 el)), { w with drawn := w.drawn + 1 }, rfl, ?_, ?_⟩
    · simp only [Question.cut]; omega
    · rw [run_choose]; simp [Question.forced]
  obtain ⟨cap, w1, hx1, hcap, hch⟩ := hch
  have hw1 : w1.heap = w.heap := congrArg HX.a hx1
  have hos1 : w1.os = w.os := congrArg HX.os hx1
  have hout1 : w1.output = w.output := congrArg HX.out hx1
  have hall : ((s.data.map fun b => Value.int .u8 b.toNat) ++ Array.replicate (cap - s.size) (Value.int .u8 0)) = ((s.data.toList.map fun b => Value.int .u8 b.toNat) ++ List.replicate (cap - s.size) (Value.int .u8 0)).toArray := by
    apply Array.toList_inj.1; simp
  have hlen : (s.data.toList.map fun b => Value.int .u8 b.toNat).length = s.size := by rw [List.length_map]; rfl
  unfold execOp
  simp only [hop, hv]
  unfold convert
  simp only [Sem.run_bind, run_underlying_eq, hus, hud, hu8, Result.andThen_ok]
  unfold Conv.stringToBytes
  simp only [Sem.run_bind, hch, Result.andThen_ok, newRow, run_newObj, Sem.run_pure, hall]
  unfold markStringish
  have hsh : ({ w1 with heap := w1.heap.push (.cells ((s.data.toList.map fun b => Value.int .u8 b.toNat) ++ List.replicate (cap - s.size) (Value.int .u8 0)).toArray el (0, 0)) } : World).shape? w1.heap.size = some (el, cap) := by
    simp only [World.shape?, Array.getElem?_push_size, List.size_toArray, List.length_append, List.length_replicate, hlen]
    congr 2; omega
  simp only [Sem.run_bind, run_shape, hsh, Result.andThen_ok, run_freeze, Sem.run_pure]
  refine ⟨I, _, K w1.heap.size (List.replicate (cap - s.size) (Value.int .u8 0)) cap (cap, cap + 1) hcap (by simp; omega) (by simp [unfr]), ?_⟩
  have h0 := hh.new (.cells ((s.data.toList.map fun b => Value.int .u8 b.toNat) ++ List.replicate (cap - s.size) (Value.int .u8 0)).toArray el (0, 0))
  have h2 := h0.upd (b := w.heap.size) (o' := .cells ((s.data.toList.map fun b => Value.int .u8 b.toNat) ++ List.replicate (cap - s.size) (Value.int .u8 0)).toArray el (cap, cap + 1)) .head
  rw [hw1]
  have e : (World.freeze { w1 with heap := w.heap.push (.cells ((s.data.toList.map fun b => Value.int .u8 b.toNat) ++ List.replicate (cap - s.size) (Value.int .u8 0)).toArray el (0, 0)) } ⟨w.heap.size, cap, none⟩ 1).heap = (w.heap.push (.cells ((s.data.toList.map fun b => Value.int .u8 b.toNat) ++ List.replicate (cap - s.size) (Value.int .u8 0)).toArray el (0, 0))).setIfInBounds w.heap.size (.cells ((s.data.toList.map fun b => Value.int .u8 b.toNat) ++ List.replicate (cap - s.size) (Value.int .u8 0)).toArray el (cap, cap + 1)) := by
    apply Array.ext_getElem?
    intro i
    unfold World.freeze
    rw [if_neg (by decide)]
    simp only [Array.getElem?_modify, Array.getElem?_setIfInBounds]
    by_cases hi : w.heap.size = i
    · subst hi; simp
    · simp [hi]
  have eo : ∀ (X : World) a, (World.freeze X a 1).os = X.os ∧ (World.freeze X a 1).output = X.output := by
    intro X a; unfold World.freeze; rw [if_neg (by decide)]; exact ⟨rfl, rfl⟩
  unfold World.hx
  rw [e, (eo _ _).1, (eo _ _).2]
  simp only [hos1, hout1]
  exact h2

theorem o_rangeStr {x : Opd} {s : ByteArray} (hx : ev env x = some (.string s)) (K : ∀ b, N (.pointer (some ⟨b, 0, none⟩)) I ((b, .stringIter s 0) :: h)) : OpStep P I h env (.rangeStr x) N := by
  intro o ρ w hi he hh
  obtain ⟨t, y, hop, hy, hu⟩ := iop_inv_rangeStr hi
  have hv := he y _ (by rw [hy]; exact hx)
  refine stepR_value (v := .pointer (some ⟨w.heap.size, 0, none⟩)) (w' := { w with heap := w.heap.push (.stringIter s 0) }) ?_ ⟨I, _, K _, hh.new _⟩
  unfold execOp
  simp only [hop, hv]
  unfold Instr.range
  simp only [Sem.run_bind, run_underlying_eq, hu, Result.andThen_ok, Sem.run_pure, run_newObj]

theorem run_setObj_siter {b : Nat} {s : ByteArray} {p : Nat} {o : Obj} {w : World} (hb : w.heap[b]? = some (.stringIter s p)) : (setObj b o).run P w = .ok () { w with heap := w.heap.setIfInBounds b o } := by
  simp [setObj, Sem.run, hb]

theorem o_next_str {x : Opd} {b : Nat} {s : ByteArray} {p : Nat} {h' : List Chunk} (hx : ev env x = some (.pointer (some ⟨b, 0, none⟩))) (hb : Upd b (.stringIter s p) (.stringIter s (p + (Utf8.decode s p).2)) h h') (hp : p < s.size)
    (K : N (.tuple #[.bool true, goInt p, .int .i32 (Utf8.decode s p).1]) I h') : OpStep P I h env (.next x true) N := by
  intro o ρ w hi he hh
  obtain ⟨y, hop, hy⟩ := iop_inv_next hi
  have hv := he y _ (by rw [hy]; exact hx)
  have hbw := hh.get hb.has
  have hg : (getObj b).run P w = .ok (.stringIter s p) w := by simp [getObj, Sem.run, hbw]
  refine stepR_value (v := .tuple #[.bool true, goInt p, .int .i32 (Utf8.decode s p).1]) (w' := { w with heap := w.heap.setIfInBounds b (.stringIter s (p + (Utf8.decode s p).2)) }) ?_ ⟨I, h', K, hh.upd hb⟩
  unfold execOp
  simp only [hop, hv]
  unfold Instr.next
  simp only [Sem.run_bind, Sem.run_pure, Result.andThen_ok, hg, hp, if_true, run_setObj_siter hbw]

theorem o_next_str_end {x : Opd} {b : Nat} {s : ByteArray} {p : Nat} (hx : ev env x = some (.pointer (some ⟨b, 0, none⟩))) (hb : Has b (.stringIter s p) h) (hp : ¬ p < s.size)
    (K : N (.tuple #[.bool false]) I h) : OpStep P I h env (.next x true) N := by
  intro o ρ w hi he hh
  obtain ⟨y, hop, hy⟩ := iop_inv_next hi
  have hv := he y _ (by rw [hy]; exact hx)
  have hbw := hh.get hb
  have hg : (getObj b).run P w = .ok (.stringIter s p) w := by simp [getObj, Sem.run, hbw]
  refine stepR_value (v := .tuple #[.bool false]) (w' := w) ?_ ⟨I, h, K, hh⟩
  unfold execOp
  simp only [hop, hv]
  unfold Instr.next
  simp only [Sem.run_bind, Sem.run_pure, Result.andThen_ok, hg, hp, if_false]

theorem o_rangeMapX {x : Opd} {m ck : Nat} {es : Array MapEntry} (hx : ev env x = some (.map (some m))) (hb : Has m (.map es ck) h)
    (k : ∀ b, N (.pointer (some ⟨b, 0, none⟩)) I ((b, .mapIter (some m) ck #[] ck) :: h)) : OpStep P I h env (.rangeMap x) N := by
  intro o ρ w hi he hh
  obtain ⟨t, y, kt, e, hop, hy, hu⟩ := iop_inv_rangeMap hi
  have hv := he y _ (by rw [hy]; exact hx)
  refine stepR_value (v := .pointer (some ⟨w.heap.size, 0, none⟩)) (w' := { w with heap := w.heap.push (.mapIter (some m) ck #[] ck) }) ?_ ⟨I, _, k _, hh.new _⟩
  unfold execOp
  simp only [hop, hv]
  unfold Instr.range
  simp only [Sem.run_bind, run_underlying_eq, hu, Result.andThen_ok, run_getObj_map (hh.get hb), Sem.run_pure, run_newObj]
theorem o_rangeMap0 {x : Opd} (hx : ev env x = some (.map none))
    (k : ∀ b, N (.pointer (some ⟨b, 0, none⟩)) I ((b, .mapIter none 0 #[] 0) :: h)) : OpStep P I h env (.rangeMap x) N := by
  intro o ρ w hi he hh
  obtain ⟨t, y, kt, e, hop, hy, hu⟩ := iop_inv_rangeMap hi
  have hv := he y _ (by rw [hy]; exact hx)
  refine stepR_value (v := .pointer (some ⟨w.heap.size, 0, none⟩)) (w' := { w with heap := w.heap.push (.mapIter none 0 #[] 0) }) ?_ ⟨I, _, k _, hh.new _⟩
  unfold execOp
  simp only [hop, hv]
  unfold Instr.range
  simp only [Sem.run_bind, run_underlying_eq, hu, Result.andThen_ok, Sem.run_pure, run_newObj]
theorem o_next_map0 {x : Opd} {r since last : Nat} {seen : Array Nat} (hx : ev env x = some (.pointer (some ⟨r, 0, none⟩))) (hr : Has r (.mapIter none since seen last) h) (K : N (.tuple #[.bool false]) I h) : OpStep P I h env (.next x false) N := by
  intro o ρ w hi he hh
  obtain ⟨y, hop, hy⟩ := iop_inv_next hi
  have hv := he y _ (by rw [hy]; exact hx)
  refine stepR_value (v := .tuple #[.bool false]) (w' := w) ?_ ⟨I, h, K, hh⟩
  have hg : (getObj r).run P w = .ok (.mapIter none since seen last) w := by simp [getObj, Sem.run, hh.get hr]
  unfold execOp
  simp only [hop, hv]
  unfold Instr.next
  simp only [Sem.run_bind, Sem.run_pure, Result.andThen_ok, hg]

/-- the entries that are still to come -/
def leftE (seen : List Nat) (es : List MapEntry) : List MapEntry := es.filter fun e => !seen.contains e.born

theorem o_next_map_end {x : Opd} {m r since last ck : Nat} {seen : Array Nat} {es : Array MapEntry} (hx : ev env x = some (.pointer (some ⟨r, 0, none⟩))) (hr : Has r (.mapIter (some m) since seen last) h) (hb : Has m (.map es ck) h)
    (hbar : (!seen.toList.isEmpty && !es.toList.isEmpty && es.toList.all (·.born ≥ last)) = false) (hl : leftE seen.toList es.toList = []) (K : N (.tuple #[.bool false]) I h) : OpStep P I h env (.next x false) N := by
  intro o ρ w hi he hh
  obtain ⟨y, hop, hy⟩ := iop_inv_next hi
  have hv := he y _ (by rw [hy]; exact hx)
  refine stepR_value (v := .tuple #[.bool false]) (w' := w) ?_ ⟨I, h, K, hh⟩
  have hg : (getObj r).run P w = .ok (.mapIter (some m) since seen last) w := by simp [getObj, Sem.run, hh.get hr]
  have hbar' : (!seen.isEmpty && !es.isEmpty && es.all (·.born ≥ last)) = false := by simpa using hbar
  have hl' : es.filter (fun e => !seen.contains e.born) = #[] := by
    apply Array.toList_inj.1
    rw [Array.toList_filter]
    rw [← hl]
    unfold leftE
    simp
  unfold execOp
  simp only [hop, hv]
  unfold Instr.next
  simp only [Sem.run_bind, Sem.run_pure, Result.andThen_ok, hg, run_getObj_map (hh.get hb)]
  rw [hbar', if_neg (by simp)]
  have ef : ∀ f : MapEntry → Bool, Array.filter f #[] = #[] := fun f => by apply Array.toList_inj.1; rfl
  simp only [hl', ef]
  have e1 : ((if (#[] : Array MapEntry).isEmpty = true then #[none] else #[]) ++ Array.map some ((#[] : Array MapEntry) ++ #[])) = (#[none] : Array (Option MapEntry)) := by simp
  simp only [e1]
  simp only [Sem.run_bind, run_choose]
  rw [if_pos (by rfl)]
  rfl

theorem run_setObj_miter {b m since last : Nat} {seen : Array Nat} {o : Obj} {w : World} (hb : w.heap[b]? = some (.mapIter (some m) since seen last)) : (setObj b o).run P w = .ok () { w with heap := w.heap.setIfInBounds b o } := by
  simp [setObj, Sem.run, hb]

theorem o_next_map_one {x : Opd} {m r since last ck : Nat} {seen : Array Nat} {es : Array MapEntry} {e0 : MapEntry} {h' : List Chunk} (hx : ev env x = some (.pointer (some ⟨r, 0, none⟩))) (hr : Upd r (.mapIter (some m) since seen last) (.mapIter (some m) since (seen.push e0.born) ck) h h') (hb : Has m (.map es ck) h)
    (hbar : (!seen.toList.isEmpty && !es.toList.isEmpty && es.toList.all (·.born ≥ last)) = false) (hl : leftE seen.toList es.toList = [e0]) (hs : e0.born < since) (K : N (.tuple #[.bool true, e0.key, e0.val]) I h') : OpStep P I h env (.next x false) N := by
  intro o ρ w hi he hh
  obtain ⟨y, hop, hy⟩ := iop_inv_next hi
  have hv := he y _ (by rw [hy]; exact hx)
  have hrw := hh.get hr.has
  refine stepR_value (v := .tuple #[.bool true, e0.key, e0.val]) (w' := { w with heap := w.heap.setIfInBounds r (.mapIter (some m) since (seen.push e0.born) ck) }) ?_ ⟨I, h', K, hh.upd hr⟩
  have hg : (getObj r).run P w = .ok (.mapIter (some m) since seen last) w := by simp [getObj, Sem.run, hrw]
  have hbar' : (!seen.isEmpty && !es.isEmpty && es.all (·.born ≥ last)) = false := by simpa using hbar
  have hl' : es.filter (fun e => !seen.contains e.born) = #[e0] := by
    apply Array.toList_inj.1
    rw [Array.toList_filter]
    rw [← hl]
    unfold leftE
    simp
  unfold execOp
  simp only [hop, hv]
  unfold Instr.next
  simp only [Sem.run_bind, Sem.run_pure, Result.andThen_ok, hg, run_getObj_map (hh.get hb)]
  rw [hbar', if_neg (by simp)]
  have f1 : (#[e0] : Array MapEntry).filter (fun e => decide (e.born < since)) = #[e0] := by apply Array.toList_inj.1; simp [hs]
  have f2 : (#[e0] : Array MapEntry).filter (fun e => decide (e.born ≥ since)) = #[] := by apply Array.toList_inj.1; simp; omega
  simp only [hl', f1, f2]
  have e1 : ((if (#[e0] : Array MapEntry).isEmpty = true then #[none] else #[]) ++ Array.map some ((#[e0] : Array MapEntry) ++ #[])) = (#[some e0] : Array (Option MapEntry)) := by simp
  simp only [e1]
  simp only [Sem.run_bind, run_choose]
  rw [if_pos (by rfl)]
  simp only [Result.andThen_ok]
  have e2 : (#[some e0] : Array (Option MapEntry))[0]? = some (some e0) := rfl
  simp only [e2, Sem.run_bind, run_setObj_miter hrw, Result.andThen_ok, Sem.run_pure]
end
end Go.Sx
