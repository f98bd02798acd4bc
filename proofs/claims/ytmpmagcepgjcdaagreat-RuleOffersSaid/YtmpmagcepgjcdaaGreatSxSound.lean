/- A part of an engine of our own (the code is compiled to a smaller language, whose steps are proved right), nothing is claimed here: - what is known of the operands is so -/
import Derived.Test.YtmpmagcepgjcdaaGreatSxIsem
import Derived.ChangeKeysEq
import Derived.Laws.Entries
set_option linter.all false
namespace Go.Sx

variable {P : Program}

/-- what is known of the operands is so -/
def EvOK (ρ' : Opd → Option Value) (ρ : Operand → Value) : Prop := ∀ x u, ρ' (Opd.of x) = some u → ρ x = u

theorem run_underlying_eq (t : TypeId) (w : World) : (underlying t).run P w = match P.underlying t with | some d => .ok d w | none => .halt (.stuck "no such type") w := by
  unfold underlying
  cases h : P.underlying t <;> simp [h]

theorem run_typeInfo_eq (t : TypeId) (w : World) : (typeInfo t).run P w = match P.info? t with | some d => .ok d w | none => .halt (.stuck "no such type") w := by
  unfold typeInfo
  cases h : P.info? t <;> simp [h]

theorem run_sizeOf_eq (t : TypeId) (w : World) : (sizeOf t).run P w = match P.info? t with | some d => .ok d.size w | none => .halt (.stuck "no such type") w := by
  unfold sizeOf
  rw [Sem.run_bind, run_typeInfo_eq]
  cases P.info? t <;> rfl

theorem run_sizeOf_of {t : TypeId} {n : Nat} (h : sizeOfT P t = some n) (w : World) : (sizeOf t).run P w = .ok n w := by
  unfold sizeOfT at h
  rw [run_sizeOf_eq]
  cases e : P.info? t with
  | none => simp [e] at h
  | some i => simp [e] at h; simp [h]

theorem run_zeroValue_of {t : TypeId} {z : Value} (h : (P.info? t).bind (·.zero) = some z) (w : World) : (zeroValue t).run P w = .ok z w := by
  unfold zeroValue
  rw [Sem.run_bind, run_typeInfo_eq]
  cases e : P.info? t with
  | none => simp [e] at h
  | some i => simp [e] at h; simp [h]

theorem run_zeroValue_cells {t : TypeId} {z : List Value} (h : zeroOf P t = some z) (w : World) : ∃ v, (zeroValue t).run P w = .ok v w ∧ v.cells.toList = z := by
  unfold zeroOf at h
  cases e : (P.info? t).bind (·.zero) with
  | none => simp [e] at h
  | some v => simp [e] at h; exact ⟨v, run_zeroValue_of e w, h⟩

theorem run_isAgg_of {t : TypeId} {m : Option Nat} (h : aggOf P t = some m) (w : World) : (isAgg t).run P w = .ok m.isSome w ∧ ∀ n, m = some n → sizeOfT P t = some n := by
  unfold aggOf at h
  unfold isAgg
  rw [Sem.run_bind, run_underlying_eq]
  cases e : P.underlying t with
  | none => simp [e] at h
  | some d =>
    simp only [e] at h
    cases d <;> simp at h <;> (try subst h) <;> simp [Result.andThen]
    all_goals
      obtain ⟨i, hi, rfl⟩ := h
      simp [sizeOfT, hi]

theorem run_part_of {t : TypeId} {m : Option Nat} (h : aggOf P t = some m) {cs : Array Value} {off : Nat} {v : Value} (hv : partV cs.toList off m = some v) (w : World) :
    (part t cs off).run P w = .ok v w := by
  obtain ⟨h1, h2⟩ := run_isAgg_of h w
  unfold part
  rw [Sem.run_bind, h1]
  cases m with
  | none =>
    simp only [partV] at hv
    simp only [Option.isSome_none, Result.andThen_ok, Bool.false_eq_true, if_false]
    have : cs[off]? = some v := by simpa using hv
    simp [this]
  | some n =>
    simp only [partV, Option.some.injEq] at hv
    simp only [Option.isSome_some, Result.andThen_ok, if_true, Sem.run_bind, run_sizeOf_of (h2 n rfl)]
    subst hv
    simp only [Sem.run_pure, Result.ok.injEq, and_true, Value.agg.injEq]
    apply Array.toList_inj.1
    simp [List.take_drop]

/-- cells laid over others -/
theorem set_fold (off : Nat) : ∀ (l : List Value) (j : Nat) (cells : List Value), off + j + l.length ≤ cells.length →
    ((l.zipIdx j).foldl (fun (cs : Array Value) (x : Value × Nat) => cs.setIfInBounds (off + x.2) x.1) cells.toArray).toList = cells.take (off + j) ++ l ++ cells.drop (off + j + l.length)
  | [], j, cells, _ => by simp
  | c :: l, j, cells, h => by
    simp only [List.zipIdx_cons, List.foldl_cons]
    simp only [List.length_cons] at h
    have e : cells.toArray.setIfInBounds (off + j) c = (cells.set (off + j) c).toArray := by simp
    rw [e, set_fold off l (j + 1) (cells.set (off + j) c) (by simp; omega)]
    simp only [List.length_cons]
    have e1 : (cells.set (off + j) c).take (off + (j + 1)) = cells.take (off + j) ++ [c] := by
      rw [show off + (j + 1) = off + j + 1 from by omega, List.take_succ_eq_append_getElem (by simp; omega), List.take_set_of_le (Nat.le_refl _)]
      simp
    have e2 : (cells.set (off + j) c).drop (off + (j + 1) + l.length) = cells.drop (off + j + (l.length + 1)) := by
      rw [List.drop_set_of_lt (by omega)]; congr 1; omega
    rw [e1, e2]; simp

theorem fill_fillP {ρ' : Opd → Option Value} {ρ : Operand → Value} (hev : EvOK ρ' ρ) (place : Nat → Option (Nat × Nat)) : ∀ (ps : List (Nat × Operand)) (l : List (Nat × Nat × Opd)) (l' : List (Nat × Nat × Value)) (cells cs : List Value),
    partsAt place ps = some l → evParts ρ' l = some l' → fillP cells l' = some cs → Instr.fill place cells.toArray (ps.map fun p => (p.1, ρ p.2)) = some cs.toArray
  | [], l, l', cells, cs, hl, hl', h => by
    simp only [partsAt, Option.some.injEq] at hl; subst hl
    simp only [evParts, Option.some.injEq] at hl'; subst hl'
    simp only [fillP, Option.some.injEq] at h; subst h
    rfl
  | p :: ps, l, l', cells, cs, hl, hl', h => by
    simp only [partsAt] at hl
    cases hp : place p.1 with
    | none => simp [hp] at hl
    | some q =>
      cases hr : partsAt place ps with
      | none => simp [hp, hr] at hl
      | some lr =>
        simp only [hp, hr, Option.some.injEq] at hl
        subst hl
        simp only [evParts] at hl'
        cases hv : ρ' (Opd.of p.2) with
        | none => simp [hv] at hl'
        | some v =>
          cases he : evParts ρ' lr with
          | none => simp [hv, he] at hl'
          | some lr' =>
            simp only [hv, he, Option.some.injEq] at hl'
            subst hl'
            simp only [fillP] at h
            split at h
            · cases h
            · rename_i hc
              simp only [Bool.or_eq_true, decide_eq_true_eq, not_or] at hc
              have h1 : v.cells.size = q.2 := by simpa using hc.1
              have h2 : q.1 + v.cells.size ≤ cells.length := by have := hc.2; omega
              simp only [List.map_cons, Instr.fill, hp, hev p.2 v hv]
              rw [if_neg (by simp; omega)]
              have e := set_fold q.1 v.cells.toList 0 cells (by simpa using h2)
              have e' : (v.cells.zipIdx.foldl (fun (cs : Array Value) (x : Value × Nat) => cs.setIfInBounds (q.1 + x.2) x.1) cells.toArray) = (cells.take q.1 ++ v.cells.toList ++ cells.drop (q.1 + v.cells.size)).toArray := by
                apply Array.toList_inj.1
                rw [← Array.foldl_toList, Array.toList_zipIdx]
                rw [e]
                simp
              have := fill_fillP hev place ps lr lr' _ cs hr he h
              rw [← this]
              exact congrArg (fun x => Instr.fill place x (ps.map fun p => (p.1, ρ p.2))) e'

/-! ### equality -/
theorem cellsEq_append (k : EqK) : ∀ (xs ys xs' ys' : List Value) (b c : Bool), cellsEq k xs ys = some b → cellsEq k xs' ys' = some c → cellsEq k (xs ++ xs') (ys ++ ys') = some (b && c)
  | [], [], xs', ys', b, c, h, h' => by simp only [cellsEq, Option.some.injEq] at h; subst h; simpa using h'
  | [], _ :: _, _, _, _, _, h, _ => by simp [cellsEq] at h
  | _ :: _, [], _, _, _, _, h, _ => by simp [cellsEq] at h
  | x :: xs, y :: ys, xs', ys', b, c, h, h' => by
    simp only [cellsEq] at h
    simp only [List.cons_append, cellsEq]
    cases e : leafEq k x y with
    | none => simp [e] at h
    | some b1 =>
      simp only [e] at h ⊢
      cases e2 : cellsEq k xs ys with
      | none => simp [e2] at h
      | some b2 =>
        simp only [e2, Option.some.injEq] at h
        rw [cellsEq_append k xs ys xs' ys' b2 c e2 h']
        simp [← h, Bool.and_assoc]

theorem cellsEq_split (k : EqK) (n : Nat) : ∀ (xs ys : List Value) (b : Bool), cellsEq k xs ys = some b → ∃ b1 b2, cellsEq k (xs.take n) (ys.take n) = some b1 ∧ cellsEq k (xs.drop n) (ys.drop n) = some b2 ∧ b = (b1 && b2) := by
  induction n with
  | zero => intro xs ys b h; exact ⟨true, b, by simp [cellsEq], by simpa using h, by simp⟩
  | succ n ih =>
    intro xs ys b h
    cases xs with
    | nil => cases ys with
      | nil => exact ⟨true, b, by simp [cellsEq], by simpa using h, by simp⟩
      | cons y ys => simp [cellsEq] at h
    | cons x xs => cases ys with
      | nil => simp [cellsEq] at h
      | cons y ys =>
        simp only [cellsEq] at h
        cases e : leafEq k x y with
        | none => simp [e] at h
        | some b0 =>
          simp only [e] at h
          cases e2 : cellsEq k xs ys with
          | none => simp [e2] at h
          | some b' =>
            simp only [e2, Option.some.injEq] at h
            obtain ⟨b1, b2, h1, h2, h3⟩ := ih xs ys b' e2
            refine ⟨b0 && b1, b2, ?_, by simpa using h2, ?_⟩
            · simp only [List.take_succ_cons, cellsEq, e, h1]
            · rw [← h, h3, Bool.and_assoc]

def valOf (P : Program) (t : TypeId) (l : List Value) : Value :=
  match aggOf P t with
  | some (some _) => .agg l.toArray
  | _ => l.headD default

theorem mod_le_self (a b : Nat) : a ≤ b → a ≤ b := id

theorem run_part_val {e : TypeId} {m : Nat} (hs : sizeOfT P e = some m) {D k} (hl : eqLeaf P D e = some (m, k)) (xs : List Value) (i : Nat) (hlen : i * m + m ≤ xs.length) (w : World) :
    (part e xs.toArray (i * m)).run P w = .ok (valOf P e ((xs.drop (i * m)).take m)) w := by
  cases D with
  | zero => simp [eqLeaf] at hl
  | succ D =>
    have hagg : aggOf P e = some (some m) ∨ (aggOf P e = some none ∧ m = 1) := by
      unfold eqLeaf at hl
      unfold aggOf
      cases hu : P.underlying e with
      | none => simp [hu] at hl
      | some d =>
        simp only [hu] at hl
        cases d <;> simp at hl
        · right; exact ⟨rfl, hl.1.symm⟩
        · right; exact ⟨rfl, hl.1.symm⟩
        · right; exact ⟨rfl, hl.1.symm⟩
        · left
          unfold sizeOfT at hs
          simpa using hs
    rcases hagg with h | ⟨h, rfl⟩
    · rw [run_part_of h (v := .agg ((xs.drop (i * m)).take m).toArray) (by simp [partV])]
      simp [valOf, h]
    · have hi : i < xs.length := by omega
      rw [run_part_of h (v := xs[i]) (by simp [partV, hi])]
      simp [valOf, h, List.take_one, List.head?_drop, hi]

theorem valOf_leaf {t : TypeId} {k : IntKind} (h : P.underlying t = some (.int k)) (x : Value) : valOf P t [x] = x := by simp [valOf, aggOf, h]
theorem valOf_bool {t : TypeId} (h : P.underlying t = some .bool) (x : Value) : valOf P t [x] = x := by simp [valOf, aggOf, h]
theorem valOf_str {t : TypeId} (h : P.underlying t = some .string) (x : Value) : valOf P t [x] = x := by simp [valOf, aggOf, h]

theorem equalIn_leaf (w : World) : ∀ (D : Nat) (t : TypeId) (m : Nat) (k : EqK), eqLeaf P D t = some (m, k) → ∀ (d : Nat) (xs ys : List Value) (b : Bool), xs.length = m → ys.length = m → sizeOfT P t = some m →
    cellsEq k xs ys = some b → (Op.equalIn (d + D) t (valOf P t xs) (valOf P t ys)).run P w = .ok b w := by
  intro D
  induction D with
  | zero => intro t m k h; simp [eqLeaf] at h
  | succ D ih =>
    intro t m k h d xs ys b hx hy hsz hc
    unfold eqLeaf at h
    cases hu : P.underlying t with
    | none => simp [hu] at h
    | some desc =>
      simp only [hu] at h
      cases desc <;> simp at h
      · -- bool
        obtain ⟨rfl, rfl⟩ := h
        obtain ⟨x, rfl⟩ := List.length_eq_one_iff.1 hx
        obtain ⟨y, rfl⟩ := List.length_eq_one_iff.1 hy
        · 
          rw [valOf_bool hu, valOf_bool hu]
          simp only [cellsEq] at hc
          cases x <;> cases y <;> simp [leafEq] at hc
          subst hc
          exact run_equalIn_bool w _ t _ _ hu
      · obtain ⟨rfl, rfl⟩ := h
        obtain ⟨x, rfl⟩ := List.length_eq_one_iff.1 hx
        obtain ⟨y, rfl⟩ := List.length_eq_one_iff.1 hy
        · 
          rw [valOf_leaf hu, valOf_leaf hu]
          simp only [cellsEq] at hc
          cases x <;> cases y <;> simp [leafEq] at hc
          case int.int k1 a1 k2 a2 =>
            by_cases hk : k1 = k2
            · subst hk; simp at hc; subst hc
              exact run_equalIn_int w _ t _ _ _ _ hu
            · simp [hk] at hc
      · obtain ⟨rfl, rfl⟩ := h
        obtain ⟨x, rfl⟩ := List.length_eq_one_iff.1 hx
        obtain ⟨y, rfl⟩ := List.length_eq_one_iff.1 hy
        · 
          rw [valOf_str hu, valOf_str hu]
          simp only [cellsEq] at hc
          cases x <;> cases y <;> simp [leafEq] at hc
          subst hc
          rw [beq_toListBytes]
          exact run_equalIn_string w _ t _ _ hu
      · rename_i n e
        cases he : eqLeaf P D e with
        | none => simp [he] at h
        | some q =>
          obtain ⟨me, ke⟩ := q
          simp only [he] at h
          split at h
          · rename_i hse
            simp only [Option.some.injEq, Prod.mk.injEq] at h
            obtain ⟨rfl, rfl⟩ := h
            obtain ⟨i, hi, his⟩ : ∃ i, P.info? e = some i ∧ i.size = me := by
              unfold sizeOfT at hse
              cases hie : P.info? e with
              | none => simp [hie] at hse
              | some i => simp [hie] at hse; exact ⟨i, rfl, hse⟩
            have hcell : P.cellsOf e = me := by simp [Program.cellsOf, hi, his]
            have hv : ∀ l, valOf P t l = .agg l.toArray := by
              intro l
              have : ∃ q, P.info? t = some q := by
                unfold sizeOfT at hsz
                cases hit : P.info? t with
                | none => simp [hit] at hsz
                | some q => exact ⟨q, rfl⟩
              obtain ⟨q, hq⟩ := this
              simp [valOf, aggOf, hu, hq]
            rw [hv, hv, show d + (D + 1) = (d + D) + 1 from by omega, run_equalIn_array w (d + D) _ _ hu hi, hcell]
            -- the items one by one
            have key : ∀ (r j : Nat) (b : Bool), j + r = n → cellsEq ke (xs.drop (j * me)) (ys.drop (j * me)) = some b →
                (Op.eqItems (d + D) e me xs.toArray ys.toArray (List.range' j r)).run P w = .ok b w := by
              intro r
              induction r with
              | zero =>
                intro j b hj hb
                have hjn : j = n := by omega
                have h0 : xs.drop (j * me) = [] := List.drop_eq_nil_iff.2 (by rw [hx, hjn]; exact Nat.le_refl _)
                have h' : ys.drop (j * me) = [] := List.drop_eq_nil_iff.2 (by rw [hy, hjn]; exact Nat.le_refl _)
                rw [h0, h'] at hb
                simp only [cellsEq, Option.some.injEq] at hb
                subst hb
                simp [Op.eqItems]
              | succ r ihr =>
                intro j b hj hb
                have hle : j * me + me ≤ n * me := by
                  have : (j + 1) * me ≤ n * me := Nat.mul_le_mul_right _ (by omega)
                  rw [Nat.add_mul, Nat.one_mul] at this; exact this
                obtain ⟨b1, b2, h1, h2, rfl⟩ := cellsEq_split ke me _ _ _ hb
                rw [List.range'_succ]
                simp only [Op.eqItems, Sem.run_bind]
                rw [run_part_val hse he xs j (by omega)]
                simp only [Result.andThen_ok]
                rw [run_part_val hse he ys j (by omega)]
                simp only [Result.andThen_ok]
                rw [ih e me ke he d _ _ b1 (by simp [hx]; omega) (by simp [hy]; omega) hse h1]
                simp only [Result.andThen_ok]
                have hd : (j + 1) * me = j * me + me := by rw [Nat.add_mul, Nat.one_mul]
                cases b1
                · simp
                · have := ihr (j + 1) b2 (by omega) (by rw [hd, ← List.drop_drop, ← List.drop_drop]; exact h2)
                  simpa using this
            have := key n 0 b (by omega) (by simpa using hc)
            rw [List.range_eq_range']
            exact this
          · cases h

theorem eqV_soundIn (d : Nat) {t : TypeId} {x y : Value} {b : Bool} (h : eqV (eqKOf P t) x y = some b) (w : World) : (Op.equalIn (d + 5 + 1) t x y).run P w = .ok b w := by
  unfold eqKOf at h
  cases hu : P.underlying t with
  | none => simp only [hu] at h; cases x <;> cases y <;> simp [eqV] at h
  | some d =>
    simp only [hu] at h
    cases d <;> simp only at h
    case bool => cases x <;> cases y <;> simp [eqV] at h; subst h; exact run_equalIn_bool w _ t _ _ hu
    case int k =>
      cases x <;> cases y <;> simp [eqV] at h
      case int.int k1 a1 k2 a2 =>
        obtain ⟨rfl, rfl⟩ := h
        exact run_equalIn_int w _ t _ _ _ _ hu
    case string => cases x <;> cases y <;> simp [eqV] at h; subst h; rw [beq_toListBytes]; exact run_equalIn_string w _ t _ _ hu
    case pointer e =>
      cases hs : sizeOfT P e with
      | none => simp only [hs] at h; cases x <;> cases y <;> simp [eqV] at h
      | some n =>
        simp only [hs] at h
        cases n with
        | zero => simp only at h; cases x <;> cases y <;> simp [eqV] at h
        | succ n =>
          simp only at h
          cases x <;> cases y <;> simp [eqV] at h
          case pointer.pointer p q =>
            cases p <;> cases q <;> simp at h <;> subst h <;> (unfold Op.equalIn; rw [Sem.run_bind, run_underlying hu]; rfl)
    case slice e =>
      cases x <;> cases y <;> simp [eqV] at h
      case slice.slice p n c q n' c' =>
        cases p <;> cases q <;> simp at h <;> subst h <;> (unfold Op.equalIn; rw [Sem.run_bind, run_underlying hu]; rfl)
    case map k e =>
      cases x <;> cases y <;> simp [eqV] at h
      case map.map p q =>
        cases p <;> cases q <;> simp at h <;> subst h <;> (unfold Op.equalIn; rw [Sem.run_bind, run_underlying hu]; rfl)
    case func =>
      cases x <;> cases y <;> simp [eqV] at h <;> subst h <;> (unfold Op.equalIn; rw [Sem.run_bind, run_underlying hu]; rfl)
    case interface => cases x <;> cases y <;> simp [eqV] at h
    case array n e =>
      cases hl : eqLeaf P 5 t with
      | none => simp only [hl] at h; cases x <;> cases y <;> simp [eqV] at h
      | some q =>
        obtain ⟨m, k⟩ := q
        simp only [hl] at h
        split at h
        · cases x <;> cases y <;> simp [eqV] at h
        · split at h
          · rename_i hg hsz
            cases x <;> cases y <;> simp [eqV] at h
            case agg.agg xs ys =>
              obtain ⟨⟨hx, hy⟩, h⟩ := h
              have hv : ∀ l, valOf P t l = .agg l.toArray := by
                intro l
                have : ∃ q, P.info? t = some q := by
                  unfold sizeOfT at hsz
                  cases hit : P.info? t with
                  | none => simp [hit] at hsz
                  | some q => exact ⟨q, rfl⟩
                obtain ⟨q, hq⟩ := this
                simp [valOf, aggOf, hu, hq]
              have := equalIn_leaf (P := P) w 5 t m k hl (d + 1) xs.toList ys.toList b (by simpa using hx) (by simpa using hy) hsz h
              rw [hv, hv, show d + 1 + 5 = d + 5 + 1 from by omega] at this
              simpa using this
          · cases x <;> cases y <;> simp [eqV] at h
    all_goals (cases x <;> cases y <;> simp [eqV] at h)

theorem eqV_sound {t : TypeId} {x y : Value} {b : Bool} (h : eqV (eqKOf P t) x y = some b) (w : World) : (Op.equal t x y).run P w = .ok b w := by
  unfold Op.equal
  rw [show Op.maxDepth = 9994 + 5 + 1 from rfl]
  exact eqV_soundIn 9994 h w

end Go.Sx
