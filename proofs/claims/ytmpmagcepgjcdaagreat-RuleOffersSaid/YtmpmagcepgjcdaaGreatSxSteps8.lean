/- A part of an engine of our own (the code is compiled to a smaller language, whose steps are proved right), nothing is claimed here: - 'append(s, make([]T, k)...)' where there is no room -/
import Derived.Test.YtmpmagcepgjcdaaGreatSxSteps7
set_option linter.all false
namespace Go.Sx

theorem iop_inv_appendN {P : Program} {o : Oper} {e sz bt : Nat} {z : List Value} {x y : Opd} (h : iop P o = .appendN e sz bt z x y) : ∃ s u t1 t2 k, o.op = .call ⟨.builtin .append, #[s, u], #[t1, t2]⟩ ∧ Opd.of s = x ∧ Opd.of u = y ∧ P.underlying t1 = some (.slice e) ∧ P.underlying t2 = some (.int k) ∧ sizeOfT P e = some sz ∧ bytesOfT P e = some bt ∧ zeroOf P e = some z ∧ z.length = sz := by
  unfold iop at h
  cases hop : o.op <;> simp only [hop] at h <;> (try (cases h; done))
  case call c =>
    obtain ⟨callee, args, tys⟩ := c
    cases callee with
    | value f => cases h
    | invoke r m => cases h
    | builtin b =>
      simp only [iopB] at h
      cases b <;> simp only at h <;> (try (cases h; done))
      case append =>
        split at h <;> (try (cases h; done))
        rename_i s u t1 t2 ha ht
        split at h <;> (try (cases h; done))
        rename_i hnone
        split at h <;> (try (cases h; done))
        rename_i q1 q2 q3 q4 k hq hu2
        simp only [IOp.appendN.injEq] at h
        obtain ⟨rfl, rfl, rfl, rfl, rfl, rfl⟩ := h
        have ea : args = #[s, u] := by apply Array.toList_inj.1; simpa using ha
        have et : tys = #[t1, t2] := by apply Array.toList_inj.1; simpa using ht
        subst ea; subst et
        unfold appK at hq
        split at hq <;> (try (cases hq; done))
        rename_i e' hu1
        split at hq <;> (try (cases hq; done))
        all_goals
          split at hq <;> (try (cases hq; done))
          rename_i hs hb hz
          split at hq <;> (try (cases hq; done))
          rename_i hl
          simp only [Option.some.injEq, Prod.mk.injEq] at hq
          obtain ⟨rfl, rfl, rfl, rfl⟩ := hq
          exact ⟨s, u, t1, t2, k, rfl, rfl, rfl, hu1, hu2, hs, hb, hz, hl⟩
      all_goals
        repeat' split at h
        all_goals cases h
  case makeMap t r => cases r <;> cases h
  all_goals
    repeat' split at h
    all_goals cases h

section
variable {P : Program} {I : Imm} {env : Env} {h : List Chunk} {N : Value → Imm → List Chunk → Prop}

/-- 'append(s, make([]T, k)...)' where there is no room -/
theorem o_appendN {e sz bt n c : Nat} {k : Int} {z : List Value} {x y : Opd} {a : Option Addr} {xs : List Value} (hx : ev env x = some (.slice a n c)) (hsrc : SrcC I h sz (.slice a n c) n xs)
    (hy : ev env y = some (.int .i64 k)) (h0 : 0 ≤ k) (hroom : c < n + k.toNat) (hb : (n + k.toNat) * bt ≤ 2 ^ 47) (hb2 : n + k.toNat ≤ 2 ^ 47)
    (K : ∀ v' hs', Sl e sz v' (xs ++ repCells z k.toNat) (n + k.toNat) hs' → N v' I (hs' ++ h)) : OpStep P I h env (.appendN e sz bt z x y) N := by
  intro o ρ w hi he hh
  obtain ⟨s, q, t1, t2, kk, hop, hs1, hq1, hu1, hu2, hsz, hbt, hz, hzl⟩ := iop_inv_appendN hi
  have h1 := he s _ (by rw [hs1]; exact hx)
  have h2 := he q _ (by rw [hq1]; exact hy)
  obtain ⟨i, hi1, hib⟩ := info_of_bytes hbt
  have hwk : IntKind.i64.wrap k = k := w_i64 (by omega) (by omega)
  obtain ⟨m, rfl⟩ : ∃ m : Nat, k = m := ⟨k.toNat, by omega⟩
  simp only [Int.toNat_natCast] at *
  have hll := hsrc.length
  have hzrun : ∀ w', ∃ zv, (zeroValue e).run P w' = .ok zv w' ∧ zv.cells = z.toArray := by
    intro w'
    obtain ⟨zv, h3, h4⟩ := run_zeroValue_cells hz w'
    exact ⟨zv, h3, by apply Array.toList_inj.1; simp [h4]⟩
  have hch : ∃ cap, n + m ≤ cap ∧ (choose (.appendCap (n + m) c e)).run P w = .ok cap { w with drawn := w.drawn + 1 } := by
    refine ⟨(Question.appendCap (n + m) c e).cut (w.tape w.drawn (.appendCap (n + m) c e)), ?_, ?_⟩
    · simp only [Question.cut]; omega
    · rw [run_choose]; simp [Question.forced]
  obtain ⟨cap, hcap, hch⟩ := hch
  obtain ⟨zv, hz1, hz2⟩ := hzrun { w with drawn := w.drawn + 1 }
  have hold := (hsrc.run (P := P) (w := { w with drawn := w.drawn + 1 }) hh).2
  have hbm : ((m : Int) * (bt : Int)) ≤ 2 ^ 47 := by
    have : m * bt ≤ (n + m) * bt := Nat.mul_le_mul_right _ (by omega)
    have h3 : m * bt ≤ 2 ^ 47 := by omega
    exact_mod_cast h3
  have hcap2 := nextslicecap_le (n := n + m) (c := c) (by omega)
  have h4 : Builtin.nextslicecap (n + m) c * bt ≤ 2 * (n + m) * bt := Nat.mul_le_mul_right _ hcap2
  have h3 : 2 * (n + m) * bt = 2 * ((n + m) * bt) := by rw [Nat.mul_assoc]
  let rest := (Builtin.zeroCells zv.cells (cap - (n + m))).toList
  have hrl : rest.length = (cap - (n + m)) * sz := by simp only [rest]; rw [zeroCells_length, hz2]; simp [hzl]
  have happ : (if m * sz = 0 then (pure #[] : Sem (Array Value)) else do pure (Builtin.zeroCells (← zeroValue e).cells m)).run P { w with drawn := w.drawn + 1 } = .ok (repCells z m).toArray { w with drawn := w.drawn + 1 } := by
    by_cases h0 : m * sz = 0
    · rw [if_pos h0]
      have : repCells z m = [] := List.length_eq_zero_iff.1 (by rw [repCells_length, hzl]; exact h0)
      rw [this]; rfl
    · rw [if_neg h0]
      simp only [Sem.run_bind, hz1, Result.andThen_ok, Sem.run_pure, hz2]
      congr 1
      apply Array.toList_inj.1
      rw [zeroCells_eq]
  have hsl : Sl e sz (.slice (some ⟨w.heap.size, 0, none⟩) (n + m) cap) (xs ++ repCells z m) (n + m) [(w.heap.size, .cells (xs ++ repCells z m ++ rest).toArray e (0, 0))] := by
    refine .own ?_ hcap ?_
    · rw [List.length_append, hll, repCells_length, hzl, Nat.add_mul]
    · rw [List.length_append, hll, repCells_length, hzl, hrl, ← Nat.add_mul, ← Nat.add_mul]; congr 1; omega
  refine stepR_value (v := .slice (some ⟨w.heap.size, 0, none⟩) (n + m) cap) (w' := { w with drawn := w.drawn + 1, heap := w.heap.push (.cells (xs ++ repCells z m ++ rest).toArray e (0, 0)) }) ?_ ⟨I, _, K _ _ hsl, ?_⟩
  · unfold execOp
    simp only [hop, Sem.run_bind, resolve, Sem.run_pure, Result.andThen_ok, invoke, builtin, List.map_toArray, List.map_cons, List.map_nil, h1, h2]
    unfold Builtin.append_
    simp only [List.getElem?_toArray, List.getElem?_cons_zero, List.getElem?_cons_succ, Sem.run_bind, run_underlying_eq, hu1, hu2, Result.andThen_ok, run_sizeOf_of hsz, Sem.run_pure, if_true, asInt, asIntOf, hwk, run_typeInfo_eq, hi1, hib]
    rw [if_neg (by omega)]
    simp only [Sem.run_bind, run_typeInfo_eq, hi1, hib, Result.andThen_ok]
    rw [if_neg (by omega)]
    simp only [Sem.run_bind, Sem.run_pure, Result.andThen_ok, Int.toNat_natCast]
    rw [if_neg (by omega)]
    simp only [Sem.run_bind, run_typeInfo_eq, hi1, hib, Result.andThen_ok]
    rw [if_neg (by rw [show IntKind.i64.max = 9223372036854775807 from by decide]; omega)]
    simp only [Sem.run_bind, run_typeInfo_eq, hi1, hib, Result.andThen_ok]
    rw [if_neg (by omega)]
    simp only [Sem.run_bind, hch, run_typeInfo_eq, hi1, hib, Result.andThen_ok, run_askRoom, hold, Bool.not_true, Bool.false_eq_true, if_false]
    rw [happ]
    have hcell : (xs.toArray ++ (repCells z m).toArray ++ Builtin.zeroCells zv.cells (cap - (n + m))) = (xs ++ repCells z m ++ rest).toArray := by
      apply Array.toList_inj.1; simp [rest]
    simp only [Result.andThen_ok, hz1, newRow, Sem.run_bind, run_newObj, Sem.run_pure, hcell]
  · exact hh.new _
end
end Go.Sx
