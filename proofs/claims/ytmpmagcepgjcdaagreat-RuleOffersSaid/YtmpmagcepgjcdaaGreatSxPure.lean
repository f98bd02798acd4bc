/- A part of an engine of our own (the code is compiled to a smaller language, whose steps are proved right), nothing is claimed here: Sx.Pure -/
import Derived.Test.YtmpmagcepgjcdaaGreatSxSound
set_option linter.all false
namespace Go.Sx
variable {P : Program}

def GuardFree (P : Program) (t : TypeId) : Value → Value → Prop
  | .nilIface, .nilIface => False
  | .agg _, .agg _ => P.eqGuardType P.depth t = false
  | _, _ => True

theorem run_eqGuard {op : BinOp} {t : TypeId} {x y : Operand} {a b : Value} (w : World) (h : GuardFree P t a b) :
    (eqGuard op t x y a b).run P w = .ok () w := by
  unfold eqGuard
  cases op <;> first
    | rfl
    | (cases a <;> cases b <;> first
        | rfl
        | exact h.elim
        | (have h' : P.eqGuardType P.depth t = false := h; simp [h']))

theorem eqKOf_nilIface {k : EqK} {r : Bool} (h : eqV k .nilIface .nilIface = some r) : False := by cases k <;> simp [eqV] at h

theorem eqV_guard {t : TypeId} {a b : Value} {r : Bool} (h : eqV (eqKOf P t) a b = some r) : GuardFree P t a b := by
  cases a <;> cases b <;> first | trivial | exact (eqKOf_nilIface h).elim | skip
  case agg.agg xs ys =>
    show P.eqGuardType P.depth t = false
    have hk : ∃ n k, eqKOf P t = .agg n k := by
      cases e : eqKOf P t <;> simp [e, eqV] at h
      exact ⟨_, _, rfl⟩
    obtain ⟨n, k, hk⟩ := hk
    unfold eqKOf at hk
    repeat' split at hk
    all_goals first | (cases hk; done) | skip
    rename_i hg _
    simpa using hg

theorem intBin_sound {op : BinOp} {k : IntKind} {a b : Int} {v : Value} (h : intBin op k a b = some v) (t : TypeId) (w : World) :
    (binOp op t (.int k a) (.int k b)).run P w = .ok v w := by
  cases op <;> simp [intBin] at h <;> subst h <;>
    simp [binOp, Op.intArith, Op.intBits, Op.intCmp]

theorem strBin_sound {op : BinOp} {a b : ByteArray} {v : Value} (h : strBin op a b = some v) (t : TypeId) (w : World) :
    (binOp op t (.string a) (.string b)).run P w = .ok v w := by
  cases op <;> simp [strBin] at h <;> subst h <;>
    simp [binOp, Op.stringOp]

theorem binV_sound {op : BinOp} {t : TypeId} {x y : Operand} {a b v : Value} (h : binV op (eqKOf P t) a b = some v) (w : World) :
    ((do eqGuard op t x y a b; binOp op t a b : Sem Value)).run P w = .ok v w := by
  rw [Sem.run_bind]
  unfold binV at h
  split at h
  · rename_i k a k' b
    rw [run_eqGuard w (show GuardFree P t (.int k a) (.int k' b) from trivial), Result.andThen_ok]
    split at h <;> first | (cases h; done) | skip
    split at h
    · rename_i hk; subst hk; exact intBin_sound h t w
    · cases h
  · rename_i a b
    rw [run_eqGuard w (show GuardFree P t (.string a) (.string b) from trivial), Result.andThen_ok]
    exact strBin_sound h t w
  · rename_i hni hns
    split at h
    · cases e : eqV (eqKOf P t) a b with
      | none => simp [e] at h
      | some r =>
        simp only [e, Option.map_some, Option.some.injEq] at h
        subst h
        rw [run_eqGuard w (eqV_guard e), Result.andThen_ok]
        have hq := eqV_sound e w
        have : binOp .eql t a b = (do pure (.bool (← Op.equal t a b)) : Sem Value) := by
          unfold binOp
          cases a <;> cases b <;> first | rfl | (exact absurd rfl (hni _ _ _ _ rfl)) | (exact (hni _ _ _ _ rfl rfl).elim) | (exact (hns _ _ rfl rfl).elim) | (simp [eqV] at e; done) | (cases hk : eqKOf P t <;> simp [hk, eqV] at e)
        rw [this, Sem.run_bind, hq]; rfl
    · cases e : eqV (eqKOf P t) a b with
      | none => simp [e] at h
      | some r =>
        simp only [e, Option.map_some, Option.some.injEq] at h
        subst h
        rw [run_eqGuard w (eqV_guard e), Result.andThen_ok]
        have hq := eqV_sound e w
        have : binOp .neq t a b = (do pure (.bool (!(← Op.equal t a b))) : Sem Value) := by
          unfold binOp
          cases a <;> cases b <;> first | rfl | (exact absurd rfl (hni _ _ _ _ rfl)) | (exact (hni _ _ _ _ rfl rfl).elim) | (exact (hns _ _ rfl rfl).elim) | (simp [eqV] at e; done) | (cases hk : eqKOf P t <;> simp [hk, eqV] at e)
        rw [this, Sem.run_bind, hq]; rfl
    · cases h
theorem ev_map {ρ' : Opd → Option Value} {ρ : Operand → Value} (hev : EvOK ρ' ρ) : ∀ (l : List Operand) (vs : List Value), evList ρ' (l.map Opd.of) = some vs → l.map ρ = vs
  | [], vs, h => by simp only [List.map_nil, evList, Option.some.injEq] at h; simp [h]
  | x :: l, vs, h => by
    simp only [List.map_cons, evList] at h
    cases ha : ρ' (Opd.of x) with
    | none => simp [ha] at h
    | some a =>
      cases has : evList ρ' (l.map Opd.of) with
      | none => simp [ha, has] at h
      | some as =>
        simp only [ha, has, Option.some.injEq] at h
        subst h
        simp [hev x a ha, ev_map hev l as has]

theorem fields_places {w : World} : ∀ (fs : List Field), (fs.all fun f => (sizeOfT P f.type).isSome) = true →
    ∃ l : List (Nat × Nat), (fs.mapM fun f => (do pure (f.offset, ← sizeOf f.type) : Sem (Nat × Nat))).run P w = .ok l w ∧ l.length = fs.length ∧ ∀ (i : Nat), l[i]? = match fs[i]? with | some f => (match sizeOfT P f.type with | some s => some (f.offset, s) | none => none) | none => none
  | [], _ => ⟨[], by simp, rfl, by simp⟩
  | f :: fs, h => by
    simp only [List.all_cons, Bool.and_eq_true] at h
    obtain ⟨l, h1, h2, h3⟩ := fields_places (w := w) fs h.2
    obtain ⟨s, hs⟩ := Option.isSome_iff_exists.1 h.1
    refine ⟨(f.offset, s) :: l, ?_, by simp [h2], ?_⟩
    · rw [List.mapM_cons, Sem.run_bind, Sem.run_bind, run_sizeOf_of hs]
      simp only [Result.andThen_ok, Sem.run_pure]
      rw [Sem.run_bind, h1]; rfl
    · intro i
      cases i with
      | zero => simp [hs]
      | succ i => simpa using h3 i

theorem build_sound {t : TypeId} {z : List Value} {ps : List (Nat × Operand)} {l : List (Nat × Nat × Opd)} {ρ' : Opd → Option Value} {ρ : Operand → Value} (hev : EvOK ρ' ρ)
    (hz : zeroOf P t = some z) (hp : partsAt (placeOf P t) ps = some l) (hf : fieldsSized P t = true) {l' : List (Nat × Nat × Value)} (hl : evParts ρ' l = some l')
    {cs : List Value} (hc : fillP z l' = some cs) (w : World) : (Instr.build t (ps.map fun p => (p.1, ρ p.2)).toArray).run P w = .ok (.agg cs.toArray) w := by
  obtain ⟨zv, hzv, hzc⟩ := run_zeroValue_cells hz w
  unfold Instr.build
  rw [Sem.run_bind, hzv]
  simp only [Result.andThen_ok, Sem.run_bind, run_underlying_eq]
  have hcell : zv.cells = z.toArray := by apply Array.toList_inj.1; simp [hzc]
  unfold fieldsSized at hf
  cases hu : P.underlying t with
  | none => simp [hu] at hf
  | some d =>
    simp only [hu] at hf
    cases d <;> simp only at hf <;> first | (cases hf; done) | skip
    case array n e =>
      cases hs : sizeOfT P e with
      | none => simp [hs] at hf
      | some s =>
        have hpl : placeOf P t = fun i => some (i * s, s) := by funext i; simp [placeOf, hu, hs]
        simp only [Result.andThen_ok, Sem.run_bind, run_sizeOf_of hs]
        rw [hpl] at hp
        rw [hcell, fill_fillP hev _ _ _ _ _ _ hp hl hc]
        rfl
    case struct fs =>
      obtain ⟨lf, h1, h2, h3⟩ := fields_places (w := w) fs.toList hf
      have hm : (fs.mapM fun f => (do pure (f.offset, ← sizeOf f.type) : Sem (Nat × Nat))).run P w = .ok lf.toArray w := by
        rw [Array.mapM_eq_mapM_toList]
        simp only [Sem.run_map, h1, Result.andThen_ok]
      simp only [Result.andThen_ok]
      rw [Sem.run_bind, hm]
      simp only [Result.andThen_ok]
      have hpl : placeOf P t = fun i => lf.toArray[i]? := by
        funext i
        have e3 := h3 i
        have e4 : fs.toList[i]? = fs[i]? := Array.getElem?_toList
        simp only [placeOf, hu, List.getElem?_toArray, e3]
        cases e : fs[i]? with
        | none => rw [e4, e]
        | some f =>
          rw [e4, e]
          cases hq : sizeOfT P f.type <;> simp [hq]
      rw [hpl] at hp
      rw [hcell, fill_fillP hev _ _ _ _ _ _ hp hl hc]
      rfl

theorem max2_sound {a b v : Value} (h : maxV a b = some v) (w : World) : (Builtin.max2 a b).run P w = .ok v w := by
  cases a <;> cases b <;> simp [maxV] at h; subst h; rfl
theorem min2_sound {a b v : Value} (h : minV a b = some v) (w : World) : (Builtin.min2 a b).run P w = .ok v w := by
  cases a <;> cases b <;> simp [minV] at h; subst h; rfl
theorem foldV_sound {g : Value → Value → Option Value} {f : Value → Value → Sem Value} (w : World) (hg : ∀ a b v, g a b = some v → (f a b).run P w = .ok v w) :
    ∀ (l : List Value) (a v : Value), foldV g a l = some v → (l.foldlM f a).run P w = .ok v w
  | [], a, v, h => by simp only [foldV, Option.some.injEq] at h; subst h; rfl
  | b :: l, a, v, h => by
    simp only [foldV] at h
    cases e : g a b with
    | none => simp [e] at h
    | some c =>
      simp only [e] at h
      rw [List.foldlM_cons, Sem.run_bind, hg a b c e]
      exact foldV_sound w hg l c v h

theorem pure_sound {o : Oper} {ρ' : Opd → Option Value} {ρ : Operand → Value} {v : Value} (h : pureV ρ' (iop P o) = some v) (hev : EvOK ρ' ρ) (w : World) :
    (execOp ρ o).run P w = .ok (.value v) w := by
  unfold execOp
  unfold iop at h
  cases hop : o.op <;> simp only [hop] at h ⊢
  case move x => rw [hev x v h]; rfl
  case assign x => rw [hev x v h]; rfl
  case pick c a b =>
    simp only [pureV] at h
    split at h
    · rename_i t hc
      split at h
      · rename_i u u' ha hb
        rw [hev c _ hc, hev a _ ha, hev b _ hb]
        cases t <;> simp only [Option.some.injEq] at h <;> subst h <;> rfl
      · cases h
    · cases h
  case nilCheck x =>
    simp only [pureV] at h
    split at h
    · rename_i a hx; simp only [Option.some.injEq] at h; subst h; rw [hev x _ hx]; rfl
    · rename_i f a b hx; simp only [Option.some.injEq] at h; subst h; rw [hev x _ hx]; rfl
    · cases h
  case build t ps =>
    split at h
    · rename_i z l hz hp hf
      simp only [pureV] at h
      cases hl : evParts ρ' l with
      | none => simp [hl] at h
      | some l' =>
        simp only [hl, Option.map_eq_some_iff] at h
        obtain ⟨cs, hc, rfl⟩ := h
        have := build_sound hev hz hp hf hl hc w
        simp only [Sem.run_bind]
        rw [show (ps.map fun x => match x with | (i, x) => (i, ρ x)) = (ps.toList.map fun p => (p.1, ρ p.2)).toArray from by apply Array.toList_inj.1; simp, this]
        rfl
    · simp [pureV] at h
  case binOp op t x y t' =>
    simp only [pureV] at h
    split at h
    · rename_i a b ha hb
      rw [hev x _ ha, hev y _ hb]
      have := binV_sound (x := x) (y := y) h w
      rw [Sem.run_bind, this]; rfl
    · cases h
  case unOp op t x =>
    cases op <;> simp only [pureV] at h <;> first | (cases h; done) | skip
    all_goals
      split at h
      · rename_i hx; simp only [Option.some.injEq] at h; subst h; rw [hev x _ hx]; rfl
      · cases h
  case convert src dst x =>
    simp only [Sem.run_bind]
    unfold convert
    simp only [Sem.run_bind, run_underlying_eq]
    cases hs : P.underlying src with
    | none => simp [hs, pureV] at h
    | some ds =>
      cases hd : P.underlying dst with
      | none => simp [hs, hd, pureV] at h
      | some dd =>
        simp only [hs, hd] at h
        simp only [Result.andThen_ok]
        cases ds <;> cases dd <;> simp only at h <;> first | (simp only [pureV] at h; cases h; done) | skip
        case int.int k1 k2 =>
          simp only [pureV] at h
          split at h
          · rename_i hx; simp only [Option.some.injEq] at h; subst h; rw [hev x _ hx]; rfl
          · cases h
        case int.string k1 =>
          simp only [pureV] at h
          split at h
          · rename_i hx; simp only [Option.some.injEq] at h; subst h; rw [hev x _ hx]; rfl
          · cases h
        case string.string =>
          simp only [pureV] at h
          split at h
          · rename_i hx; simp only [Option.some.injEq] at h; subst h; rw [hev x _ hx]; rfl
          · cases h
        case string.slice e =>
          split at h <;> simp [pureV] at h
        case slice.string e =>
          split at h
          · rename_i he
            simp only [pureV] at h
            split at h
            · rename_i hx; simp only [Option.some.injEq] at h; subst h; rw [hev x _ hx]
              simp only [Sem.run_bind, run_underlying_eq, he, Result.andThen_ok]
              rfl
            · cases h
          · simp [pureV] at h
  case fieldAddr t x f =>
    split at h <;> (try (simp [pureV] at h; done))
    rename_i fs hu
    split at h <;> (try (simp [pureV] at h; done))
    rename_i fd hfd
    split at h <;> (try (simp [pureV] at h; done))
    rename_i n hsz
    simp only [pureV] at h
    split at h
    · rename_i b off hx
      simp only [Option.some.injEq] at h; subst h
      rw [hev x _ hx]
      have hi : P.info? fd.type ≠ none := by intro e; simp [sizeOfT, e] at hsz
      simp only [Sem.run_bind, Instr.fieldAt, run_underlying_eq, hu, Result.andThen_ok, hfd, Instr.sureAddr, Sem.run_pure, fieldPlace, run_sizeOf_of hsz, Sem.run_ite]
      rw [if_neg (by omega)]
      simp only [Result.andThen_ok, Addr.add]
      split
      · rename_i h0; simp [h0]
      · rfl
    · cases h
  case field t x f =>
    split at h <;> (try (simp [pureV] at h; done))
    rename_i fs hu
    split at h <;> (try (simp [pureV] at h; done))
    rename_i fd hfd
    split at h <;> (try (simp [pureV] at h; done))
    rename_i n hagg
    simp only [pureV] at h
    split at h
    · rename_i cs hx
      rw [hev x _ hx]
      simp only [Sem.run_bind, Instr.field, run_underlying_eq, hu, Result.andThen_ok, hfd, asAgg, Sem.run_pure, run_part_of hagg h]
    · cases h
  case extract x i =>
    simp only [pureV] at h
    split at h
    · rename_i vs hx
      rw [hev x _ hx]
      have h' : vs[i]? = some v := by simpa using h
      simp [Instr.extract, h']
    · cases h
  case makeInterface t x =>
    split at h <;> (try (simp [pureV] at h; done))
    rename_i d hni hu
    simp only [pureV, Option.map_eq_some_iff] at h
    obtain ⟨u, hx, rfl⟩ := h
    rw [hev x _ hx]
    simp only [Sem.run_bind, Instr.makeInterface, run_underlying_eq, hu, Result.andThen_ok]
    cases d <;> first | rfl | (exact (hni _ hu).elim)
  case makeFunc fn a b =>
    simp only [pureV] at h
    split at h
    · rename_i u w' ha hb
      simp only [Option.some.injEq] at h; subst h
      have h1 := ev_map hev _ _ ha
      have h2 := ev_map hev _ _ hb
      have e1 : a.map ρ = u.toArray := by apply Array.toList_inj.1; simp [← h1]
      have e2 : b.map ρ = w'.toArray := by apply Array.toList_inj.1; simp [← h2]
      simp [Instr.makeFunc, e1, e2]
    · cases h
  case call c =>
    obtain ⟨callee, args, argTypes⟩ := c
    cases callee with
    | value f => simp [pureV] at h
    | invoke r m => simp [pureV] at h
    | builtin b =>
      have hres : ((do let d ← resolve ρ { callee := .builtin b, args := args, argTypes := argTypes } o.type; invoke d.target d.args : Sem Next)).run P w =
          (builtin b argTypes o.type (args.map fun | .const _ => true | _ => false) (args.map ρ)).run P w := rfl
      have hargs : ∀ l : List Operand, args.toList = l → args.map ρ = (l.map ρ).toArray := by
        intro l e; apply Array.toList_inj.1; simp [← e]
      have htys : ∀ l : List Nat, argTypes.toList = l → argTypes = l.toArray := by
        intro l e; apply Array.toList_inj.1; simp [← e]
      simp only [Sem.run_bind] at hres ⊢
      rw [hres]
      simp only [iopB] at h
      cases b <;> simp only at h <;> (try (simp [pureV] at h; done))
      case len =>
        split at h <;> (try (simp [pureV] at h; done))
        rename_i x t ha ht
        split at h <;> (try (simp [pureV] at h; done))
        rename_i k hk
        rw [hargs _ ha, htys _ ht]
        simp only [List.map_cons, List.map_nil, builtin, Sem.run_bind, Builtin.len_, List.getElem?_toArray, List.getElem?_cons_zero, run_underlying_eq]
        unfold lenK at hk
        split at hk <;> (try (cases hk; done))
        case h_1 n e hu =>
          simp only [Option.some.injEq] at hk; subst hk
          simp only [pureV, Option.some.injEq] at h; subst h
          simp only [hu, Result.andThen_ok]
          rfl
        case h_5 e hu =>
          split at hk <;> (try (cases hk; done))
          rename_i n _ he
          simp only [Option.some.injEq] at hk; subst hk
          simp only [pureV, Option.some.injEq] at h; subst h
          simp only [hu, Result.andThen_ok, Sem.run_bind, run_underlying_eq, he]
          rfl
        all_goals
          rename_i hu
          simp only [Option.some.injEq] at hk; subst hk
          simp only [pureV] at h
          split at h
          · rename_i hx; simp only [Option.some.injEq] at h; subst h
            rw [hev x _ hx]
            simp only [hu, Result.andThen_ok]
            rfl
          · cases h
      case cap =>
        split at h <;> (try (simp [pureV] at h; done))
        rename_i x t ha ht
        split at h <;> (try (simp [pureV] at h; done))
        rename_i e hu
        rw [hargs _ ha, htys _ ht]
        simp only [List.map_cons, List.map_nil, builtin, Sem.run_bind, Builtin.cap_, List.getElem?_toArray, List.getElem?_cons_zero, run_underlying_eq]
        simp only [pureV] at h
        split at h
        · rename_i hx; simp only [Option.some.injEq] at h; subst h
          rw [hev x _ hx]
          simp only [hu, Result.andThen_ok]
          rfl
        · cases h
      case max =>
        simp only [pureV] at h
        split at h
        · rename_i a r hl
          have h1 := ev_map hev _ _ hl
          rw [hargs _ rfl, h1]
          simp only [builtin, Sem.run_bind, Builtin.max_]
          rw [foldV_sound (f := Builtin.max2) w (fun a b v e => max2_sound e w) r a v h]
          rfl
        · cases h
      case min =>
        simp only [pureV] at h
        split at h
        · rename_i a r hl
          have h1 := ev_map hev _ _ hl
          rw [hargs _ rfl, h1]
          simp only [builtin, Sem.run_bind, Builtin.min_]
          rw [foldV_sound (f := Builtin.min2) w (fun a b v e => min2_sound e w) r a v h]
          rfl
        · cases h
      all_goals
        exfalso
        repeat' split at h
        all_goals (simp [pureV] at h; done)
  case makeMap t r => cases r <;> simp [pureV] at h
  all_goals
    exfalso
    first
    | (simp [pureV] at h; done)
    | (repeat' split at h
       all_goals (simp [pureV] at h; done))
end Go.Sx
