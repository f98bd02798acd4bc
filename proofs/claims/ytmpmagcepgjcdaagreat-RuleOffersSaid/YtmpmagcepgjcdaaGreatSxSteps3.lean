/- A part of an engine of our own (the code is compiled to a smaller language, whose steps are proved right), nothing is claimed here: Sx.Steps3 -/
import Derived.Test.YtmpmagcepgjcdaaGreatSxSteps2
set_option linter.all false
namespace Go.Sx
theorem iop_inv_append {P : Program} {o : Oper} {e sz bt : Nat} {z : List Value} {x y : Opd} (h : iop P o = .append e sz bt z x y) : ∃ s u t1 t2, o.op = .call ⟨.builtin .append, #[s, u], #[t1, t2]⟩ ∧ Opd.of s = x ∧ Opd.of u = y ∧ P.underlying t1 = some (.slice e) ∧ ((∃ e2, P.underlying t2 = some (.slice e2)) ∨ P.underlying t2 = some .string) ∧ sizeOfT P e = some sz ∧ bytesOfT P e = some bt ∧ zeroOf P e = some z ∧ z.length = sz := by
  unfold iop at h
  cases hop : o.op <;> simp only [hop] at h <;> (try (cases h; done))
  case call c =>
    obtain ⟨callee, args, tys⟩ := c
    cases callee with
    | value f => cases h
    | invoke r m => cases h
    | builtin b =>
      simp only [iopB] at h
      cases b <;> simp only at h <;> (try (cases h; done))
      case append =>
        split at h <;> (try (cases h; done))
        rename_i s u t1 t2 ha ht
        split at h <;> (try (cases h; done)) <;> (try (split at h <;> cases h; done))
        rename_i q hq
        simp only [IOp.append.injEq] at h
        obtain ⟨rfl, rfl, rfl, rfl, rfl, rfl⟩ := h
        have ea : args = #[s, u] := by apply Array.toList_inj.1; simpa using ha
        have et : tys = #[t1, t2] := by apply Array.toList_inj.1; simpa using ht
        subst ea; subst et
        unfold appK at hq
        split at hq <;> (try (cases hq; done))
        rename_i e' hu1
        split at hq <;> (try (cases hq; done))
        all_goals
          rename_i hu2
          split at hq <;> (try (cases hq; done))
          rename_i sz' b' z' h1 h2 h3
          split at hq <;> (try (cases hq; done))
          rename_i hl
          simp only [Option.some.injEq, Prod.mk.injEq] at hq
          obtain ⟨rfl, rfl, rfl, rfl⟩ := hq
          first
            | exact ⟨s, u, t1, t2, rfl, rfl, rfl, hu1, Or.inl ⟨_, hu2⟩, h1, h2, h3, hl⟩
            | exact ⟨s, u, t1, t2, rfl, rfl, rfl, hu1, Or.inr hu2, h1, h2, h3, hl⟩
      all_goals
        repeat' split at h
        all_goals cases h
  case makeMap t r => cases r <;> cases h
  all_goals
    repeat' split at h
    all_goals cases h

theorem iop_inv_copy {P : Program} {o : Oper} {sz : Nat} {x y : Opd} (h : iop P o = .copy sz x y) : ∃ s u t1 t2 e, o.op = .call ⟨.builtin .copy, #[s, u], #[t1, t2]⟩ ∧ Opd.of s = x ∧ Opd.of u = y ∧ P.underlying t1 = some (.slice e) ∧ sizeOfT P e = some sz := by
  unfold iop at h
  cases hop : o.op <;> simp only [hop] at h <;> (try (cases h; done))
  case call c =>
    obtain ⟨callee, args, tys⟩ := c
    cases callee with
    | value f => cases h
    | invoke r m => cases h
    | builtin b =>
      simp only [iopB] at h
      cases b <;> simp only at h <;> (try (cases h; done))
      case copy =>
        split at h <;> (try (cases h; done))
        rename_i s u t1 t2 ha ht
        split at h <;> (try (cases h; done))
        rename_i e hu
        split at h <;> (try (cases h; done))
        rename_i sz' hs
        simp only [IOp.copy.injEq] at h
        obtain ⟨rfl, rfl, rfl⟩ := h
        have ea : args = #[s, u] := by apply Array.toList_inj.1; simpa using ha
        have et : tys = #[t1, t2] := by apply Array.toList_inj.1; simpa using ht
        subst ea; subst et
        exact ⟨s, u, t1, t2, e, rfl, rfl, rfl, hu, hs⟩
      all_goals
        repeat' split at h
        all_goals cases h
  case makeMap t r => cases r <;> cases h
  all_goals
    repeat' split at h
    all_goals cases h

theorem iop_inv_clearSl {P : Program} {o : Oper} {z : List Value} {x : Opd} (h : iop P o = .clearSl z x) : ∃ s t1 e, o.op = .call ⟨.builtin .clear, #[s], #[t1]⟩ ∧ Opd.of s = x ∧ P.underlying t1 = some (.slice e) ∧ zeroOf P e = some z := by
  unfold iop at h
  cases hop : o.op <;> simp only [hop] at h <;> (try (cases h; done))
  case call c =>
    obtain ⟨callee, args, tys⟩ := c
    cases callee with
    | value f => cases h
    | invoke r m => cases h
    | builtin b =>
      simp only [iopB] at h
      cases b <;> simp only at h <;> (try (cases h; done))
      case clear =>
        split at h <;> (try (cases h; done))
        rename_i s t1 ha ht
        split at h <;> (try (cases h; done))
        rename_i e hu
        split at h <;> (try (cases h; done))
        rename_i z' hz
        simp only [IOp.clearSl.injEq] at h
        obtain ⟨rfl, rfl⟩ := h
        have ea : args = #[s] := by apply Array.toList_inj.1; simpa using ha
        have et : tys = #[t1] := by apply Array.toList_inj.1; simpa using ht
        subst ea; subst et
        exact ⟨s, t1, e, rfl, rfl, hu, hz⟩
      all_goals
        repeat' split at h
        all_goals cases h
  case makeMap t r => cases r <;> cases h
  all_goals
    repeat' split at h
    all_goals cases h

theorem iop_inv_len {P : Program} {o : Oper} {k : LenK} {x : Opd} (h : iop P o = .len k x) : ∃ s t1, o.op = .call ⟨.builtin .len, #[s], #[t1]⟩ ∧ Opd.of s = x ∧ lenK P t1 = some k := by
  unfold iop at h
  cases hop : o.op <;> simp only [hop] at h <;> (try (cases h; done))
  case call c =>
    obtain ⟨callee, args, tys⟩ := c
    cases callee with
    | value f => cases h
    | invoke r m => cases h
    | builtin b =>
      simp only [iopB] at h
      cases b <;> simp only at h <;> (try (cases h; done))
      case len =>
        split at h <;> (try (cases h; done))
        rename_i s t1 ha ht
        split at h <;> (try (cases h; done))
        rename_i k' hk
        simp only [IOp.len.injEq] at h
        obtain ⟨rfl, rfl⟩ := h
        have ea : args = #[s] := by apply Array.toList_inj.1; simpa using ha
        have et : tys = #[t1] := by apply Array.toList_inj.1; simpa using ht
        subst ea; subst et
        exact ⟨s, t1, rfl, rfl, hk⟩
      all_goals
        repeat' split at h
        all_goals cases h
  case makeMap t r => cases r <;> cases h
  all_goals
    repeat' split at h
    all_goals cases h

theorem iop_inv_delete {P : Program} {o : Oper} {k : EqK} {x y : Opd} (h : iop P o = .delete k x y) : ∃ s u t1 t2 kt e, o.op = .call ⟨.builtin .delete, #[s, u], #[t1, t2]⟩ ∧ Opd.of s = x ∧ Opd.of u = y ∧ P.underlying t1 = some (.map kt e) ∧ eqKOf P kt = k := by
  unfold iop at h
  cases hop : o.op <;> simp only [hop] at h <;> (try (cases h; done))
  case call c =>
    obtain ⟨callee, args, tys⟩ := c
    cases callee with
    | value f => cases h
    | invoke r m => cases h
    | builtin b =>
      simp only [iopB] at h
      cases b <;> simp only at h <;> (try (cases h; done))
      case delete =>
        split at h <;> (try (cases h; done))
        rename_i s u t1 t2 ha ht
        split at h <;> (try (cases h; done))
        rename_i kt e hu
        simp only [IOp.delete.injEq] at h
        obtain ⟨rfl, rfl, rfl⟩ := h
        have ea : args = #[s, u] := by apply Array.toList_inj.1; simpa using ha
        have et : tys = #[t1, t2] := by apply Array.toList_inj.1; simpa using ht
        subst ea; subst et
        exact ⟨s, u, t1, t2, kt, e, rfl, rfl, rfl, hu, rfl⟩
      all_goals
        repeat' split at h
        all_goals cases h
  case makeMap t r => cases r <;> cases h
  all_goals
    repeat' split at h
    all_goals cases h

theorem iop_inv_mkSlice {P : Program} {o : Oper} {e sz bt : Nat} {z : List Value} {l c : Opd} (h : iop P o = .mkSlice e sz bt z l c) : ∃ t y u, o.op = .makeSlice t y u ∧ Opd.of y = l ∧ Opd.of u = c ∧ P.underlying t = some (.slice e) ∧ sizeOfT P e = some sz ∧ bytesOfT P e = some bt ∧ zeroOf P e = some z ∧ z.length = sz := by
  unfold iop at h
  cases hop : o.op <;> simp only [hop] at h <;> (try (cases h; done))
  case makeSlice t y u =>
    split at h <;> (try (cases h; done))
    rename_i e' hu
    split at h <;> (try (cases h; done))
    rename_i s b z' h1 h2 h3
    split at h <;> (try (cases h; done))
    rename_i hl
    simp only [IOp.mkSlice.injEq] at h
    obtain ⟨rfl, rfl, rfl, rfl, rfl, rfl⟩ := h
    exact ⟨t, y, u, rfl, rfl, rfl, hu, h1, h2, h3, hl⟩
  case call c =>
    obtain ⟨callee, args, tys⟩ := c
    cases callee with
    | value f => cases h
    | invoke r m => cases h
    | builtin b =>
      simp only [iopB] at h
      repeat' split at h
      all_goals cases h
  case makeMap t r => cases r <;> cases h
  all_goals
    repeat' split at h
    all_goals cases h

theorem iop_inv_lookup {P : Program} {o : Oper} {k : EqK} {z : Value} {ok : Bool} {x i : Opd} (h : iop P o = .lookup k z ok x i) : ∃ t y u kt e, o.op = .lookup t y u ok ∧ Opd.of y = x ∧ Opd.of u = i ∧ P.underlying t = some (.map kt e) ∧ eqKOf P kt = k ∧ (P.info? e).bind (·.zero) = some z := by
  unfold iop at h
  cases hop : o.op <;> simp only [hop] at h <;> (try (cases h; done))
  case lookup t y u ok' =>
    split at h <;> (try (cases h; done))
    rename_i kt e hu
    split at h <;> (try (cases h; done))
    rename_i z' hz
    simp only [IOp.lookup.injEq] at h
    obtain ⟨rfl, rfl, rfl, rfl, rfl⟩ := h
    exact ⟨t, y, u, kt, e, rfl, rfl, rfl, hu, rfl, hz⟩
  case call c =>
    obtain ⟨callee, args, tys⟩ := c
    cases callee with
    | value f => cases h
    | invoke r m => cases h
    | builtin b =>
      simp only [iopB] at h
      repeat' split at h
      all_goals cases h
  case makeMap t r => cases r <;> cases h
  all_goals
    repeat' split at h
    all_goals cases h

theorem iop_inv_mapUpd {P : Program} {o : Oper} {k : EqK} {m i v : Opd} (h : iop P o = .mapUpd k m i v) : ∃ t a b c kt e, (o.op = .mapUpdate t a b c ∨ o.op = .insert t a b c) ∧ Opd.of a = m ∧ Opd.of b = i ∧ Opd.of c = v ∧ P.underlying t = some (.map kt e) ∧ eqKOf P kt = k := by
  unfold iop at h
  cases hop : o.op <;> simp only [hop] at h <;> (try (cases h; done))
  case mapUpdate t a b c =>
    split at h <;> (try (cases h; done))
    rename_i kt e hu
    simp only [IOp.mapUpd.injEq] at h
    obtain ⟨rfl, rfl, rfl, rfl⟩ := h
    exact ⟨t, a, b, c, kt, e, Or.inl rfl, rfl, rfl, rfl, hu, rfl⟩
  case insert t a b c =>
    split at h <;> (try (cases h; done))
    rename_i kt e hu
    simp only [IOp.mapUpd.injEq] at h
    obtain ⟨rfl, rfl, rfl, rfl⟩ := h
    exact ⟨t, a, b, c, kt, e, Or.inr rfl, rfl, rfl, rfl, hu, rfl⟩
  case call c =>
    obtain ⟨callee, args, tys⟩ := c
    cases callee with
    | value f => cases h
    | invoke r m => cases h
    | builtin b =>
      simp only [iopB] at h
      repeat' split at h
      all_goals cases h
  case makeMap t r => cases r <;> cases h
  all_goals
    repeat' split at h
    all_goals cases h

theorem iop_inv_conv {P : Program} {o : Oper} {k : CvK} {x : Opd} (h : iop P o = .conv k x) : ∃ s d y, o.op = .convert s d y ∧ Opd.of y = x ∧ (match k with | .int k => ∃ j, P.underlying s = some (.int j) ∧ P.underlying d = some (.int k) | .same => P.underlying s = some .string ∧ P.underlying d = some .string | .intStr => ∃ j, P.underlying s = some (.int j) ∧ P.underlying d = some .string | .strBytes e => P.underlying s = some .string ∧ P.underlying d = some (.slice e) ∧ P.underlying e = some (.int .u8) | .bytesStr => ∃ e, P.underlying s = some (.slice e) ∧ P.underlying d = some .string ∧ P.underlying e = some (.int .u8)) := by
  unfold iop at h
  cases hop : o.op <;> simp only [hop] at h <;> (try (cases h; done))
  case convert s d y =>
    split at h <;> (try (cases h; done))
    · rename_i hs hd; simp only [IOp.conv.injEq] at h; obtain ⟨rfl, rfl⟩ := h; exact ⟨s, d, y, rfl, rfl, _, hs, hd⟩
    · rename_i hs hd; simp only [IOp.conv.injEq] at h; obtain ⟨rfl, rfl⟩ := h; exact ⟨s, d, y, rfl, rfl, hs, hd⟩
    · rename_i hs hd; simp only [IOp.conv.injEq] at h; obtain ⟨rfl, rfl⟩ := h; exact ⟨s, d, y, rfl, rfl, _, hs, hd⟩
    · rename_i hs hd
      split at h <;> (try (cases h; done))
      rename_i he
      simp only [IOp.conv.injEq] at h; obtain ⟨rfl, rfl⟩ := h; exact ⟨s, d, y, rfl, rfl, hs, hd, he⟩
    · rename_i hs hd
      split at h <;> (try (cases h; done))
      rename_i he
      simp only [IOp.conv.injEq] at h; obtain ⟨rfl, rfl⟩ := h; exact ⟨s, d, y, rfl, rfl, _, hs, hd, he⟩
  case call c =>
    obtain ⟨callee, args, tys⟩ := c
    cases callee with
    | value f => cases h
    | invoke r m => cases h
    | builtin b =>
      simp only [iopB] at h
      repeat' split at h
      all_goals cases h
  case makeMap t r => cases r <;> cases h
  all_goals
    repeat' split at h
    all_goals cases h

theorem iop_inv_next {P : Program} {o : Oper} {x : Opd} {b : Bool} (h : iop P o = .next x b) : ∃ y, o.op = .next y b ∧ Opd.of y = x := by
  unfold iop at h
  cases hop : o.op <;> simp only [hop] at h <;> (try (cases h; done))
  case next y b' =>
    simp only [IOp.next.injEq] at h
    obtain ⟨rfl, rfl⟩ := h
    exact ⟨y, rfl, rfl⟩
  case call c =>
    obtain ⟨callee, args, tys⟩ := c
    cases callee with
    | value f => cases h
    | invoke r m => cases h
    | builtin b =>
      simp only [iopB] at h
      repeat' split at h
      all_goals cases h
  case makeMap t r => cases r <;> cases h
  all_goals
    repeat' split at h
    all_goals cases h

theorem iop_inv_rangeMap {P : Program} {o : Oper} {x : Opd} (h : iop P o = .rangeMap x) : ∃ t y k e, o.op = .range t y ∧ Opd.of y = x ∧ P.underlying t = some (.map k e) := by
  unfold iop at h
  cases hop : o.op <;> simp only [hop] at h <;> (try (cases h; done))
  case range t y =>
    split at h <;> (try (cases h; done))
    rename_i k e hu
    simp only [IOp.rangeMap.injEq] at h
    subst h
    exact ⟨t, y, k, e, rfl, rfl, hu⟩
  case call c =>
    obtain ⟨callee, args, tys⟩ := c
    cases callee with
    | value f => cases h
    | invoke r m => cases h
    | builtin b =>
      simp only [iopB] at h
      repeat' split at h
      all_goals cases h
  case makeMap t r => cases r <;> cases h
  all_goals
    repeat' split at h
    all_goals cases h

theorem iop_inv_rangeStr {P : Program} {o : Oper} {x : Opd} (h : iop P o = .rangeStr x) : ∃ t y, o.op = .range t y ∧ Opd.of y = x ∧ P.underlying t = some .string := by
  unfold iop at h
  cases hop : o.op <;> simp only [hop] at h <;> (try (cases h; done))
  case range t y =>
    split at h <;> (try (cases h; done))
    rename_i hu
    simp only [IOp.rangeStr.injEq] at h
    subst h
    exact ⟨t, y, rfl, rfl, hu⟩
  case call c =>
    obtain ⟨callee, args, tys⟩ := c
    cases callee with
    | value f => cases h
    | invoke r m => cases h
    | builtin b =>
      simp only [iopB] at h
      repeat' split at h
      all_goals cases h
  case makeMap t r => cases r <;> cases h
  all_goals
    repeat' split at h
    all_goals cases h

end Go.Sx
