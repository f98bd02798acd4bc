/- A part of an engine of our own (the code is compiled to a smaller language, whose steps are proved right), nothing is claimed here: - what an operation comes to -/
import Derived.Test.YtmpmagcepgjcdaaGreatSxSG
import Derived.Laws.Cells
set_option linter.all false
namespace Go.Sx

theorem inOf_inv {P : Program} {n : Nat} {ops : Array Oper} {o : Oper} {x : In} (h : inOf P n ops o = some x) :
    iop P o = x.op ∧ o.dst = x.dst ∧ guardOf ops o = some x.guard ∧ ∀ d, x.dst = some d → d < n := by
  unfold inOf at h
  split at h
  · rename_i g hg
    split at h
    · rename_i hd; simp only [Option.some.injEq] at h; subst h; exact ⟨rfl, hd, hg, fun d e => by cases e⟩
    · rename_i d hd
      split at h
      · rename_i hlt; simp only [Option.some.injEq] at h; subst h; exact ⟨rfl, hd, hg, fun d' e => by cases e; exact hlt⟩
      · cases h
  · cases h

theorem wanted_of {env : Env} {tmps : Array Value} (ha : Agree env tmps) {ops : Array Oper} {o : Oper} {g : Option (Nat × Bool)} (hg : guardOf ops o = some g) {b : Bool} (hs : gst env g = some b) :
    Region.wanted o (yielded ops tmps) = b := by
  unfold guardOf at hg
  unfold Region.wanted
  split at hg
  · rename_i hn
    simp only [Option.some.injEq] at hg; subst hg
    simp only [gst, Option.some.injEq] at hs; subst hs
    simp [hn]
  · rename_i j want hn
    split at hg
    · rename_i q hq
      split at hg
      · rename_i d hd
        simp only [Option.some.injEq] at hg; subst hg
        simp only [gst] at hs
        split at hs
        · rename_i y hy
          simp only [Option.some.injEq] at hs; subst hs
          have := ha _ _ hy
          simp [hn, yielded, hq, hd, this]
        · rename_i y hy
          simp only [Option.some.injEq] at hs; subst hs
          have := ha _ _ hy
          simp [hn, yielded, hq, hd, this]
        · cases hs
      · cases hg
    · cases hg

/-- what an operation comes to -/
def StepR (P : Program) (r : Result Next) (N : Value → World → Prop) : Prop :=
  match r with
  | .ok (.value v) w' => N v w'
  | .ok .skip w' => N undef w'
  | .ok (.enter g args) w' => Calls P g args w' fun e w'' => ∃ v, e = .returned v ∧ N v w''
  | _ => False

theorem StepR.mono {P : Program} {r : Result Next} {N N' : Value → World → Prop} (h : StepR P r N) (hn : ∀ v w, N v w → N' v w) : StepR P r N' := by
  unfold StepR at *
  split at h <;> first | exact hn _ _ h | exact h.mono (fun e w'' ⟨v, he, x⟩ => ⟨v, he, hn _ _ x⟩) | exact h.elim

theorem good_step {P : Program} {f : FuncId} {cs : List Frame} {R : Ending → World → Prop} {w : World} {tmps : Array Value} {ds : List Deferred} {k : List Item} {ops : Array Oper} {i : Nat} {rest : List Nat} {o : Oper}
    (ho : ops[i]? = some o) (hw : Region.wanted o (yielded ops tmps) = true)
    (h : StepR P ((execOp (Act.mk tmps ds).eval o).run P w) fun v w' => Good P f cs R (at_ f ds (putT tmps o.dst v) (.inRegion ops rest :: k) cs w')) :
    Good P f cs R (at_ f ds tmps (.inRegion ops (i :: rest) :: k) cs w) := by
  unfold StepR at h
  split at h
  · rename_i hr; exact good_op_value ho hw hr h
  · rename_i hr; exact good_op_skip ho hw hr h
  · rename_i hr; exact good_op_enter ho hw hr h
  · exact h.elim

/-- what an operation does, in the words of chunks -/
def OpStep (P : Program) (I : Imm) (h : List Chunk) (env : Env) (op : IOp) (N : Value → Imm → List Chunk → Prop) : Prop :=
  ∀ (o : Oper) (ρ : Operand → Value) (w : World), iop P o = op → EvOK (ev env) ρ → Sat I h w.hx → StepR P ((execOp ρ o).run P w) fun v w' => ∃ I' h', N v I' h' ∧ Sat I' h' w'.hx

/-- an operation that only reads -/
def RV (P : Program) (I : Imm) (h : List Chunk) (env : Env) (op : IOp) (v : Value) : Prop :=
  ∀ (o : Oper) (ρ : Operand → Value) (w : World), iop P o = op → EvOK (ev env) ρ → Sat I h w.hx → (execOp ρ o).run P w = .ok (.value v) w

theorem o_read {P : Program} {I : Imm} {h : List Chunk} {env : Env} {op : IOp} {v : Value} {N : Value → Imm → List Chunk → Prop} (r : RV P I h env op v) (n : N v I h) : OpStep P I h env op N :=
  fun o ρ w hi he hs => by rw [r o ρ w hi he hs]; exact ⟨I, h, n, hs⟩

section
variable {C : Cx} {I : Imm} {env : Env} {h : List Chunk} {K : List KI} {l : List In}

theorem sg_op {d : Option Nat} {g : Option (Nat × Bool)} {op : IOp} (hg : gst env g = some true) (H : OpStep C.P I h env op fun v I' h' => SG C I' (setE d v env) h' (.ops l :: K)) :
    SG C I env h (.ops (⟨d, g, op⟩ :: l) :: K) := by
  intro tmps w todo hs ha hh hk
  cases hk with
  | ops hr hk =>
    cases hr with
    | cons ho hx hr =>
      rename_i i o idx
      obtain ⟨h1, h2, h3, h4⟩ := inOf_inv hx
      refine good_step ho (wanted_of ha h3 hg) ((H o _ w h1 ha.ev hh).mono ?_)
      rintro v w' ⟨I', h', hsg, hsat⟩
      refine hsg _ _ _ ?_ ?_ hsat (.ops hr hk)
      · rw [putT_size]; exact hs
      · rw [h2]; exact ha.set (fun d e => by rw [hs]; exact h4 d e) v

/-- an operation whose guard says no -/
theorem sg_no {x : In} (hg : gst env x.guard = some false) (g : SG C I (setE x.dst undef env) h (.ops l :: K)) : SG C I env h (.ops (x :: l) :: K) := by
  intro tmps w todo hs ha hh hk
  cases hk with
  | ops hr hk =>
    cases hr with
    | cons ho hx hr =>
      rename_i i o idx
      obtain ⟨h1, h2, h3, h4⟩ := inOf_inv hx
      refine good_op_skipped ho (wanted_of ha h3 hg) ?_
      refine g _ _ _ ?_ ?_ hh (.ops hr hk)
      · rw [putT_size]; exact hs
      · rw [h2]; exact ha.set (fun d e => by rw [hs]; exact h4 d e) undef

theorem sg_read {d : Option Nat} {g : Option (Nat × Bool)} {op : IOp} {v : Value} (hg : gst env g = some true) (r : RV C.P I h env op v)
    (k : SG C I (setE d v env) h (.ops l :: K)) : SG C I env h (.ops (⟨d, g, op⟩ :: l) :: K) := sg_op hg (o_read r k)

theorem r_pure {P : Program} {op : IOp} {v : Value} (hv : pureV (ev env) op = some v) : RV P I h env op v :=
  fun _ _ w hi he _ => pure_sound (by rw [hi]; exact hv) he w
end

/-! ### the operations, one by one -/
theorem iop_inv_newv {P : Program} {o : Oper} {e : Nat} {z : List Value} (h : iop P o = .newv e z) : o.op = .alloc e ∧ zeroOf P e = some z := by
  unfold iop at h
  cases hop : o.op <;> simp only [hop] at h <;> (try (cases h; done))
  case alloc e' =>
    split at h
    · rename_i hz; simp only [IOp.newv.injEq] at h; obtain ⟨rfl, rfl⟩ := h; exact ⟨rfl, hz⟩
    · cases h
  case call c =>
    obtain ⟨callee, args, tys⟩ := c
    cases callee with
    | value f => cases h
    | invoke r m => cases h
    | builtin b =>
      simp only [iopB] at h
      repeat' split at h
      all_goals cases h
  case makeMap t r => cases r <;> cases h
  all_goals
    repeat' split at h
    all_goals cases h

theorem iop_inv_box {P : Program} {o : Oper} {e : Nat} {x : Opd} (h : iop P o = .box e x) : ∃ y, o.op = .box e y ∧ Opd.of y = x := by
  unfold iop at h
  cases hop : o.op <;> simp only [hop] at h <;> (try (cases h; done))
  case box e' y =>
    simp only [IOp.box.injEq] at h; obtain ⟨rfl, rfl⟩ := h; exact ⟨y, rfl, rfl⟩
  case call c =>
    obtain ⟨callee, args, tys⟩ := c
    cases callee with
    | value f => cases h
    | invoke r m => cases h
    | builtin b =>
      simp only [iopB] at h
      repeat' split at h
      all_goals cases h
  case makeMap t r => cases r <;> cases h
  all_goals
    repeat' split at h
    all_goals cases h

theorem iop_inv_bslice {P : Program} {o : Oper} {e n : Nat} {z : List Value} {l : List (Nat × Nat × Opd)} (h : iop P o = .bslice e n z l) : ∃ t ps s z0, o.op = .buildSlice t n ps ∧ P.underlying t = some (.slice e) ∧ sizeOfT P e = some s ∧ zeroOf P e = some z0 ∧ z0.length = s ∧ z = repCells z0 n ∧ n * s ≤ 2 ^ 24 ∧ partsAt (fun i => some (i * s, s)) ps.toList = some l := by
  unfold iop at h
  cases hop : o.op <;> simp only [hop] at h <;> (try (cases h; done))
  case buildSlice t len ps =>
    split at h <;> (try (cases h; done))
    rename_i e' hu
    split at h <;> (try (cases h; done))
    rename_i s z0 hs hz
    split at h <;> (try (cases h; done))
    rename_i lp hp
    split at h <;> (try (cases h; done))
    rename_i hc
    simp only [IOp.bslice.injEq] at h
    obtain ⟨rfl, rfl, rfl, rfl⟩ := h
    exact ⟨t, ps, s, z0, rfl, hu, hs, hz, hc.2, rfl, hc.1, hp⟩
  case call c =>
    obtain ⟨callee, args, tys⟩ := c
    cases callee with
    | value f => cases h
    | invoke r m => cases h
    | builtin b =>
      simp only [iopB] at h
      repeat' split at h
      all_goals cases h
  case makeMap t r => cases r <;> cases h
  all_goals
    repeat' split at h
    all_goals cases h

theorem iop_inv_load {P : Program} {o : Oper} {m : Option Nat} {x : Opd} (h : iop P o = .load m x) : ∃ t y, o.op = .load t y ∧ Opd.of y = x ∧ aggOf P t = some m := by
  unfold iop at h
  cases hop : o.op <;> simp only [hop] at h <;> (try (cases h; done))
  case load t y =>
    split at h <;> (try (cases h; done))
    rename_i n hn
    simp only [IOp.load.injEq] at h
    obtain ⟨rfl, rfl⟩ := h
    exact ⟨t, y, rfl, rfl, hn⟩
  case call c =>
    obtain ⟨callee, args, tys⟩ := c
    cases callee with
    | value f => cases h
    | invoke r m => cases h
    | builtin b =>
      simp only [iopB] at h
      repeat' split at h
      all_goals cases h
  case makeMap t r => cases r <;> cases h
  all_goals
    repeat' split at h
    all_goals cases h

theorem iop_inv_store {P : Program} {o : Oper} {n : Nat} {a x : Opd} (h : iop P o = .store n a x) : ∃ t y z, o.op = .store t y z ∧ Opd.of y = a ∧ Opd.of z = x ∧ sizeOfT P t = some n := by
  unfold iop at h
  cases hop : o.op <;> simp only [hop] at h <;> (try (cases h; done))
  case store t y z =>
    split at h <;> (try (cases h; done))
    rename_i n' hn
    simp only [IOp.store.injEq] at h
    obtain ⟨rfl, rfl, rfl⟩ := h
    exact ⟨t, y, z, rfl, rfl, rfl, hn⟩
  case call c =>
    obtain ⟨callee, args, tys⟩ := c
    cases callee with
    | value f => cases h
    | invoke r m => cases h
    | builtin b =>
      simp only [iopB] at h
      repeat' split at h
      all_goals cases h
  case makeMap t r => cases r <;> cases h
  all_goals
    repeat' split at h
    all_goals cases h

theorem iop_inv_mkMap {P : Program} {o : Oper} (h : iop P o = .mkMap) : ∃ t, o.op = .makeMap t none := by
  unfold iop at h
  cases hop : o.op <;> simp only [hop] at h <;> (try (cases h; done))
  case makeMap t r =>
    cases r with
    | none => exact ⟨t, rfl⟩
    | some r => cases h
  case call c =>
    obtain ⟨callee, args, tys⟩ := c
    cases callee with
    | value f => cases h
    | invoke r m => cases h
    | builtin b =>
      simp only [iopB] at h
      repeat' split at h
      all_goals cases h
  all_goals
    repeat' split at h
    all_goals cases h

theorem iop_inv_call {P : Program} {o : Oper} {f : Opd} {as : List Opd} (h : iop P o = .call f as) : ∃ g args tys, o.op = .call ⟨.value g, args, tys⟩ ∧ Opd.of g = f ∧ args.toList.map Opd.of = as := by
  unfold iop at h
  cases hop : o.op <;> simp only [hop] at h <;> (try (cases h; done))
  case call c =>
    obtain ⟨callee, args, tys⟩ := c
    cases callee with
    | value g =>
      simp only [IOp.call.injEq] at h
      obtain ⟨rfl, rfl⟩ := h
      exact ⟨g, args, tys, rfl, rfl, rfl⟩
    | invoke r m => cases h
    | builtin b =>
      simp only [iopB] at h
      repeat' split at h
      all_goals cases h
  case makeMap t r => cases r <;> cases h
  all_goals
    repeat' split at h
    all_goals cases h

theorem iop_inv_idxAddr {P : Program} {o : Oper} {s : Nat} {len : Option Nat} {x i : Opd} (h : iop P o = .idxAddr s len x i) : ∃ t y j e, o.op = .indexAddr t y j ∧ Opd.of y = x ∧ Opd.of j = i ∧ sizeOfT P e = some s ∧ P.underlying t = some (match len with | some n => .array n e | none => .slice e) := by
  unfold iop at h
  cases hop : o.op <;> simp only [hop] at h <;> (try (cases h; done))
  case indexAddr t y j =>
    split at h <;> (try (cases h; done))
    all_goals
      rename_i hu
      split at h <;> (try (cases h; done))
      rename_i hs
      simp only [IOp.idxAddr.injEq] at h
      obtain ⟨rfl, rfl, rfl, rfl⟩ := h
      exact ⟨t, y, j, _, rfl, rfl, rfl, hs, hu⟩
  case call c =>
    obtain ⟨callee, args, tys⟩ := c
    cases callee with
    | value f => cases h
    | invoke r m => cases h
    | builtin b =>
      simp only [iopB] at h
      repeat' split at h
      all_goals cases h
  case makeMap t r => cases r <;> cases h
  all_goals
    repeat' split at h
    all_goals cases h

theorem iop_inv_slc {P : Program} {o : Oper} {k : SlK} {x : Opd} {lo hi mx : Option Opd} (h : iop P o = .slc k x lo hi mx) : ∃ t y l u m, o.op = .slice t y l u m ∧ Opd.of y = x ∧ l.map Opd.of = lo ∧ u.map Opd.of = hi ∧ m.map Opd.of = mx ∧ slKOf P t = some k := by
  unfold iop at h
  cases hop : o.op <;> simp only [hop] at h <;> (try (cases h; done))
  case slice t y l u m =>
    split at h <;> (try (cases h; done))
    rename_i k' hk
    simp only [IOp.slc.injEq] at h
    obtain ⟨rfl, rfl, rfl, rfl, rfl⟩ := h
    exact ⟨t, y, l, u, m, rfl, rfl, rfl, rfl, rfl, hk⟩
  case call c =>
    obtain ⟨callee, args, tys⟩ := c
    cases callee with
    | value f => cases h
    | invoke r m => cases h
    | builtin b =>
      simp only [iopB] at h
      repeat' split at h
      all_goals cases h
  case makeMap t r => cases r <;> cases h
  all_goals
    repeat' split at h
    all_goals cases h

theorem iop_inv_idx {P : Program} {o : Oper} {k : SlK} {n : Option Nat} {x i : Opd} (h : iop P o = .idx k n x i) : ∃ t y j, o.op = .index t y j ∧ Opd.of y = x ∧ Opd.of j = i ∧ ((k = .str ∧ P.underlying t = some .string) ∨ ∃ m e s, k = .arr m s ∧ P.underlying t = some (.array m e) ∧ sizeOfT P e = some s ∧ aggOf P e = some n) := by
  unfold iop at h
  cases hop : o.op <;> simp only [hop] at h <;> (try (cases h; done))
  case index t y j =>
    split at h <;> (try (cases h; done))
    · rename_i hu
      simp only [IOp.idx.injEq] at h
      obtain ⟨rfl, rfl, rfl, rfl⟩ := h
      exact ⟨t, y, j, rfl, rfl, rfl, Or.inl ⟨rfl, hu⟩⟩
    · rename_i m e hu
      split at h <;> (try (cases h; done))
      rename_i s n' hs hn
      simp only [IOp.idx.injEq] at h
      obtain ⟨rfl, rfl, rfl, rfl⟩ := h
      exact ⟨t, y, j, rfl, rfl, rfl, Or.inr ⟨m, e, s, rfl, hu, hs, hn⟩⟩
  case call c =>
    obtain ⟨callee, args, tys⟩ := c
    cases callee with
    | value f => cases h
    | invoke r m => cases h
    | builtin b =>
      simp only [iopB] at h
      repeat' split at h
      all_goals cases h
  case makeMap t r => cases r <;> cases h
  all_goals
    repeat' split at h
    all_goals cases h

theorem iop_inv_bin {P : Program} {o : Oper} {op : BinOp} {k : EqK} {x y : Opd} (h : iop P o = .bin op k x y) : ∃ t a b u, o.op = .binOp op t a b u ∧ Opd.of a = x ∧ Opd.of b = y ∧ eqKOf P t = k := by
  unfold iop at h
  cases hop : o.op <;> simp only [hop] at h <;> (try (cases h; done))
  case binOp op' t a b u =>
    simp only [IOp.bin.injEq] at h
    obtain ⟨rfl, rfl, rfl, rfl⟩ := h
    exact ⟨t, a, b, u, rfl, rfl, rfl, rfl⟩
  case call c =>
    obtain ⟨callee, args, tys⟩ := c
    cases callee with
    | value f => cases h
    | invoke r m => cases h
    | builtin b =>
      simp only [iopB] at h
      repeat' split at h
      all_goals cases h
  case makeMap t r => cases r <;> cases h
  all_goals
    repeat' split at h
    all_goals cases h

end Go.Sx
