/- A part of an engine of our own (the code is compiled to a smaller language, whose steps are proved right), nothing is claimed here: the same machine, laid for the kernel -/
import Derived.Test.YtmpmagcepgjcdaaGreatSxEx14
set_option linter.all false
/-! the same machine, laid for the kernel -/
namespace Go.Sx

noncomputable def getF {α : Type} (t : Tr α) : Nat → Option α :=
  Tr.rec (motive := fun _ => Nat → Option α) (fun _ => none) (fun v _ _ gl gr k => bif Nat.beq k 0 then v else bif Nat.beq (k % 2) 1 then gl (k / 2) else gr (k / 2 - 1)) t
theorem getF_eq {α : Type} (t : Tr α) : getF t = t.get := by
  induction t with
  | nil => funext k; simp [getF, Tr.get]
  | node v l r ihl ihr =>
    funext k
    show (bif Nat.beq k 0 then v else bif Nat.beq (k % 2) 1 then getF l (k / 2) else getF r (k / 2 - 1)) = _
    rw [ihl, ihr]; rfl

noncomputable def xevF (x : Opd) : Tr Value → Option Value := match x with
  | .tm t => fun E => getF E t
  | .cn v => fun _ => bif cst v then some v else none
theorem xevF_eq (x : Opd) (E : Tr Value) : xevF x E = xev E x := by cases x <;> simp [xevF, xev, getF_eq]

/-- what was laid is laid anew, cell by cell -/
noncomputable def fSp {β : Type} (l : List Value) : (List Value → β) → β :=
  List.rec (motive := fun _ => (List Value → β) → β) (fun c => c []) (fun v _ ih c => ih fun l => c (v :: l)) l
theorem fSp_eq {β : Type} (l : List Value) (c : List Value → β) : fSp l c = c l := by
  induction l generalizing c with
  | nil => rfl
  | cons v l ih => exact ih _
noncomputable def fBy {β : Type} (l : List UInt8) : (List UInt8 → β) → β :=
  List.rec (motive := fun _ => (List UInt8 → β) → β) (fun c => c []) (fun v _ ih c => ih fun l => c (v :: l)) l
theorem fBy_eq {β : Type} (l : List UInt8) (c : List UInt8 → β) : fBy l c = c l := by
  induction l generalizing c with
  | nil => rfl
  | cons v l ih => exact ih _

/-- a value that has just been computed -/
noncomputable def fV {β : Type} (v : Value) : (Value → β) → β := match v with
  | .int k n => fun c => fInt n fun n => c (.int k n)
  | .bool b => fun c => fBool b fun b => c (.bool b)
  | .pointer a => fun c => fOAddr a fun a => c (.pointer a)
  | .slice a n m => fun c => fOAddr a fun a => fNat n fun n => fNat m fun m => c (.slice a n m)
  | .agg ⟨l⟩ => fun c => fSp l fun l => c (.agg ⟨l⟩)
  | .tuple ⟨l⟩ => fun c => fSp l fun l => c (.tuple ⟨l⟩)
  | .func f ⟨l⟩ ⟨m⟩ => fun c => fSp l fun l => fSp m fun m => c (.func f ⟨l⟩ ⟨m⟩)
  | .string ⟨⟨l⟩⟩ => fun c => fBy l fun l => c (.string ⟨⟨l⟩⟩)
  | v => fun c => c v
theorem fV_eq {β : Type} (v : Value) (c : Value → β) : fV v c = c v := by
  cases v with
  | int k n => simp [fV, fInt_eq]
  | bool b => simp [fV, fBool_eq]
  | pointer a => simp [fV, fOAddr_eq]
  | slice a n m => simp [fV, fOAddr_eq, fNat_eq]
  | agg l => obtain ⟨l⟩ := l; simp [fV, fSp_eq]
  | tuple l => obtain ⟨l⟩ := l; simp [fV, fSp_eq]
  | func f l m => obtain ⟨l⟩ := l; obtain ⟨m⟩ := m; simp [fV, fSp_eq]
  | string s => obtain ⟨⟨l⟩⟩ := s; simp [fV, fBy_eq]
  | _ => rfl

/-! reads, by their kinds -/
abbrev Rd := Tr Value → Tr Obj → Option Value
noncomputable def ldF (n : Option Nat) (off : Nat) (o : Option Obj) : Option Value := oCells o (fun cs _ _ => cutF n cs.toList off) none
noncomputable def rdLoad (n : Option Nat) (x : Opd) : Rd := fun E T => match xevF x E with
    | some v => vPtr v (fun a => match a with | some a => (match a.spot with | none => ldF n a.off (getF T a.block) | some _ => none) | none => none) none
    | none => none
noncomputable def iaF (s o n : Nat) (L : Nat) (j : Int) : Option Value := match j with
  | .ofNat j => bif Nat.blt j n then some (.pointer (some ⟨L, o + j * s, none⟩)) else none
  | .negSucc _ => none
noncomputable def rdIdxA (s : Nat) (x i : Opd) : Rd := fun E T => match xevF x E with
    | some v => vSl v (fun a n _ => match a with | some a => (match a.spot with | none => (match xevF i E with | some u => vInt u (fun _ j => iaF s a.off n a.block j) none | none => none) | some _ => none) | none => none) none
    | none => none
noncomputable def rdIdxM (s m : Nat) (x i : Opd) : Rd := fun E T => match xevF x E with
    | some v => vPtr v (fun a => match a with | some a => (match a.spot with | none => (match xevF i E with | some u => vInt u (fun _ j => iaF s a.off m a.block j) none | none => none) | some _ => none) | none => none) none
    | none => none
noncomputable def rdIdxS (x i : Opd) : Rd := fun E T => match xevF x E, xevF i E with
    | some (.string s), some (.int _ j) => (match j with
      | .ofNat j => (match dropR s.data.toList j with
        | b :: _ => some (.int .u8 (.ofNat b.toNat))
        | [] => none)
      | .negSucc _ => none)
    | _, _ => none
noncomputable def rdBin (op : BinOp) (k : EqK) (x y : Opd) : Rd := fun E T => match xevF x E, xevF y E with
    | some a, some b => binV op k a b
    | _, _ => none
/-- two numbers of one kind -/
noncomputable def rd2 (f : IntKind → Int → Int → Option Value) (rest : Rd) (x y : Opd) : Rd := fun E T => match xevF x E with
  | some v => vInt v (fun k a => match xevF y E with
    | some u => vInt u (fun k' b => bif Nat.beq (kNum k) (kNum k') then f k a b else none) (rest E T)
    | none => rest E T) (rest E T)
  | none => rest E T
noncomputable def rdAdd0 (x y : Opd) : Rd := fun E T => match xevF x E, xevF y E with
    | some (.string s), some (.string t) => bif Nat.ble (s.data.toList.length + t.data.toList.length) 1000000 then some (.string ⟨⟨s.data.toList ++ t.data.toList⟩⟩) else none
    | some (.int k a), some (.int k' b) => if k = k' then some (.int k (k.wrap (a + b))) else none
    | _, _ => none
noncomputable def rdConvI (k : IntKind) (x : Opd) : Rd := fun E T => match xevF x E with
    | some v => vInt v (fun _ n => some (.int k (wrapF k n))) none
    | none => none
noncomputable def rdNil (x : Opd) : Rd := fun E T => match xevF x E with
    | some (.pointer (some a)) => some (.pointer (some a))
    | some (.func (.func f) a b) => some (.func (.func f) a b)
    | _ => none
noncomputable def rdFA (off : Nat) (x : Opd) : Rd := fun E T => match xevF x E with
    | some v => vPtr v (fun a => match a with | some a => (match a.spot with | none => some (.pointer (some ⟨a.block, a.off + off, none⟩)) | some _ => none) | none => none) none
    | none => none
noncomputable def rdField (off : Nat) (n : Option Nat) (x : Opd) : Rd := fun E T => match xevF x E with
    | some v => vAgg v (fun cs => partF n cs.toList off) none
    | none => none
noncomputable def rdExtract (x : Opd) (i : Nat) : Rd := fun E T => match xevF x E with
    | some v => vTup v (fun vs => nthF vs.toList i) none
    | none => none
noncomputable def rdNot (x : Opd) : Rd := fun E T => match xevF x E with
    | some v => vBool v (fun b => some (.bool !b)) none
    | none => none
noncomputable def rdLenSl (x : Opd) : Rd := fun E T => match xevF x E with
    | some v => vSl v (fun _ n _ => some (.int .i64 (.ofNat n))) none
    | none => none
noncomputable def rdLenStr (x : Opd) : Rd := fun E T => match xevF x E with
    | some (.string s) => some (.int .i64 s.size)
    | _ => none
/-- the other ones -/
def rdRest (op : IOp) : Rd := fun E T => rdX E T op

noncomputable def rdF (op : IOp) : Option Rd := match op with
  | .mv x => some fun E _ => xevF x E
  | .load n x => some (rdLoad n x)
  | .idxAddr s n x i => match n with | none => some (rdIdxA s x i) | some m => some (rdIdxM s m x i)
  | .idx k n x i => match k with | .str => some (rdIdxS x i) | .sl s => some (rdRest (.idx (.sl s) n x i)) | .arr m s => some (rdRest (.idx (.arr m s) n x i))
  | .nilCheck x => some (rdNil x)
  | .fieldAddr o x => some (rdFA o x)
  | .field o n x => some (rdField o n x)
  | .extract x i => some (rdExtract x i)
  | .bin op k x y => match op with
    | .add => some (rd2 (fun k a b => some (.int k (wrapF k (a + b)))) (rdAdd0 x y) x y)
    | .shl => some (rdRest (.bin .shl k x y)) | .shr => some (rdRest (.bin .shr k x y)) | .quo => some (rdRest (.bin .quo k x y)) | .rem => some (rdRest (.bin .rem k x y))
    | .eql => some (rd2 (fun k a b => some (.bool (intEq a b))) (rdBin .eql k x y) x y) | .neq => some (rd2 (fun k a b => some (.bool !(intEq a b))) (rdBin .neq k x y) x y) | .lss => some (rd2 (fun k a b => some (.bool (ltF a b))) (rdBin .lss k x y) x y) | .leq => some (rd2 (fun k a b => some (.bool !(ltF b a))) (rdBin .leq k x y) x y) | .gtr => some (rd2 (fun k a b => some (.bool (ltF b a))) (rdBin .gtr k x y) x y) | .geq => some (rd2 (fun k a b => some (.bool !(ltF a b))) (rdBin .geq k x y) x y)
    | .sub => some (rd2 (fun k a b => some (.int k (wrapF k (a - b)))) (rdBin .sub k x y) x y) | .mul => some (rdBin .mul k x y) | .and => some (rdBin .and k x y) | .or => some (rdBin .or k x y)
    | op => some (rdRest (.bin op k x y))
  | .un op x => match op with | .not => some (rdNot x) | op => some (rdRest (.un op x))
  | .conv k x => match k with | .int k => some (rdConvI k x) | .strBytes e => none | .same => some (rdRest (.conv .same x)) | .intStr => some (rdRest (.conv .intStr x)) | .bytesStr => some (rdRest (.conv .bytesStr x))
  | .len k x => match k with | .sl => some (rdLenSl x) | .str => some (rdLenStr x) | .arr n => some (rdRest (.len (.arr n) x)) | .map => some (rdRest (.len .map x))
  | .pick c a b => some (rdRest (.pick c a b))
  | .build z ps => some (rdRest (.build z ps))
  | .mkFunc f a b => some (rdRest (.mkFunc f a b))
  | .slc k x lo hi mx => some (rdRest (.slc k x lo hi mx))
  | .lookup k z ok x i => some (rdRest (.lookup k z ok x i))
  | .mkIface t x => some (rdRest (.mkIface t x))
  | .cap x => some (rdRest (.cap x))
  | .max l => some (rdRest (.max l))
  | .min l => some (rdRest (.min l))
  | _ => none

theorem ptr_match {β : Type} (v : Value) (f : Nat → Nat → β) (d : β) : (vPtr v (fun a => match a with | some a => (match a.spot with | none => f a.block a.off | some _ => d) | none => d) d) = (match v with | .pointer (some ⟨L, o, none⟩) => f L o | _ => d) := by
  cases v with
  | pointer a => cases a with
    | none => rfl
    | some a => obtain ⟨L, o, s⟩ := a; cases s <;> rfl
  | _ => rfl
theorem iaF_eq (s o n L : Nat) (j : Int) : iaF s o n L j = bif leI 0 j && leI (j + 1) n then some (.pointer (some ⟨L, o + j.toNat * s, none⟩)) else none := by
  cases j with
  | ofNat j =>
    simp only [iaF]
    have h1 : leI 0 (Int.ofNat j) = true := decide_eq_true (by simp)
    have h2 : leI (Int.ofNat j + 1) n = Nat.blt j n := by
      cases h : Nat.blt j n with
      | true => have : j < n := Nat.le_of_ble_eq_true h; exact decide_eq_true (by simp only [Int.ofNat_eq_natCast]; omega)
      | false => refine decide_eq_false fun hlt => ?_; rw [show Nat.blt j n = true from Nat.ble_eq_true_of_le (by simp only [Int.ofNat_eq_natCast] at hlt; omega)] at h; cases h
    rw [h1, h2]; rfl
  | negSucc j =>
    have h1 : leI 0 (Int.negSucc j) = false := decide_eq_false (by simp only [Int.negSucc_eq]; omega)
    rw [h1]; rfl

theorem rd2_eq {f : IntKind → Int → Int → Option Value} {rest : Rd} {x y : Opd} {E : Tr Value} {T : Tr Obj} (h : ∀ k a k' b, xev E x = some (.int k a) → xev E y = some (.int k' b) → rest E T = if k = k' then f k a b else none) : rd2 f rest x y E T = rest E T := by
  unfold rd2
  rw [xevF_eq, xevF_eq]
  cases hx : xev E x with
  | none => rfl
  | some v => cases v with
    | int k a =>
      cases hy : xev E y with
      | none => rfl
      | some u => cases u with
        | int k' b =>
          rw [h k a k' b hx hy]
          show (bif Nat.beq (kNum k) (kNum k') then f k a b else none) = _
          rw [kNum_eq]
          by_cases hk : k = k'
          · simp [hk]
          · simp [hk]
        | _ => rfl
    | _ => rfl

theorem rdF_some {op : IOp} {r : Rd} (h : rdF op = some r) (E : Tr Value) (T : Tr Obj) : r E T = rdX E T op := by
  have hx : ∀ x, xevF x E = xev E x := fun x => xevF_eq x E
  cases op with
  | mv x => simp only [rdF, Option.some.injEq] at h; subst h; simp [rdX, pureX, pureV, xevF_eq]
  | load n x =>
    simp only [rdF, Option.some.injEq] at h; subst h
    simp only [rdLoad, rdX, hx]
    cases xev E x with
    | none => rfl
    | some v => cases v with
      | pointer a => cases a with
        | none => rfl
        | some a =>
          obtain ⟨L, o, s⟩ := a
          cases s with
          | some s => rfl
          | none =>
            show ldF n o (getF T L) = _
            rw [getF_eq]
            simp only [ldF]
            cases T.get L with
            | none => rfl
            | some ob => cases ob <;> first | rfl | exact cutF_eq _ _ _
      | _ => rfl
  | idxAddr s n x i =>
    cases n with
    | none =>
      simp only [rdF, Option.some.injEq] at h; subst h
      simp only [rdIdxA, rdX, hx]
      cases xev E x with
      | none => rfl
      | some v => cases v with
        | slice a n c => cases a with
          | none => rfl
          | some a =>
            obtain ⟨L, o, sp⟩ := a
            cases sp with
            | some sp => rfl
            | none => cases xev E i with
              | none => rfl
              | some u => cases u <;> first | rfl | exact iaF_eq _ _ _ _ _
        | _ => rfl
    | some m =>
      simp only [rdF, Option.some.injEq] at h; subst h
      simp only [rdIdxM, rdX, hx]
      cases xev E x with
      | none => rfl
      | some v => cases v with
        | pointer a => cases a with
          | none => rfl
          | some a =>
            obtain ⟨L, o, sp⟩ := a
            cases sp with
            | some sp => rfl
            | none => cases xev E i with
              | none => rfl
              | some u => cases u <;> first | rfl | exact iaF_eq _ _ _ _ _
        | _ => rfl
  | idx k n x i =>
    cases k with
    | str =>
      simp only [rdF, Option.some.injEq] at h; subst h; simp only [rdIdxS, rdX, hx]
      cases xev E x with
      | none => rfl
      | some v => cases v with
        | string s => cases xev E i with
          | none => rfl
          | some u => cases u with
            | int k j => cases j with
              | negSucc j => rfl
              | ofNat j =>
                have h1 : leI 0 (Int.ofNat j) = true := decide_eq_true (by simp)
                simp only [h1, cond_true, dropR_eq]
                show _ = (match s.data.toList[j]? with | some b => some (Value.int .u8 b.toNat) | none => none)
                rcases Nat.lt_or_ge j s.data.toList.length with hl | hl
                · rw [List.drop_eq_getElem_cons hl, List.getElem?_eq_getElem hl]; rfl
                · rw [List.drop_eq_nil_of_le hl, List.getElem?_eq_none hl]
            | _ => rfl
        | _ => rfl
    | sl s => simp only [rdF, Option.some.injEq] at h; subst h; rfl
    | arr m s => simp only [rdF, Option.some.injEq] at h; subst h; rfl
  | nilCheck x => simp only [rdF, Option.some.injEq] at h; subst h; simp only [rdNil, rdX, pureX, pureV, xevF_eq]; rfl
  | fieldAddr o x =>
    simp only [rdF, Option.some.injEq] at h; subst h; simp only [rdFA, rdX, pureX, pureV, hx]
    cases xev E x with
    | none => rfl
    | some v => cases v with
      | pointer a => cases a with
        | none => rfl
        | some a => obtain ⟨L, o, sp⟩ := a; cases sp <;> rfl
      | _ => rfl
  | field o n x =>
    simp only [rdF, Option.some.injEq] at h; subst h; simp only [rdField, rdX, pureX, pureV, hx]
    cases xev E x with
    | none => rfl
    | some v => cases v <;> first | rfl | exact partF_eq _ _ _
  | extract x i =>
    simp only [rdF, Option.some.injEq] at h; subst h; simp only [rdExtract, rdX, pureX, pureV, hx]
    cases xev E x with
    | none => rfl
    | some v => cases v <;> first | rfl | exact nthF_eq _ _
  | bin op k x y =>
    have hk : ∀ (bo : BinOp) (f : IntKind → Int → Int → Option Value), (∀ k a b, intBin bo k a b = f k a b) → (bo ≠ .shl ∧ bo ≠ .shr ∧ bo ≠ .quo ∧ bo ≠ .rem) → rd2 f (rdBin bo k x y) x y E T = rdBin bo k x y E T := by
      intro bo f hf hne
      refine rd2_eq fun k1 a k2 b h1 h2 => ?_
      simp only [rdBin, hx, h1, h2, binV]
      obtain ⟨q1, q2, q3, q4⟩ := hne
      cases bo <;> first | contradiction | (simp only [hf])
    have hb : ∀ bo, rdBin bo k x y E T = pureV (xev E) (.bin bo k x y) := by
      intro bo; simp only [rdBin, pureV, hx]; rfl
    cases op with
    | add =>
      simp only [rdF, Option.some.injEq] at h; subst h
      have : rdAdd0 x y E T = rdX E T (.bin .add k x y) := by simp only [rdAdd0, rdX, hx]; rfl
      rw [← this]
      refine rd2_eq fun k1 a k2 b h1 h2 => ?_
      simp only [rdAdd0, hx, h1, h2, wrapF_eq]
    | sub => simp only [rdF, Option.some.injEq] at h; subst h; rw [hk .sub _ (fun k a b => by simp only [intBin, wrapF_eq]) (by simp)]; exact hb _
    | eql => simp only [rdF, Option.some.injEq] at h; subst h; rw [hk .eql _ (fun k a b => by simp only [intBin, intEq_beq]) (by simp)]; exact hb _
    | neq => simp only [rdF, Option.some.injEq] at h; subst h; rw [hk .neq _ (fun k a b => by simp only [intBin, intEq_beq]; rfl) (by simp)]; exact hb _
    | lss => simp only [rdF, Option.some.injEq] at h; subst h; rw [hk .lss _ (fun k a b => by simp only [intBin, ltF_eq]) (by simp)]; exact hb _
    | leq => simp only [rdF, Option.some.injEq] at h; subst h; rw [hk .leq _ (fun k a b => by simp only [intBin, ltF_eq, ← decide_not, Int.not_lt]) (by simp)]; exact hb _
    | gtr => simp only [rdF, Option.some.injEq] at h; subst h; rw [hk .gtr _ (fun k a b => by simp only [intBin, ltF_eq, gt_iff_lt]) (by simp)]; exact hb _
    | geq => simp only [rdF, Option.some.injEq] at h; subst h; rw [hk .geq _ (fun k a b => by simp only [intBin, ltF_eq, ← decide_not, Int.not_lt, ge_iff_le]) (by simp)]; exact hb _
    | mul => simp only [rdF, Option.some.injEq] at h; subst h; exact hb _
    | and => simp only [rdF, Option.some.injEq] at h; subst h; exact hb _
    | or => simp only [rdF, Option.some.injEq] at h; subst h; exact hb _
    | _ => simp only [rdF, Option.some.injEq] at h; subst h; rfl
  | un op x =>
    cases op with
    | not =>
      simp only [rdF, Option.some.injEq] at h; subst h; simp only [rdNot, rdX, pureX, pureV, hx]
      cases xev E x with
      | none => rfl
      | some v => cases v <;> rfl
    | _ => simp only [rdF, Option.some.injEq] at h; subst h; rfl
  | conv k x =>
    cases k with
    | int k =>
      simp only [rdF, Option.some.injEq] at h; subst h; simp only [rdConvI, rdX, pureX, pureV, hx]
      cases xev E x with
      | none => rfl
      | some v => cases v <;> first | rfl | exact congrArg (fun n => some (Value.int k n)) (wrapF_eq _ _)
    | strBytes e => cases h
    | _ => simp only [rdF, Option.some.injEq] at h; subst h; rfl
  | len k x =>
    cases k with
    | sl =>
      simp only [rdF, Option.some.injEq] at h; subst h; simp only [rdLenSl, rdX, pureX, pureV, hx]
      cases xev E x with
      | none => rfl
      | some v => cases v <;> rfl
    | str => simp only [rdF, Option.some.injEq] at h; subst h; simp only [rdLenStr, rdX, pureX, pureV, xevF_eq]; rfl
    | _ => simp only [rdF, Option.some.injEq] at h; subst h; rfl
  | _ => first | (simp only [rdF, Option.some.injEq] at h; subst h; rfl) | cases h
theorem rdF_none {op : IOp} (h : rdF op = none) (E : Tr Value) (T : Tr Obj) : rdX E T op = none := by
  cases op with
  | idxAddr s n x i => cases n <;> cases h
  | idx k n x i => cases k <;> cases h
  | bin op k x y => cases op <;> cases h
  | un op x => cases op <;> cases h
  | conv k x => cases k <;> first | (rfl; done) | (cases h; done)
  | len k x => cases k <;> cases h
  | _ => first | (rfl; done) | (cases h; done)

/-! effects -/
abbrev Ef := Tr Value → Tr Obj → Nat → Option (Value × Dl × Nat)
noncomputable def efNew (e : Nat) (z : List Value) : Ef := fun _ _ n => bif cstL z && blkOK n then some (.pointer (some ⟨n, 0, none⟩), .one n (.cells ⟨z⟩ e (0, 0)), n + 1) else none
noncomputable def efBox (e : Nat) (x : Opd) : Ef := fun E _ n => match xevF x E with
    | some v => bif blkOK n then some (.pointer (some ⟨n, 0, none⟩), .one n (.cells ⟨v.cells.toList⟩ e (0, 0)), n + 1) else none
    | none => none
noncomputable def oneF (v : Value) : Bool := vAgg v (fun _ => false) (vTup v (fun _ => false) true)
noncomputable def onesF (l : List Value) : Bool := List.rec (motive := fun _ => Bool) true (fun v _ ih => bif oneF v then ih else false) l
theorem onesF_eq (l : List Value) : onesF l = l.all (·.oneCell') := by
  induction l with
  | nil => rfl
  | cons v l ih =>
    show (bif oneF v then onesF l else false) = _
    rw [ih, List.all_cons]
    have : oneF v = v.oneCell' := by cases v <;> rfl
    rw [this]; cases v.oneCell' <;> rfl
noncomputable def cellsF (v : Value) : List Value := vAgg v (fun cs => cs.toList) [v]
theorem cellsF_eq (v : Value) : cellsF v = v.cells.toList := by cases v <;> rfl
noncomputable def appL (a b : List Value) : List Value := List.rec (motive := fun _ => List Value) b (fun v _ ih => v :: ih) a
theorem appL_eq (a b : List Value) : appL a b = a ++ b := by
  induction a with
  | nil => rfl
  | cons v a ih => exact congrArg _ ih
noncomputable def putLF (c : List Value) (off : Nat) (vs : List Value) : List Value := appL (takeF c off) (appL vs (dropF c (off + lenF vs)))
theorem putLF_eq (c : List Value) (off : Nat) (vs : List Value) : putLF c off vs = putL c off vs := by
  simp only [putLF, putL, appL_eq, takeF_eq, dropF_eq, lenF_eq, List.append_assoc]
noncomputable def stoF (k L o n : Nat) (v : Value) (ob : Option Obj) : Option (Value × Dl × Nat) := oCells ob (fun cs e fr =>
  bif Nat.beq (lenF (cellsF v)) k && onesF (cellsF v) && Nat.ble (o + k) (lenF cs.toList) && blkOK L then some (undef, .one L (.cells ⟨putLF cs.toList o (cellsF v)⟩ e fr), n) else none) none
noncomputable def efStore (k : Nat) (a x : Opd) : Ef := fun E T n => match xevF a E with
    | some p => vPtr p (fun a => match a with | some a => (match a.spot with | none => (match xevF x E with | some v => stoF k a.block a.off n v (getF T a.block) | none => none) | some _ => none) | none => none) none
    | none => none
noncomputable def nextF (L n : Nat) (o : Option Obj) : Option (Value × Dl × Nat) := match o with
  | some (.stringIter s p) => bif blkOK L then (match dropR s.data.toList p with
    | [] => some (.tuple ⟨[.bool false]⟩, .no, n)
    | b :: _ => bif Nat.blt b.toNat 128 then some (.tuple ⟨[.bool true, .int .i64 (.ofNat p), .int .i32 (.ofNat b.toNat)]⟩, .one L (.stringIter s (Nat.succ p)), n)
      else some (.tuple ⟨[.bool true, .int .i64 p, .int .i32 (Utf8.decode s p).1]⟩, .one L (.stringIter s (p + (Utf8.decode s p).2)), n)) else none
  | _ => none
noncomputable def efNextS (x : Opd) : Ef := fun E T n => match xevF x E with
    | some p => vPtr p (fun a => match a with | some a => (match a.spot with | none => (match a.off with | 0 => nextF a.block n (getF T a.block) | _ + 1 => none) | some _ => none) | none => none) none
    | none => none
def efRest (op : IOp) : Ef := fun E T n => efX E T n op
noncomputable def efF (op : IOp) : Ef := match op with
  | .newv e z => efNew e z
  | .box e x => efBox e x
  | .store k a x => efStore k a x
  | .next x b => match b with | true => efNextS x | false => efRest (.next x false)
  | op => efRest op
theorem efF_eq (op : IOp) (E : Tr Value) (T : Tr Obj) (n : Nat) : efF op E T n = efX E T n op := by
  cases op with
  | box e x => simp only [efF, efBox, efX, xevF_eq]; rfl
  | store k a x =>
    simp only [efF, efStore, efX, xevF_eq]
    cases xev E a with
    | none => rfl
    | some p => cases p with
      | pointer a => cases a with
        | none => rfl
        | some a =>
          obtain ⟨L, o, s⟩ := a
          cases s with
          | some s => rfl
          | none => cases xev E x with
            | none => rfl
            | some v =>
              show stoF k L o n v (getF T L) = _
              rw [getF_eq]
              simp only [stoF]
              cases T.get L with
              | none => rfl
              | some ob => cases ob <;> first | rfl | (simp only [oCells, cellsF_eq, lenF_eq, onesF_eq, putLF_eq])
      | _ => rfl
  | next x b =>
    cases b with
    | false => rfl
    | true =>
      simp only [efF, efNextS, efX, xevF_eq]
      cases xev E x with
      | none => rfl
      | some p => cases p with
        | pointer a => cases a with
          | none => rfl
          | some a =>
            obtain ⟨L, o, s⟩ := a
            cases s with
            | some s => cases o <;> rfl
            | none => cases o with
              | succ o => rfl
              | zero =>
                show nextF L n (getF T L) = (match T.get L with
                  | some (.stringIter s p) => (bif blkOK L then (bif Nat.blt p s.data.toList.length then some (.tuple ⟨[.bool true, .int .i64 p, .int .i32 (Utf8.decode s p).1]⟩, .one L (.stringIter s (p + (Utf8.decode s p).2)), n)
                    else some (.tuple ⟨[.bool false]⟩, .no, n)) else none)
                  | _ => none)
                rw [getF_eq]
                generalize T.get L = og
                cases og with
                | none => rfl
                | some ob => cases ob with
                  | stringIter s p =>
                    simp only [nextF, dropR_eq]
                    cases blkOK L with
                    | false => rfl
                    | true =>
                      simp only [cond_true]
                      rcases Nat.lt_or_ge p s.data.toList.length with hl | hl
                      · rw [show Nat.blt p s.data.toList.length = true from Nat.ble_eq_true_of_le hl]
                        have hd := List.drop_eq_getElem_cons hl
                        rw [hd]
                        simp only [cond_true]
                        cases hb : Nat.blt (s.data.toList[p]).toNat 128 with
                        | false => rfl
                        | true => rw [decode_ascii hd hb]; rfl
                      · have : Nat.blt p s.data.toList.length = false := by
                          cases h : Nat.blt p s.data.toList.length with
                          | false => rfl
                          | true => have : p < s.data.toList.length := Nat.le_of_ble_eq_true h; omega
                        rw [this, List.drop_eq_nil_of_le hl]; rfl
                  | _ => rfl
        | _ => rfl
  | _ => rfl

noncomputable def fObjF {β : Type} (o : Obj) : (Obj → β) → β := match o with
  | .cells ⟨l⟩ e fr => fun c => fSp l fun l => c (.cells ⟨l⟩ e fr)
  | .map ⟨l⟩ k => fun c => fObj (.map ⟨l⟩ k) c
  | .stringIter s p => fun c => fNat p fun p => c (.stringIter s p)
  | o => fun c => fObj o c
theorem fObjF_eq {β : Type} (o : Obj) (c : Obj → β) : fObjF o c = c o := by
  cases o with
  | cells l e fr => obtain ⟨l⟩ := l; simp [fObjF, fSp_eq]
  | map l k => obtain ⟨l⟩ := l; simp [fObjF, fObj_eq]
  | stringIter s p => simp [fObjF, fNat_eq]
  | _ => simp [fObjF, fObj_eq]
noncomputable def appF {β : Type} (d : Dl) : Tr Obj → (Tr Obj → β) → β := match d with
  | .no => fun T c => c T
  | .one L o => fun T c => fNat L fun L => fObjF o fun o => setG BLOCKS T L (some o) c
  | .two L L' o => fun T c => fNat L fun L => fNat L' fun L' => fObjF o fun o => setG BLOCKS T L none fun T => setG BLOCKS T L' (some o) c
theorem appF_eq {β : Type} (T : Tr Obj) (d : Dl) (c : Tr Obj → β) : appF d T c = c (d.app T) := by
  cases d <;> simp [appF, Dl.app, fNat_eq, fObjF_eq, setG_eq]

/-- one operation that is no call -/
noncomputable def stepR (op : IOp) (E : Tr Value) (T : Tr Obj) (n : Nat) (c : Value → Tr Obj → Nat → XRes) : XRes := match rdF op with
  | some r => (match r E T with
    | some v => fV v fun v => c v T n
    | none => none)
  | none => (match efF op E T n with
    | some (v, d, n') => fV v fun v => fNat n' fun n' => appF d T fun T => c v T n'
    | none => none)
noncomputable def stepK (tab : XTab) (ext : XExt) (rec : XFn → List Value → Tr Obj → Nat → XRes) (fo : Opd) (as : List Opd) (E : Tr Value) (T : Tr Obj) (n : Nat) (c : Value → Tr Obj → Nat → XRes) : XRes :=
  match xevF fo E, evList (fun x => xevF x E) as with
    | some (.func (.func g) a b), some vs => match tab.get g with
      | some F => bif Nat.ble (a.toList ++ vs ++ b.toList).length F.ntmps && Nat.ble (F.ntmps + 2) 16384 then
          (match rec F (a.toList ++ vs ++ b.toList) T n with
          | some (v, T, n) => c v T n
          | none => none) else none
      | none => bif a.toList.isEmpty && b.toList.isEmpty then (match ext g vs T with
        | some v => fV v fun v => c v T n
        | none => none) else none
    | _, _ => none
noncomputable def stepF (op : IOp) : XTab → XExt → (XFn → List Value → Tr Obj → Nat → XRes) → Tr Value → Tr Obj → Nat → (Value → Tr Obj → Nat → XRes) → XRes := match op with
  | .call fo as => fun tab ext rec => stepK tab ext rec fo as
  | op => fun _ _ _ => stepR op
theorem stepF_sound {tab : XTab} {ext : XExt} {rec : XFn → List Value → Tr Obj → Nat → XRes} {E : Tr Value} {T : Tr Obj} {n : Nat} {op : IOp} {c : Value → Tr Obj → Nat → XRes} {r : Value × Tr Obj × Nat}
    (h : stepF op tab ext rec E T n c = some r) : stepC tab ext rec E T n op c = some r := by
  have key : ∀ op, (∀ fo as, op ≠ .call fo as) → stepR op E T n c = some r → stepC tab ext rec E T n op c = some r := by
    intro op hne h
    unfold stepR at h
    unfold stepC
    split
    · exact absurd rfl (hne _ _)
    · split at h
      · rename_i rd hrd
        rw [rdF_some hrd] at h
        split at h
        · rename_i v hv
          rw [hv]; simp only [fVal_eq]; rwa [fV_eq] at h
        · cases h
      · rename_i hrd
        rw [rdF_none hrd]
        rw [efF_eq] at h
        split at h
        · rename_i v d n' hv
          simp only [fV_eq, fNat_eq, appF_eq] at h
          simp only [hv, fVal_eq, fNat_eq, Dl.appC_eq]
          exact h
        · cases h
  cases op with
  | call fo as =>
    have h : stepK tab ext rec fo as E T n c = some r := h
    unfold stepK at h
    unfold stepC
    simp only [xevF_eq] at h
    simp only
    split at h
    · rename_i g a b vs h1 h2
      have h2' : evList (xev E) as = some vs := h2
      simp only [h1, h2']
      split at h
      · rename_i F hF
        simp only [hF]
        replace h := cond_some h
        obtain ⟨hc, h⟩ := h
        simp only [hc, cond_true]
        split at h
        · rename_i v T' n' hr
          simp only [hr, fVal_eq]; exact h
        · cases h
      · rename_i hF
        simp only [hF]
        replace h := cond_some h
        obtain ⟨hc, h⟩ := h
        simp only [hc, cond_true]
        split at h
        · rename_i v hv
          simp only [hv, fVal_eq]; rwa [fV_eq] at h
        · cases h
    · cases h
  | _ => exact key _ (by intros; simp) h

noncomputable def gstF (g : Option (Nat × Bool)) : Tr Value → Option Bool := match g with
  | none => fun _ => some true
  | some (d, b) => fun E => match getF E d with
    | some (.bool x) => some (x == b)
    | some (.tuple _) => some false
    | _ => none
theorem gstF_eq (g : Option (Nat × Bool)) (E : Tr Value) : gstF g E = gstX E g := by
  cases g with
  | none => rfl
  | some p => obtain ⟨d, b⟩ := p; simp only [gstF, gstX, getF_eq]; rfl

abbrev GoT := List IRet → Tr Value → Tr Obj → Nat → Bool → List KI → XRes
abbrev KT := XTab → XExt → GoT → List IRet → Tr Value → Tr Obj → Nat → Bool → List KI → XRes
noncomputable def recF (go : GoT) : XFn → List Value → Tr Obj → Nat → XRes := fun F args T n => go F.rets (envX 0 args .nil) T n false [.ir F.ir]
noncomputable def finF (rets : List IRet) (E : Tr Value) (T : Tr Obj) (n : Nat) : XRes := match retX E T rets with | some vs => fV (mkRet vs) fun v => some (v, T, n) | none => none
noncomputable def putF (d : Option Nat) : List In → Nat → GoT → List IRet → Tr Value → Bool → List KI → Value → Tr Obj → Nat → XRes := match d with
  | some d => fun l n go rets E m K v T n1 => bif Nat.ble n n1 then setG SLOTS E d (some v) fun E => go rets E T n1 m (.ops l :: K) else none
  | none => fun l n go rets E m K _ T n1 => bif Nat.ble n n1 then go rets E T n1 m (.ops l :: K) else none
noncomputable def noF (d : Option Nat) : List In → GoT → List IRet → Tr Value → Tr Obj → Nat → Bool → List KI → XRes := match d with
  | some d => fun l go rets E T n m K => setG SLOTS E d (some undef) fun E => go rets E T n m (.ops l :: K)
  | none => fun l go rets E T n m K => go rets E T n m (.ops l :: K)
noncomputable def opF (x : In) : List In → KT := match x with
  | ⟨d, g, op⟩ => fun l tab ext go rets E T n m K => bif slotOK d then (match gstF g E with
    | none => none
    | some b => match b with
      | false => noF d l go rets E T n m K
      | true => stepF op tab ext (recF go) E T n (putF d l n go rets E m K)) else none
noncomputable def opsF (l : List In) : KT := match l with
  | [] => fun _ _ go rets E T n m K => go rets E T n m K
  | x :: l => opF x l
noncomputable def irF (c : IR) : KT := match c with
  | .skip => fun _ _ go rets E T n m K => go rets E T n m K
  | .ops l => fun _ _ go rets E T n m K => go rets E T n m (.ops l :: K)
  | .seq a b => fun _ _ go rets E T n m K => go rets E T n m (.ir a :: .ir b :: K)
  | .cond c a b => fun _ _ go rets E T n m K => match xevF c E with
    | some v => vBool v (fun t => match t with
      | true => go rets E T n m (.ir a :: K)
      | false => go rets E T n m (.ir b :: K)) none
    | none => none
  | .block id a => fun _ _ go rets E T n m K => go rets E T n m (.ir a :: .blk id :: K)
  | .loop a => fun _ _ go rets E T n m K => go rets E T n m (.ir a :: .lp a :: K)
  | .exit id => fun _ _ go rets E T n m K => match exitK id K with
    | some K => go rets E T n m K
    | none => none
  | .ret => fun _ _ go rets E T n m K => finF rets E T n
  | .draw l p => fun tab ext go rets E T n m K => bif blkOK (n + p.length) && !p.isEmpty then
      (match rgRun tab ext (recF go) (delDst E p) n 0 p ⟨[], [], [], ⟨T, n + p.length, []⟩, [], []⟩ with
      | some g => bif Nat.ble n g.c.n then fNat g.c.n fun n1 => go rets (setAll (delDst E p) g.vals) (mergeAll n g.c.S g.c.mg g.al) n1 m K else none
      | none => none) else none
  | .rangeF fo _ _ _ => fun tab ext go rets E T n m K => bif m then none else match xevF fo E with
    | some (.func (.func g) ⟨[]⟩ b) => match tab.get g with
      | some F => bif Nat.ble (b.toList.length + 1) F.ntmps && Nat.ble (F.ntmps + 2) 16384 then
          (match go F.rets (envX 0 (.chan (some n) :: b.toList) .nil) T (n + 1) false [.ir F.ir] with
          | some (_, T, n1) => bif Nat.ble n n1 then go rets E T n1 true K else none
          | none => none) else none
      | none => none
    | _ => none
  | .other => fun _ _ _ _ _ _ _ _ _ => none
noncomputable def kiF (k : KI) : KT := match k with
  | .ir c => irF c
  | .ops l => opsF l
  | .blk _ => fun _ _ go rets E T n m K => go rets E T n m K
  | .lp a => fun _ _ go rets E T n m K => go rets E T n m (.ir a :: .lp a :: K)
noncomputable def stF (tab : XTab) (ext : XExt) (go : GoT) (rets : List IRet) (E : Tr Value) (T : Tr Obj) (n : Nat) (m : Bool) (K : List KI) : XRes := match K with
  | [] => bif m then none else finF rets E T n
  | k :: K => kiF k tab ext go rets E T n m K
noncomputable def exF (tab : XTab) (ext : XExt) (f : Nat) : GoT := Nat.rec (motive := fun _ => GoT) (fun _ _ _ _ _ _ => none) (fun _ ih => stF tab ext ih) f

/-- an answer is enough -/
def Le1 {α : Type} (a b : Option α) : Prop := ∀ r, a = some r → b = some r
theorem stepX_mono {tab : XTab} {ext : XExt} {rec rec' : XFn → List Value → Tr Obj → Nat → XRes} (h : ∀ F a T n, Le1 (rec F a T n) (rec' F a T n)) {E : Tr Value} {T : Tr Obj} {n : Nat} {op : IOp} : Le1 (stepX tab ext rec E T n op) (stepX tab ext rec' E T n op) := by
  intro r e
  cases op with
  | call fo as =>
    simp only [stepX] at e ⊢
    split at e
    · rename_i g a b vs h1 h2
      split at e
      · rename_i F hF
        replace e := cond_some e
        obtain ⟨hc, e⟩ := e
        simp only [hc, cond_true]
        exact h _ _ _ _ _ e
      · exact e
    · cases e
  | _ => exact e
theorem stepC_of {β : Type} {tab : XTab} {ext : XExt} {rec : XFn → List Value → Tr Obj → Nat → XRes} {E : Tr Value} {T T' : Tr Obj} {n n' : Nat} {op : IOp} {v : Value} {c : Value → Tr Obj → Nat → Option β} {r : β}
    (e : stepX tab ext rec E T n op = some (v, T', n')) (hc : c v T' n' = some r) : stepC tab ext rec E T n op c = some r := by
  unfold stepX at e
  unfold stepC
  split at e
  · split at e
    · split at e
      · replace e := cond_some e
        obtain ⟨h1, e⟩ := e
        simp only [*, cond_true, fVal_eq]
      · replace e := cond_some e
        obtain ⟨h1, e⟩ := e
        split at e
        · simp only [Option.some.injEq, Prod.mk.injEq] at e
          obtain ⟨rfl, rfl, rfl⟩ := e
          simp only [*, cond_true, fVal_eq]
        · cases e
    · cases e
  · split at e
    · simp only [Option.some.injEq, Prod.mk.injEq] at e
      obtain ⟨rfl, rfl, rfl⟩ := e
      simp only [*, fVal_eq]
    · split at e
      · simp only [Option.some.injEq, Prod.mk.injEq] at e
        obtain ⟨rfl, rfl, rfl⟩ := e
        simp only [*, fVal_eq, fNat_eq, Dl.appC_eq]
      · cases e
theorem rgStep_mono {tab : XTab} {ext : XExt} {rec rec' : XFn → List Value → Tr Obj → Nat → XRes} (h : ∀ F a T n, Le1 (rec F a T n) (rec' F a T n)) {Eb : Tr Value} {n0 i : Nat} {anc : List Nat} {x : In} {g : RG} :
    Le1 (rgStep tab ext rec Eb n0 i anc x g) (rgStep tab ext rec' Eb n0 i anc x g) := by
  intro r e
  have hgo : ∀ E, Le1 (rgStep.go tab ext rec n0 i x E anc g) (rgStep.go tab ext rec' n0 i x E anc g) := by
    intro E r e
    unfold rgStep.go at e ⊢
    split at e
    · rename_i v S n hs
      rw [stepX_mono h _ hs]; exact e
    · cases e
  unfold rgStep at e ⊢
  simp only at e ⊢
  split at e
  · cases e
  · exact e
  · split at e
    · exact e
    · split at e
      · exact e
      · split at e
        · replace e := cond_some e
          obtain ⟨hm, e⟩ := e
          simp only [hm, cond_true]
          exact hgo _ _ e
        · exact hgo _ _ e
theorem rgRun_mono {tab : XTab} {ext : XExt} {rec rec' : XFn → List Value → Tr Obj → Nat → XRes} (h : ∀ F a T n, Le1 (rec F a T n) (rec' F a T n)) {Eb : Tr Value} {n0 : Nat} : ∀ {p : List (List Nat × In)} {i : Nat} {g : RG},
    Le1 (rgRun tab ext rec Eb n0 i p g) (rgRun tab ext rec' Eb n0 i p g)
  | [], _, _ => fun r e => e
  | (anc, x) :: p, i, g => by
    intro r e
    simp only [rgRun] at e ⊢
    replace e := cond_some e
    obtain ⟨hc, e⟩ := e
    rw [hc]
    simp only [cond_true]
    split at e
    · rename_i g1 hg
      rw [rgStep_mono h _ hg]
      exact rgRun_mono h _ e
    · cases e

theorem exF_le {tab : XTab} {ext : XExt} : ∀ (f : Nat) (rets : List IRet) (E : Tr Value) (T : Tr Obj) (n : Nat) (m : Bool) (K : List KI), Le1 (exF tab ext f rets E T n m K) (ex tab ext f rets E T n m K) := by
  intro f
  induction f with
  | zero => intro rets E T n m K r e; cases e
  | succ f ih =>
    intro rets E T n m K r e
    have e : stF tab ext (exF tab ext f) rets E T n m K = some r := e
    have hrec : ∀ F a T n, Le1 (recF (exF tab ext f) F a T n) ((fun F args T n => ex tab ext f F.rets (envX 0 args .nil) T n false [.ir F.ir]) F a T n) := fun F a T n => ih _ _ _ _ _ _
    have hfin : ∀ r, finF rets E T n = some r → (match retX E T rets with | some vs => fVals vs fun vs => some (mkRet vs, T, n) | none => none) = some r := by
      intro r e
      unfold finF at e
      split at e
      · rename_i vs hvs
        rw [fV_eq] at e
        simp only [fVals_eq]; exact e
      · cases e
    have hops : ∀ l K, opsF l tab ext (exF tab ext f) rets E T n m K = some r → ex tab ext (f + 1) rets E T n m (.ops l :: K) = some r := by
      intro l K e
      unfold ex
      cases l with
      | nil => exact ih _ _ _ _ _ _ _ e
      | cons x l =>
        obtain ⟨d, g, op⟩ := x
        have e : opF ⟨d, g, op⟩ l tab ext (exF tab ext f) rets E T n m K = some r := e
        unfold opF at e
        replace e := cond_some e
        obtain ⟨hs, e⟩ := e
        rw [gstF_eq] at e
        split at e
        · cases e
        · rename_i b hg
          split at e
          · simp only [hg, hs, cond_true]
            unfold noF at e
            cases d with
            | none => exact ih _ _ _ _ _ _ _ e
            | some d =>
              simp only [setG_eq] at e
              simp only [Tr.setC_eq]
              exact ih _ _ _ _ _ _ _ e
          · simp only [hg, hs, cond_true]
            obtain ⟨v, T', n', h1, h2⟩ := stepC_eq (stepF_sound e)
            refine stepC_of (stepX_mono hrec _ h1) ?_
            unfold putF at h2
            cases d with
            | none =>
              replace h2 := cond_some h2
              obtain ⟨hn, h2⟩ := h2
              simp only [hn, cond_true]
              exact ih _ _ _ _ _ _ _ h2
            | some d =>
              replace h2 := cond_some h2
              obtain ⟨hn, h2⟩ := h2
              simp only [setG_eq] at h2
              simp only [hn, cond_true, Tr.setC_eq]
              exact ih _ _ _ _ _ _ _ h2
    cases K with
    | nil =>
      unfold ex
      have e : (bif m then none else finF rets E T n) = some r := e
      cases m with
      | true => cases e
      | false => exact hfin r e
    | cons k K =>
      cases k with
      | ops l => exact hops l K e
      | blk id => unfold ex; exact ih _ _ _ _ _ _ _ e
      | lp a => unfold ex; exact ih _ _ _ _ _ _ _ e
      | ir c =>
        have e : irF c tab ext (exF tab ext f) rets E T n m K = some r := e
        unfold irF at e
        unfold ex
        split at e
        · exact ih _ _ _ _ _ _ _ e
        · exact ih _ _ _ _ _ _ _ e
        · exact ih _ _ _ _ _ _ _ e
        · rw [xevF_eq] at e
          split at e
          · rename_i v hv
            simp only [hv]
            cases v with
            | bool t => cases t <;> exact ih _ _ _ _ _ _ _ e
            | _ => cases e
          · cases e
        · exact ih _ _ _ _ _ _ _ e
        · exact ih _ _ _ _ _ _ _ e
        · split at e
          · rename_i K' hk; simp only [hk]; exact ih _ _ _ _ _ _ _ e
          · cases e
        · exact hfin r e
        · replace e := cond_some e
          obtain ⟨hc, e⟩ := e
          simp only [hc, cond_true]
          split at e
          · rename_i g hg
            replace e := cond_some e
            obtain ⟨hn, e⟩ := e
            rw [fNat_eq] at e
            rw [rgRun_mono hrec _ hg]
            simp only [hn, cond_true]
            exact ih _ _ _ _ _ _ _ e
          · cases e
        · cases m with
          | true => cases e
          | false =>
            simp only [cond_false, xevF_eq] at e ⊢
            split at e
            · rename_i g b hfo
              simp only [hfo]
              split at e
              · rename_i F hF
                simp only [hF]
                replace e := cond_some e
                obtain ⟨hc, e⟩ := e
                simp only [hc, cond_true]
                split at e
                · rename_i v1 T1 n1 he
                  replace e := cond_some e
                  obtain ⟨hn, e⟩ := e
                  rw [ih _ _ _ _ _ _ _ he]
                  simp only [hn, cond_true]
                  exact ih _ _ _ _ _ _ _ e
                · cases e
              · cases e
            · cases e
        · cases e
end Go.Sx
