/- A part of an engine of our own (the code is compiled to a smaller language, whose steps are proved right), nothing is claimed here: what the closed machine does to memory -/
import Derived.Test.YtmpmagcepgjcdaaGreatSxEx4
set_option linter.all false
/-! what the closed machine does to memory -/
namespace Go.Sx

/-- what becomes of the memory -/
inductive Dl where
  | no
  | one (L : Nat) (o : Obj)
  | two (L L' : Nat) (o : Obj)      -- L is no more; L' is new
def Dl.app (T : Tr Obj) : Dl → Tr Obj
  | .no => T
  | .one L o => Tr.set BLOCKS T L (some o)
  | .two L L' o => Tr.set BLOCKS (Tr.set BLOCKS T L none) L' (some o)

def fValsN {β : Type} : Nat → List Value → (List Value → β) → β
  | 0, l, c => c l
  | _ + 1, [], c => c []
  | n + 1, v :: l, c => fVal v fun v => fValsN n l fun l => c (v :: l)
theorem fValsN_eq {β : Type} : ∀ (n : Nat) (l : List Value) (c : List Value → β), fValsN n l c = c l
  | 0, _, _ => rfl
  | _ + 1, [], _ => rfl
  | n + 1, v :: l, c => by simp [fValsN, fVal_eq, fValsN_eq n]
def fEntries {β : Type} : List MapEntry → (List MapEntry → β) → β
  | [], c => c []
  | ⟨k, v, b⟩ :: l, c => fVal k fun k => fVal v fun v => fNat b fun b => fEntries l fun l => c (⟨k, v, b⟩ :: l)
theorem fEntries_eq {β : Type} : ∀ (l : List MapEntry) (c : List MapEntry → β), fEntries l c = c l
  | [], _ => rfl
  | ⟨k, v, b⟩ :: l, c => by simp [fEntries, fVal_eq, fNat_eq, fEntries_eq l]
def fNats {β : Type} : List Nat → (List Nat → β) → β
  | [], c => c []
  | n :: l, c => fNat n fun n => fNats l fun l => c (n :: l)
theorem fNats_eq {β : Type} : ∀ (l : List Nat) (c : List Nat → β), fNats l c = c l
  | [], _ => rfl
  | n :: l, c => by simp [fNats, fNat_eq, fNats_eq l]
def fObj {β : Type} : Obj → (Obj → β) → β
  | .cells ⟨l⟩ e fr, c => fValsN 200 l fun l => c (.cells ⟨l⟩ e fr)
  | .map ⟨l⟩ k, c => fEntries l fun l => fNat k fun k => c (.map ⟨l⟩ k)
  | .mapIter m since ⟨s⟩ last, c => fNat since fun since => fNat last fun last => fNats s fun s => c (.mapIter m since ⟨s⟩ last)
  | .stringIter s p, c => fNat p fun p => c (.stringIter s p)
  | o, c => c o
theorem fObj_eq {β : Type} (o : Obj) (c : Obj → β) : fObj o c = c o := by
  cases o with
  | cells l e fr => obtain ⟨l⟩ := l; simp [fObj, fValsN_eq]
  | map l k => obtain ⟨l⟩ := l; simp [fObj, fEntries_eq, fNat_eq]
  | mapIter m a s b => obtain ⟨s⟩ := s; simp [fObj, fNat_eq, fNats_eq]
  | stringIter s p => simp [fObj, fNat_eq]
  | _ => rfl
def Dl.appC {β : Type} (T : Tr Obj) (d : Dl) (c : Tr Obj → β) : β := match d with
  | .no => c T
  | .one L o => fNat L fun L => fObj o fun o => Tr.setC BLOCKS T L (some o) c
  | .two L L' o => fNat L fun L => fNat L' fun L' => fObj o fun o => Tr.setC BLOCKS T L none fun T => Tr.setC BLOCKS T L' (some o) c
theorem Dl.appC_eq {β : Type} (T : Tr Obj) (d : Dl) (c : Tr Obj → β) : Dl.appC T d c = c (d.app T) := by
  cases d <;> simp [Dl.appC, Dl.app, fNat_eq, fObj_eq, Tr.setC_eq]

def blkOK (n : Nat) : Bool := Nat.ble (n + 2) 16777216
theorem blkOK_le {n : Nat} (h : blkOK n = true) : n + 2 ≤ 2 ^ BLOCKS := Nat.le_of_ble_eq_true h

/-- elements that are read: how many, and which -/
def srcX (E : Tr Value) (T : Tr Obj) (sz : Nat) (x : Opd) : Option (Nat × List Value) :=
  match xev E x with
  | some (.slice none 0 _) => some (0, [])
  | some (.slice (some ⟨L, o, none⟩) n _) => match T.get L with
    | some (.cells cs _ _) => bif Nat.ble (o + n * sz) cs.toList.length then some (n, (cs.toList.drop o).take (n * sz)) else none
    | _ => none
  | some (.slice (some ⟨_, _, some _⟩) 0 _) => some (0, [])
  | some (.string s) => bif Nat.beq sz 1 then some (s.data.toList.length, s.data.toList.map fun b => .int .u8 b.toNat) else none
  | _ => none

def modE (f : MapEntry → MapEntry) : List MapEntry → Nat → List MapEntry
  | [], _ => []
  | e :: es, 0 => f e :: es
  | e :: es, i + 1 => e :: modE f es i
def updX (es : List MapEntry) (ck : Nat) (r : Option (Nat × Value)) (kv v : Value) : Obj :=
  match r with
  | some (i, _) => .map ⟨modE (fun e => ⟨kv, v, e.born⟩) es i⟩ ck
  | none => .map ⟨es ++ [⟨kv, v, ck⟩]⟩ (ck + 1)
def delE : List MapEntry → Nat → List MapEntry
  | [], _ => []
  | _ :: es, 0 => es
  | e :: es, i + 1 => e :: delE es i

def room (n bt : Nat) : Bool := Nat.ble (n * bt) 140737488355328 && Nat.ble n 140737488355328

def efX (E : Tr Value) (T : Tr Obj) (n : Nat) (op : IOp) : Option (Value × Dl × Nat) :=
  match op with
  | .newv e z => bif cstL z && blkOK n then some (.pointer (some ⟨n, 0, none⟩), .one n (.cells ⟨z⟩ e (0, 0)), n + 1) else none
  | .box e x => match xev E x with
    | some v => bif blkOK n then some (.pointer (some ⟨n, 0, none⟩), .one n (.cells ⟨v.cells.toList⟩ e (0, 0)), n + 1) else none
    | none => none
  | .bslice e len z ps => bif cstL z && blkOK n && Nat.blt len BIG then match evParts (xev E) ps with
      | some l => match fillP z l with
        | some cs => some (.slice (some ⟨n, 0, none⟩) len len, .one n (.cells ⟨cs⟩ e (0, 0)), n + 1)
        | none => none
      | none => none else none
  | .mkMap => bif blkOK n then some (.map (some n), .one n (.map ⟨[]⟩ 0), n + 1) else none
  | .mkSlice e sz bt z l c => match xev E l, xev E c with
    | some (.int _ l), some (.int _ c) => bif cstL z && blkOK n && leI 0 l && leI l c && room c.toNat bt && Nat.blt c.toNat BIG then
        some (.slice (some ⟨n, 0, none⟩) l.toNat c.toNat, .one n (.cells ⟨repCells z c.toNat⟩ e (0, 0)), n + 1) else none
    | _, _ => none
  | .store k a x => match xev E a, xev E x with
    | some (.pointer (some ⟨L, o, none⟩)), some v => match T.get L with
      | some (.cells cs e fr) => bif Nat.beq v.cells.toList.length k && (v.cells.toList.all (·.oneCell')) && Nat.ble (o + k) cs.toList.length && blkOK L then
          some (undef, .one L (.cells ⟨putL cs.toList o v.cells.toList⟩ e fr), n) else none
      | _ => none
    | _, _ => none
  | .append e sz bt z s x => match xev E s, srcX E T sz x with
    | some (.slice a m c), some (k, l) => bif room (m + k) bt && (l.all (·.oneCell')) && blkOK n then
        (bif Nat.beq k 0 then (bif Nat.ble m c then some (.slice a m c, .no, n) else none)
        else match a with
        | none => bif Nat.beq m 0 && Nat.blt c k then some (.slice (some ⟨n, 0, none⟩) k (BIG + 1 + sz), .one n (.cells ⟨l⟩ e (0, 0)), n + 1) else none
        | some ⟨L, o, none⟩ => match T.get L with
          | some (.cells cs e' fr) => bif blkOK L then
              (bif Nat.blt c BIG then
                (bif Nat.ble (m + k) c then
                  (bif Nat.ble (o + (m + k) * sz) cs.toList.length then some (.slice (some ⟨L, o, none⟩) (m + k) c, .one L (.cells ⟨putL cs.toList (o + m * sz) l⟩ e' fr), n) else none)
                else bif Nat.ble (o + m * sz) cs.toList.length then
                  some (.slice (some ⟨n, 0, none⟩) (m + k) (BIG + 1 + sz), .one n (.cells ⟨(cs.toList.drop o).take (m * sz) ++ l⟩ e (0, 0)), n + 1) else none)
              else bif Nat.beq c (BIG + 1 + sz) && Nat.beq o 0 && Nat.ble 1 sz then
                (bif Nat.ble ((m + k) * sz) cs.toList.length then some (.slice (some ⟨L, 0, none⟩) (m + k) c, .one L (.cells ⟨putL cs.toList (m * sz) l⟩ e' fr), n)
                else bif Nat.ble (m * sz) cs.toList.length then some (.slice (some ⟨n, 0, none⟩) (m + k) (BIG + 1 + sz), .two L n (.cells ⟨cs.toList.take (m * sz) ++ l⟩ e' fr), n + 1)
                else none)
              else none) else none
          | _ => none
        | _ => none) else none
    | _, _ => none
  | .appendN e sz bt z s x => match xev E s, xev E x with
    | some (.slice a m c), some (.int .i64 k) => bif leI 0 k && room (m + k.toNat) bt && blkOK n && cstL z && Nat.blt c BIG && Nat.blt c (m + k.toNat) then
        (match srcX E T sz s with
        | some (m', l) => bif Nat.beq m m' then some (.slice (some ⟨n, 0, none⟩) (m + k.toNat) (BIG + 1 + sz), .one n (.cells ⟨l ++ repCells z k.toNat⟩ e (0, 0)), n + 1) else none
        | none => none) else none
    | _, _ => none
  | .copy sz d s => match xev E d, srcX E T sz s with
    | some (.slice a m c), some (k, l) => bif Nat.beq (Nat.min k m) 0 then some (.int .i64 0, .no, n) else match a with
      | some ⟨L, o, none⟩ => match T.get L with
        | some (.cells cs e fr) => bif Nat.ble (o + m * sz) cs.toList.length && (l.all (·.oneCell')) && blkOK L then
            some (.int .i64 ((Nat.min k m : Nat) : Int), .one L (.cells ⟨putL cs.toList o (l.take ((Nat.min k m) * sz))⟩ e fr), n) else none
        | _ => none
      | _ => none
    | _, _ => none
  | .clearSl z x => match xev E x with
    | some (.slice (some ⟨L, o, none⟩) m _) => match T.get L with
      | some (.cells cs e fr) => bif Nat.ble (o + m * z.length) cs.toList.length && (z.all (·.oneCell')) && cstL z && blkOK L then
          some (.tuple ⟨[]⟩, .one L (.cells ⟨putL cs.toList o (repCells z m)⟩ e fr), n) else none
      | _ => none
    | _ => none
  | .mapUpd ek m i x => match xev E m, xev E i, xev E x with
    | some (.map (some L)), some k, some v => match T.get L with
      | some (.map es ck) => bif keyV ek k && blkOK L then (match findV ek k es.toList 0 with
          | some r => some (undef, .one L (updX es.toList ck r k v), n)
          | none => none) else none
      | _ => none
    | _, _, _ => none
  | .delete ek m i => match xev E m, xev E i with
    | some (.map (some L)), some k => match T.get L with
      | some (.map es ck) => bif keyV ek k && blkOK L then (match findV ek k es.toList 0 with
          | some (some (j, _)) => some (.tuple ⟨[]⟩, .one L (.map ⟨delE es.toList j⟩ ck), n)
          | some none => some (.tuple ⟨[]⟩, .one L (.map es ck), n)
          | none => none) else none
      | _ => none
    | _, _ => none
  | .conv (.strBytes el) x => match xev E x with
    | some (.string s) => bif blkOK n then some (.slice (some ⟨n, 0, none⟩) s.data.toList.length (BIG + 1 + 1), .one n (.cells ⟨s.data.toList.map fun b => .int .u8 b.toNat⟩ el (0, 0)), n + 1) else none
    | _ => none
  | .rangeStr x => match xev E x with
    | some (.string s) => bif blkOK n then some (.pointer (some ⟨n, 0, none⟩), .one n (.stringIter s 0), n + 1) else none
    | _ => none
  | .next x true => match xev E x with
    | some (.pointer (some ⟨L, 0, none⟩)) => match T.get L with
      | some (.stringIter s p) => bif blkOK L then (bif Nat.blt p s.data.toList.length then some (.tuple ⟨[.bool true, .int .i64 p, .int .i32 (Utf8.decode s p).1]⟩, .one L (.stringIter s (p + (Utf8.decode s p).2)), n)
          else some (.tuple ⟨[.bool false]⟩, .no, n)) else none
      | _ => none
    | _ => none
  | .rangeMap x => match xev E x with
    | some (.map none) => bif blkOK n then some (.pointer (some ⟨n, 0, none⟩), .one n (.mapIter none 0 #[] 0), n + 1) else none
    | some (.map (some L)) => match T.get L with
      | some (.map _ ck) => bif blkOK n then some (.pointer (some ⟨n, 0, none⟩), .one n (.mapIter (some L) ck #[] ck), n + 1) else none
      | _ => none
    | _ => none
  | .next x false => match xev E x with
    | some (.pointer (some ⟨R, 0, none⟩)) => match T.get R with
      | some (.mapIter none _ _ _) => some (.tuple ⟨[.bool false]⟩, .no, n)
      | some (.mapIter (some L) since seen last) => match T.get L with
        | some (.map es ck) => bif blkOK R && !(!seen.toList.isEmpty && !es.toList.isEmpty && es.toList.all (·.born ≥ last)) then
            (match leftE seen.toList es.toList with
            | [] => some (.tuple ⟨[.bool false]⟩, .no, n)
            | [e0] => bif Nat.blt e0.born since then some (.tuple ⟨[.bool true, e0.key, e0.val]⟩, .one R (.mapIter (some L) since (seen.push e0.born) ck), n) else none
            | _ => none) else none
        | _ => none
      | _ => none
    | _ => none
  | _ => none

section
variable {P : Program} {I : Imm} {β : Bm} {E : Tr Value} {T : Tr Obj} {env : Env} {h F : List Chunk}

theorem srcX_rel (hE : ER β E env) (hT : HR β T h) {sz : Nat} {x : Opd} {k : Nat} {l : List Value} (e : srcX E T sz x = some (k, l)) (hk : k ≠ 0) :
    ∃ u l', ev env x = some u ∧ SrcC I (h ++ F) sz u k l' ∧ RnL β l l' := by
  unfold srcX at e
  split at e
  · simp only [Option.some.injEq, Prod.mk.injEq] at e; exact absurd e.1.symm hk
  · rename_i L o n c hx
    obtain ⟨u, hu, hr⟩ := hE.ev _ _ hx
    split at e
    · rename_i cs el fr ho
      replace e := cond_some e
      obtain ⟨hc, e⟩ := e
      have hc : o + n * sz ≤ cs.toList.length := Nat.le_of_ble_eq_true hc
      simp only [Option.some.injEq, Prod.mk.injEq] at e
      obtain ⟨rfl, rfl⟩ := e
      have main : ∀ b κ c', β.b L = some (b, κ) → ev env x = some (.slice (some ⟨b, o, none⟩) n c') → ∃ u l', ev env x = some u ∧ SrcC I (h ++ F) sz u n l' ∧ RnL β ((cs.toList.drop o).take (n * sz)) l' := by
        intro b κ c' hb hu
        obtain ⟨o', h1, h2⟩ := hT.get ho hb
        cases h2 with
        | @cells xs xs' sp _ _ _ _ hxs hlen hfr =>
          have hxl := hxs.length
          simp only at hc
          refine ⟨_, (xs'.drop o).take (n * sz), hu, .own h1.left (by simp only [List.size_toArray, List.length_append]; omega) ?_, (hxs.drop o).take _⟩
          simp only
          rw [List.drop_append_of_le_length (by omega), List.take_append_of_le_length (by simp; omega)]
      cases hr with
      | sl hb _ => exact main _ _ _ hb hu
      | slo hb _ _ => exact main _ _ _ hb hu
      | slr hb _ _ => exact main _ _ _ hb hu
    · cases e
  · simp only [Option.some.injEq, Prod.mk.injEq] at e; exact absurd e.1.symm hk
  · rename_i s hx
    obtain ⟨u, hu, hr⟩ := hE.ev _ _ hx
    cases hr
    replace e := cond_some e
    obtain ⟨hc, e⟩ := e
    have hc := Nat.eq_of_beq_eq_true hc
    simp only [Option.some.injEq, Prod.mk.injEq] at e
    obtain ⟨rfl, rfl⟩ := e
    refine ⟨_, _, hu, .str hc, ?_⟩
    generalize s.data.toList = bs
    induction bs with
    | nil => exact .nil
    | cons b bs ih => exact .cons .int ih
  · cases e

theorem srcX_zero (hE : ER β E env) {sz : Nat} {x : Opd} {l : List Value} (e : srcX E T sz x = some (0, l)) : ∃ u, ev env x = some u ∧ (u = .string ⟨⟨[]⟩⟩ ∨ ∃ a' c', u = .slice a' 0 c') := by
  unfold srcX at e
  split at e
  · rename_i c hx
    obtain ⟨u, hu, hr⟩ := hE.ev _ _ hx
    cases hr; exact ⟨_, hu, .inr ⟨_, _, rfl⟩⟩
  · rename_i L o n c hx
    obtain ⟨u, hu, hr⟩ := hE.ev _ _ hx
    split at e
    · replace e := cond_some e
      obtain ⟨hc, e⟩ := e
      simp only [Option.some.injEq, Prod.mk.injEq] at e
      obtain ⟨rfl, _⟩ := e
      cases hr <;> exact ⟨_, hu, .inr ⟨_, _, rfl⟩⟩
    · cases e
  · rename_i hx
    obtain ⟨u, hu, hr⟩ := hE.ev _ _ hx
    cases hr; exact ⟨_, hu, .inr ⟨_, _, rfl⟩⟩
  · rename_i s hx
    obtain ⟨u, hu, hr⟩ := hE.ev _ _ hx
    cases hr
    replace e := cond_some e
    obtain ⟨hc, e⟩ := e
    simp only [Option.some.injEq, Prod.mk.injEq] at e
    refine ⟨_, hu, .inl ?_⟩
    have h0 := List.length_eq_zero_iff.1 e.1
    obtain ⟨⟨l⟩⟩ := s
    simp only at h0
    rw [h0]
  · cases e

theorem putL_rel {xs xs' sp l l' : List Value} {o : Nat} (hx : RnL β xs xs') (hl : RnL β l l') (hle : o + l.length ≤ xs.length) : ∃ ys', putL (xs' ++ sp) o l' = ys' ++ sp ∧ RnL β (putL xs o l) ys' ∧ ys'.length = xs'.length := by
  have h1 := hx.length
  have h2 := hl.length
  refine ⟨putL xs' o l', ?_, ?_, ?_⟩
  · unfold putL
    rw [List.take_append_of_le_length (by omega), List.drop_append_of_le_length (by omega)]
    simp [List.append_assoc]
  · unfold putL
    rw [← h2]
    exact ((hx.take _).append hl).append (hx.drop _)
  · unfold putL; simp; omega

theorem repCells_rel {z : List Value} (hz : RnL β z z) : ∀ n, RnL β (repCells z n) (repCells z n)
  | 0 => .nil
  | n + 1 => by unfold repCells; exact hz.append (repCells_rel hz n)

theorem RnE.length {es es' : List MapEntry} (h : RnE β es es') : es.length = es'.length := by
  induction h with
  | nil => rfl
  | cons _ _ _ _ ih => simp [ih]
theorem RnE.append {es es' fs fs' : List MapEntry} (h : RnE β es es') (g : RnE β fs fs') : RnE β (es ++ fs) (es' ++ fs') := by
  induction h with
  | nil => exact g
  | cons a b c _ ih => exact .cons a b c ih
theorem modE_rel {k k' v v' : Value} (hk : Rn β k k') (hv : Rn β v v') {es es' : List MapEntry} (h : RnE β es es') : ∀ i, RnE β (modE (fun e => ⟨k, v, e.born⟩) es i) (es'.modify i fun e => ⟨k', v', e.born⟩) := by
  induction h with
  | nil => intro i; cases i <;> simp [modE] <;> exact .nil
  | cons a b c h ih =>
    intro i
    cases i with
    | zero => simp only [modE, List.modify_zero_cons]; exact .cons hk hv c h
    | succ i => simp only [modE, List.modify_succ_cons]; exact .cons a b c (ih i)
theorem delE_rel {es es' : List MapEntry} (h : RnE β es es') : ∀ i, RnE β (delE es i) (es'.eraseIdx i) := by
  induction h with
  | nil => intro i; cases i <;> simp [delE] <;> exact .nil
  | cons a b c h ih =>
    intro i
    cases i with
    | zero => simp only [delE, List.eraseIdx_cons_zero]; exact h
    | succ i => simp only [delE, List.eraseIdx_cons_succ]; exact .cons a b c (ih i)

theorem RnE.allBorn (f : Nat → Bool) {es es' : List MapEntry} (h : RnE β es es') : es'.all (fun e => f e.born) = es.all (fun e => f e.born) := by
  induction h with
  | nil => rfl
  | cons a b c _ ih => simp only [List.all_cons, ih, c]
theorem RnE.left (seen : List Nat) {es es' : List MapEntry} (h : RnE β es es') : RnE β (leftE seen es) (leftE seen es') := by
  unfold leftE
  induction h with
  | nil => exact .nil
  | cons a b c _ ih =>
    simp only [List.filter_cons, c]
    split
    · exact .cons a b c ih
    · exact ih
theorem updX_rel {κ ck : Nat} {es es' : List MapEntry} {r r' : Option (Nat × Value)} {k k' v v' : Value} (hk : Rn β k k') (hv : Rn β v v') (h : RnE β es es') (hr : RnF β r r') : RnO β κ (updX es ck r k v) (updMap ⟨es'⟩ ck r' k' v') := by
  cases hr with
  | none =>
    simp only [updX, updMap]
    have : ((⟨es'⟩ : Array MapEntry).push { key := k', val := v', born := ck }) = ⟨es' ++ [{ key := k', val := v', born := ck }]⟩ := by apply Array.toList_inj.1; simp
    rw [this]
    exact .map (h.append (.cons hk hv rfl .nil))
  | @some i _ _ _ =>
    simp only [updX, updMap]
    have : ((⟨es'⟩ : Array MapEntry).modify i fun e => { e with key := k', val := v' }) = ⟨es'.modify i fun e => ⟨k', v', e.born⟩⟩ := by apply Array.toList_inj.1; simp
    rw [this]
    exact .map (modE_rel hk hv h i)

/-- what is behind an operation -/
def Aft (β : Bm) (n : Nat) (I : Imm) (T' : Tr Obj) (n' : Nat) (v : Value) (F : List Chunk) (N : Value → Imm → List Chunk → Prop) : Prop :=
  ∀ β' u h', Bm.ext n β β' → Rn β' v u → (((h' ++ F).map Prod.fst).Nodup → HR β' T' h') → β'.fresh n' → N u I (h' ++ F)

variable {n : Nat} {N : Value → Imm → List Chunk → Prop}

theorem aft_new {n : Nat} {o o' : Obj} {v u : Value} {b κ : Nat} (hT : HR β T h) (hf : β.fresh n) (hn : blkOK n = true) (K : Aft β n I (Dl.app T (.one n o)) (n + 1) v F N)
    (hv : Rn (β.put n b κ) v u) (r : RnO β κ o o') : N u I ((b, o') :: (h ++ F)) := by
  have hle := Bm.put_ext (b := b) (κ := κ) hf
  refine K (β.put n b κ) u ((b, o') :: h) hle hv (fun hnd => ?_) (Bm.put_fresh hf)
  · refine hT.new (blkOK_le hn) (hf n (Nat.le_refl _)).1 List.mem_cons_self (fun c hc => ⟨List.mem_cons_of_mem _ hc, ?_⟩) (r.mono hle.1)
    simp only [List.cons_append, List.map_cons, List.nodup_cons] at hnd
    rintro rfl
    exact hnd.1 (List.mem_map.2 ⟨c, List.mem_append_left _ hc, rfl⟩)

theorem aft_upd {L b κ : Nat} {o o' p p' : Obj} {v u : Value} (hT : HR β T h) (hf : β.fresh n) (hL : blkOK L = true) (K : Aft β n I (Dl.app T (.one L p)) n v F N) (e : T.get L = some o) (hb : β.b L = some (b, κ)) (hh : Has b o' h) (r : RnO β κ p p') (hv : Rn β v u) :
    ∃ h', Upd b o' p' (h ++ F) (h' ++ F) ∧ N u I (h' ++ F) := by
  obtain ⟨h', h1, h2⟩ := hT.upd (blkOK_le hL) e hb r hh
  exact ⟨h', h1.left, K β u h' (Bm.ext_refl _ _) hv (fun _ => h2) hf⟩

theorem ef_sound (hE : ER β E env) (hT : HR β T h) (hf : β.fresh n) {op : IOp} {v : Value} {d : Dl} {n' : Nat} (e : efX E T n op = some (v, d, n')) (K : Aft β n I (d.app T) n' v F N) : OpStep P I (h ++ F) env op N := by
  unfold efX at e
  split at e
  case h_1 el z =>
    replace e := cond_some e
    obtain ⟨hc, e⟩ := e
    simp only [Bool.and_eq_true] at hc
    simp only [Option.some.injEq, Prod.mk.injEq] at e
    obtain ⟨rfl, rfl, rfl⟩ := e
    refine o_newv fun b => ?_
    refine aft_new (κ := z.length) hT hf hc.2 K (.ptr (Bm.put_self _ _ _ _)) ?_
    have := RnO.cells (β := β) (κ := z.length) (xs := z) (xs' := z) (sp := []) (e := el) (e' := el) (fr := (0, 0)) (fr' := (0, 0)) (cstL_rn hc.1) (by simp) (by simp [unfr])
    simpa using this
  case h_2 el x =>
    split at e
    · rename_i v0 hx
      obtain ⟨u, hu, hr⟩ := hE.ev _ _ hx
      replace e := cond_some e
      obtain ⟨hc, e⟩ := e
      simp only [Option.some.injEq, Prod.mk.injEq] at e
      obtain ⟨rfl, rfl, rfl⟩ := e
      refine o_box hu rfl fun b => ?_
      have hcl := hr.cells
      refine aft_new (κ := u.cells.toList.length) hT hf hc K (.ptr (Bm.put_self _ _ _ _)) ?_
      have := RnO.cells (β := β) (κ := u.cells.toList.length) (xs := v0.cells.toList) (xs' := u.cells.toList) (sp := []) (e := el) (e' := el) (fr := (0, 0)) (fr' := (0, 0)) hcl (by simp) (by simp [unfr])
      simpa using this
    · cases e
  case h_3 el len z ps =>
    replace e := cond_some e
    obtain ⟨hc, e⟩ := e
    simp only [Bool.and_eq_true] at hc
    obtain ⟨⟨hz, hn⟩, hB⟩ := hc
    have hB : len < BIG := Nat.le_of_ble_eq_true hB
    split at e
    · rename_i l hl
      split at e
      · rename_i cs hcs
        simp only [Option.some.injEq, Prod.mk.injEq] at e
        obtain ⟨rfl, rfl, rfl⟩ := e
        obtain ⟨l', hl', H⟩ := evParts_rel hE.ev _ _ hl
        obtain ⟨cs', h1, h2⟩ := H _ _ _ (cstL_rn hz) hcs
        refine o_bslice hl' h1 fun b => ?_
        refine aft_new (κ := cs'.length) hT hf hn K (.sl (Bm.put_self _ _ _ _) hB) ?_
        have := RnO.cells (β := β) (κ := cs'.length) (xs := cs) (xs' := cs') (sp := []) (e := el) (e' := el) (fr := (0, 0)) (fr' := (0, 0)) h2 (by simp) (by simp [unfr])
        simpa using this
      · cases e
    · cases e
  case h_4 =>
    replace e := cond_some e
    obtain ⟨hn, e⟩ := e
    simp only [Option.some.injEq, Prod.mk.injEq] at e
    obtain ⟨rfl, rfl, rfl⟩ := e
    refine o_mkMap fun b => ?_
    exact aft_new (κ := 0) hT hf hn K (.map (Bm.put_self _ _ _ _)) (.map .nil)
  case h_5 el sz bt z l c =>
    split at e
    · rename_i kl li kc ci hl hcc
      obtain ⟨u, hu, hr⟩ := hE.ev _ _ hl
      obtain ⟨u2, hu2, hr2⟩ := hE.ev _ _ hcc
      cases hr; cases hr2
      replace e := cond_some e
      obtain ⟨hc, e⟩ := e
      simp only [Bool.and_eq_true, room] at hc
      obtain ⟨⟨⟨⟨⟨hz, hn⟩, h0⟩, h1⟩, h2, h3⟩, hB⟩ := hc
      have h0 := leI_t h0
      have h1 := leI_t h1
      have h2 : ci.toNat * bt ≤ 140737488355328 := Nat.le_of_ble_eq_true h2
      have h3 : ci.toNat ≤ 140737488355328 := Nat.le_of_ble_eq_true h3
      have hB : ci.toNat < BIG := Nat.le_of_ble_eq_true hB
      simp only [Option.some.injEq, Prod.mk.injEq] at e
      obtain ⟨rfl, rfl, rfl⟩ := e
      have hci : (ci.toNat : Int) = ci := by omega
      refine o_mkSlice hu hu2 h0 h1 (by rw [← hci]; exact_mod_cast h2) (by omega) fun b => ?_
      refine aft_new (κ := (repCells z ci.toNat).length) hT hf hn K (.sl (Bm.put_self _ _ _ _) hB) ?_
      have := RnO.cells (β := β) (κ := (repCells z ci.toNat).length) (xs := repCells z ci.toNat) (xs' := repCells z ci.toNat) (sp := []) (e := el) (e' := el) (fr := (0, 0)) (fr' := (0, 0)) (repCells_rel (cstL_rn hz) _) (by simp) (by simp [unfr])
      simpa using this
    · cases e
  case h_6 k a x =>
    split at e
    · rename_i L o v0 ha hx
      obtain ⟨u, hu, hr⟩ := hE.ev _ _ ha
      obtain ⟨u2, hu2, hr2⟩ := hE.ev _ _ hx
      split at e
      · rename_i cs el fr ho
        replace e := cond_some e
        obtain ⟨hc, e⟩ := e
        simp only [Bool.and_eq_true] at hc
        obtain ⟨⟨⟨h1, h2⟩, h3⟩, h4⟩ := hc
        have h1 := Nat.eq_of_beq_eq_true h1
        have h3 : o + k ≤ cs.toList.length := Nat.le_of_ble_eq_true h3
        simp only [Option.some.injEq, Prod.mk.injEq] at e
        obtain ⟨rfl, rfl, rfl⟩ := e
        cases hr with
        | ptr hb =>
          obtain ⟨o', g1, g2⟩ := hT.get ho hb
          cases g2 with
          | @cells xs xs' sp _ e' _ fr' hxs hlen hfr =>
            have hcl := hr2.cells
            have hcll := hcl.length
            simp only at h3
            obtain ⟨ys, p1, p2, p3⟩ := putL_rel (sp := sp) hxs hcl (o := o) (by omega)
            have hxl := hxs.length
            have hsz : (⟨xs' ++ sp⟩ : Array Value).size = _ := hlen ▸ (by simp : (⟨xs' ++ sp⟩ : Array Value).size = xs'.length + sp.length)
            obtain ⟨h', g3, g4⟩ := aft_upd (v := undef) (u := undef) hT hf h4 K ho hb g1 (p' := .cells ⟨ys ++ sp⟩ e' fr') (.cells p2 (by omega) hfr) (cst_rn rfl)
            refine o_store hu hu2 rfl (by omega) ?_ (by rw [hsz]; exact hfr) (by rw [hsz]; omega) p1 g3 g4
            rw [← hcl.oneCells]; exact h2
      · cases e
    · cases e
  case h_7 el sz bt z s x =>
    split at e
    · rename_i a m c k l hs hx
      obtain ⟨u, hu, hr⟩ := hE.ev _ _ hs
      replace e := cond_some e
      obtain ⟨hc, e⟩ := e
      simp only [Bool.and_eq_true, room] at hc
      obtain ⟨⟨⟨r1, r2⟩, hall⟩, hn⟩ := hc
      have r1 : (m + k) * bt ≤ 140737488355328 := Nat.le_of_ble_eq_true r1
      have r2 : m + k ≤ 140737488355328 := Nat.le_of_ble_eq_true r2
      cases hk : Nat.beq k 0 with
      | true =>
        have hk := Nat.eq_of_beq_eq_true hk
        subst hk
        simp only [Nat.beq_refl, cond_true] at e
        replace e := cond_some e
        obtain ⟨hc, e⟩ := e
        have hc : m ≤ c := Nat.le_of_ble_eq_true hc
        simp only [Option.some.injEq, Prod.mk.injEq] at e
        obtain ⟨rfl, rfl, rfl⟩ := e
        obtain ⟨u2, hu2, hz⟩ := srcX_zero hE hx
        have fin : ∀ a' c', m ≤ c' → u = .slice a' m c' → OpStep P I (h ++ F) env (.append el sz bt z s x) N := by
          rintro a' c' hle rfl
          exact o_append_zero hu hu2 hz hle (by simpa using r1) (by omega) (K β _ h (Bm.ext_refl _ _) hr (fun _ => hT) hf)
        cases hr with
        | sl0 => exact fin _ _ hc rfl
        | sl _ _ => exact fin _ _ hc rfl
        | slo _ h1 _ => exact fin _ _ h1 rfl
        | slr _ h1 _ => exact fin _ _ h1 rfl
        | sle => exact fin _ _ (Nat.zero_le _) rfl
      | false =>
        simp only [hk, cond_false] at e
        have hk0 : k ≠ 0 := fun e0 => by rw [e0] at hk; cases hk
        obtain ⟨u2, l', hu2, hsrc, hl⟩ := srcX_rel (F := F) (I := I) hE hT hx hk0
        have hll := hl.length
        have hlk := hsrc.length
        split at e
        · replace e := cond_some e
          obtain ⟨hc, e⟩ := e
          simp only [Bool.and_eq_true] at hc
          have hm := Nat.eq_of_beq_eq_true hc.1
          have hck : c < k := Nat.le_of_ble_eq_true hc.2
          subst hm
          simp only [Option.some.injEq, Prod.mk.injEq] at e
          obtain ⟨rfl, rfl, rfl⟩ := e
          cases hr with
          | sl0 =>
            refine o_append_grow hu .nil hu2 hsrc (by omega) r1 (by omega) fun b rest cap hcap hlen => ?_
            rw [Nat.zero_add] at hcap ⊢
            refine aft_new (κ := cap * sz) hT hf hn K (.slo (Bm.put_self _ _ _ _) hcap rfl) ?_
            have := RnO.cells (β := β) (κ := cap * sz) (xs := l) (xs' := l') (sp := rest) (e := el) (e' := el) (fr := (0, 0)) (fr' := (0, 0)) hl (by simpa using hlen) (by simp [unfr])
            simpa using this
        · rename_i L o
          split at e
          · rename_i cs el' fr ho
            replace e := cond_some e
            obtain ⟨hbL, e⟩ := e
            cases hcB : Nat.blt c BIG with
            | true =>
              have hcB' : c < BIG := Nat.le_of_ble_eq_true hcB
              simp only [hcB, cond_true] at e
              cases hr with
              | slo _ _ _ => omega
              | slr _ _ _ => omega
              | sl hb _ =>
                obtain ⟨o', g1, g2⟩ := hT.get ho hb
                cases g2 with
                | @cells xs xs' sp _ e' _ fr' hxs hlen hfr =>
                have hxl := hxs.length
                have hsz : (⟨xs' ++ sp⟩ : Array Value).size = _ := hlen ▸ (by simp : (⟨xs' ++ sp⟩ : Array Value).size = xs'.length + sp.length)
                cases hmk : Nat.ble (m + k) c with
                | true =>
                  have hmk' : m + k ≤ c := Nat.le_of_ble_eq_true hmk
                  simp only [hmk, cond_true] at e
                  replace e := cond_some e
                  obtain ⟨hc, e⟩ := e
                  have hc : o + (m + k) * sz ≤ xs.length := Nat.le_of_ble_eq_true hc
                  simp only [Option.some.injEq, Prod.mk.injEq] at e
                  obtain ⟨rfl, rfl, rfl⟩ := e
                  have hmul := Nat.add_mul m k sz
                  obtain ⟨ys, p1, p2, p3⟩ := putL_rel (sp := sp) hxs hl (o := o + m * sz) (by omega)
                  obtain ⟨h', g3, g4⟩ := aft_upd (v := .slice (some ⟨L, o, none⟩) (m + k) c) (u := .slice (some ⟨_, o, none⟩) (m + k) c) hT hf hbL K ho hb g1 (p' := .cells ⟨ys ++ sp⟩ e' fr') (.cells p2 (by omega) hfr) (.sl hb hcB')
                  refine o_append_in (e' := e') (c := ⟨xs' ++ sp⟩) (fr := fr') hu hu2 hsrc (by rw [← hl.oneCells]; exact hall) hmk' (by rw [hsz]; omega) (by rw [hsz]; exact hfr) r1 (by omega) ?_ g4
                  rw [p1]; exact g3
                | false =>
                  have hmk' : ¬ m + k ≤ c := fun hle => by rw [Nat.ble_eq_true_of_le hle] at hmk; cases hmk
                  simp only [hmk, cond_false] at e
                  replace e := cond_some e
                  obtain ⟨hc, e⟩ := e
                  have hc : o + m * sz ≤ xs.length := Nat.le_of_ble_eq_true hc
                  simp only [Option.some.injEq, Prod.mk.injEq] at e
                  obtain ⟨rfl, rfl, rfl⟩ := e
                  refine o_append_grow (xs := (xs'.drop o).take (m * sz)) hu (.own g1.left (by rw [hsz]; omega) ?_) hu2 hsrc (by omega) r1 (by omega) fun b rest cap hcap hlen' => ?_
                  · simp only
                    rw [List.drop_append_of_le_length (by omega), List.take_append_of_le_length (by simp; omega)]
                  · refine aft_new (κ := cap * sz) hT hf hn K (.slo (Bm.put_self _ _ _ _) hcap rfl) ?_
                    have := RnO.cells (β := β) (κ := cap * sz) (xs := (xs.drop o).take (m * sz) ++ l) (xs' := (xs'.drop o).take (m * sz) ++ l') (sp := rest) (e := el) (e' := el) (fr := (0, 0)) (fr' := (0, 0)) (((hxs.drop o).take _).append hl) hlen' (by simp [unfr])
                    simpa using this
            | false =>
              have hcB' : ¬ c < BIG := fun hlt => by rw [show Nat.blt c BIG = true from Nat.ble_eq_true_of_le hlt] at hcB; cases hcB
              simp only [hcB, cond_false] at e
              replace e := cond_some e
              obtain ⟨hc, e⟩ := e
              simp only [Bool.and_eq_true] at hc
              obtain ⟨⟨hc1, hc2⟩, hc3⟩ := hc
              have hc1 := Nat.eq_of_beq_eq_true hc1
              have hc2 := Nat.eq_of_beq_eq_true hc2
              have hc3 : 1 ≤ sz := Nat.le_of_ble_eq_true hc3
              subst hc1; subst hc2
              generalize hcc : BIG + 1 + sz = cc at hr
              cases hr with
              | sl _ h => omega
              | slr _ _ _ => omega
              | @slo _ b κ _ c' sz' hb hmc hκ =>
                have hsz' : sz' = sz := by omega
                subst hsz'
                obtain ⟨o', g1, g2⟩ := hT.get ho hb
                cases g2 with
                | @cells xs xs' sp _ e' _ fr' hxs hlen hfr =>
                have hxl := hxs.length
                have hsz : (⟨xs' ++ sp⟩ : Array Value).size = _ := hlen ▸ (by simp : (⟨xs' ++ sp⟩ : Array Value).size = xs'.length + sp.length)
                have hmul := Nat.add_mul m k sz'
                cases hin : Nat.ble ((m + k) * sz') xs.length with
                | true =>
                  have hin' : (m + k) * sz' ≤ xs.length := Nat.le_of_ble_eq_true hin
                  simp only [hin, cond_true, Option.some.injEq, Prod.mk.injEq] at e
                  obtain ⟨rfl, rfl, rfl⟩ := e
                  have hmk' : m + k ≤ c' := by
                    rcases Nat.lt_or_ge c' (m + k) with hlt | hge
                    · have : (c' + 1) * sz' ≤ (m + k) * sz' := Nat.mul_le_mul_right _ hlt
                      rw [Nat.add_mul] at this; omega
                    · exact hge
                  obtain ⟨ys, p1, p2, p3⟩ := putL_rel (sp := sp) hxs hl (o := m * sz') (by omega)
                  obtain ⟨h', g3, g4⟩ := aft_upd (v := .slice (some ⟨L, 0, none⟩) (m + k) (BIG + 1 + sz')) (u := .slice (some ⟨b, 0, none⟩) (m + k) c') hT hf hbL K ho hb g1 (p' := .cells ⟨ys ++ sp⟩ e' fr') (.cells p2 (by omega) hfr) (.slo hb hmk' hκ)
                  refine o_append_in (e' := e') (c := ⟨xs' ++ sp⟩) (fr := fr') hu hu2 hsrc (by rw [← hl.oneCells]; exact hall) hmk' (by rw [hsz]; omega) (by rw [hsz]; exact hfr) r1 (by omega) ?_ g4
                  rw [Nat.zero_add, p1]; exact g3
                | false =>
                  simp only [hin, cond_false] at e
                  replace e := cond_some e
                  obtain ⟨hc, e⟩ := e
                  have hc : m * sz' ≤ xs.length := Nat.le_of_ble_eq_true hc
                  simp only [Option.some.injEq, Prod.mk.injEq] at e
                  obtain ⟨rfl, rfl, rfl⟩ := e
                  by_cases hmk' : m + k ≤ c'
                  · have hmulc : (m + k) * sz' ≤ c' * sz' := Nat.mul_le_mul_right _ hmk'
                    obtain ⟨h', g3, g4, g5⟩ := upd_of_has (.cells ⟨putL (xs' ++ sp) (m * sz') l'⟩ e' fr') g1
                    refine o_append_in (e' := e') (c := ⟨xs' ++ sp⟩) (fr := fr') hu hu2 hsrc (by rw [← hl.oneCells]; exact hall) hmk' (by rw [hsz]; omega) (by rw [hsz]; exact hfr) r1 (by omega) (by rw [Nat.zero_add]; exact g3.left) ?_
                    refine K (β.put n b κ) _ h' (Bm.put_ext hf) (.slo (Bm.put_self _ _ _ _) hmk' hκ) (fun _ => ?_) (Bm.put_fresh hf)
                    refine hT.swap (blkOK_le hbL) (blkOK_le hn) (hf n (Nat.le_refl _)).1 ho hb ?_ g4 (fun c hc hne => ⟨g5 c hc hne, hne⟩)
                    have hput : putL (xs' ++ sp) (m * sz') l' = (xs'.take (m * sz') ++ l') ++ (xs' ++ sp).drop (m * sz' + l'.length) := by
                      unfold putL
                      rw [List.take_append_of_le_length (by omega)]
                    rw [hput]
                    exact .cells (((hxs.mono (Bm.le_put (hf n (Nat.le_refl _)).1)).take _).append (hl.mono (Bm.le_put (hf n (Nat.le_refl _)).1))) (by simp; omega) hfr
                  · refine o_append_grow (xs := xs'.take (m * sz')) hu (.own g1.left (by rw [hsz]; omega) ?_) hu2 hsrc (by omega) r1 (by omega) fun b2 rest cap hcap hlen' => ?_
                    · simp only [List.drop_zero]
                      rw [List.take_append_of_le_length (by omega)]
                    · refine K (β.put n b2 (cap * sz')) _ ((b2, _) :: h) (Bm.put_ext hf) (.slo (Bm.put_self _ _ _ _) hcap rfl) (fun hnd => ?_) (Bm.put_fresh hf)
                      refine hT.swap (blkOK_le hbL) (blkOK_le hn) (hf n (Nat.le_refl _)).1 ho hb ?_ List.mem_cons_self (fun c hc _ => ⟨List.mem_cons_of_mem _ hc, ?_⟩)
                      · have := RnO.cells (β := β.put n b2 (cap * sz')) (κ := cap * sz') (xs := xs.take (m * sz') ++ l) (xs' := xs'.take (m * sz') ++ l') (sp := rest) (e := el') (e' := el) (fr := fr) (fr' := (0, 0)) (((hxs.mono (Bm.le_put (hf n (Nat.le_refl _)).1)).take _).append (hl.mono (Bm.le_put (hf n (Nat.le_refl _)).1))) hlen' (by simp [unfr])
                        simpa using this
                      · simp only [List.cons_append, List.map_cons, List.nodup_cons] at hnd
                        rintro rfl
                        exact hnd.1 (List.mem_map.2 ⟨c, List.mem_append_left _ hc, rfl⟩)
          · cases e
        · cases e
    · cases e
  case h_8 el sz bt z s x =>
    split at e
    · rename_i a m c k hs hx
      obtain ⟨u, hu, hr⟩ := hE.ev _ _ hs
      obtain ⟨u2, hu2, hr2⟩ := hE.ev _ _ hx
      cases hr2
      replace e := cond_some e
      obtain ⟨hc, e⟩ := e
      simp only [Bool.and_eq_true, room] at hc
      obtain ⟨⟨⟨⟨⟨h0, r1, r2⟩, hn⟩, hz⟩, hB⟩, hroom⟩ := hc
      have h0 := leI_t h0
      have r1 : (m + k.toNat) * bt ≤ 140737488355328 := Nat.le_of_ble_eq_true r1
      have r2 : m + k.toNat ≤ 140737488355328 := Nat.le_of_ble_eq_true r2
      have hB : c < BIG := Nat.le_of_ble_eq_true hB
      have hroom : c < m + k.toNat := Nat.le_of_ble_eq_true hroom
      split at e
      · rename_i m' l hsrc
        replace e := cond_some e
        obtain ⟨hm, e⟩ := e
        have hm := Nat.eq_of_beq_eq_true hm
        subst hm
        simp only [Option.some.injEq, Prod.mk.injEq] at e
        obtain ⟨rfl, rfl, rfl⟩ := e
        have main : ∀ (a' : Option Addr) (l' : List Value), ev env s = some (.slice a' m c) → SrcC I (h ++ F) sz (.slice a' m c) m l' → RnL β l l' → OpStep P I (h ++ F) env (.appendN el sz bt z s x) N := by
          intro a' l' hu hs' hl
          refine o_appendN hu hs' hu2 h0 hroom r1 (by omega) fun v' hs2 hsl => ?_
          generalize hnn : m + k.toNat = nn at hsl
          generalize hLL : l' ++ repCells z k.toNat = LL at hsl
          cases hsl with
          | nil => omega
          | @own b _ cap _ spare g1 g2 g3 =>
            subst hnn; subst hLL
            rw [List.singleton_append]
            refine aft_new (κ := cap * sz) hT hf hn K (.slo (Bm.put_self _ _ _ _) g2 rfl) ?_
            exact .cells (hl.append (repCells_rel (cstL_rn hz) _)) g3 (by simp [unfr])
        by_cases hm0 : m = 0
        · subst hm0
          have hl0 : l = [] := by
            unfold srcX at hsrc
            split at hsrc
            · simp only [Option.some.injEq, Prod.mk.injEq] at hsrc; exact hsrc.2.symm
            · split at hsrc
              · replace hsrc := cond_some hsrc
                simp only [Option.some.injEq, Prod.mk.injEq] at hsrc
                obtain ⟨_, rfl, rfl⟩ := hsrc
                simp
              · cases hsrc
            · simp only [Option.some.injEq, Prod.mk.injEq] at hsrc; exact hsrc.2.symm
            · rename_i s0 hs0; rw [hs] at hs0; cases hs0
            · cases hsrc
          subst hl0
          cases hr with
          | sl0 => exact main _ [] hu .nil .nil
          | @sl L b κ o _ _ hb _ =>
            unfold srcX at hsrc
            rw [hs] at hsrc
            simp only at hsrc
            split at hsrc
            · rename_i cs el' fr ho
              replace hsrc := (cond_some hsrc).1
              have hsrc : o + 0 * sz ≤ cs.toList.length := Nat.le_of_ble_eq_true hsrc
              obtain ⟨o', g1, g2⟩ := hT.get ho hb
              cases g2 with
              | @cells xs xs' sp _ e' _ fr' hxs hlen hfr =>
                have hxl := hxs.length
                simp only at hsrc
                exact main _ [] hu (.own g1.left (by simp only [List.size_toArray, List.length_append]; omega) (by simp)) .nil
            · cases hsrc
          | slo _ _ _ => omega
          | slr _ _ _ => omega
          | sle => omega
        · obtain ⟨u', l', g1, g2, g3⟩ := srcX_rel (F := F) (I := I) hE hT hsrc hm0
          rw [hu] at g1; cases g1
          cases hr with
          | sl0 => exact main _ l' hu g2 g3
          | sl _ _ => exact main _ l' hu g2 g3
          | slo _ _ _ => omega
          | slr _ _ _ => omega
          | sle => omega
      · cases e
    · cases e
  case h_9 sz d s =>
    split at e
    · rename_i a m c k l hd hs
      obtain ⟨u, hu, hr⟩ := hE.ev _ _ hd
      cases h0 : Nat.beq (Nat.min k m) 0 with
      | true =>
        have h0' := Nat.eq_of_beq_eq_true h0
        simp only [h0, cond_true, Option.some.injEq, Prod.mk.injEq] at e
        obtain ⟨rfl, rfl, rfl⟩ := e
        have hs' : ∃ u2, ev env s = some u2 ∧ ((∃ s, u2 = .string s) ∨ ∃ a n c, u2 = .slice a n c) ∧ ∀ w, (Builtin.lenOf u2).run P w = .ok k w := by
          by_cases hk0 : k = 0
          · subst hk0
            obtain ⟨u2, hu2, h2⟩ := srcX_zero hE hs
            rcases h2 with rfl | ⟨a', c', rfl⟩
            · exact ⟨_, hu2, .inl ⟨_, rfl⟩, fun w => rfl⟩
            · exact ⟨_, hu2, .inr ⟨_, _, _, rfl⟩, fun w => rfl⟩
          · obtain ⟨u2, l', hu2, hsrc, hl⟩ := srcX_rel (F := F) (I := I) hE hT hs hk0
            exact ⟨u2, hu2, hsrc.shape, hsrc.lenOf⟩
        obtain ⟨u2, hu2, h2, h3⟩ := hs'
        have fin : ∀ a' c', u = .slice a' m c' → OpStep P I (h ++ F) env (.copy sz d s) N := by
          rintro a' c' rfl
          exact o_copy_zero hu hu2 h2 h3 h0' (K β _ h (Bm.ext_refl _ _) .int (fun _ => hT) hf)
        cases hr with
        | sl0 => exact fin _ _ rfl
        | sl _ _ => exact fin _ _ rfl
        | slo _ h1 _ => exact fin _ _ rfl
        | slr _ h1 _ => exact fin _ _ rfl
        | sle => exact fin _ _ rfl
      | false =>
      have hk0 : k ≠ 0 := fun e0 => by rw [e0, show Nat.min 0 m = 0 from Nat.zero_min m] at h0; cases h0
      simp only [h0, cond_false] at e
      split at e
      · rename_i L o
        split at e
        · rename_i cs el fr ho
          replace e := cond_some e
          obtain ⟨hc, e⟩ := e
          simp only [Bool.and_eq_true] at hc
          obtain ⟨⟨h1, hall⟩, hbL⟩ := hc
          have h1 : o + m * sz ≤ cs.toList.length := Nat.le_of_ble_eq_true h1
          simp only [Option.some.injEq, Prod.mk.injEq] at e
          obtain ⟨rfl, rfl, rfl⟩ := e
          have main : ∀ b κ c', β.b L = some (b, κ) → ev env d = some (.slice (some ⟨b, o, none⟩) m c') → OpStep P I (h ++ F) env (.copy sz d s) N := by
            intro b κ c' hb hu
            obtain ⟨u2, l', hu2, hsrc, hl⟩ := srcX_rel (F := F) (I := I) hE hT hs hk0
            obtain ⟨o', g1, g2⟩ := hT.get ho hb
            cases g2 with
            | @cells xs xs' sp _ e' _ fr' hxs hlen hfr =>
              have hxl := hxs.length
              simp only at h1
              have hsz : (⟨xs' ++ sp⟩ : Array Value).size = _ := hlen ▸ (by simp : (⟨xs' ++ sp⟩ : Array Value).size = xs'.length + sp.length)
              have hmin : Nat.min k m * sz ≤ m * sz := Nat.mul_le_mul_right _ (Nat.min_le_right _ _)
              obtain ⟨ys, p1, p2, p3⟩ := putL_rel (sp := sp) hxs (hl.take (Nat.min k m * sz)) (o := o) (by rw [List.length_take]; omega)
              obtain ⟨h', g3, g4⟩ := aft_upd (v := .int .i64 ((Nat.min k m : Nat) : Int)) (u := .int .i64 ((Nat.min k m : Nat) : Int)) hT hf hbL K ho hb g1 (p' := .cells ⟨ys ++ sp⟩ e' fr') (.cells p2 (by omega) hfr) .int
              refine o_copy (e' := e') (c := ⟨xs' ++ sp⟩) (fr := fr') hu hu2 hsrc rfl (by rw [← hl.oneCells]; exact hall) (by rw [hsz]; omega) (by rw [hsz]; exact hfr) ?_ g4
              rw [p1]; exact g3
          cases hr with
          | sl hb _ => exact main _ _ _ hb hu
          | slo hb _ _ => exact main _ _ _ hb hu
          | slr hb _ _ => exact main _ _ _ hb hu
        · cases e
      · cases e
    · cases e
  case h_10 z x =>
    split at e
    · rename_i L o m c hx
      obtain ⟨u, hu, hr⟩ := hE.ev _ _ hx
      split at e
      · rename_i cs el fr ho
        replace e := cond_some e
        obtain ⟨hc, e⟩ := e
        simp only [Bool.and_eq_true] at hc
        obtain ⟨⟨⟨h1, hall⟩, hz⟩, hbL⟩ := hc
        have h1 : o + m * z.length ≤ cs.toList.length := Nat.le_of_ble_eq_true h1
        simp only [Option.some.injEq, Prod.mk.injEq] at e
        obtain ⟨rfl, rfl, rfl⟩ := e
        have main : ∀ b κ c', β.b L = some (b, κ) → ev env x = some (.slice (some ⟨b, o, none⟩) m c') → OpStep P I (h ++ F) env (.clearSl z x) N := by
          intro b κ c' hb hu
          obtain ⟨o', g1, g2⟩ := hT.get ho hb
          cases g2 with
          | @cells xs xs' sp _ e' _ fr' hxs hlen hfr =>
            have hxl := hxs.length
            simp only at h1
            have hsz : (⟨xs' ++ sp⟩ : Array Value).size = _ := hlen ▸ (by simp : (⟨xs' ++ sp⟩ : Array Value).size = xs'.length + sp.length)
            obtain ⟨ys, p1, p2, p3⟩ := putL_rel (sp := sp) hxs (repCells_rel (cstL_rn hz) m) (o := o) (by rw [repCells_length]; omega)
            obtain ⟨h', g3, g4⟩ := aft_upd (v := .tuple ⟨[]⟩) (u := .tuple ⟨[]⟩) hT hf hbL K ho hb g1 (p' := .cells ⟨ys ++ sp⟩ e' fr') (.cells p2 (by omega) hfr) (.tuple .nil)
            refine o_clear (e' := e') (c := ⟨xs' ++ sp⟩) (fr := fr') hu hall (by rw [hsz]; omega) (by rw [hsz]; exact hfr) ?_ g4
            rw [p1]; exact g3
        cases hr with
        | sl hb _ => exact main _ _ _ hb hu
        | slo hb _ _ => exact main _ _ _ hb hu
        | slr hb _ _ => exact main _ _ _ hb hu
      · cases e
    · cases e
  case h_11 ek m i x =>
    split at e
    · rename_i L k v0 hm hi hx
      obtain ⟨u, hu, hr⟩ := hE.ev _ _ hm
      obtain ⟨u2, hu2, hr2⟩ := hE.ev _ _ hi
      obtain ⟨u3, hu3, hr3⟩ := hE.ev _ _ hx
      split at e
      · rename_i es ck ho
        replace e := cond_some e
        obtain ⟨hc, e⟩ := e
        simp only [Bool.and_eq_true] at hc
        split at e
        · rename_i r hfr
          simp only [Option.some.injEq, Prod.mk.injEq] at e
          obtain ⟨rfl, rfl, rfl⟩ := e
          cases hr with
          | map hb =>
            obtain ⟨o', g1, g2⟩ := hT.get ho hb
            cases g2 with
            | @map es0 es' _ hes =>
              obtain ⟨r', p1, p2⟩ := findV_rel hr2 hes hfr
              obtain ⟨h', g3, g4⟩ := aft_upd (v := undef) (u := undef) hT hf hc.2 K ho hb g1 (updX_rel (ck := ck) hr2 hr3 hes p2) (cst_rn rfl)
              exact o_mapUpd hu hu2 hu3 (keyV_rel hr2 hc.1) p1 g3 g4
        · cases e
      · cases e
    · cases e
  case h_12 ek m i =>
    split at e
    · rename_i L k hm hi
      obtain ⟨u, hu, hr⟩ := hE.ev _ _ hm
      obtain ⟨u2, hu2, hr2⟩ := hE.ev _ _ hi
      split at e
      · rename_i es ck ho
        replace e := cond_some e
        obtain ⟨hc, e⟩ := e
        simp only [Bool.and_eq_true] at hc
        split at e
        · rename_i j v0 hfr
          simp only [Option.some.injEq, Prod.mk.injEq] at e
          obtain ⟨rfl, rfl, rfl⟩ := e
          cases hr with
          | map hb =>
            obtain ⟨o', g1, g2⟩ := hT.get ho hb
            cases g2 with
            | @map es0 es' _ hes =>
              obtain ⟨r', p1, p2⟩ := findV_rel hr2 hes hfr
              cases p2 with
              | some hv =>
                obtain ⟨h', g3, g4⟩ := aft_upd (v := .tuple ⟨[]⟩) (u := .tuple ⟨[]⟩) (p' := .map ⟨es'.eraseIdx j⟩ ck) hT hf hc.2 K ho hb g1 (.map (delE_rel hes j)) (.tuple .nil)
                refine o_delete (es := ⟨es'⟩) (ck := ck) hu hu2 (keyV_rel hr2 hc.1) p1 ?_ g4
                have : ∀ x, delMap ⟨es'⟩ ck (some (j, x)) = .map ⟨es'.eraseIdx j⟩ ck := by
                  intro x
                  simp only [delMap]
                  congr 1
                  apply Array.toList_inj.1
                  simp
                rw [this]; exact g3
        · rename_i hfr
          simp only [Option.some.injEq, Prod.mk.injEq] at e
          obtain ⟨rfl, rfl, rfl⟩ := e
          cases hr with
          | map hb =>
            obtain ⟨o', g1, g2⟩ := hT.get ho hb
            cases g2 with
            | @map es0 es' _ hes =>
              obtain ⟨r', p1, p2⟩ := findV_rel hr2 hes hfr
              cases p2 with
              | none =>
                obtain ⟨h', g3, g4⟩ := aft_upd (v := .tuple ⟨[]⟩) (u := .tuple ⟨[]⟩) (p' := .map ⟨es'⟩ ck) hT hf hc.2 K ho hb g1 (.map hes) (.tuple .nil)
                exact o_delete hu hu2 (keyV_rel hr2 hc.1) p1 g3 g4
        · cases e
      · cases e
    · cases e
  case h_13 el x =>
    split at e
    · rename_i s hx
      obtain ⟨u, hu, hr⟩ := hE.ev _ _ hx
      cases hr
      replace e := cond_some e
      obtain ⟨hn, e⟩ := e
      simp only [Option.some.injEq, Prod.mk.injEq] at e
      obtain ⟨rfl, rfl, rfl⟩ := e
      refine o_strBytes hu fun b rest cap fr g1 g2 g3 => ?_
      have hs : s.size = s.data.toList.length := rfl
      refine aft_new (κ := cap) hT hf hn K (.slo (Bm.put_self _ _ _ _) g1 (by omega)) ?_
      refine .cells ?_ (by rw [List.length_map]; omega) g3
      generalize s.data.toList = bs
      induction bs with
      | nil => exact .nil
      | cons b bs ih => exact .cons .int ih
    · cases e
  case h_14 x =>
    split at e
    · rename_i s hx
      obtain ⟨u, hu, hr⟩ := hE.ev _ _ hx
      cases hr
      replace e := cond_some e
      obtain ⟨hn, e⟩ := e
      simp only [Option.some.injEq, Prod.mk.injEq] at e
      obtain ⟨rfl, rfl, rfl⟩ := e
      refine o_rangeStr hu fun b => ?_
      exact aft_new (κ := 0) hT hf hn K (.ptr (Bm.put_self _ _ _ _)) .siter
    · cases e
  case h_15 x =>
    split at e
    · rename_i L hx
      obtain ⟨u, hu, hr⟩ := hE.ev _ _ hx
      split at e
      · rename_i s p ho
        replace e := cond_some e
        obtain ⟨hbL, e⟩ := e
        cases hr with
        | ptr hb =>
          obtain ⟨o', g1, g2⟩ := hT.get ho hb
          cases g2
          have hs : s.size = s.data.toList.length := rfl
          cases hp : Nat.blt p s.data.toList.length with
          | true =>
            have hp' : p < s.data.toList.length := Nat.le_of_ble_eq_true hp
            simp only [hp, cond_true, Option.some.injEq, Prod.mk.injEq] at e
            obtain ⟨rfl, rfl, rfl⟩ := e
            obtain ⟨h', g3, g4⟩ := aft_upd (v := .tuple ⟨[.bool true, .int .i64 p, .int .i32 (Utf8.decode s p).1]⟩) (u := .tuple ⟨[.bool true, .int .i64 p, .int .i32 (Utf8.decode s p).1]⟩) hT hf hbL K ho hb g1 .siter (cst_rn rfl)
            exact o_next_str hu g3 (by omega) g4
          | false =>
            have hp' : ¬ p < s.data.toList.length := fun hlt => by rw [show Nat.blt p s.data.toList.length = true from Nat.ble_eq_true_of_le hlt] at hp; cases hp
            simp only [hp, cond_false, Option.some.injEq, Prod.mk.injEq] at e
            obtain ⟨rfl, rfl, rfl⟩ := e
            refine o_next_str_end hu g1.left (by omega) ?_
            exact K β _ h (Bm.ext_refl _ _) (cst_rn rfl) (fun _ => hT) hf
      · cases e
    · cases e
  case h_16 x =>
    split at e
    · rename_i hx
      obtain ⟨u, hu, hr⟩ := hE.ev _ _ hx
      cases hr
      replace e := cond_some e
      obtain ⟨hn, e⟩ := e
      simp only [Option.some.injEq, Prod.mk.injEq] at e
      obtain ⟨rfl, rfl, rfl⟩ := e
      exact o_rangeMap0 hu fun b => aft_new (κ := 0) hT hf hn K (.ptr (Bm.put_self _ _ _ _)) .miter0
    · rename_i L hx
      obtain ⟨u, hu, hr⟩ := hE.ev _ _ hx
      split at e
      · rename_i es ck ho
        replace e := cond_some e
        obtain ⟨hn, e⟩ := e
        simp only [Option.some.injEq, Prod.mk.injEq] at e
        obtain ⟨rfl, rfl, rfl⟩ := e
        cases hr with
        | map hb =>
          obtain ⟨o', g1, g2⟩ := hT.get ho hb
          cases g2 with
          | map hes => exact o_rangeMapX hu g1.left fun b => aft_new (κ := 0) hT hf hn K (.ptr (Bm.put_self _ _ _ _)) (.miter hb)
      · cases e
    · cases e
  case h_17 x =>
    split at e
    · rename_i R hx
      obtain ⟨u, hu, hr⟩ := hE.ev _ _ hx
      cases hr with
      | ptr hbR =>
      split at e
      · rename_i since seen last ho
        simp only [Option.some.injEq, Prod.mk.injEq] at e
        obtain ⟨rfl, rfl, rfl⟩ := e
        obtain ⟨o', g1, g2⟩ := hT.get ho hbR
        cases g2
        exact o_next_map0 hu g1.left (K β _ h (Bm.ext_refl _ _) (cst_rn rfl) (fun _ => hT) hf)
      · rename_i L since seen last ho
        obtain ⟨o', g1, g2⟩ := hT.get ho hbR
        cases g2 with
        | miter hbL =>
        split at e
        · rename_i es ck hoL
          obtain ⟨oL', p1, p2⟩ := hT.get hoL hbL
          cases p2 with
          | @map es0 es' _ hes =>
          replace e := cond_some e
          obtain ⟨hc, e⟩ := e
          simp only [Bool.and_eq_true, Bool.not_eq_true'] at hc
          obtain ⟨hbk, hbar⟩ := hc
          have hbar' : (!seen.toList.isEmpty && !(⟨es'⟩ : Array MapEntry).toList.isEmpty && (⟨es'⟩ : Array MapEntry).toList.all (·.born ≥ last)) = false := by
            have e1 : es'.isEmpty = es0.isEmpty := by have := hes.length; cases es0 <;> cases es' <;> simp_all
            have e2 : es'.all (fun e => decide (e.born ≥ last)) = es0.all (fun e => decide (e.born ≥ last)) := hes.allBorn (fun n => decide (n ≥ last))
            simp only [e1, e2]; exact hbar
          have hl := hes.left seen.toList
          split at e
          · rename_i hl0
            simp only [Option.some.injEq, Prod.mk.injEq] at e
            obtain ⟨rfl, rfl, rfl⟩ := e
            rw [hl0] at hl
            have hq : leftE seen.toList es' = [] := by
              generalize leftE seen.toList es' = q at hl
              cases hl; rfl
            exact o_next_map_end hu g1.left p1.left hbar' hq (K β _ h (Bm.ext_refl _ _) (cst_rn rfl) (fun _ => hT) hf)
          · rename_i e0 hl0
            replace e := cond_some e
            obtain ⟨hbn, e⟩ := e
            have hbn : e0.born < since := Nat.le_of_ble_eq_true hbn
            simp only [Option.some.injEq, Prod.mk.injEq] at e
            obtain ⟨rfl, rfl, rfl⟩ := e
            rw [hl0] at hl
            generalize hq : leftE seen.toList es' = q at hl
            cases hl with
            | @cons _ e1 _ _ r1 r2 r3 r4 =>
            cases r4
            obtain ⟨h', g3, g4⟩ := aft_upd (v := .tuple ⟨[.bool true, e0.key, e0.val]⟩) (u := .tuple ⟨[.bool true, e1.key, e1.val]⟩) hT hf hbk K ho hbR g1 (.miter hbL) (.tuple (.cons .bool (.cons r1 (.cons r2 .nil))))
            exact o_next_map_one (e0 := e1) hu (by rw [← r3]; exact g3) p1.left hbar' hq (by omega) g4
          · cases e
        · cases e
      · cases e
    · cases e
  case h_18 => cases e
end
end Go.Sx
