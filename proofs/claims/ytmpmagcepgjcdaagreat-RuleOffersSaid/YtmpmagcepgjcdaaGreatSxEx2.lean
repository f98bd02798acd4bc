/- A part of an engine of our own (the code is compiled to a smaller language, whose steps are proved right), nothing is claimed here: what the memory of the machine stands for; what is read -/
import Derived.Test.YtmpmagcepgjcdaaGreatSxEx1
import Derived.Test.YtmpmagcepgjcdaaGreatSxLoop
set_option linter.all false
/-! what the memory of the machine stands for; what is read -/
namespace Go.Sx

inductive RnE (β : Bm) : List MapEntry → List MapEntry → Prop where
  | nil : RnE β [] []
  | cons {e e' l l'} : Rn β e.key e'.key → Rn β e.val e'.val → e.born = e'.born → RnE β l l' → RnE β (e :: l) (e' :: l')

inductive RnO (β : Bm) (κ : Nat) : Obj → Obj → Prop where
  | cells {xs xs' sp e e' fr fr'} : RnL β xs xs' → xs'.length + sp.length = κ → unfr fr' κ = true → RnO β κ (.cells ⟨xs⟩ e fr) (.cells ⟨xs' ++ sp⟩ e' fr')
  | map {es es' ck} : RnE β es es' → RnO β κ (.map ⟨es⟩ ck) (.map ⟨es'⟩ ck)
  | siter {s p} : RnO β κ (.stringIter s p) (.stringIter s p)
  | miter {L b κ' since seen last} : β.b L = some (b, κ') → RnO β κ (.mapIter (some L) since seen last) (.mapIter (some b) since seen last)
  | miter0 {since seen last} : RnO β κ (.mapIter none since seen last) (.mapIter none since seen last)

theorem RnE.mono {β γ : Bm} (hle : β ≤ γ) {l l' : List MapEntry} (h : RnE β l l') : RnE γ l l' := by
  induction h with
  | nil => exact .nil
  | cons a b c _ ih => exact .cons (a.mono hle) (b.mono hle) c ih
theorem RnO.mono {β γ : Bm} {κ : Nat} (hle : β ≤ γ) {o o' : Obj} (h : RnO β κ o o') : RnO γ κ o o' := by
  cases h with
  | cells h1 h2 h3 => exact .cells (h1.mono hle) h2 h3
  | map h => exact .map (h.mono hle)
  | siter => exact .siter
  | miter h => exact .miter (hle.2 _ _ h)
  | miter0 => exact .miter0

structure HR (β : Bm) (T : Tr Obj) (h : List Chunk) : Prop where
  own : ∀ L o, T.get L = some o → ∃ b κ o', β.b L = some (b, κ) ∧ (b, o') ∈ h ∧ RnO β κ o o'
  inj : ∀ L L' b κ κ', T.get L ≠ none → T.get L' ≠ none → β.b L = some (b, κ) → β.b L' = some (b, κ') → L = L'

/-- E: slots; T: memory; n: from here on no block is laid -/
structure XS where
  E : Tr Value
  T : Tr Obj
  n : Nat

def xev (E : Tr Value) : Opd → Option Value
  | .tm t => E.get t
  | .cn v => bif cst v then some v else none

def ER (β : Bm) (E : Tr Value) (env : Env) : Prop := ∀ d v, E.get d = some v → ∃ u, look d env = some u ∧ Rn β v u

theorem ER.ev {β : Bm} {E : Tr Value} {env : Env} (h : ER β E env) : EvR β (xev E) (ev env) := by
  intro x v e
  cases x with
  | tm t => exact h t v e
  | cn u =>
    simp only [xev] at e
    cases hc : cst u with
    | false => simp [hc] at e
    | true => simp only [hc, cond_true, Option.some.injEq] at e; subst e; exact ⟨u, rfl, cst_rn hc⟩

theorem ER.mono {β γ : Bm} (hle : β ≤ γ) {E : Tr Value} {env : Env} (h : ER β E env) : ER γ E env := fun d v e => by
  obtain ⟨u, h1, h2⟩ := h d v e; exact ⟨u, h1, h2.mono hle⟩

def SLOTS : Nat := 14
theorem ER.set {β : Bm} {E : Tr Value} {env : Env} (h : ER β E env) {d : Nat} {v u : Value} (hd : d + 2 ≤ 2 ^ SLOTS) (r : Rn β v u) : ER β (Tr.set SLOTS E d (some v)) ((d, u) :: env) := by
  intro k x e
  rw [Tr.get_set _ _ _ _ _ hd] at e
  by_cases hk : d = k
  · subst hk
    rw [if_pos rfl] at e
    simp only [Option.some.injEq] at e; subst e
    exact ⟨u, by simp [look], r⟩
  · rw [if_neg hk] at e
    obtain ⟨w, h1, h2⟩ := h k x e
    exact ⟨w, by simp [look, beq_f hk, h1], h2⟩
/-- what a slot held is known no more -/
theorem ER.del {β : Bm} {E : Tr Value} {env : Env} (h : ER β E env) {d : Nat} {u : Value} (hd : d + 2 ≤ 2 ^ SLOTS) : ER β (Tr.set SLOTS E d none) ((d, u) :: env) := by
  intro k x e
  rw [Tr.get_set _ _ _ _ _ hd] at e
  by_cases hk : d = k
  · subst hk
    rw [if_pos rfl] at e; cases e
  · rw [if_neg hk] at e
    obtain ⟨w, h1, h2⟩ := h k x e
    exact ⟨w, by simp [look, beq_f hk, h1], h2⟩

theorem has_of_mem {b : Nat} {o : Obj} : ∀ {h : List Chunk}, (b, o) ∈ h → Has b o h
  | [], m => by cases m
  | c :: h, m => by
    rcases List.mem_cons.1 m with rfl | m
    · exact .head
    · exact .tail (has_of_mem m)
theorem upd_of_has {b : Nat} {o : Obj} (o' : Obj) {h : List Chunk} (x : Has b o h) : ∃ h', Upd b o o' h h' ∧ (b, o') ∈ h' ∧ ∀ c ∈ h, c.1 ≠ b → c ∈ h' := by
  induction x with
  | head => exact ⟨_, .head, List.mem_cons_self, fun c hc hn => by
      rcases List.mem_cons.1 hc with rfl | hc
      · exact absurd rfl hn
      · exact List.mem_cons_of_mem _ hc⟩
  | tail x ih =>
    obtain ⟨h', h1, h2, h3⟩ := ih
    exact ⟨_, .tail h1, List.mem_cons_of_mem _ h2, fun c hc hn => by
      rcases List.mem_cons.1 hc with rfl | hc
      · exact List.mem_cons_self
      · exact List.mem_cons_of_mem _ (h3 c hc hn)⟩
theorem pick_of_has {b : Nat} {o : Obj} {h : List Chunk} (x : Has b o h) : ∃ h', Pick (b, o) h h' ∧ ∀ c ∈ h, c.1 ≠ b → c ∈ h' := by
  induction x with
  | head => exact ⟨_, .head, fun c hc hn => by
      rcases List.mem_cons.1 hc with rfl | hc
      · exact absurd rfl hn
      · exact hc⟩
  | tail x ih =>
    obtain ⟨h', h1, h3⟩ := ih
    exact ⟨_, .tail h1, fun c hc hn => by
      rcases List.mem_cons.1 hc with rfl | hc
      · exact List.mem_cons_self
      · exact List.mem_cons_of_mem _ (h3 c hc hn)⟩
theorem Has.left {b : Nat} {o : Obj} {h F : List Chunk} (x : Has b o h) : Has b o (h ++ F) := by
  induction x with
  | head => exact .head
  | tail x ih => exact .tail ih
theorem Upd.left {b : Nat} {o o' : Obj} {h h' F : List Chunk} (x : Upd b o o' h h') : Upd b o o' (h ++ F) (h' ++ F) := by
  induction x with
  | head => exact .head
  | tail x ih => exact .tail ih
theorem Pick.left {c : Chunk} {h h' F : List Chunk} (x : Pick c h h') : Pick c (h ++ F) (h' ++ F) := by
  induction x with
  | head => exact .head
  | tail x ih => exact .tail ih

section
variable {β : Bm} {T : Tr Obj} {h : List Chunk}
def BLOCKS : Nat := 24

theorem HR.get (H : HR β T h) {L b κ : Nat} {o : Obj} (e : T.get L = some o) (hb : β.b L = some (b, κ)) : ∃ o', Has b o' h ∧ RnO β κ o o' := by
  obtain ⟨b', κ', o', h1, h2, h3⟩ := H.own L o e
  rw [hb] at h1; cases h1
  exact ⟨o', has_of_mem h2, h3⟩

theorem HR.mono {γ : Bm} (hle : β ≤ γ) (H : HR β T h) : HR γ T h := by
  refine ⟨fun L o e => ?_, fun L L' b κ κ' h1 h2 e1 e2 => ?_⟩
  · obtain ⟨b, κ, o', h1, h2, h3⟩ := H.own L o e
    exact ⟨b, κ, o', hle.2 _ _ h1, h2, h3.mono hle⟩
  · cases ho : T.get L with
    | none => exact absurd ho h1
    | some o =>
      cases ho' : T.get L' with
      | none => exact absurd ho' h2
      | some o' =>
        obtain ⟨b1, κ1, _, g1, _, _⟩ := H.own L o ho
        obtain ⟨b2, κ2, _, g2, _, _⟩ := H.own L' o' ho'
        have := hle.2 _ _ g1
        rw [e1] at this; cases this
        have := hle.2 _ _ g2
        rw [e2] at this; cases this
        exact H.inj L L' b κ κ' h1 h2 g1 g2

/-- a new block -/
theorem HR.new (H : HR β T h) {L b κ : Nat} {o o' : Obj} (hL : L + 2 ≤ 2 ^ BLOCKS) (hf : β.b L = none) {h2 : List Chunk} (hin : (b, o') ∈ h2) (hn : ∀ c ∈ h, c ∈ h2 ∧ c.1 ≠ b) (r : RnO (β.put L b κ) κ o o') :
    HR (β.put L b κ) (Tr.set BLOCKS T L (some o)) h2 := by
  have hle := Bm.le_put (b := b) (κ := κ) hf
  have hnb : ∀ K κ', T.get K ≠ none → β.b K = some (b, κ') → False := by
    intro K κ' h1 h2
    cases ho : T.get K with
    | none => exact h1 ho
    | some p =>
      obtain ⟨b1, κ1, o1, g1, g2, _⟩ := H.own K p ho
      rw [h2] at g1; cases g1
      exact (hn _ g2).2 rfl
  have hTL : T.get L = none := by
    cases e : T.get L with
    | none => rfl
    | some p => obtain ⟨_, _, _, g1, _⟩ := H.own L p e; rw [hf] at g1; cases g1
  refine ⟨fun K p e => ?_, fun K K' b1 κ1 κ2 h1 h2 e1 e2 => ?_⟩
  · rw [Tr.get_set _ _ _ _ _ hL] at e
    by_cases hK : L = K
    · subst hK
      rw [if_pos rfl] at e; simp only [Option.some.injEq] at e; subst e
      exact ⟨b, κ, o', Bm.put_self _ _ _ _, hin, r⟩
    · rw [if_neg hK] at e
      obtain ⟨b1, κ1, o1, g1, g2, g3⟩ := H.own K p e
      exact ⟨b1, κ1, o1, hle.2 _ _ g1, (hn _ g2).1, g3.mono hle⟩
  · rw [Tr.get_set _ _ _ _ _ hL] at h1 h2
    by_cases hK : L = K
    · subst hK
      rw [Bm.put_self] at e1; cases e1
      by_cases hK' : L = K'
      · exact hK'
      · rw [if_neg hK'] at h2
        rw [Bm.put_ne (fun e => hK' e.symm)] at e2
        exact (hnb _ _ h2 e2).elim
    · rw [if_neg hK] at h1
      rw [Bm.put_ne (fun e => hK e.symm)] at e1
      by_cases hK' : L = K'
      · subst hK'
        rw [Bm.put_self] at e2; cases e2
        exact (hnb _ _ h1 e1).elim
      · rw [if_neg hK'] at h2
        rw [Bm.put_ne (fun e => hK' e.symm)] at e2
        exact H.inj K K' b1 κ1 κ2 h1 h2 e1 e2

/-- a block is written -/
theorem HR.upd (H : HR β T h) {L b κ : Nat} {o o' p p' : Obj} (hL : L + 2 ≤ 2 ^ BLOCKS) (e : T.get L = some o) (hb : β.b L = some (b, κ)) (r : RnO β κ p p') (hh : Has b o' h) :
    ∃ h', Upd b o' p' h h' ∧ HR β (Tr.set BLOCKS T L (some p)) h' := by
  obtain ⟨h', h1, h2, h3⟩ := upd_of_has p' hh
  refine ⟨h', h1, fun K q eq => ?_, fun K K' b1 κ1 κ2 g1 g2 e1 e2 => ?_⟩
  · rw [Tr.get_set _ _ _ _ _ hL] at eq
    by_cases hK : L = K
    · subst hK
      rw [if_pos rfl] at eq; simp only [Option.some.injEq] at eq; subst eq
      exact ⟨b, κ, p', hb, h2, r⟩
    · rw [if_neg hK] at eq
      obtain ⟨b1, κ1, o1, g1, g2, g3⟩ := H.own K q eq
      refine ⟨b1, κ1, o1, g1, h3 _ g2 ?_, g3⟩
      rintro rfl
      exact hK (H.inj L K _ _ _ (by rw [e]; simp) (by rw [eq]; simp) hb g1)
  · refine H.inj K K' b1 κ1 κ2 ?_ ?_ e1 e2
    · rw [Tr.get_set _ _ _ _ _ hL] at g1
      by_cases hK : L = K
      · subst hK; rw [e]; simp
      · rwa [if_neg hK] at g1
    · rw [Tr.get_set _ _ _ _ _ hL] at g2
      by_cases hK : L = K'
      · subst hK; rw [e]; simp
      · rwa [if_neg hK] at g2

/-- a block gives way to another one -/
theorem HR.swap (H : HR β T h) {L L' b b' κ κ' : Nat} {o p p' : Obj} (hL : L + 2 ≤ 2 ^ BLOCKS) (hL' : L' + 2 ≤ 2 ^ BLOCKS) (hf : β.b L' = none) (e : T.get L = some o) (hb : β.b L = some (b, κ)) (r : RnO (β.put L' b' κ') κ' p p')
    {h2 : List Chunk} (hin : (b', p') ∈ h2) (hk : ∀ c ∈ h, c.1 ≠ b → c ∈ h2 ∧ c.1 ≠ b') :
    HR (β.put L' b' κ') (Tr.set BLOCKS (Tr.set BLOCKS T L none) L' (some p)) h2 := by
  have H1 : HR β (Tr.set BLOCKS T L none) (h.filter fun c => !Nat.beq c.1 b) := by
    refine ⟨fun K q eq => ?_, fun K K' b1 κ1 κ2 g1 g2 e1 e2 => ?_⟩
    · rw [Tr.get_set _ _ _ _ _ hL] at eq
      by_cases hK : L = K
      · rw [if_pos hK] at eq; cases eq
      · rw [if_neg hK] at eq
        obtain ⟨b1, κ1, o1, g1, g2, g3⟩ := H.own K q eq
        refine ⟨b1, κ1, o1, g1, List.mem_filter.2 ⟨g2, ?_⟩, g3⟩
        rw [beq_f]; · rfl
        rintro rfl
        exact hK (H.inj L K _ _ _ (by rw [e]; simp) (by rw [eq]; simp) hb g1)
    · rw [Tr.get_set _ _ _ _ _ hL] at g1 g2
      by_cases hK : L = K
      · rw [if_pos hK] at g1; exact absurd rfl g1
      · rw [if_neg hK] at g1
        by_cases hK' : L = K'
        · rw [if_pos hK'] at g2; exact absurd rfl g2
        · rw [if_neg hK'] at g2
          exact H.inj K K' b1 κ1 κ2 g1 g2 e1 e2
  refine H1.new hL' hf hin (fun c hc => ?_) r
  obtain ⟨h1, h3⟩ := List.mem_filter.1 hc
  refine hk c h1 (fun e => ?_)
  rw [beq_t e] at h3; cases h3
end

/-! ### reads -/
def getU8s : List Value → Option (List UInt8)
  | [] => some []
  | .int .u8 n :: r => match getU8s r with
    | some l => some (n.toNat.toUInt8 :: l)
    | none => none
  | _ => none

def bndX (E : Tr Value) : Option Opd → Int → Option Int
  | none, d => some d
  | some x, _ => match xev E x with
    | some (.int _ j) => some j
    | _ => none

def leI (a b : Int) : Bool := decide (a ≤ b)

def rdX (E : Tr Value) (T : Tr Obj) (op : IOp) : Option Value :=
  match op with
  | .load n x => match xev E x with
    | some (.pointer (some ⟨L, o, none⟩)) => match T.get L with
      | some (.cells cs _ _) => cutV cs.toList o n
      | _ => none
    | _ => none
  | .idxAddr s none x i => match xev E x, xev E i with
    | some (.slice (some ⟨L, o, none⟩) n _), some (.int _ j) => bif leI 0 j && leI (j + 1) n then some (.pointer (some ⟨L, o + j.toNat * s, none⟩)) else none
    | _, _ => none
  | .idxAddr s (some m) x i => match xev E x, xev E i with
    | some (.pointer (some ⟨L, o, none⟩)), some (.int _ j) => bif leI 0 j && leI (j + 1) m then some (.pointer (some ⟨L, o + j.toNat * s, none⟩)) else none
    | _, _ => none
  | .idx .str _ x i => match xev E x, xev E i with
    | some (.string s), some (.int _ j) => bif leI 0 j then match s.data.toList[j.toNat]? with
      | some b => some (.int .u8 b.toNat)
      | none => none else none
    | _, _ => none
  | .idx (.arr m s) n x i => match xev E x, xev E i with
    | some (.agg cs), some (.int _ j) => bif leI 0 j && leI (j + 1) m then partV cs.toList (j.toNat * s) n else none
    | _, _ => none
  | .slc .str x lo hi none => match xev E x with
    | some (.string s) => match bndX E lo 0, bndX E hi s.size with
      | some l, some u => bif leI 0 l && leI l u && leI u s.size then some (.string ⟨⟨(s.data.toList.drop l.toNat).take (u.toNat - l.toNat)⟩⟩) else none
      | _, _ => none
    | _ => none
  | .slc (.sl sz) x lo hi mx => match xev E x with
    | some (.slice a n c) => match bndX E lo 0, bndX E hi n with
      | some l, some u => bif Nat.blt c BIG then
          (match bndX E mx c with
          | some m => bif leI 0 l && leI l u && leI u m && leI m c && (mx.isNone || hi.isSome) then (match a with
              | none => some (.slice none (u.toNat - l.toNat) (m.toNat - l.toNat))
              | some ⟨L, o, none⟩ => bif leI m l then some (.slice (some ⟨L, o, none⟩) (u.toNat - l.toNat) (m.toNat - l.toNat)) else some (.slice (some ⟨L, o + l.toNat * sz, none⟩) (u.toNat - l.toNat) (m.toNat - l.toNat))
              | _ => none) else none
          | none => none)
        else (match mx with
          | none => bif leI 0 l && leI l u && leI u n then (match a with
              | some ⟨L, o, none⟩ => bif leI l 0 then (bif Nat.blt BIG c then some (.slice (some ⟨L, 0, none⟩) u.toNat c) else bif leI 1 u then some (.slice (some ⟨L, o, none⟩) u.toNat BIG) else some (.slice (some ⟨0, 0, some 0⟩) 0 BIG))
                  else bif leI u l then some (.slice (some ⟨0, 0, some 0⟩) 0 BIG) else some (.slice (some ⟨L, o + l.toNat * sz, none⟩) (u.toNat - l.toNat) BIG)
              | some ⟨_, _, some _⟩ => some (.slice (some ⟨0, 0, some 0⟩) 0 BIG)
              | none => none) else none
          | some _ => match bndX E mx 0 with
            | some m => bif leI 0 l && leI l u && leI u m && leI m n && leI (l + 1) m && hi.isSome && Nat.blt m.toNat BIG then (match a with
              | some ⟨L, o, none⟩ => some (.slice (some ⟨L, o + l.toNat * sz, none⟩) (u.toNat - l.toNat) (m.toNat - l.toNat))
              | _ => none) else none
            | none => none)
      | _, _ => none
    | _ => none
  | .slc (.arr n sz) x lo hi mx => match xev E x with
    | some (.pointer (some ⟨L, o, none⟩)) => match bndX E lo 0, bndX E hi n, bndX E mx n with
      | some l, some u, some m => bif leI 0 l && leI l u && leI u m && leI m n && (mx.isNone || hi.isSome) && Nat.blt n BIG then
          (bif leI m l then some (.slice (some ⟨L, o, none⟩) (u.toNat - l.toNat) (m.toNat - l.toNat)) else some (.slice (some ⟨L, o + l.toNat * sz, none⟩) (u.toNat - l.toNat) (m.toNat - l.toNat))) else none
      | _, _, _ => none
    | _ => none
  | .bin .shl _ x y => match xev E x, xev E y with
    | some (.int k a), some (.int _ b) => bif leI 0 b then some (.int k (k.wrap (a * 2 ^ (min b.toNat k.bits)))) else none
    | _, _ => none
  | .bin .shr _ x y => match xev E x, xev E y with
    | some (.int k a), some (.int _ b) => bif leI 0 b then some (.int k (a.fdiv (2 ^ (min b.toNat k.bits)))) else none
    | _, _ => none
  | .bin .quo _ x y => match xev E x, xev E y with
    | some (.int k a), some (.int k' b) => if k = k' then (match b with | .ofNat 0 => none | b => some (.int k (k.wrap (a.tdiv b)))) else none
    | _, _ => none
  | .bin .rem _ x y => match xev E x, xev E y with
    | some (.int k a), some (.int k' b) => if k = k' then (match b with | .ofNat 0 => none | b => some (.int k (a.tmod b))) else none
    | _, _ => none
  | .bin .add ek x y => match xev E x, xev E y with
    | some (.string s), some (.string t) => bif Nat.ble (s.data.toList.length + t.data.toList.length) 1000000 then some (.string ⟨⟨s.data.toList ++ t.data.toList⟩⟩) else none
    | some (.int k a), some (.int k' b) => if k = k' then some (.int k (k.wrap (a + b))) else none
    | _, _ => none
  | .len .map x => match xev E x with
    | some (.map none) => some (.int .i64 0)
    | some (.map (some L)) => match T.get L with
      | some (.map es _) => some (.int .i64 es.toList.length)
      | _ => none
    | _ => none
  | .lookup ek z ok x i => match xev E x, xev E i with
    | some (.map m), some k => bif cst z && keyV ek k then (match m with
        | none => some (lookRes none z ok)
        | some L => match T.get L with
          | some (.map es _) => (findV ek k es.toList 0).map fun r => lookRes r z ok
          | _ => none) else none
    | _, _ => none
  | .conv .bytesStr x => match xev E x with
    | some (.slice none 0 _) => some (.string ⟨⟨[]⟩⟩)
    | some (.slice (some ⟨L, o, none⟩) n _) => match T.get L with
      | some (.cells cs _ _) => bif Nat.ble (o + n) cs.toList.length then (match getU8s ((cs.toList.drop o).take n) with
          | some l => some (.string ⟨⟨l⟩⟩)
          | none => none) else none
      | _ => none
    | some (.slice (some ⟨_, _, some _⟩) 0 _) => some (.string ⟨⟨[]⟩⟩)
    | _ => none
  | op => pureX (xev E) op
end Go.Sx
