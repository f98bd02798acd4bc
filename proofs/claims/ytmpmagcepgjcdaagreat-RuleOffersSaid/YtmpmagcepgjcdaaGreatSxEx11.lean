/- A part of an engine of our own (the code is compiled to a smaller language, whose steps are proved right), nothing is claimed here: the closed machine is right -/
import Derived.Test.YtmpmagcepgjcdaaGreatSxEx10
set_option linter.all false
/-! the closed machine is right -/
namespace Go.Sx

theorem mergeAll_eq {n0 : Nat} {S : Tr Obj} {A mg : List Nat} : ∀ {al : List (Nat × Obj)}, (∀ j o, (j, o) ∈ al → j ∈ A) → mergeAll n0 S mg al = mergeAt n0 S A mg al
  | [], _ => rfl
  | (j, o) :: r, h => by
    have ih := mergeAll_eq (n0 := n0) (S := S) (A := A) (mg := mg) (al := r) (fun j o hm => h j o (List.mem_cons_of_mem _ hm))
    unfold mergeAll mergeAt
    rw [ih, memN_iff.2 (h j o List.mem_cons_self)]
    cases memN j mg <;> rfl

theorem delDst_le {E : Tr Value} : ∀ {p : List (List Nat × In)}, (∀ z ∈ p, slotOK z.2.dst = true) → ∀ d v, (delDst E p).get d = some v → E.get d = some v
  | [], _, d, v, h => h
  | (a, x) :: p, hs, d, v, h => by
    have ih := delDst_le (E := E) (p := p) (fun z hz => hs z (List.mem_cons_of_mem _ hz)) d v
    unfold delDst at h
    have hx : slotOK x.dst = true := hs _ List.mem_cons_self
    split at h
    · rename_i d0 hd
      rw [hd] at hx
      rw [Tr.get_set _ _ _ _ _ (slotOK_le hx)] at h
      by_cases he : d0 = d
      · rw [if_pos he] at h; cases h
      · rw [if_neg he] at h; exact ih h
    · exact ih h
theorem delDst_none {E : Tr Value} : ∀ {p : List (List Nat × In)}, (∀ z ∈ p, slotOK z.2.dst = true) → ∀ z ∈ p, ∀ d, z.2.dst = some d → (delDst E p).get d = none
  | [], _, z, h, _, _ => by cases h
  | (a, x) :: p, hs, z, hz, d, hd => by
    have ih := delDst_none (E := E) (p := p) (fun z hz => hs z (List.mem_cons_of_mem _ hz))
    unfold delDst
    have hx : slotOK x.dst = true := hs _ List.mem_cons_self
    rcases List.mem_cons.1 hz with rfl | hz
    · have hd : x.dst = some d := hd
      rw [hd] at hx ⊢
      simp only
      rw [Tr.get_set _ _ _ _ _ (slotOK_le hx), if_pos rfl]
    · have := ih z hz d hd
      split
      · rename_i d0 hd0
        rw [hd0] at hx
        rw [Tr.get_set _ _ _ _ _ (slotOK_le hx)]
        split
        · rfl
        · exact this
      · exact this

theorem dstOK_of {ops : Array Oper} {p : List (List Nat × In)} {P : Program} {n : Nat} (hlen : ops.size = p.length) (hops : ∀ (i : Nat) (o : Oper), ops[i]? = some o → ∃ (a : List Nat) (x : In), p[i]? = some (a, x) ∧ inOf P n ops o = some x)
    (hnd : (ops.toList.filterMap (·.dst)).Nodup) : DstOK p := by
  have key : ∀ (l : List Oper), (l.filterMap (·.dst)).Nodup → ∀ (k k' : Nat) (o o' : Oper) (d : Nat), k < k' → l[k]? = some o → l[k']? = some o' → o.dst = some d → o'.dst = some d → False := by
    intro l
    induction l with
    | nil => intro _ k k' o o' d _ h; simp at h
    | cons y l ih =>
      intro hnd k k' o o' d hlt h1 h2 h3 h4
      cases k' with
      | zero => omega
      | succ k' =>
        cases k with
        | zero =>
          simp at h1 h2; subst h1
          rw [List.filterMap_cons, h3] at hnd
          simp only [List.nodup_cons] at hnd
          exact hnd.1 (List.mem_filterMap.2 ⟨o', List.mem_of_getElem? h2, h4⟩)
        | succ k =>
          refine ih ?_ k k' o o' d (by omega) (by simpa using h1) (by simpa using h2) h3 h4
          rw [List.filterMap_cons] at hnd
          split at hnd
          · exact hnd
          · exact (List.nodup_cons.1 hnd).2
  intro k k' a a' x x' d h1 h2 h3 h4
  have hk : k < ops.size := by rw [hlen]; exact (List.getElem?_eq_some_iff.1 h1).1
  have hk' : k' < ops.size := by rw [hlen]; exact (List.getElem?_eq_some_iff.1 h2).1
  obtain ⟨b, y, q1, q2⟩ := hops k ops[k] (by simp [hk])
  obtain ⟨b', y', q1', q2'⟩ := hops k' ops[k'] (by simp [hk'])
  rw [h1] at q1; cases q1
  rw [h2] at q1'; cases q1'
  have e1 := (inOf_inv q2).2.1.trans h3
  have e2 := (inOf_inv q2').2.1.trans h4
  rcases Nat.lt_trichotomy k k' with h | h | h
  · exact (key ops.toList hnd k k' _ _ d h (by simp [hk]) (by simp [hk']) e1 e2).elim
  · exact h
  · exact (key ops.toList hnd k' k _ _ d h (by simp [hk']) (by simp [hk]) e2 e1).elim

theorem retX_rel {β : Bm} {E : Tr Value} {T : Tr Obj} {env : Env} {h F : List Chunk} {I : Imm} (hE : ER β E env) (hT : HR β T h) : ∀ {rets : List IRet} {vs : List Value}, retX E T rets = some vs → ∃ us, RetV I env (h ++ F) rets us ∧ RnL β vs us
  | [], vs, e => by simp only [retX, Option.some.injEq] at e; subst e; exact ⟨[], .nil, .nil⟩
  | .tm t :: r, vs, e => by
    simp only [retX] at e
    split at e
    · rename_i v l hv hl
      simp only [Option.some.injEq] at e; subst e
      obtain ⟨u, h1, h2⟩ := hE t v hv
      obtain ⟨us, h3, h4⟩ := retX_rel (I := I) (F := F) hE hT hl
      exact ⟨u :: us, .tm h1 h3, .cons h2 h4⟩
    · cases e
  | .cell a m :: r, vs, e => by
    simp only [retX] at e
    split at e
    · rename_i L o ha
      obtain ⟨u, h1, h2⟩ := hE a _ ha
      split at e
      · rename_i cs el fr ho
        split at e
        · rename_i v l hv hl
          simp only [Option.some.injEq] at e; subst e
          obtain ⟨us, h3, h4⟩ := retX_rel (I := I) (F := F) hE hT hl
          cases h2 with
          | ptr hb =>
            obtain ⟨o', g1, g2⟩ := hT.get ho hb
            cases g2 with
            | cells hxs hlen hfr =>
              obtain ⟨w, q1, q2⟩ := cutV_rel hxs hv
              exact ⟨w :: us, .cell h1 g1.left q1 h3, .cons q2 h4⟩
        · cases e
      · cases e
    · cases e
theorem mkRet_rel {β : Bm} {vs us : List Value} (h : RnL β vs us) : Rn β (mkRet vs) (mkRet us) := by
  cases h with
  | nil => exact .tuple .nil
  | cons h1 h2 => cases h2 with
    | nil => exact h1
    | cons h3 h4 => exact .tuple (.cons h1 (.cons h3 h4))

theorem er_envX {β : Bm} : ∀ {vs us : List Value} {i : Nat} {E : Tr Value} {env : Env}, RnL β vs us → i + vs.length + 2 ≤ 2 ^ SLOTS → (∀ d v, E.get d = some v → d < i ∧ ∃ u, look d env = some u ∧ Rn β v u) →
    ∀ d v, (envX i vs E).get d = some v → ∃ u, (look d (envOf i us ++ env)) = some u ∧ Rn β v u
  | _, _, i, E, env, .nil, _, H, d, v, e => by obtain ⟨_, u, h⟩ := H d v e; exact ⟨u, by simpa [envOf] using h⟩
  | _, _, i, E, env, @RnL.cons _ v0 u0 l l' r rs, hl, H, d, v, e => by
    simp only [List.length_cons] at hl
    unfold envX at e
    have hset : ∀ d v, (Tr.set SLOTS E i (some v0)).get d = some v → d < i + 1 ∧ ∃ u, look d ((i, u0) :: env) = some u ∧ Rn β v u := by
      intro d v e
      rw [Tr.get_set _ _ _ _ _ (by omega)] at e
      by_cases hd : i = d
      · subst hd; rw [if_pos rfl] at e; simp only [Option.some.injEq] at e; subst e; exact ⟨by omega, u0, by simp [look], r⟩
      · rw [if_neg hd] at e
        obtain ⟨h1, u, h2, h3⟩ := H d v e
        exact ⟨by omega, u, by simp [look, beq_f hd, h2], h3⟩
    obtain ⟨u, h1, h2⟩ := er_envX (i := i + 1) rs (by omega) hset d v e
    refine ⟨u, ?_, h2⟩
    have hsw : ∀ (m : Env) (e1 : Nat × Value), (∀ y ∈ m, y.1 ≠ e1.1) → ∀ d, look d (m ++ e1 :: env) = look d (e1 :: (m ++ env)) := by
      intro m e1 hm d
      induction m with
      | nil => rfl
      | cons y m ih =>
        obtain ⟨k, vk⟩ := y; obtain ⟨k1, v1⟩ := e1
        have ih := ih (fun y hy => hm y (List.mem_cons_of_mem _ hy))
        have hk := hm _ List.mem_cons_self
        simp only [List.cons_append, look] at ih ⊢
        by_cases h1 : k = d
        · subst h1; simp only [Nat.beq_refl, cond_true]
          rw [beq_f (fun e => hk e.symm)]; rfl
        · simp only [beq_f h1, cond_false]; exact ih
    have hm : ∀ y ∈ envOf (i + 1) l', y.1 ≠ (i, u0).1 := by
      intro y hy
      have : ∀ (us : List Value) (j : Nat), ∀ y ∈ envOf j us, j ≤ y.1 := by
        intro us
        induction us with
        | nil => intro j y hy; cases hy
        | cons a us ih => intro j y hy; rcases List.mem_cons.1 hy with rfl | hy; exact Nat.le_refl _; have := ih (j + 1) y hy; omega
      have := this l' (i + 1) y hy
      simp only; omega
    have := hsw _ (i, u0) hm d
    rw [this] at h1
    simpa [envOf] using h1

def Bm.atom (β : Bm) (n : Nat) (u : Value) : Bm := ⟨fun i => if i = n then some u else β.a i, β.b⟩
theorem Bm.atom_ext {β : Bm} {n : Nat} {u : Value} (hf : β.fresh n) : Bm.ext n β (β.atom n u) := by
  refine ⟨⟨fun i x h => ?_, fun L x h => h⟩, fun L hL => ⟨rfl, ?_⟩⟩
  · show (if i = n then some u else β.a i) = some x
    rw [if_neg]; exact h
    rintro rfl; rw [(hf i (Nat.le_refl _)).2] at h; cases h
  · show (if L = n then some u else β.a L) = β.a L
    rw [if_neg (by omega)]
theorem Bm.atom_fresh {β : Bm} {n : Nat} {u : Value} (hf : β.fresh n) : (β.atom n u).fresh (n + 1) := fun L hL => by
  refine ⟨(hf L (by omega)).1, ?_⟩
  show (if L = n then some u else β.a L) = none
  rw [if_neg (by omega)]; exact (hf L (by omega)).2

section
variable {P : Program} {tab : XTab} {ext : XExt}

/-- from here on all goes well, if the machine says so -/
def ExOK (P : Program) (tab : XTab) (ext : XExt) (f : Nat) : Prop :=
  ∀ rets E T n m K v T' n', ex tab ext f rets E T n m K = some (v, T', n') → ∀ (C : Cx) (I : Imm) (β : Bm) (env : Env) (h F G : List Chunk), C.P = P → C.rets = rets →
    ((m = false ∧ C.ds = [] ∧ G = F) ∨ (m = true ∧ ∃ r, C.ds = mark r ∧ G = (r, .deferred (some [])) :: F)) → ER β E env → HR β T h → β.fresh n →
    (∀ β' u h', Bm.ext n β β' → Rn β' v u → HR β' T' h' → β'.fresh n' → C.Q u I (h' ++ F)) → SG C I env (h ++ G) K

theorem rec_of (htab : TabOK P tab) (hm : P.follows .mixedOrders = true) {f : Nat} (ih : ExOK P tab ext f) :
    RecOK P tab (fun F args T n => ex tab ext f F.rets (envX 0 args .nil) T n false [.ir F.ir]) := by
  intro g F args T n v T' n' hF hlen hnt he β args' I h hargs hT hf
  obtain ⟨fn, c, h1, h2, h3, h4, h5, h6⟩ := (htab.get hF).ok
  have hal := hargs.length
  refine spec_of h1 h2 h3 h4 h5 hm (by omega) fun cs F' => ?_
  refine ih _ _ _ _ _ _ _ _ _ he _ I β _ h F' F' rfl rfl (.inl ⟨rfl, rfl, rfl⟩) ?_ hT hf ?_
  · intro d v e
    have := er_envX (env := []) (i := 0) hargs (by have : (2 : Nat) ^ SLOTS = 16384 := rfl; omega) (fun d v e => by rw [Tr.get_nil] at e; cases e) d v e
    simpa using this
  · intro β' u h' r1 r2 r3 r4
    exact ⟨Imm.le_refl _, h', ⟨rfl, β', r1, r2, r3, r4⟩, fun _ _ s => s⟩

theorem ex_sound (htab : TabOK P tab) (hext : ExtOK P ext) (hm : P.follows .mixedOrders = true) : ∀ f, ExOK P tab ext f := by
  intro f
  induction f with
  | zero => intro rets E T n m K v T' n' e; simp [ex] at e
  | succ f ih =>
    intro rets E T n m K v T' n' e C I β env h F G hP hrets hmark hE hT hf K0
    have hrec := rec_of (ext := ext) htab hm ih
    unfold ex at e
    have hret : ∀ K, (match retX E T rets with | some vs => fVals vs fun vs => some (mkRet vs, T, n) | none => none) = some (v, T', n') → m = false ∨ K ≠ [] → (K = [] ∨ ∃ K', K = KI.ir .ret :: K') → SG C I env (h ++ G) K := by
      intro K e hmK hK
      split at e
      · rename_i vs hvs
        rw [fVals_eq] at e
        simp only [Option.some.injEq, Prod.mk.injEq] at e
        obtain ⟨rfl, rfl, rfl⟩ := e
        rcases hmark with ⟨rfl, hds, rfl⟩ | ⟨rfl, r, hds, rfl⟩
        · obtain ⟨us, g1, g2⟩ := retX_rel (I := I) (F := G) hE hT hvs
          rcases hK with rfl | ⟨K', rfl⟩
          · exact sg_fin hds (by rw [hrets]; exact g1) (K0 β _ h (Bm.ext_refl _ _) (mkRet_rel g2) hT hf)
          · exact sg_ret hds (by rw [hrets]; exact g1) (K0 β _ h (Bm.ext_refl _ _) (mkRet_rel g2) hT hf)
        · obtain ⟨us, g1, g2⟩ := retX_rel (I := I) (F := F) hE hT hvs
          rcases hK with rfl | ⟨K', rfl⟩
          · rcases hmK with h | h
            · cases h
            · exact absurd rfl h
          · have hpick : Pick (r, Obj.deferred (some [])) (h ++ (r, .deferred (some [])) :: F) (h ++ F) := by
              clear K0 g1 hT
              induction h with
              | nil => exact .head
              | cons c h ih => exact .tail ih
            exact sg_ret_mark hds hpick (by rw [hrets]; exact g1) (K0 β _ h (Bm.ext_refl _ _) (mkRet_rel g2) hT hf)
      · cases e
    split at e
    · -- the end
      cases m with
      | true => cases e
      | false => exact hret _ e (.inl rfl) (.inl rfl)
    · exact sg_end (ih _ _ _ _ _ _ _ _ _ e C I β env h F G hP hrets hmark hE hT hf K0)
    · rename_i x l K
      split at e
      · cases e
      · rename_i hg
        replace e := cond_some e
        obtain ⟨hsl, e⟩ := e
        obtain ⟨d, gd, op⟩ := x
        refine sg_no (gstX_rel hE hg) ?_
        cases d with
        | none => exact ih _ _ _ _ _ _ _ _ _ e C I β env h F G hP hrets hmark hE hT hf K0
        | some d =>
          simp only [Tr.setC_eq] at e
          exact ih _ _ _ _ _ _ _ _ _ e C I β _ h F G hP hrets hmark (hE.set (slotOK_le hsl) (cst_rn rfl)) hT hf K0
      · rename_i hg
        replace e := cond_some e
        obtain ⟨hsl, e⟩ := e
        obtain ⟨d, gd, op⟩ := x
        obtain ⟨v1, T1, n1, hs, e⟩ := stepC_eq e
        subst hP
        refine sg_op (gstX_rel hE hg) ?_
        refine step_sound hext hrec hE hT hf hs fun β' u h' r1 r2 r3 r4 => ?_
        refine sg_sat fun w hsat => ?_
        replace e := cond_some e
        obtain ⟨hnn, e⟩ := e
        have hnn : n ≤ n1 := Nat.le_of_ble_eq_true hnn
        have hT' := r3 hsat.nodup
        have K1 : ∀ β'' u h', Bm.ext n1 β' β'' → Rn β'' v u → HR β'' T' h' → β''.fresh n' → C.Q u I (h' ++ F) := fun β'' u h' q1 q2 q3 q4 => K0 β'' u h' (Bm.ext_trans r1 q1 hnn) q2 q3 q4
        cases d with
        | none => exact ih _ _ _ _ _ _ _ _ _ e C I β' env h' F G rfl hrets hmark (hE.mono r1.1) hT' r4 K1
        | some d =>
          simp only [Tr.setC_eq] at e
          exact ih _ _ _ _ _ _ _ _ _ e C I β' _ h' F G rfl hrets hmark ((hE.mono r1.1).set (slotOK_le hsl) r2) hT' r4 K1
    · exact sg_blk (ih _ _ _ _ _ _ _ _ _ e C I β env h F G hP hrets hmark hE hT hf K0)
    · exact sg_lp (ih _ _ _ _ _ _ _ _ _ e C I β env h F G hP hrets hmark hE hT hf K0)
    · rename_i c K
      split at e
      · exact sg_skip (ih _ _ _ _ _ _ _ _ _ e C I β env h F G hP hrets hmark hE hT hf K0)
      · exact sg_ops (ih _ _ _ _ _ _ _ _ _ e C I β env h F G hP hrets hmark hE hT hf K0)
      · exact sg_seq (ih _ _ _ _ _ _ _ _ _ e C I β env h F G hP hrets hmark hE hT hf K0)
      · split at e
        · rename_i t ht
          obtain ⟨u, hu, hr⟩ := hE.ev _ _ ht
          cases hr
          cases t with
          | true => exact sg_cond_t hu (ih _ _ _ _ _ _ _ _ _ e C I β env h F G hP hrets hmark hE hT hf K0)
          | false => exact sg_cond_f hu (ih _ _ _ _ _ _ _ _ _ e C I β env h F G hP hrets hmark hE hT hf K0)
        · cases e
      · exact sg_block (ih _ _ _ _ _ _ _ _ _ e C I β env h F G hP hrets hmark hE hT hf K0)
      · exact sg_loop (ih _ _ _ _ _ _ _ _ _ e C I β env h F G hP hrets hmark hE hT hf K0)
      · split at e
        · rename_i K' hk
          exact sg_exit hk (ih _ _ _ _ _ _ _ _ _ e C I β env h F G hP hrets hmark hE hT hf K0)
        · cases e
      · exact hret _ e (.inr (by simp)) (.inr ⟨_, rfl⟩)
      · rename_i l p
        replace e := cond_some e
        obtain ⟨hc, e⟩ := e
        simp only [Bool.and_eq_true, Bool.not_eq_true'] at hc
        obtain ⟨hblk, hpe⟩ := hc
        have hblk := blkOK_le hblk
        split at e
        · rename_i g hg
          replace e := cond_some e
          obtain ⟨hnn, e⟩ := e
          have hnn : n ≤ g.c.n := Nat.le_of_ble_eq_true hnn
          have hRF := RF.run (ps := []) RF.init hg
          simp only [List.nil_append] at hRF
          have hp : p ≠ [] := by rintro rfl; simp at hpe
          subst hP
          have hsl : ∀ z ∈ p, slotOK z.2.dst = true := by
            intro z hz
            obtain ⟨i, hi⟩ := List.mem_iff_getElem?.1 hz
            obtain ⟨a, x⟩ := z
            have hv : ∃ v, (i, x.dst, v) ∈ g.vals := by
              cases hRF.op i a x hi with
              | no _ _ _ h => exact ⟨_, h⟩
              | al _ _ _ _ h => exact ⟨_, h⟩
              | rd _ _ _ h _ _ => exact ⟨_, h⟩
              | ef _ _ _ _ _ _ _ h _ => exact ⟨_, h⟩
            obtain ⟨v, hv⟩ := hv
            exact (hRF.vlt _ _ _ hv).2.1
          refine sg_par hp fun tmps w ops k hs ha hh hk hlen hops hnd => ?_
          have hdst := dstOK_of hlen hops hnd
          have hEb : ∀ (k : Nat) (a : List Nat) (x : In) (d : Nat), p[k]? = some (a, x) → x.dst = some d → (delDst E p).get d = none :=
            fun k a x d hk hd => delDst_none hsl (a, x) (List.mem_of_getElem? hk) d hd
          refine ⟨fun D tmps w => ∃ β' env' hT hA j c, RInv g p β (delDst E p) n I G C.fn.ntmps D tmps w β' env' hT hA j c, ⟨β, env, h, [], g.es.length, _, ⟨hs, ha, by simpa using hh, hRF.first, Nat.le_refl _, ?_, ?_, ?_, Bm.ext_refl _ _, ?_, ?_, hT, ?_, ?_, ?_, ?_⟩⟩, par_sound hext hrec hRF rfl hdst hblk hEb hops, ?_⟩
          · intro _ _; rfl
          · intro e he; simp at he
          · intro k hk; cases hk
          · intro d v hd; exact hE d v (delDst_le hsl d v hd)
          · intro i d v h; cases h
          · intro k o _ h; cases h
          · intro k o k' o' b κ κ' _ _ h; cases h
          · exact fun L hL => hf L (Nat.le_trans (Nat.le_add_right _ _) hL)
          · intro k _ _; exact hf _ (Nat.le_add_right _ _)
          · rintro D tmps' w' hD ⟨β', env', hT', hA, j, c, R⟩
            have hj : g.es.take j = [] := by
              cases ht : g.es.take j with
              | nil => rfl
              | cons e l =>
                exfalso
                have hm : e ∈ g.es.take j := by rw [ht]; exact List.mem_cons_self
                have := R.todo e hm
                have hel := hRF.esl e (List.mem_of_mem_take hm)
                rw [hD e (by omega)] at this; cases this
            have hj0 : j = 0 ∨ g.es = [] := by
              cases j with
              | zero => exact .inl rfl
              | succ j => cases hes : g.es with
                | nil => exact .inr rfl
                | cons e l => rw [hes] at hj; simp at hj
            have hcc : c = g.c := by
              have hst := R.st
              rcases hj0 with rfl | h0
              · simp only [stAt, Option.some.injEq] at hst; exact hst.symm
              · have := R.jle
                rw [h0] at this
                have hj0 : j = 0 := by simpa using this
                subst hj0
                simp only [stAt, Option.some.injEq] at hst; exact hst.symm
            subst hcc
            have hnd2 := R.sat.nodup
            have hall : ∀ k o, (k, o) ∈ g.al → D k = true := fun k o hk => hD k (by have := hRF.alt k o hk; omega)
            have hTn : HR β' (mergeAll n g.c.S g.c.mg g.al) (hT' ++ hA) := by
              rw [mergeAll_eq (A := g.al.map (·.1)) (fun j o hj => List.mem_map.2 ⟨_, hj, rfl⟩)]
              refine (hr_merge R.hr (fun c h => List.mem_append_left _ h) g.al hRF.all (fun k o hk hka hkm => ⟨by have := hRF.alt k o hk; omega, ?_⟩) (fun k o k' o' b κ κ' hk hk' _ _ hkm hkm' => R.inj k o k' o' b κ κ' hk hk' (hall k o hk) (hall k' o' hk') hkm hkm')).1
              obtain ⟨b, κ, o', q1, q2, q3⟩ := R.pend k o hk (hall k o hk) hkm
              refine ⟨b, κ, o', q1, List.mem_append_right _ q2, q3, fun hmem => ?_⟩
              simp only [List.map_append] at hnd2
              exact (List.nodup_append.1 hnd2).2.2 b hmem b (List.mem_append_left _ (List.mem_map.2 ⟨_, q2, rfl⟩)) rfl
            have hEn : ER β' (setAll (delDst E p) g.vals) env' := er_setAll R.er _ (fun i d v hv => ⟨slotOK_le (hRF.vlt _ _ _ hv).2.1, R.vals i d v (hD i (by have := (hRF.vlt _ _ _ hv).1; omega)) hv⟩)
            have := ih _ _ _ _ _ _ _ _ _ e C I β' env' (hT' ++ hA) F G rfl hrets hmark hEn hTn R.fresh (fun β'' u h' q1 q2 q3 q4 => K0 β'' u h' (Bm.ext_trans R.ext q1 hnn) q2 q3 q4)
            exact this tmps' w' k R.size R.agree (by rw [List.append_assoc]; exact R.sat) hk
        · cases e
      · cases m with
        | true => cases e
        | false =>
        simp only [cond_false] at e
        split at e
        · rename_i g b hfo
          obtain ⟨u, hu, hr⟩ := hE.ev _ _ hfo
          split at e
          · rename_i Fn hF
            replace e := cond_some e
            obtain ⟨hc, e⟩ := e
            simp only [Bool.and_eq_true] at hc
            split at e
            · rename_i v1 T1 n1 he
              replace e := cond_some e
              obtain ⟨hnn, e⟩ := e
              have hnn : n ≤ n1 := Nat.le_of_ble_eq_true hnn
              rcases hmark with ⟨_, hds, rfl⟩ | ⟨h, _⟩
              · generalize hemp : ({ toList := [] } : Array Value) = emp at hr
                cases hr with
                | @func _ al al' bl bl' q1 q2 =>
                have : al = [] := by cases hemp; rfl
                subst this
                cases q1
                subst hP
                have hq2 := q2.length
                have hspec : ∀ l, Spec C.P g (.func (.yield l) #[] #[] :: bl') I h (fun u I' h' => I' = I ∧ ∃ β', Bm.ext n β β' ∧ HR β' T1 h' ∧ β'.fresh n1) := by
                  intro l
                  have hle := Bm.atom_ext (u := .func (.yield l) #[] #[]) hf
                  have s := hrec g Fn _ T (n + 1) v1 T1 n1 hF (by have := Nat.le_of_ble_eq_true hc.1; simpa using this) (Nat.le_of_ble_eq_true hc.2) he (β.atom n (.func (.yield l) #[] #[])) (.func (.yield l) #[] #[] :: bl') I h
                    (.cons (.atom (by simp [Bm.atom]) rfl) (q2.mono hle.1)) (hT.mono hle.1) (Bm.atom_fresh hf)
                  refine s.mono fun u' I' h' _ ⟨p1, β', p2, p3, p4, p5⟩ => ⟨p1, β', Bm.ext_trans hle p2 (by omega), p4, p5⟩
                refine sg_rangeF0 (hc := h) (F := G) hds hu (fun _ _ s => s) hspec ?_
                rintro u' I' h' r _ ⟨rfl, β', p1, p2, p3⟩
                refine sg_weak (h' := h' ++ (r, .deferred (some [])) :: G) (fun _ _ s => s.perm List.perm_middle.symm) ?_
                exact ih _ _ _ _ _ _ _ _ _ e { C with ds := mark r } I' β' env h' G ((r, .deferred (some [])) :: G) rfl hrets (.inr ⟨rfl, r, rfl, rfl⟩) (hE.mono p1.1) p2 p3 (fun β'' u h' q1 q2 q3 q4 => K0 β'' u h' (Bm.ext_trans p1 q1 hnn) q2 q3 q4)
              · cases h
            · cases e
          · cases e
        · cases e
      · cases e
end
end Go.Sx
