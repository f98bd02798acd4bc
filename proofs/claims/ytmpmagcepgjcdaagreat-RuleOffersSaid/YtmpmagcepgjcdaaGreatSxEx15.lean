/- A part of an engine of our own (the code is compiled to a smaller language, whose steps are proved right), nothing is claimed here: a part of a function's run -/
import Derived.Test.YtmpmagcepgjcdaaGreatSxGlue
set_option linter.all false
/-! a part of a function's run -/
namespace Go.Sx

structure XSt where
  E : Tr Value
  T : Tr Obj
  n : Nat
  K : List KI

/-- so many steps of the function itself -/
noncomputable def seg (tab : XTab) (ext : XExt) (f : Nat) : Nat → Tr Value → Tr Obj → Nat → List KI → Option XSt
  | 0, E, T, n, K => some ⟨E, T, n, K⟩
  | k + 1, E, T, n, K => match K with
    | [] => none
    | .ops [] :: K => seg tab ext f k E T n K
    | .ops (x :: l) :: K => bif slotOK x.dst then (match gstX E x.guard with
      | none => none
      | some b => match b with
        | false => (match x.dst with | some d => setG SLOTS E d (some undef) fun E => seg tab ext f k E T n (.ops l :: K) | none => seg tab ext f k E T n (.ops l :: K))
        | true => stepC tab ext (recF (exF tab ext f)) E T n x.op fun v T n1 =>
          bif Nat.ble n n1 then (match x.dst with | some d => setG SLOTS E d (some v) fun E => seg tab ext f k E T n1 (.ops l :: K) | none => seg tab ext f k E T n1 (.ops l :: K)) else none) else none
    | .blk _ :: K => seg tab ext f k E T n K
    | .lp a :: K => seg tab ext f k E T n (.ir a :: .lp a :: K)
    | .ir c :: K => match c with
      | .skip => seg tab ext f k E T n K
      | .ops l => seg tab ext f k E T n (.ops l :: K)
      | .seq a b => seg tab ext f k E T n (.ir a :: .ir b :: K)
      | .cond c a b => match xev E c with
        | some (.bool t) => match t with
          | true => seg tab ext f k E T n (.ir a :: K)
          | false => seg tab ext f k E T n (.ir b :: K)
        | _ => none
      | .block id a => seg tab ext f k E T n (.ir a :: .blk id :: K)
      | .loop a => seg tab ext f k E T n (.ir a :: .lp a :: K)
      | .exit id => match exitK id K with
        | some K => seg tab ext f k E T n K
        | none => none
      | .draw _ p => bif blkOK (n + p.length) && !p.isEmpty then
          (match rgRun tab ext (recF (exF tab ext f)) (delDst E p) n 0 p ⟨[], [], [], ⟨T, n + p.length, []⟩, [], []⟩ with
          | some g => bif Nat.ble n g.c.n then seg tab ext f k (setAll (delDst E p) g.vals) (mergeAll n g.c.S g.c.mg g.al) g.c.n K else none
          | none => none) else none
      | _ => none

/-- what is kept of slots and blocks -/
def keepE (E : Tr Value) : List Nat → Tr Value
  | [] => .nil
  | d :: l => bif slotOK (some d) then (match E.get d with | some v => Tr.set SLOTS (keepE E l) d (some v) | none => keepE E l) else keepE E l
def keepT (T : Tr Obj) : List Nat → Tr Obj
  | [] => .nil
  | L :: l => bif blkOK L then (match T.get L with | some o => Tr.set BLOCKS (keepT T l) L (some o) | none => keepT T l) else keepT T l
theorem keepE_le {E : Tr Value} : ∀ {l : List Nat} {d : Nat} {v : Value}, (keepE E l).get d = some v → E.get d = some v
  | [], d, v, h => by rw [keepE, Tr.get_nil] at h; cases h
  | e :: l, d, v, h => by
    unfold keepE at h
    cases hs : slotOK (some e) with
    | false => simp only [hs, cond_false] at h; exact keepE_le h
    | true =>
      simp only [hs, cond_true] at h
      split at h
      · rename_i u hu
        rw [Tr.get_set _ _ _ _ _ (slotOK_le hs)] at h
        by_cases hd : e = d
        · subst hd; rw [if_pos rfl] at h; rw [hu]; exact h
        · rw [if_neg hd] at h; exact keepE_le h
      · exact keepE_le h
theorem keepT_le {T : Tr Obj} : ∀ {l : List Nat} {d : Nat} {v : Obj}, (keepT T l).get d = some v → T.get d = some v
  | [], d, v, h => by rw [keepT, Tr.get_nil] at h; cases h
  | e :: l, d, v, h => by
    unfold keepT at h
    cases hs : blkOK e with
    | false => simp only [hs, cond_false] at h; exact keepT_le h
    | true =>
      simp only [hs, cond_true] at h
      split at h
      · rename_i u hu
        rw [Tr.get_set _ _ _ _ _ (blkOK_le hs)] at h
        by_cases hd : e = d
        · subst hd; rw [if_pos rfl] at h; rw [hu]; exact h
        · rw [if_neg hd] at h; exact keepT_le h
      · exact keepT_le h
theorem ER.sub {β : Bm} {E E' : Tr Value} {env : Env} (h : ER β E env) (hs : ∀ d v, E'.get d = some v → E.get d = some v) : ER β E' env := fun d v e => h d v (hs d v e)
theorem HR.sub {β : Bm} {T T' : Tr Obj} {h : List Chunk} (H : HR β T h) (hs : ∀ d v, T'.get d = some v → T.get d = some v) : HR β T' h := by
  refine ⟨fun L o e => H.own L o (hs L o e), fun L L' b κ κ' h1 h2 e1 e2 => H.inj L L' b κ κ' ?_ ?_ e1 e2⟩
  · cases hL : T'.get L with
    | none => exact absurd hL h1
    | some o => rw [hs L o hL]; simp
  · cases hL : T'.get L' with
    | none => exact absurd hL h2
    | some o => rw [hs L' o hL]; simp

/-- from a state on all goes well -/
def StOK (C : Cx) (I : Imm) (F : List Chunk) (β0 : Bm) (n0 : Nat) (s : XSt) : Prop := ∀ β env h, Bm.ext n0 β0 β → ER β s.E env → HR β s.T h → β.fresh s.n → SG C I env (h ++ F) s.K

theorem rec_of_F {P : Program} {tab : XTab} {ext : XExt} (htab : TabOK P tab) (hext : ExtOK P ext) (hm : P.follows .mixedOrders = true) (f : Nat) : RecOK P tab (recF (exF tab ext f)) := by
  intro g F args T n v T' n' hF h1 h2 h3
  exact rec_of htab hm (ex_sound htab hext hm f) g F args T n v T' n' hF h1 h2 (exF_le f _ _ _ _ _ _ _ h3)

theorem draw_sound {C : Cx} {tab : XTab} {ext : XExt} {rec : XFn → List Value → Tr Obj → Nat → XRes} (hext : ExtOK C.P ext) (hrec : RecOK C.P tab rec) {l : Option (List (Option Bool × In))} {p : List (List Nat × In)} {E : Tr Value} {T : Tr Obj} {n : Nat} {g : RG} {I : Imm} {β : Bm} {env : Env} {h G : List Chunk} {K : List KI}
    (hc : (blkOK (n + p.length) && !p.isEmpty) = true) (hg : rgRun tab ext rec (delDst E p) n 0 p ⟨[], [], [], ⟨T, n + p.length, []⟩, [], []⟩ = some g) (hE : ER β E env) (hT : HR β T h) (hf : β.fresh n)
    (k0 : ∀ β' env' h', Bm.ext n β β' → ER β' (setAll (delDst E p) g.vals) env' → HR β' (mergeAll n g.c.S g.c.mg g.al) h' → β'.fresh g.c.n → SG C I env' (h' ++ G) K) : SG C I env (h ++ G) (.ir (.draw l p) :: K) := by
  simp only [Bool.and_eq_true, Bool.not_eq_true'] at hc
  obtain ⟨hblk, hpe⟩ := hc
  have hblk := blkOK_le hblk
  have hRF := RF.run (ps := []) RF.init hg
  simp only [List.nil_append] at hRF
  have hp : p ≠ [] := by rintro rfl; simp at hpe
  have hsl : ∀ z ∈ p, slotOK z.2.dst = true := by
    intro z hz
    obtain ⟨i, hi⟩ := List.mem_iff_getElem?.1 hz
    obtain ⟨a, x⟩ := z
    have hv : ∃ v, (i, x.dst, v) ∈ g.vals := by
      cases hRF.op i a x hi with
      | no _ _ _ h => exact ⟨_, h⟩
      | al _ _ _ _ h => exact ⟨_, h⟩
      | rd _ _ _ h _ _ => exact ⟨_, h⟩
      | ef _ _ _ _ _ _ _ h _ => exact ⟨_, h⟩
    obtain ⟨v, hv⟩ := hv
    exact (hRF.vlt _ _ _ hv).2.1
  refine sg_par hp fun tmps w ops k hs ha hh hk hlen hops hnd => ?_
  have hdst := dstOK_of hlen hops hnd
  have hEb : ∀ (k : Nat) (a : List Nat) (x : In) (d : Nat), p[k]? = some (a, x) → x.dst = some d → (delDst E p).get d = none :=
    fun k a x d hk hd => delDst_none hsl (a, x) (List.mem_of_getElem? hk) d hd
  refine ⟨fun D tmps w => ∃ β' env' hT hA j c, RInv g p β (delDst E p) n I G C.fn.ntmps D tmps w β' env' hT hA j c, ⟨β, env, h, [], g.es.length, _, ⟨hs, ha, by simpa using hh, hRF.first, Nat.le_refl _, ?_, ?_, ?_, Bm.ext_refl _ _, ?_, ?_, hT, ?_, ?_, ?_, ?_⟩⟩, par_sound hext hrec hRF rfl hdst hblk hEb hops, ?_⟩
  · intro _ _; rfl
  · intro e he; simp at he
  · intro k hk; cases hk
  · intro d v hd; exact hE d v (delDst_le hsl d v hd)
  · intro i d v h; cases h
  · intro k o _ h; cases h
  · intro k o k' o' b κ κ' _ _ h; cases h
  · exact fun L hL => hf L (Nat.le_trans (Nat.le_add_right _ _) hL)
  · intro k _ _; exact hf _ (Nat.le_add_right _ _)
  · rintro D tmps' w' hD ⟨β', env', hT', hA, j, c, R⟩
    have hj : g.es.take j = [] := by
      cases ht : g.es.take j with
      | nil => rfl
      | cons e l =>
        exfalso
        have hm : e ∈ g.es.take j := by rw [ht]; exact List.mem_cons_self
        have := R.todo e hm
        have hel := hRF.esl e (List.mem_of_mem_take hm)
        rw [hD e (by omega)] at this; cases this
    have hj0 : j = 0 ∨ g.es = [] := by
      cases j with
      | zero => exact .inl rfl
      | succ j => cases hes : g.es with
        | nil => exact .inr rfl
        | cons e l => rw [hes] at hj; simp at hj
    have hcc : c = g.c := by
      have hst := R.st
      rcases hj0 with rfl | h0
      · simp only [stAt, Option.some.injEq] at hst; exact hst.symm
      · have := R.jle
        rw [h0] at this
        have hj0 : j = 0 := by simpa using this
        subst hj0
        simp only [stAt, Option.some.injEq] at hst; exact hst.symm
    subst hcc
    have hnd2 := R.sat.nodup
    have hall : ∀ k o, (k, o) ∈ g.al → D k = true := fun k o hk => hD k (by have := hRF.alt k o hk; omega)
    have hTn : HR β' (mergeAll n g.c.S g.c.mg g.al) (hT' ++ hA) := by
      rw [mergeAll_eq (A := g.al.map (·.1)) (fun j o hj => List.mem_map.2 ⟨_, hj, rfl⟩)]
      refine (hr_merge R.hr (fun c h => List.mem_append_left _ h) g.al hRF.all (fun k o hk hka hkm => ⟨by have := hRF.alt k o hk; omega, ?_⟩) (fun k o k' o' b κ κ' hk hk' _ _ hkm hkm' => R.inj k o k' o' b κ κ' hk hk' (hall k o hk) (hall k' o' hk') hkm hkm')).1
      obtain ⟨b, κ, o', q1, q2, q3⟩ := R.pend k o hk (hall k o hk) hkm
      refine ⟨b, κ, o', q1, List.mem_append_right _ q2, q3, fun hmem => ?_⟩
      simp only [List.map_append] at hnd2
      exact (List.nodup_append.1 hnd2).2.2 b hmem b (List.mem_append_left _ (List.mem_map.2 ⟨_, q2, rfl⟩)) rfl
    have hEn : ER β' (setAll (delDst E p) g.vals) env' := er_setAll R.er _ (fun i d v hv => ⟨slotOK_le (hRF.vlt _ _ _ hv).2.1, R.vals i d v (hD i (by have := (hRF.vlt _ _ _ hv).1; omega)) hv⟩)
    exact k0 β' env' (hT' ++ hA) R.ext hEn hTn R.fresh tmps' w' k R.size R.agree (by rw [List.append_assoc]; exact R.sat) hk

theorem seg_sound {C : Cx} {tab : XTab} {ext : XExt} (htab : TabOK C.P tab) (hext : ExtOK C.P ext) {f : Nat} {I : Imm} {F : List Chunk} {β0 : Bm} {n0 : Nat} {s : XSt} (K0 : StOK C I F β0 n0 s) :
    ∀ (k : Nat) (E : Tr Value) (T : Tr Obj) (n : Nat) (K : List KI), n0 ≤ n → seg tab ext f k E T n K = some s → StOK C I F β0 n0 ⟨E, T, n, K⟩ := by
  have hrec := rec_of_F (ext := ext) htab hext C.hm f
  intro k
  induction k with
  | zero => intro E T n K hn e; simp only [seg, Option.some.injEq] at e; subst e; exact K0
  | succ k ih =>
    intro E T n K hn e β env h hx hE hT hf
    dsimp only at hE hT hf ⊢
    unfold seg at e
    split at e
    · cases e
    · exact sg_end (ih _ _ _ _ hn e β env h hx hE hT hf)
    · rename_i x l K
      replace e := cond_some e
      obtain ⟨hsl, e⟩ := e
      obtain ⟨d, gd, op⟩ := x
      split at e
      · cases e
      · rename_i b hg
        split at e
        · refine sg_no (gstX_rel hE hg) ?_
          cases d with
          | none => exact ih _ _ _ _ hn e β env h hx hE hT hf
          | some d =>
            simp only [setG_eq] at e
            exact ih _ _ _ _ hn e β _ h hx (hE.set (slotOK_le hsl) (cst_rn rfl)) hT hf
        · obtain ⟨v1, T1, n1, hs, e⟩ := stepC_eq e
          refine sg_op (gstX_rel hE hg) ?_
          refine step_sound hext hrec hE hT hf hs fun β' u h' r1 r2 r3 r4 => ?_
          refine sg_sat fun w hsat => ?_
          replace e := cond_some e
          obtain ⟨hnn, e⟩ := e
          have hnn : n ≤ n1 := Nat.le_of_ble_eq_true hnn
          have hT' := r3 hsat.nodup
          cases d with
          | none => exact ih _ _ _ _ (by omega) e β' env h' (Bm.ext_trans hx r1 hn) (hE.mono r1.1) hT' r4
          | some d =>
            simp only [setG_eq] at e
            exact ih _ _ _ _ (by omega) e β' _ h' (Bm.ext_trans hx r1 hn) ((hE.mono r1.1).set (slotOK_le hsl) r2) hT' r4
    · exact sg_blk (ih _ _ _ _ hn e β env h hx hE hT hf)
    · exact sg_lp (ih _ _ _ _ hn e β env h hx hE hT hf)
    · rename_i c K
      split at e
      · exact sg_skip (ih _ _ _ _ hn e β env h hx hE hT hf)
      · exact sg_ops (ih _ _ _ _ hn e β env h hx hE hT hf)
      · exact sg_seq (ih _ _ _ _ hn e β env h hx hE hT hf)
      · split at e
        · rename_i t ht
          obtain ⟨u, hu, hr⟩ := hE.ev _ _ ht
          cases hr
          split at e
          · exact sg_cond_t hu (ih _ _ _ _ hn e β env h hx hE hT hf)
          · exact sg_cond_f hu (ih _ _ _ _ hn e β env h hx hE hT hf)
        · cases e
      · exact sg_block (ih _ _ _ _ hn e β env h hx hE hT hf)
      · exact sg_loop (ih _ _ _ _ hn e β env h hx hE hT hf)
      · split at e
        · rename_i K' hk
          exact sg_exit hk (ih _ _ _ _ hn e β env h hx hE hT hf)
        · cases e
      · rename_i l p
        replace e := cond_some e
        obtain ⟨hc, e⟩ := e
        split at e
        · rename_i g hg
          replace e := cond_some e
          obtain ⟨hnn, e⟩ := e
          have hnn : n ≤ g.c.n := Nat.le_of_ble_eq_true hnn
          exact draw_sound hext hrec hc hg hE hT hf fun β' env' h' q1 q2 q3 q4 => ih _ _ _ _ (by omega) e β' env' h' (Bm.ext_trans hx q1 hn) q2 q3 q4
        · cases e
      · cases e
/-- a part whose end is written out, and less kept of it -/
noncomputable def segC (tab : XTab) (ext : XExt) (f k : Nat) (s : XSt) (le lt : List Nat) : Option XSt := (seg tab ext f k s.E s.T s.n s.K).map fun s => ⟨keepE s.E le, keepT s.T lt, s.n, s.K⟩
theorem segC_sound {C : Cx} {tab : XTab} {ext : XExt} (htab : TabOK C.P tab) (hext : ExtOK C.P ext) {f k : Nat} {I : Imm} {F : List Chunk} {β0 : Bm} {n0 : Nat} {s s' : XSt} {le lt : List Nat} (hn : Nat.ble n0 s.n = true) (e : segC tab ext f k s le lt = some s')
    (K0 : StOK C I F β0 n0 s') : StOK C I F β0 n0 s := by
  unfold segC at e
  simp only [Option.map_eq_some_iff] at e
  obtain ⟨s1, h1, rfl⟩ := e
  refine seg_sound htab hext (s := s1) ?_ k s.E s.T s.n s.K (Nat.le_of_ble_eq_true hn) h1
  exact fun β env h hx hE hT hf => K0 β env h hx (hE.sub fun d v => keepE_le) (hT.sub fun d v => keepT_le) hf
end Go.Sx
namespace Go.Sx
def subI : IR → List Nat → IR
  | .seq a b, i :: l => bif Nat.beq i 0 then subI a l else subI b l
  | .cond _ a b, i :: l => bif Nat.beq i 0 then subI a l else subI b l
  | .block _ a, _ :: l => subI a l
  | .loop a, _ :: l => subI a l
  | c, _ => c
def opsI : IR → List In
  | .ops l => l
  | _ => []
def noExt : XExt := fun _ _ _ => none
theorem noExt_ok (P : Program) : ExtOK P noExt := by intro g args T v h; cases h
end Go.Sx
