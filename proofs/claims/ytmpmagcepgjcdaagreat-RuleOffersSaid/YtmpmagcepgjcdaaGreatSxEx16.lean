/- A part of an engine of our own (the code is compiled to a smaller language, whose steps are proved right), nothing is claimed here: a part of a run, where some operations are known otherwise -/
import Derived.Test.YtmpmagcepgjcdaaGreatSxEx15
set_option linter.all false
/-! a part of a run, where some operations are known otherwise -/
namespace Go.Sx

abbrev XSym := Tr Value → IOp → Option Value
def SymOK (P : Program) (I : Imm) (β0 : Bm) (n0 : Nat) (sym : XSym) : Prop :=
  ∀ E op v, sym E op = some v → cst v = true ∧ ∀ β env h N, Bm.ext n0 β0 β → ER β E env → (∀ h', N v I (h' ++ h)) → OpStep P I h env op N
theorem HR.more {β : Bm} {T : Tr Obj} {h h' : List Chunk} (H : HR β T h) (hs : ∀ c ∈ h, c ∈ h') : HR β T h' :=
  ⟨fun L o e => let ⟨b, κ, o', h1, h2, h3⟩ := H.own L o e; ⟨b, κ, o', h1, hs _ h2, h3⟩, H.inj⟩

/-- so many steps of the function itself, where some operations are known otherwise -/
noncomputable def segS (tab : XTab) (ext : XExt) (sym : XSym) (f : Nat) : Nat → Tr Value → Tr Obj → Nat → List KI → Option XSt
  | 0, E, T, n, K => some ⟨E, T, n, K⟩
  | k + 1, E, T, n, K => match K with
    | [] => some ⟨E, T, n, []⟩
    | .ops [] :: K => segS tab ext sym f k E T n K
    | .ops (x :: l) :: K => bif slotOK x.dst then (match gstX E x.guard with
      | none => none
      | some b => match b with
        | false => (match x.dst with | some d => setG SLOTS E d (some undef) fun E => segS tab ext sym f k E T n (.ops l :: K) | none => segS tab ext sym f k E T n (.ops l :: K))
        | true => match sym E x.op with
          | some v => (match x.dst with | some d => setG SLOTS E d (some v) fun E => segS tab ext sym f k E T n (.ops l :: K) | none => segS tab ext sym f k E T n (.ops l :: K))
          | none => stepC tab ext (recF (exF tab ext f)) E T n x.op fun v T n1 =>
            bif Nat.ble n n1 then (match x.dst with | some d => setG SLOTS E d (some v) fun E => segS tab ext sym f k E T n1 (.ops l :: K) | none => segS tab ext sym f k E T n1 (.ops l :: K)) else none) else none
    | .blk _ :: K => segS tab ext sym f k E T n K
    | .lp a :: K => segS tab ext sym f k E T n (.ir a :: .lp a :: K)
    | .ir c :: K => match c with
      | .skip => segS tab ext sym f k E T n K
      | .ops l => segS tab ext sym f k E T n (.ops l :: K)
      | .seq a b => segS tab ext sym f k E T n (.ir a :: .ir b :: K)
      | .cond c a b => match xev E c with
        | some (.bool t) => match t with
          | true => segS tab ext sym f k E T n (.ir a :: K)
          | false => segS tab ext sym f k E T n (.ir b :: K)
        | _ => none
      | .block id a => segS tab ext sym f k E T n (.ir a :: .blk id :: K)
      | .loop a => segS tab ext sym f k E T n (.ir a :: .lp a :: K)
      | .exit id => match exitK id K with
        | some K => segS tab ext sym f k E T n K
        | none => none
      | .draw _ p => bif blkOK (n + p.length) && !p.isEmpty then
          (match rgRun tab ext (recF (exF tab ext f)) (delDst E p) n 0 p ⟨[], [], [], ⟨T, n + p.length, []⟩, [], []⟩ with
          | some g => bif Nat.ble n g.c.n then segS tab ext sym f k (setAll (delDst E p) g.vals) (mergeAll n g.c.S g.c.mg g.al) g.c.n K else none
          | none => none) else none
      | .ret => some ⟨E, T, n, .ir .ret :: K⟩
      | _ => none

theorem segS_sound {C : Cx} {tab : XTab} {ext : XExt} (htab : TabOK C.P tab) (hext : ExtOK C.P ext) {f : Nat} {I : Imm} {F : List Chunk} {β0 : Bm} {n0 : Nat} {s : XSt} {sym : XSym} (hsym : SymOK C.P I β0 n0 sym) (K0 : StOK C I F β0 n0 s) :
    ∀ (k : Nat) (E : Tr Value) (T : Tr Obj) (n : Nat) (K : List KI), n0 ≤ n → segS tab ext sym f k E T n K = some s → StOK C I F β0 n0 ⟨E, T, n, K⟩ := by
  have hrec := rec_of_F (ext := ext) htab hext C.hm f
  intro k
  induction k with
  | zero => intro E T n K hn e; simp only [segS, Option.some.injEq] at e; subst e; exact K0
  | succ k ih =>
    intro E T n K hn e β env h hx hE hT hf
    dsimp only at hE hT hf ⊢
    unfold segS at e
    split at e
    · simp only [Option.some.injEq] at e; subst e; exact K0 β env h hx hE hT hf
    · exact sg_end (ih _ _ _ _ hn e β env h hx hE hT hf)
    · rename_i x l K
      replace e := cond_some e
      obtain ⟨hsl, e⟩ := e
      obtain ⟨d, gd, op⟩ := x
      split at e
      · cases e
      · rename_i b hg
        split at e
        · refine sg_no (gstX_rel hE hg) ?_
          cases d with
          | none => exact ih _ _ _ _ hn e β env h hx hE hT hf
          | some d =>
            simp only [setG_eq] at e
            exact ih _ _ _ _ hn e β _ h hx (hE.set (slotOK_le hsl) (cst_rn rfl)) hT hf
        · split at e
          · rename_i v hv
            obtain ⟨hcst, hop⟩ := hsym _ _ _ hv
            refine sg_op (gstX_rel hE hg) (hop β env (h ++ F) _ hx hE fun h' => ?_)
            rw [← List.append_assoc]
            have hT' : HR β T (h' ++ h) := hT.more fun c hc => List.mem_append_right _ hc
            cases d with
            | none => exact ih _ _ _ _ hn e β env _ hx hE hT' hf
            | some d =>
              simp only [setG_eq] at e
              exact ih _ _ _ _ hn e β _ _ hx (hE.set (slotOK_le hsl) (cst_rn hcst)) hT' hf
          · rename_i hsn
            obtain ⟨v1, T1, n1, hs, e⟩ := stepC_eq e
            refine sg_op (gstX_rel hE hg) ?_
            refine step_sound hext hrec hE hT hf hs fun β' u h' r1 r2 r3 r4 => ?_
            refine sg_sat fun w hsat => ?_
            replace e := cond_some e
            obtain ⟨hnn, e⟩ := e
            have hnn : n ≤ n1 := Nat.le_of_ble_eq_true hnn
            have hT' := r3 hsat.nodup
            cases d with
            | none => exact ih _ _ _ _ (by omega) e β' env h' (Bm.ext_trans hx r1 hn) (hE.mono r1.1) hT' r4
            | some d =>
              simp only [setG_eq] at e
              exact ih _ _ _ _ (by omega) e β' _ h' (Bm.ext_trans hx r1 hn) ((hE.mono r1.1).set (slotOK_le hsl) r2) hT' r4
    · exact sg_blk (ih _ _ _ _ hn e β env h hx hE hT hf)
    · exact sg_lp (ih _ _ _ _ hn e β env h hx hE hT hf)
    · rename_i c K
      split at e
      · exact sg_skip (ih _ _ _ _ hn e β env h hx hE hT hf)
      · exact sg_ops (ih _ _ _ _ hn e β env h hx hE hT hf)
      · exact sg_seq (ih _ _ _ _ hn e β env h hx hE hT hf)
      · split at e
        · rename_i t ht
          obtain ⟨u, hu, hr⟩ := hE.ev _ _ ht
          cases hr
          split at e
          · exact sg_cond_t hu (ih _ _ _ _ hn e β env h hx hE hT hf)
          · exact sg_cond_f hu (ih _ _ _ _ hn e β env h hx hE hT hf)
        · cases e
      · exact sg_block (ih _ _ _ _ hn e β env h hx hE hT hf)
      · exact sg_loop (ih _ _ _ _ hn e β env h hx hE hT hf)
      · split at e
        · rename_i K' hk
          exact sg_exit hk (ih _ _ _ _ hn e β env h hx hE hT hf)
        · cases e
      · rename_i l p
        replace e := cond_some e
        obtain ⟨hc, e⟩ := e
        split at e
        · rename_i g hg
          replace e := cond_some e
          obtain ⟨hnn, e⟩ := e
          have hnn : n ≤ g.c.n := Nat.le_of_ble_eq_true hnn
          exact draw_sound hext hrec hc hg hE hT hf fun β' env' h' q1 q2 q3 q4 => ih _ _ _ _ (by omega) e β' env' h' (Bm.ext_trans hx q1 hn) q2 q3 q4
        · cases e
      · simp only [Option.some.injEq] at e; subst e; exact K0 β env h hx hE hT hf
      · cases e

noncomputable def segSC (tab : XTab) (ext : XExt) (sym : XSym) (f k : Nat) (s : XSt) (le lt : List Nat) : Option XSt := (segS tab ext sym f k s.E s.T s.n s.K).map fun s => ⟨keepE s.E le, keepT s.T lt, s.n, s.K⟩
theorem segSC_sound {C : Cx} {tab : XTab} {ext : XExt} (htab : TabOK C.P tab) (hext : ExtOK C.P ext) {f k : Nat} {I : Imm} {F : List Chunk} {β0 : Bm} {n0 : Nat} {s s' : XSt} {le lt : List Nat} {sym : XSym} (hsym : SymOK C.P I β0 n0 sym) (hn : Nat.ble n0 s.n = true)
    (e : segSC tab ext sym f k s le lt = some s') (K0 : StOK C I F β0 n0 s') : StOK C I F β0 n0 s := by
  unfold segSC at e
  simp only [Option.map_eq_some_iff] at e
  obtain ⟨s1, h1, rfl⟩ := e
  refine segS_sound htab hext (s := s1) hsym ?_ k s.E s.T s.n s.K (Nat.le_of_ble_eq_true hn) h1
  exact fun β env h hx hE hT hf => K0 β env h hx (hE.sub fun d v => keepE_le) (hT.sub fun d v => keepT_le) hf

/-- the last part -/
theorem end_sound {C : Cx} {tab : XTab} {ext : XExt} (htab : TabOK C.P tab) (hext : ExtOK C.P ext) (hds : C.ds = []) {f : Nat} {I : Imm} {F : List Chunk} {β0 : Bm} {n0 : Nat} {s : XSt} {v : Value} (hn : Nat.ble n0 s.n = true)
    (e : exV (exF tab ext f C.rets s.E s.T s.n false s.K) = some v) (K0 : ∀ β u h, Bm.ext n0 β0 β → Rn β v u → C.Q u I (h ++ F)) : StOK C I F β0 n0 s := by
  intro β env h hx hE hT hf
  unfold exV at e
  split at e
  · rename_i v' T' n' he
    simp only [Option.some.injEq] at e; subst e
    exact ex_sound htab hext C.hm f _ _ _ _ _ _ _ _ _ (exF_le f _ _ _ _ _ _ _ he) C I β env h F F rfl rfl (.inl ⟨rfl, hds, rfl⟩) hE hT hf fun β' u h' q1 q2 q3 q4 => K0 β' u h' (Bm.ext_trans hx q1 (Nat.le_of_ble_eq_true hn)) q2
  · cases e

/-- a call, by parts -/
theorem spec_parts {P : Program} {tab : XTab} (htab : TabOK P tab) (hm : P.follows .mixedOrders = true) {g : FuncId} {Fn : XFn} {as us : List Value} {I : Imm} {β0 : Bm} {n0 : Nat} {Q : Value → Prop} (hF : tab.get g = some Fn)
    (hlen : Nat.ble as.length Fn.ntmps = true) (hnt : Nat.ble (Fn.ntmps + 2) 16384 = true) (has : RnL β0 as us) (hf : β0.fresh n0)
    (H : ∀ F (C : Cx), C.P = P → C.rets = Fn.rets → C.ds = [] → (∀ u h, Q u → C.Q u I (h ++ F)) → StOK C I F β0 n0 ⟨envX 0 as .nil, .nil, n0, [.ir Fn.ir]⟩) : Spec P g us I [] (fun u J _ => J = I ∧ Q u) := by
  obtain ⟨fn, c, h1, h2, h3, h4, h5, h6⟩ := (htab.get hF).ok
  have hal := has.length
  have hlen := Nat.le_of_ble_eq_true hlen
  have hnt := Nat.le_of_ble_eq_true hnt
  refine spec_of h1 h2 h3 h4 h5 hm (by omega) fun cs F => ?_
  refine H F ⟨P, g, fn, cs, postQ _ I F, Fn.rets, h1, h5, hm, []⟩ rfl rfl rfl (fun u h q => ⟨Imm.le_refl _, h, ⟨rfl, q⟩, fun _ _ s => s⟩) β0 _ [] (Bm.ext_refl _ _) ?_ .empty hf
  intro d v e
  have := er_envX (env := []) (i := 0) has (by have : (2 : Nat) ^ SLOTS = 16384 := rfl; omega) (fun d v e => by rw [Tr.get_nil] at e; cases e) d v e
  simpa using this
end Go.Sx
