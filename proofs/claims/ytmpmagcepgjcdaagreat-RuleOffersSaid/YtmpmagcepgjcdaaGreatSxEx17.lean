/- A part of an engine of our own (the code is compiled to a smaller language, whose steps are proved right), nothing is claimed here: what may be known otherwise: a text that is handed on, and calls -/
import Derived.Test.YtmpmagcepgjcdaaGreatSxEx16
import Derived.Laws.Strings
set_option linter.all false
/-! what may be known otherwise: a text that is handed on, and calls -/
namespace Go.Sx

/-- cmp: is the first atom this text? cl: what a call gives -/
structure Hook where
  cmp : List UInt8 → Option Bool
  cl : Nat → List Value → Option Value

def Hook.sym (k : Hook) : XSym := fun E op => match op with
  | .bin b q x y => match b, q with
    | .eql, .str => match xev E x, xev E y with
      | some (.string ⟨⟨t⟩⟩), some (.chan (some 0)) => match k.cmp t with | some b => some (.bool b) | none => none
      | _, _ => none
    | _, _ => none
  | .call f as => match xev E f, evList (xev E) as with
    | some (.func (.func g) ⟨[]⟩ ⟨[]⟩), some vs => match k.cl g vs with | some v => bif cst v then some v else none | none => none
    | _, _ => none
  | _ => none

mutual
theorem cst_eq {β : Bm} : ∀ {v u : Value}, cst v = true → Rn β v u → u = v
  | _, _, _, .bool => rfl
  | _, _, _, .int => rfl
  | _, _, _, .str => rfl
  | _, _, _, .ptr0 => rfl
  | _, _, h, .ptr _ => by simp [cst] at h
  | _, _, _, .sl0 => rfl
  | _, _, h, .sl _ _ => by simp [cst] at h
  | _, _, h, .slo _ _ _ => by simp [cst] at h
  | _, _, h, .slr _ _ _ => by simp [cst] at h
  | _, _, h, .sle => by simp [cst] at h
  | _, _, _, .map0 => rfl
  | _, _, h, .map _ => by simp [cst] at h
  | _, _, _, .nilFunc => rfl
  | _, _, h, .func q1 q2 => by simp only [cst, Bool.and_eq_true] at h; rw [cstL_eq h.1 q1, cstL_eq h.2 q2]
  | _, _, h, .iface q => by simp only [cst] at h; rw [cst_eq h q]
  | _, _, _, .nilIface => rfl
  | _, _, h, .agg q => by simp only [cst] at h; rw [cstL_eq h q]
  | _, _, h, .tuple q => by simp only [cst] at h; rw [cstL_eq h q]
  | _, _, h, .atom _ _ => by simp [cst] at h
theorem cstL_eq {β : Bm} : ∀ {v u : List Value}, cstL v = true → RnL β v u → u = v
  | _, _, _, .nil => rfl
  | _, _, h, .cons q1 q2 => by simp only [cstL, Bool.and_eq_true] at h; rw [cst_eq h.1 q1, cstL_eq h.2 q2]
end

theorem Hook.ok {P : Program} {I : Imm} {β0 : Bm} {n0 : Nat} {k : Hook} {s : ByteArray} (h0 : β0.a 0 = some (.string s)) (hcmp : ∀ t b, k.cmp t = some b → (t == s.data.toList) = b)
    (hcl : ∀ g vs v, k.cl g vs = some v → ∀ β us, Bm.ext n0 β0 β → RnL β vs us → Spec P g us I [] (fun u J _ => J = I ∧ u = v)) : SymOK P I β0 n0 k.sym := by
  intro E op v e
  unfold Hook.sym at e
  split at e
  · rename_i b0 q0 x y
    split at e
    · split at e
      · rename_i t hx hy
        split at e
        · rename_i b hb
          simp only [Option.some.injEq] at e; subst e
          refine ⟨rfl, fun β env h N hxt hE hN => ?_⟩
          obtain ⟨u1, g1, r1⟩ := hE.ev _ _ hx
          obtain ⟨u2, g2, r2⟩ := hE.ev _ _ hy
          cases r1
          cases r2 with
          | atom ha _ =>
            have := hxt.1.1 _ _ h0
            rw [this] at ha; simp only [Option.some.injEq] at ha; subst ha
            refine o_read (r_pure ?_) (by simpa using hN [])
            have hbin : pureV (ev env) (.bin .eql .str x y) = some (.bool ((ByteArray.toList ⟨⟨t⟩⟩) == s.toList)) := by
              simp only [pureV, g1, g2, binV, strBin]
            rw [hbin, ByteArray.toList_eq, ByteArray.toList_eq, ← hcmp t b hb]
        · cases e
      · cases e
    · cases e
  · split at e
    · rename_i g vs hf has
      split at e
      · rename_i v0 hv
        replace e := cond_some e
        obtain ⟨hc, e⟩ := e
        simp only [Option.some.injEq] at e; subst e
        refine ⟨hc, fun β env h N hxt hE hN => ?_⟩
        obtain ⟨u, hu, hr⟩ := hE.ev _ _ hf
        obtain ⟨us, hus, hrl⟩ := evList_rel hE.ev _ _ has
        cases hr with
        | func q1 q2 =>
          cases q1; cases q2
          exact o_call0 hu hus (hcl _ _ _ hv β us hxt hrl) fun v I' h' hle ⟨p1, p2⟩ => by subst p1; subst p2; exact hN h'
      · cases e
    · cases e
  · cases e

/-- all of a function, where some operations are known otherwise -/
noncomputable def runV (tab : XTab) (k : Hook) (Fn : XFn) (as : List Value) (n0 : Nat) : Option Value :=
  match segS tab noExt k.sym 1000000 1000000 (envX 0 as .nil) .nil n0 [.ir Fn.ir] with
  | some s => bif Nat.ble n0 s.n then exV (exF tab noExt 1000000 Fn.rets s.E s.T s.n false s.K) else none
  | none => none

theorem spec_run {P : Program} {tab : XTab} (htab : TabOK P tab) (hm : P.follows .mixedOrders = true) {g : FuncId} {Fn : XFn} {as us : List Value} {I : Imm} {β0 : Bm} {n0 : Nat} {v : Value} {k : Hook} (hsym : SymOK P I β0 n0 k.sym) (hF : tab.get g = some Fn)
    (hlen : (Nat.ble as.length Fn.ntmps && Nat.ble (Fn.ntmps + 2) 16384 && cst v) = true) (has : RnL β0 as us) (hf : β0.fresh n0) (e : runV tab k Fn as n0 = some v) : Spec P g us I [] (fun u J _ => J = I ∧ u = v) := by
  simp only [Bool.and_eq_true] at hlen
  refine spec_parts htab hm hF hlen.1.1 hlen.1.2 has hf fun F C hP hr hds hQ => ?_
  unfold runV at e
  split at e
  · rename_i s hs
    subst hP
    replace e := cond_some e
    obtain ⟨hle, e⟩ := e
    refine segS_sound htab (noExt_ok _) (s := s) hsym ?_ _ _ _ _ _ (Nat.le_refl _) hs
    refine end_sound htab (noExt_ok _) hds hle (by rw [hr]; exact e) fun β u h hx hr => hQ u h ?_
    exact cst_eq hlen.2 hr
  · cases e
end Go.Sx
