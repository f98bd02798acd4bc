/- A part of an engine of our own (the code is compiled to a smaller language, whose steps are proved right), nothing is claimed here: the closed machine is right: one operation -/
import Derived.Test.YtmpmagcepgjcdaaGreatSxEx6
set_option linter.all false
/-! the closed machine is right: one operation -/
namespace Go.Sx

structure FnOK (P : Program) (g : Nat) (F : XFn) : Prop where
  ok : ∃ fn c, P.funcs[g]? = some fn ∧ fn.body = some c ∧ (fn.name == "runtime.NumGoroutine") = false ∧ compile P fn.ntmps c = some F.ir ∧ compileRets P fn.results.toList = some F.rets ∧ F.ntmps = fn.ntmps

def TabOK (P : Program) : XTab → Prop
  | .leaf => True
  | .node k f l r => FnOK P k f ∧ TabOK P l ∧ TabOK P r
theorem TabOK.get {P : Program} : ∀ {t : XTab} {g : Nat} {F : XFn}, TabOK P t → t.get g = some F → FnOK P g F
  | .leaf, _, _, _, h => by simp [XTab.get] at h
  | .node k f l r, g, F, ⟨h1, h2, h3⟩, h => by
    unfold XTab.get at h
    cases hb : Nat.beq g k with
    | true => simp only [hb, cond_true, Option.some.injEq] at h; subst h; rw [Nat.eq_of_beq_eq_true hb]; exact h1
    | false =>
      simp only [hb, cond_false] at h
      cases hl : Nat.blt g k with
      | true => simp only [hl, cond_true] at h; exact TabOK.get h2 h
      | false => simp only [hl, cond_false] at h; exact TabOK.get h3 h

def ExtOK (P : Program) (ext : XExt) : Prop :=
  ∀ g args T v, ext g args T = some v → ∀ (β : Bm) args' I h, RnL β args args' → HR β T h → ∃ u, Rn β v u ∧ XSpec P g args' I h (fun u' I' h' => u' = u ∧ I' = I ∧ h' = h)

/-- what a call leaves behind -/
def RecQ (β : Bm) (n : Nat) (I : Imm) (v : Value) (T' : Tr Obj) (n' : Nat) (u : Value) (I' : Imm) (h' : List Chunk) : Prop :=
  I' = I ∧ ∃ β', Bm.ext n β β' ∧ Rn β' v u ∧ HR β' T' h' ∧ β'.fresh n'
def RecOK (P : Program) (tab : XTab) (rec : XFn → List Value → Tr Obj → Nat → XRes) : Prop :=
  ∀ g F args T n v T' n', tab.get g = some F → args.length ≤ F.ntmps → F.ntmps + 2 ≤ 16384 → rec F args T n = some (v, T', n') → ∀ (β : Bm) args' I h, RnL β args args' → HR β T h → β.fresh n →
    Spec P g args' I h (RecQ β n I v T' n')

theorem OpStep.mono {P : Program} {I : Imm} {h : List Chunk} {env : Env} {op : IOp} {N N' : Value → Imm → List Chunk → Prop} (s : OpStep P I h env op N) (hn : ∀ v I' h', N v I' h' → N' v I' h') : OpStep P I h env op N' :=
  fun o ρ w hi he hs => (s o ρ w hi he hs).mono fun v w' ⟨I', h', n, s'⟩ => ⟨I', h', hn _ _ _ n, s'⟩

section
variable {P : Program} {tab : XTab} {ext : XExt} {rec : XFn → List Value → Tr Obj → Nat → XRes} {I : Imm} {β : Bm} {E : Tr Value} {T T' : Tr Obj} {env : Env} {h F : List Chunk} {n n' : Nat} {v : Value} {op : IOp} {N : Value → Imm → List Chunk → Prop}

theorem step_sound (hext : ExtOK P ext) (hrec : RecOK P tab rec) (hE : ER β E env) (hT : HR β T h) (hf : β.fresh n) (e : stepX tab ext rec E T n op = some (v, T', n')) (K : Aft β n I T' n' v F N) : OpStep P I (h ++ F) env op N := by
  unfold stepX at e
  split at e
  · split at e
    · rename_i g a b vs hfo has
      obtain ⟨u, hu, hr⟩ := hE.ev _ _ hfo
      obtain ⟨vs', hvs, hrl⟩ := evList_rel hE.ev _ _ has
      cases hr with
      | @func _ al al' bl bl' h1 h2 =>
      have hargs := (h1.append hrl).append h2
      split at e
      · rename_i Fn hFn
        replace e := cond_some e
        obtain ⟨hc, e⟩ := e
        simp only [Bool.and_eq_true] at hc
        have s := hrec g Fn _ T n v T' n' hFn (Nat.le_of_ble_eq_true hc.1) (Nat.le_of_ble_eq_true hc.2) e β (al' ++ vs' ++ bl') I h hargs hT hf
        refine o_calls hu hvs (fun _ _ s => s) s fun u I' h' hle ⟨hI, β', g1, g2, g3, g4⟩ => ?_
        rw [hI]
        exact K β' u h' g1 g2 (fun _ => g3) g4
      · replace e := cond_some e
        obtain ⟨hc, e⟩ := e
        simp only [Bool.and_eq_true, List.isEmpty_iff] at hc
        obtain ⟨ha, hb⟩ := hc
        split at e
        · rename_i v0 hv
          simp only [Option.some.injEq, Prod.mk.injEq] at e
          obtain ⟨rfl, rfl, rfl⟩ := e
          have ha : al = [] := ha
          have hb : bl = [] := hb
          subst ha; subst hb
          cases h1; cases h2
          obtain ⟨u, g1, g2⟩ := hext _ _ _ _ hv β vs' I h hrl hT
          refine o_xcall hu hvs (fun _ _ s => s) g2 fun u' I' h' hle ⟨q1, q2, q3⟩ => ?_
          subst q1; subst q2; subst q3
          exact K β _ _ (Bm.ext_refl _ _) g1 (fun _ => hT) hf
        · cases e
    · cases e
  · split at e
    · rename_i v0 hv
      simp only [Option.some.injEq, Prod.mk.injEq] at e
      obtain ⟨rfl, rfl, rfl⟩ := e
      obtain ⟨u, g1, g2⟩ := rd_sound (P := P) (I := I) (F := F) hE hT hv
      exact o_read g1 (K β u h (Bm.ext_refl _ _) g2 (fun _ => hT) hf)
    · split at e
      · rename_i v0 d n0 hv
        simp only [Option.some.injEq, Prod.mk.injEq] at e
        obtain ⟨rfl, rfl, rfl⟩ := e
        exact ef_sound hE hT hf hv K
      · cases e
end
end Go.Sx
