/- A part of an engine of our own (the code is compiled to a smaller language, whose steps are proved right), nothing is claimed here: - a list, cell by cell -/
import Derived.Test.YtmpmagcepgjcdaaGreatSxDraw
set_option linter.all false
namespace Go.Sx

/-- a list, cell by cell -/
inductive NL : List Value → List Value → Prop where
  | nil {a} : a = [] → NL a []
  | cons {a v t t'} : a = v :: t → NL t t' → NL a (v :: t')
theorem NL.eq {a b : List Value} (h : NL a b) : a = b := by
  induction h with
  | nil h => exact h
  | cons h _ ih => rw [h, ih]

def cutL (cs : List Value) (off n : Nat) : Option (List Value) := bif Nat.ble (off + n) cs.length then some ((cs.drop off).take n) else none
theorem cutL_cutV {cs l : List Value} {off n : Nat} (h : cutL cs off n = some l) : cutV cs off (some n) = some (.agg l.toArray) := by
  unfold cutL at h
  cases hb : Nat.ble (off + n) cs.length with
  | false => simp [hb] at h
  | true =>
    simp only [hb, cond_true, Option.some.injEq] at h
    simp only [cutV, Nat.le_of_ble_eq_true hb, if_true, h]

section
variable {P : Program} {I : Imm} {env : Env} {h : List Chunk} {N : Value → Imm → List Chunk → Prop} {C : Cx} {K : List KI} {l : List In}

theorem r_build {z cs0 cs : List Value} {ps : List (Nat × Nat × Opd)} {l' : List (Nat × Nat × Value)} (hl : evParts (ev env) ps = some l') (hc : fillP z l' = some cs0) (hn : NL cs0 cs) : RV P I h env (.build z ps) (.agg cs.toArray) := by
  refine r_pure ?_
  simp only [pureV, hl, hc, Option.map_some, hn.eq]

theorem r_load_agg {n : Nat} {x : Opd} {b off : Nat} {c : Array Value} {e : TypeId} {fr : Nat × Nat} {l0 l : List Value} (hx : ev env x = some (.pointer (some ⟨b, off, none⟩)))
    (hb : Has b (.cells c e fr) h) (hc : cutL c.toList off n = some l0) (hn : NL l0 l) : RV P I h env (.load (some n) x) (.agg l.toArray) := by
  rw [← hn.eq]; exact r_load_own hx hb (cutL_cutV hc)

theorem r_load_agg_imm {n : Nat} {x : Opd} {b off : Nat} {c : Array Value} {e : TypeId} {fr : Nat × Nat} {l0 l : List Value} (hx : ev env x = some (.pointer (some ⟨b, off, none⟩)))
    (hb : I b = some (.cells c e fr)) (hc : cutL c.toList off n = some l0) (hn : NL l0 l) : RV P I h env (.load (some n) x) (.agg l.toArray) := by
  rw [← hn.eq]; exact r_load_imm hx hb (cutL_cutV hc)

theorem r_field_agg {off n : Nat} {x : Opd} {cs : Array Value} {l0 l : List Value} (hx : ev env x = some (.agg cs)) (hc : (cs.toList.drop off).take n = l0) (hn : NL l0 l) : RV P I h env (.field off (some n) x) (.agg l.toArray) := by
  refine r_pure ?_
  simp only [pureV, hx, partV, hc, hn.eq]

theorem o_bslice_n {e n : Nat} {z : List Value} {ps : List (Nat × Nat × Opd)} {l' : List (Nat × Nat × Value)} {cs0 cs : List Value} (hl : evParts (ev env) ps = some l') (hc : fillP z l' = some cs0) (hn : NL cs0 cs)
    (k : ∀ b, N (.slice (some ⟨b, 0, none⟩) n n) I ((b, .cells cs.toArray e (0, 0)) :: h)) : OpStep P I h env (.bslice e n z ps) N :=
  o_bslice hl (by rw [hc, hn.eq]) k

/-- a store of one cell -/
theorem o_store_cell {a x : Opd} {b off : Nat} {c : Array Value} {e : TypeId} {fr : Nat × Nat} {v : Value} {cs : List Value} {h' : List Chunk}
    (ha : ev env a = some (.pointer (some ⟨b, off, none⟩))) (hx : ev env x = some v) (hv : v.cells = #[v]) (h1 : v.oneCell' = true) (hb : Upd b (.cells c e fr) (.cells cs.toArray e fr) h h') (hfr : unfr fr c.size = true)
    (hle : Nat.ble (off + 1) c.size = true) (hcs : NL (putL c.toList off [v]) cs) (k : N undef I h') : OpStep P I h env (.store 1 a x) N :=
  o_store (vs := [v]) ha hx (by rw [hv]) rfl (by simp [h1]) hfr (Nat.le_of_ble_eq_true hle) hcs.eq hb k

/-- a store of an aggregate -/
theorem o_store_agg {n : Nat} {a x : Opd} {b off : Nat} {c d : Array Value} {e : TypeId} {fr : Nat × Nat} {cs : List Value} {h' : List Chunk}
    (ha : ev env a = some (.pointer (some ⟨b, off, none⟩))) (hx : ev env x = some (.agg d)) (hn : Nat.beq d.toList.length n = true) (hall : (d.toList.all (·.oneCell')) = true) (hb : Upd b (.cells c e fr) (.cells cs.toArray e fr) h h') (hfr : unfr fr c.size = true)
    (hle : Nat.ble (off + n) c.size = true) (hcs : NL (putL c.toList off d.toList) cs) (k : N undef I h') : OpStep P I h env (.store n a x) N :=
  o_store (vs := d.toList) ha hx rfl (Nat.eq_of_beq_eq_true hn) hall hfr (Nat.le_of_ble_eq_true hle) hcs.eq hb k

theorem RetV.agg {a n b off c e fr l0 l r vs} (h1 : look a env = some (.pointer (some ⟨b, off, none⟩))) (h2 : Has b (.cells c e fr) h) (h3 : cutL c.toList off n = some l0) (h4 : NL l0 l) (h5 : RetV I env h r vs) :
    RetV I env h (.cell a (some n) :: r) (.agg l.toArray :: vs) := by
  rw [← h4.eq]; exact .cell h1 h2 (cutL_cutV h3) h5

/-- a test whose outcome is known -/
theorem sg_cond_is (b : Bool) {o : Opd} {x y : IR} {t : Bool} (hc : ev env o = some (.bool t)) (ht : t = b) (g : SG C I env h (.ir (bif b then x else y) :: K)) : SG C I env h (.ir (.cond o x y) :: K) := by
  subst ht
  refine sg_cond hc (fun e => ?_) (fun e => ?_) <;> subst e <;> exact g
end
end Go.Sx
