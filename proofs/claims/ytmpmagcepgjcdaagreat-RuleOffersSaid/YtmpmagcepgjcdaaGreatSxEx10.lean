/- A part of an engine of our own (the code is compiled to a smaller language, whose steps are proved right), nothing is claimed here: - distinct places -/
import Derived.Test.YtmpmagcepgjcdaaGreatSxEx9
set_option linter.all false
namespace Go.Sx

section
variable {P : Program} {I : Imm} {β : Bm} {E : Tr Value} {env : Env} {h : List Chunk} {N : Value → Imm → List Chunk → Prop}

theorem gstX_rel (hE : ER β E env) {g : Option (Nat × Bool)} {b : Bool} (e : gstX E g = some b) : gst env g = some b := by
  unfold gstX at e
  split at e
  · exact e
  · rename_i d b'
    split at e
    · rename_i x hx
      obtain ⟨u, h1, h2⟩ := hE d _ hx
      cases h2
      simp only [gst, h1]; exact e
    · rename_i x hx
      obtain ⟨u, h1, h2⟩ := hE d _ hx
      cases h2
      simp only [gst, h1]; exact e
    · cases e

theorem al_sound {L : Nat} {op : IOp} {v : Value} {o : Obj} (hE : ER β E env) (e : alX E L op = some (v, o))
    (K : ∀ b o' u κ, Rn (β.put L b κ) v u → RnO β κ o o' → N u I ((b, o') :: h)) : OpStep P I h env op N := by
  unfold alX at e
  split at e
  · rename_i el z
    split at e
    · rename_i v0 L' o0 n' hef
      unfold efX at hef
      replace hef := cond_some hef
      obtain ⟨hc, hef⟩ := hef
      simp only [Bool.and_eq_true] at hc
      simp only [Option.some.injEq, Prod.mk.injEq, Dl.one.injEq] at hef
      obtain ⟨rfl, ⟨rfl, rfl⟩, rfl⟩ := hef
      replace e := cond_some e
      obtain ⟨_, e⟩ := e
      simp only [Option.some.injEq, Prod.mk.injEq] at e
      obtain ⟨rfl, rfl⟩ := e
      refine o_newv fun b => K b _ _ z.length (.ptr (Bm.put_self _ _ _ _)) ?_
      have := RnO.cells (β := β) (κ := z.length) (xs := z) (xs' := z) (sp := []) (e := el) (e' := el) (fr := (0, 0)) (fr' := (0, 0)) (cstL_rn hc.1) (by simp) (by simp [unfr])
      simpa using this
    · cases e
  · rename_i el x
    split at e
    · rename_i v0 L' o0 n' hef
      unfold efX at hef
      simp only at hef
      split at hef
      · rename_i v1 hx
        obtain ⟨u, hu, hr⟩ := hE.ev _ _ hx
        replace hef := cond_some hef
        obtain ⟨hc, hef⟩ := hef
        simp only [Option.some.injEq, Prod.mk.injEq, Dl.one.injEq] at hef
        obtain ⟨rfl, ⟨rfl, rfl⟩, rfl⟩ := hef
        replace e := cond_some e
        obtain ⟨_, e⟩ := e
        simp only [Option.some.injEq, Prod.mk.injEq] at e
        obtain ⟨rfl, rfl⟩ := e
        have hcl := hr.cells
        refine o_box hu rfl fun b => K b _ _ u.cells.toList.length (.ptr (Bm.put_self _ _ _ _)) ?_
        have := RnO.cells (β := β) (κ := u.cells.toList.length) (xs := v1.cells.toList) (xs' := u.cells.toList) (sp := []) (e := el) (e' := el) (fr := (0, 0)) (fr' := (0, 0)) hcl (by simp) (by simp [unfr])
        simpa using this
      · cases hef
    · cases e
  · rename_i el len z ps
    split at e
    · rename_i v0 L' o0 n' hef
      unfold efX at hef
      replace hef := cond_some hef
      obtain ⟨hc, hef⟩ := hef
      simp only [Bool.and_eq_true] at hc
      obtain ⟨⟨hz, hn⟩, hB⟩ := hc
      have hB : len < BIG := Nat.le_of_ble_eq_true hB
      split at hef
      · rename_i l hl
        split at hef
        · rename_i cs hcs
          simp only [Option.some.injEq, Prod.mk.injEq, Dl.one.injEq] at hef
          obtain ⟨rfl, ⟨rfl, rfl⟩, rfl⟩ := hef
          replace e := cond_some e
          obtain ⟨_, e⟩ := e
          simp only [Option.some.injEq, Prod.mk.injEq] at e
          obtain ⟨rfl, rfl⟩ := e
          obtain ⟨l', hl', H⟩ := evParts_rel hE.ev _ _ hl
          obtain ⟨cs', h1, h2⟩ := H _ _ _ (cstL_rn hz) hcs
          refine o_bslice hl' h1 fun b => K b _ _ cs'.length (.sl (Bm.put_self _ _ _ _) hB) ?_
          have := RnO.cells (β := β) (κ := cs'.length) (xs := cs) (xs' := cs') (sp := []) (e := el) (e' := el) (fr := (0, 0)) (fr' := (0, 0)) h2 (by simp) (by simp [unfr])
          simpa using this
        · cases hef
      · cases hef
    · cases e
  · split at e
    · rename_i v0 L' o0 n' hef
      unfold efX at hef
      replace hef := cond_some hef
      obtain ⟨hc, hef⟩ := hef
      simp only [Option.some.injEq, Prod.mk.injEq, Dl.one.injEq] at hef
      obtain ⟨rfl, ⟨rfl, rfl⟩, rfl⟩ := hef
      replace e := cond_some e
      obtain ⟨_, e⟩ := e
      simp only [Option.some.injEq, Prod.mk.injEq] at e
      obtain ⟨rfl, rfl⟩ := e
      exact o_mkMap fun b => K b _ _ 0 (.map (Bm.put_self _ _ _ _)) (.map .nil)
    · cases e
  · cases e
end

theorem addD_self (D : Nat → Bool) (i : Nat) : addD D i i = true := by simp [addD]
theorem addD_ne {D : Nat → Bool} {i k : Nat} (h : k ≠ i) : addD D i k = D k := by simp [addD, beq_f h]
theorem addD_of {D : Nat → Bool} {i k : Nat} (h : D k = true) : addD D i k = true := by unfold addD; cases Nat.beq k i <;> simp [h]

theorem mem_unique {α β : Type} : ∀ {l : List (α × β)}, (l.map (·.1)).Nodup → ∀ {k : α} {x y : β}, (k, x) ∈ l → (k, y) ∈ l → x = y
  | [], _, _, _, _, h, _ => by cases h
  | (a, b) :: l, hnd, k, x, y, h1, h2 => by
    simp only [List.map_cons, List.nodup_cons] at hnd
    rcases List.mem_cons.1 h1 with e1 | h1
    · cases e1
      rcases List.mem_cons.1 h2 with e2 | h2
      · cases e2; rfl
      · exact absurd (List.mem_map.2 ⟨_, h2, rfl⟩) hnd.1
    · rcases List.mem_cons.1 h2 with e2 | h2
      · cases e2; exact absurd (List.mem_map.2 ⟨_, h1, rfl⟩) hnd.1
      · exact mem_unique hnd.2 h1 h2

section
variable {tab : XTab} {ext : XExt} {rec : XFn → List Value → Tr Obj → Nat → XRes} {Eb : Tr Value} {n0 : Nat} {c0 : Ch} {p : List (List Nat × In)} {g : RG} {β0 : Bm} {I : Imm} {F : List Chunk} {ntmps : Nat}

/-- distinct places -/
def DstOK (p : List (List Nat × In)) : Prop := ∀ (k k' : Nat) (a a' : List Nat) (x x' : In) (d : Nat), p[k]? = some (a, x) → p[k']? = some (a', x') → x.dst = some d → x'.dst = some d → k = k'

theorem RInv.next (hRF : RF tab ext rec Eb n0 c0 p g) (hdst : DstOK p) (hEb : ∀ (k : Nat) (a : List Nat) (x : In) (d : Nat), p[k]? = some (a, x) → x.dst = some d → Eb.get d = none)
    {D : Nat → Bool} {tmps : Array Value} {w w' : World} {β β' : Bm} {env : Env} {hT hA hT' hA' : List Chunk} {j j' : Nat} {c c' : Ch} (R : RInv g p β0 Eb n0 I F ntmps D tmps w β env hT hA j c)
    {i : Nat} {a : List Nat} {x : In} {v u : Value} (hp : p[i]? = some (a, x)) (hd : ∀ d, x.dst = some d → d < ntmps) (hle : β ≤ β') (hv : (i, x.dst, v) ∈ g.vals) (hu : Rn β' v u)
    (sat : Sat I (hT' ++ (hA' ++ F)) w'.hx) (st : stAt g.c g.cs j' = some c') (jle : j' ≤ g.es.length) (todo : ∀ e ∈ g.es.take j', addD D i e = false) (done : ∀ e ∈ g.es.drop j', addD D i e = true ∧ ∀ a ∈ ancOf p e, addD D i a = true)
    (mg : ∀ k ∈ c'.mg, addD D i k = true) (ext' : Bm.ext n0 β0 β') (hr : HR β' c'.S hT') 
    (pend : ∀ k o, (k, o) ∈ g.al → addD D i k = true → k ∉ c'.mg → ∃ b κ o', β'.b (n0 + k) = some (b, κ) ∧ (b, o') ∈ hA' ∧ RnO β' κ o o')
    (inj : ∀ k o k' o' b κ κ', (k, o) ∈ g.al → (k', o') ∈ g.al → addD D i k = true → addD D i k' = true → k ∉ c'.mg → k' ∉ c'.mg → β'.b (n0 + k) = some (b, κ) → β'.b (n0 + k') = some (b, κ') → k = k')
    (fresh : β'.fresh c'.n) (free : ∀ k, k < p.length → addD D i k = false → β'.b (n0 + k) = none ∧ β'.a (n0 + k) = none) :
    RInv g p β0 Eb n0 I F ntmps (addD D i) (putT tmps x.dst u) w' β' (setE x.dst u env) hT' hA' j' c' := by
  refine ⟨by rw [putT_size]; exact R.size, R.agree.set (fun d e => by rw [R.size]; exact hd d e) u, sat, st, jle, todo, done, mg, ext', ?_, ?_, hr, pend, inj, fresh, free⟩
  · intro d v' e
    cases hx : x.dst with
    | none => exact (R.er.mono hle) d v' e
    | some d0 =>
      have : d0 ≠ d := by rintro rfl; rw [hEb i a x _ hp hx] at e; cases e
      obtain ⟨u', h1, h2⟩ := (R.er.mono hle) d v' e
      exact ⟨u', by simp [setE, look, beq_f this, h1], h2⟩
  · intro k d v' hk hkv
    obtain ⟨hkl, hsl, a', x', hpk, hdx⟩ := hRF.vlt k _ v' hkv
    by_cases hki : k = i
    · subst hki
      have := mem_unique hRF.vals hv hkv
      simp only [Prod.mk.injEq] at this
      obtain ⟨e1, e2⟩ := this
      subst e2
      exact ⟨u, by rw [e1]; simp [setE, look], hu⟩
    · rw [addD_ne hki] at hk
      obtain ⟨u', h1, h2⟩ := R.vals k d v' hk hkv
      refine ⟨u', ?_, h2.mono hle⟩
      cases hx : x.dst with
      | none => exact h1
      | some d0 =>
        have : d0 ≠ d := by rintro rfl; exact hki (hdst k i a' a x' x d0 hpk hp hdx.symm hx)
        simp [setE, look, beq_f this, h1]

theorem addD_false {D : Nat → Bool} {i k : Nat} (h : addD D i k = false) : k ≠ i ∧ D k = false := by
  unfold addD at h
  cases hb : Nat.beq k i with
  | true => rw [hb] at h; cases h
  | false => rw [hb] at h; exact ⟨Nat.ne_of_beq_eq_false hb, h⟩

open Classical in
theorem par_sound {P : Program} {ds : List Deferred} {ops : Array Oper} (hext : ExtOK P ext) (hrec : RecOK P tab rec) (hRF : RF tab ext rec Eb n0 c0 p g) (hc0 : c0.n = n0 + p.length) (hdst : DstOK p)
    (hblk : n0 + p.length + 2 ≤ 2 ^ BLOCKS) (hEb : ∀ (k : Nat) (a : List Nat) (x : In) (d : Nat), p[k]? = some (a, x) → x.dst = some d → Eb.get d = none)
    (hops : ∀ (i : Nat) (o : Oper), ops[i]? = some o → ∃ (a : List Nat) (x : In), p[i]? = some (a, x) ∧ inOf P ntmps ops o = some x) :
    ParStep P ds ops (fun i => ((p[i]?).map (·.1)).getD []) (fun D tmps w => ∃ β env hT hA j c, RInv g p β0 Eb n0 I F ntmps D tmps w β env hT hA j c) := by
  rintro D tmps w i o ho hDi hanc ⟨β, env, hT, hA, j, c, R⟩
  obtain ⟨a, x, hp, hin⟩ := hops i o ho
  have hil : i < p.length := (List.getElem?_eq_some_iff.1 hp).1
  obtain ⟨h1, h2, h3, h4⟩ := inOf_inv hin
  have hanc : ∀ k ∈ a, D k = true := by intro k hk; exact hanc k (by simp [hp, hk])
  have hEi : ER β (envAt Eb a g.vals) env := er_envAt R.er _ (fun k d v hkv hka => ⟨slotOK_le (hRF.vlt k _ v hkv).2.1, R.vals k d v (hanc k hka) hkv⟩)
  have hcn : n0 + p.length ≤ c.n := by rw [← hc0]; exact hRF.nle j c R.st
  have hkeep : i ∉ g.es → (∀ e ∈ g.es.take j, addD D i e = false) ∧ (∀ e ∈ g.es.drop j, addD D i e = true ∧ ∀ a ∈ ancOf p e, addD D i a = true) ∧ ∀ k ∈ c.mg, addD D i k = true := by
    intro hni
    refine ⟨fun e he => ?_, fun e he => ⟨addD_of (R.done e he).1, fun b hb => addD_of ((R.done e he).2 b hb)⟩, fun k hk => addD_of (R.mg k hk)⟩
    rw [addD_ne (by rintro rfl; exact hni (List.mem_of_mem_take he))]; exact R.todo e he
  have hsame : (∀ o, (i, o) ∉ g.al) → (∀ k o, (k, o) ∈ g.al → addD D i k = true → D k = true) := by
    intro hni k o hk hDk
    rwa [addD_ne (by rintro rfl; exact hni o hk)] at hDk
  have hfree : ∀ k, k < p.length → addD D i k = false → β.b (n0 + k) = none ∧ β.a (n0 + k) = none := fun k hk hDk => R.free k hk (addD_false hDk).2
  have quiet : ∀ {v u : Value}, i ∉ g.es → (∀ o, (i, o) ∉ g.al) → (i, x.dst, v) ∈ g.vals → Rn β v u → ∃ β env hT hA j c, RInv g p β0 Eb n0 I F ntmps (addD D i) (putT tmps o.dst u) w β env hT hA j c := by
    intro v u hne hnal hv hr
    obtain ⟨k1, k2, k3⟩ := hkeep hne
    have hs := hsame hnal
    rw [h2]
    exact ⟨β, _, hT, hA, j, c, R.next hRF hdst hEb hp h4 (Bm.le_refl _) hv hr R.sat R.st R.jle k1 k2 k3 R.ext R.hr (fun k o hk hDk => R.pend k o hk (hs k o hk hDk)) (fun k o k' o' b κ κ' hk hk' hDk hDk' => R.inj k o k' o' b κ κ' hk hk' (hs k o hk hDk) (hs k' o' hk' hDk')) R.fresh hfree⟩
  have hk := hRF.op i a x hp
  cases hk with
  | no g1 g2 g3 g4 =>
    rw [wanted_of R.agree h3 (gstX_rel hEi g1), if_neg (by simp)]
    exact quiet g2 g3 g4 (cst_rn rfl)
  | @rd v g1 g2 g3 g4 g5 g6 =>
    rw [wanted_of R.agree h3 (gstX_rel hEi g1), if_pos rfl]
    have hrd := g6 j c R.st (fun e he hea => by have := R.todo e he; rw [hanc e hea] at this; cases this) (fun e he hia => by have := (R.done e he).2 i hia; rw [hDi] at this; cases this)
    have hnd : ((hT ++ (hA ++ F)).map Prod.fst).Nodup := R.sat.nodup
    have hm : HR β (mergeAt n0 c.S a c.mg g.al) (hT ++ hA) := by
      refine (hr_merge R.hr (fun c h => List.mem_append_left _ h) g.al hRF.all (fun k o hk hka hkm => ⟨by have := hRF.alt k o hk; omega, ?_⟩) (fun k o k' o' b κ κ' hk hk' hka hka' hkm hkm' => R.inj k o k' o' b κ κ' hk hk' (hanc k hka) (hanc k' hka') hkm hkm')).1
      obtain ⟨b, κ, o', q1, q2, q3⟩ := R.pend k o hk (hanc k hka) hkm
      refine ⟨b, κ, o', q1, List.mem_append_right _ q2, q3, fun hmem => ?_⟩
      simp only [List.map_append] at hnd
      exact (List.nodup_append.1 hnd).2.2 b hmem b (List.mem_append_left _ (List.mem_map.2 ⟨_, q2, rfl⟩)) rfl
    obtain ⟨u, q1, q2⟩ := rd_sound (P := P) (I := I) (F := F) hEi hm hrd
    rw [q1 o _ w h1 R.agree.ev (by rw [List.append_assoc]; exact R.sat)]
    exact quiet g2 g3 g4 q2
  | @al v ob g1 g2 g3 g4 g5 =>
    rw [wanted_of R.agree h3 (gstX_rel hEi g1), if_pos rfl]
    have hfb := (R.free i hil hDi)
    refine ((al_sound (P := P) (I := I) (h := hT ++ (hA ++ F)) (N := fun u I' h' => I' = I ∧ ∃ b o' κ, h' = (b, o') :: (hT ++ (hA ++ F)) ∧ Rn (β.put (n0 + i) b κ) v u ∧ RnO β κ ob o') hEi g3 (fun b o' u κ q1 q2 => ⟨rfl, b, o', κ, rfl, q1, q2⟩)) o _ w h1 R.agree.ev R.sat).mono ?_
    rintro u w' ⟨I', h', ⟨rfl, b, o', κ, rfl, q1, q2⟩, hsat⟩
    have hle := Bm.le_put (b := b) (κ := κ) hfb.1
    obtain ⟨k1, k2, k3⟩ := hkeep g2
    have hnd := hsat.nodup
    simp only [List.map_cons, List.nodup_cons, List.map_append] at hnd
    have hbA : ∀ ch ∈ hA, ch.1 ≠ b := by
      rintro ch hch rfl
      exact hnd.1 (List.mem_append_right _ (List.mem_append_left _ (List.mem_map.2 ⟨_, hch, rfl⟩)))
    rw [h2]
    refine ⟨β.put (n0 + i) b κ, _, hT, (b, o') :: hA, j, c, R.next hRF hdst hEb hp h4 hle g5 q1 ?_ R.st R.jle k1 k2 k3 ?_ (R.hr.mono hle) ?_ ?_ ?_ ?_⟩
    · refine hsat.perm ?_
      exact List.perm_middle.symm
    · refine ⟨Bm.le_trans R.ext.1 hle, fun L hL => ?_⟩
      rw [Bm.put_ne (by omega)]
      exact R.ext.2 L hL
    · intro k ok hk hDk hkm
      by_cases hki : k = i
      · subst hki
        have := mem_unique hRF.all g4 hk
        subst this
        exact ⟨b, κ, o', Bm.put_self _ _ _ _, List.mem_cons_self, q2.mono hle⟩
      · rw [addD_ne hki] at hDk
        obtain ⟨b1, κ1, o1, r1, r2, r3⟩ := R.pend k ok hk hDk hkm
        exact ⟨b1, κ1, o1, by rw [Bm.put_ne (by omega)]; exact r1, List.mem_cons_of_mem _ r2, r3.mono hle⟩
    · intro k ok k' ok' b1 κ1 κ2 hk hk' hDk hDk' hkm hkm' e1 e2
      by_cases hki : k = i
      · subst hki
        by_cases hki' : k' = k
        · exact hki'.symm
        · exfalso
          rw [Bm.put_self] at e1; cases e1
          rw [Bm.put_ne (by omega)] at e2
          rw [addD_ne hki'] at hDk'
          obtain ⟨b2, κ2, o2, r1, r2, _⟩ := R.pend k' ok' hk' hDk' hkm'
          rw [e2] at r1; cases r1
          exact hbA _ r2 rfl
      · rw [Bm.put_ne (by omega)] at e1
        rw [addD_ne hki] at hDk
        by_cases hki' : k' = i
        · exfalso
          subst hki'
          rw [Bm.put_self] at e2; cases e2
          obtain ⟨b2, κ2, o2, r1, r2, _⟩ := R.pend k ok hk hDk hkm
          rw [e1] at r1; cases r1
          exact hbA _ r2 rfl
        · rw [Bm.put_ne (by omega)] at e2
          rw [addD_ne hki'] at hDk'
          exact R.inj k ok k' ok' b1 κ1 κ2 hk hk' hDk hDk' hkm hkm' e1 e2
    · intro L hL
      rw [Bm.put_ne (by omega)]
      exact R.fresh L hL
    · intro k hk hDk
      obtain ⟨hki, hDk⟩ := addD_false hDk
      rw [Bm.put_ne (by omega)]
      exact R.free k hk hDk
  | @ef v j0 cb ca g1 g2 g3 g4 g5 g6 g7 g8 g9 =>
    rw [wanted_of R.agree h3 (gstX_rel hEi g1), if_pos rfl]
    have hj0l : j0 < g.es.length := (List.getElem?_eq_some_iff.1 g3).1
    have hj1 : j0 < j := by
      rcases Nat.lt_or_ge j0 j with h | h
      · exact h
      · exfalso
        have : i ∈ g.es.drop j := by
          rw [List.mem_drop_iff_getElem]
          refine ⟨j0 - j, by omega, ?_⟩
          have := (List.getElem?_eq_some_iff.1 g3).2
          simp only [show j + (j0 - j) = j0 by omega]; exact this
        have := (R.done i this).1
        rw [hDi] at this; cases this
    have hj : j = j0 + 1 := by
      rcases Nat.lt_or_ge (j0 + 1) j with h | h
      · exfalso
        have hjl := R.jle
        have hlt : j0 + 1 < g.es.length := by omega
        have hea := g4 g.es[j0 + 1] (by simp [hlt])
        have htk : g.es[j0 + 1] ∈ g.es.take j := by
          rw [List.mem_take_iff_getElem]; exact ⟨j0 + 1, by omega, rfl⟩
        have := R.todo _ htk
        rw [hanc _ hea] at this; cases this
      · omega
    subst hj
    have hcc : c = cb := by have := R.st; rw [g6] at this; exact (Option.some.inj this).symm
    subst hcc
    -- the new blocks that are wanted
    let q : Chunk → Prop := fun ch => ∃ k ob κ, (k, ob) ∈ g.al ∧ k ∈ a ∧ k ∉ c.mg ∧ β.b (n0 + k) = some (ch.1, κ)
    have hperm : hA.Perm (hA.filter (fun ch => decide (q ch)) ++ hA.filter (fun ch => !decide (q ch))) := (List.filter_append_perm _ _).symm
    have hnd : ((hT ++ (hA ++ F)).map Prod.fst).Nodup := R.sat.nodup
    have hm : HR β (mergeAt n0 c.S a c.mg g.al) (hT ++ hA.filter (fun ch => decide (q ch))) := by
      refine (hr_merge R.hr (fun c h => List.mem_append_left _ h) g.al hRF.all (fun k ob hk hka hkm => ⟨by have := hRF.alt k ob hk; omega, ?_⟩) (fun k o k' o' b κ κ' hk hk' hka hka' hkm hkm' => R.inj k o k' o' b κ κ' hk hk' (hanc k hka) (hanc k' hka') hkm hkm')).1
      obtain ⟨b, κ, o', q1, q2, q3⟩ := R.pend k ob hk (hanc k hka) hkm
      refine ⟨b, κ, o', q1, List.mem_append_right _ (List.mem_filter.2 ⟨q2, by simpa using ⟨k, ob, κ, hk, hka, hkm, q1⟩⟩), q3, fun hmem => ?_⟩
      simp only [List.map_append] at hnd
      exact (List.nodup_append.1 hnd).2.2 b hmem b (List.mem_append_left _ (List.mem_map.2 ⟨_, q2, rfl⟩)) rfl
    have hweak : Weak (hT ++ (hA ++ F)) ((hT ++ hA.filter (fun ch => decide (q ch))) ++ (hA.filter (fun ch => !decide (q ch)) ++ F)) := by
      intro I H s
      refine s.perm ?_
      rw [List.append_assoc]
      refine List.Perm.append_left _ ?_
      rw [← List.append_assoc]
      exact List.Perm.append_right _ hperm
    have hop := (step_sound (N := fun u I' hh => I' = I ∧ ∃ β' h', hh = h' ++ (hA.filter (fun ch => !decide (q ch)) ++ F) ∧ Bm.ext c.n β β' ∧ Rn β' v u ∧ (((h' ++ (hA.filter (fun ch => !decide (q ch)) ++ F)).map Prod.fst).Nodup → HR β' ca.S h') ∧ β'.fresh ca.n)
      hext hrec hEi hm R.fresh g9 (fun β' u h' r1 r2 r3 r4 => ⟨rfl, β', h', rfl, r1, r2, r3, r4⟩)).weaken hweak
    refine (hop o _ w h1 R.agree.ev R.sat).mono ?_
    rintro u w' ⟨I', hh, ⟨rfl, β', h', rfl, r1, r2, r3, r4⟩, hsat⟩
    have hnes : (g.es.drop j0) = i :: g.es.drop (j0 + 1) := by
      rw [List.drop_eq_getElem_cons hj0l]
      congr 1
      exact (List.getElem?_eq_some_iff.1 g3).2
    have hi_take : i ∉ g.es.take j0 := by
      intro hmem
      have hnd2 := hRF.nodup
      rw [← List.take_append_drop j0 g.es, hnes] at hnd2
      exact (List.nodup_append.1 hnd2).2.2 i hmem i List.mem_cons_self rfl
    have hbsame : ∀ k, k < p.length → β'.b (n0 + k) = β.b (n0 + k) ∧ β'.a (n0 + k) = β.a (n0 + k) := fun k hk => r1.2 _ (by omega)
    have hal := hsame g2
    have hin : ∀ k ob, (k, ob) ∈ g.al → k ∉ ca.mg → k ∉ c.mg ∧ k ∉ a := by
      intro k ob hk hkm
      rw [g7, mgNew_mem] at hkm
      exact ⟨fun h => hkm (.inl h), fun h => hkm (.inr ⟨h, ob, hk⟩)⟩
    rw [h2]
    refine ⟨β', _, h', hA.filter (fun ch => !decide (q ch)), j0, ca, R.next hRF hdst hEb hp h4 r1.1 g8 r2 hsat g5 (by omega) ?_ ?_ ?_ (Bm.ext_trans R.ext r1 (by omega)) (r3 hsat.nodup) ?_ ?_ r4 ?_⟩
    · intro e he
      rw [addD_ne (by rintro rfl; exact hi_take he)]
      have htt : g.es.take j0 = (g.es.take (j0 + 1)).take j0 := by rw [List.take_take]; congr 1; omega
      rw [htt] at he
      exact R.todo e (List.mem_of_mem_take he)
    · intro e he
      rw [hnes] at he
      rcases List.mem_cons.1 he with rfl | he
      · refine ⟨addD_self _ _, fun b hb => addD_of (hanc b ?_)⟩
        unfold ancOf at hb; simpa [hp] using hb
      · exact ⟨addD_of (R.done e he).1, fun b hb => addD_of ((R.done e he).2 b hb)⟩
    · intro k hk
      rw [g7, mgNew_mem] at hk
      rcases hk with hk | ⟨hk, _⟩
      · exact addD_of (R.mg k hk)
      · exact addD_of (hanc k hk)
    · intro k ob hk hDk hkm
      obtain ⟨hkm1, hka⟩ := hin k ob hk hkm
      obtain ⟨b, κ, o', q1, q2, q3⟩ := R.pend k ob hk (hal k ob hk hDk) hkm1
      refine ⟨b, κ, o', by rw [(hbsame k (hRF.alt k ob hk)).1]; exact q1, List.mem_filter.2 ⟨q2, ?_⟩, q3.mono r1.1⟩
      simp only [Bool.not_eq_true', decide_eq_false_iff_not]
      rintro ⟨k', ob', κ', hk', hka', hkm', q1'⟩
      have := R.inj k ob k' ob' b κ κ' hk hk' (hal k ob hk hDk) (hanc k' hka') hkm1 hkm' q1 q1'
      subst this
      exact hka hka'
    · intro k ob k' ob' b κ κ' hk hk' hDk hDk' hkm hkm' e1 e2
      rw [(hbsame k (hRF.alt k ob hk)).1] at e1
      rw [(hbsame k' (hRF.alt k' ob' hk')).1] at e2
      exact R.inj k ob k' ob' b κ κ' hk hk' (hal k ob hk hDk) (hal k' ob' hk' hDk') (hin k ob hk hkm).1 (hin k' ob' hk' hkm').1 e1 e2
    · intro k hk hDk
      rw [(hbsame k hk).1, (hbsame k hk).2]
      exact hfree k hk hDk
end
end Go.Sx
