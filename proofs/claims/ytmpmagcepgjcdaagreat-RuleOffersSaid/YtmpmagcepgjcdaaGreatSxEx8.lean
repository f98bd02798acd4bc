/- A part of an engine of our own (the code is compiled to a smaller language, whose steps are proved right), nothing is claimed here: the closed machine is right: a region whose order is open -/
import Derived.Test.YtmpmagcepgjcdaaGreatSxEx7
set_option linter.all false
/-! the closed machine is right: a region whose order is open -/
namespace Go.Sx

def ancOf (ps : List (List Nat × In)) (e : Nat) : List Nat := ((ps[e]?).map (·.1)).getD []
def stAt (c : Ch) (cs : List Ch) : Nat → Option Ch
  | 0 => some c
  | j + 1 => cs[j]?

inductive OpK (tab : XTab) (ext : XExt) (rec : XFn → List Value → Tr Obj → Nat → XRes) (Eb : Tr Value) (n0 : Nat) (ps : List (List Nat × In)) (g : RG) (i : Nat) (anc : List Nat) (x : In) : Prop where
  | no : gstX (envAt Eb anc g.vals) x.guard = some false → i ∉ g.es → (∀ o, (i, o) ∉ g.al) → (i, x.dst, undef) ∈ g.vals → OpK tab ext rec Eb n0 ps g i anc x
  | al {v o} : gstX (envAt Eb anc g.vals) x.guard = some true → i ∉ g.es → alX (envAt Eb anc g.vals) (n0 + i) x.op = some (v, o) → (i, o) ∈ g.al → (i, x.dst, v) ∈ g.vals → OpK tab ext rec Eb n0 ps g i anc x
  | rd {v} : gstX (envAt Eb anc g.vals) x.guard = some true → i ∉ g.es → (∀ o, (i, o) ∉ g.al) → (i, x.dst, v) ∈ g.vals → (i, anc, envAt Eb anc g.vals, x.op, v) ∈ g.rd →
      (∀ j c, stAt g.c g.cs j = some c → (∀ e ∈ g.es.take j, e ∉ anc) → (∀ e ∈ g.es.drop j, i ∉ ancOf ps e) → rdX (envAt Eb anc g.vals) (mergeAt n0 c.S anc c.mg g.al) x.op = some v) → OpK tab ext rec Eb n0 ps g i anc x
  | ef {v j c c'} : gstX (envAt Eb anc g.vals) x.guard = some true → (∀ o, (i, o) ∉ g.al) → g.es[j]? = some i → (∀ e, g.es[j + 1]? = some e → e ∈ anc) → stAt g.c g.cs j = some c' → stAt g.c g.cs (j + 1) = some c → c'.mg = mgNew anc c.mg g.al → (i, x.dst, v) ∈ g.vals →
      stepX tab ext rec (envAt Eb anc g.vals) (mergeAt n0 c.S anc c.mg g.al) c.n x.op = some (v, c'.S, c'.n) → OpK tab ext rec Eb n0 ps g i anc x

structure RF (tab : XTab) (ext : XExt) (rec : XFn → List Value → Tr Obj → Nat → XRes) (Eb : Tr Value) (n0 : Nat) (c0 : Ch) (ps : List (List Nat × In)) (g : RG) : Prop where
  len : g.es.length = g.cs.length
  nodup : g.es.Nodup
  first : stAt g.c g.cs g.es.length = some c0
  nle : ∀ j c, stAt g.c g.cs j = some c → c0.n ≤ c.n
  esl : ∀ e ∈ g.es, e < ps.length
  all : (g.al.map (·.1)).Nodup
  alt : ∀ j o, (j, o) ∈ g.al → j < ps.length
  vlt : ∀ j d v, (j, d, v) ∈ g.vals → j < ps.length ∧ slotOK d = true ∧ ∃ a x, ps[j]? = some (a, x) ∧ d = x.dst
  vals : (g.vals.map (·.1)).Nodup
  anc : ∀ (i : Nat) (a : List Nat) (x : In), ps[i]? = some (a, x) → ∀ j ∈ a, j < i
  op : ∀ (i : Nat) (a : List Nat) (x : In), ps[i]? = some (a, x) → OpK tab ext rec Eb n0 ps g i a x

theorem envAt_new {Eb : Tr Value} {anc : List Nat} {i : Nat} {d : Option Nat} {v : Value} {vals : List (Nat × Option Nat × Value)} (h : i ∉ anc) : envAt Eb anc ((i, d, v) :: vals) = envAt Eb anc vals := by
  have : memN i anc = false := by
    cases e : memN i anc with
    | false => rfl
    | true => exact absurd (memN_iff.1 e) h
  simp [envAt, this]
theorem mergeAt_new {n0 i : Nat} {S : Tr Obj} {anc mg : List Nat} {o : Obj} {al : List (Nat × Obj)} (h : i ∉ anc) : mergeAt n0 S anc mg ((i, o) :: al) = mergeAt n0 S anc mg al := by
  have : memN i anc = false := by
    cases e : memN i anc with
    | false => rfl
    | true => exact absurd (memN_iff.1 e) h
  simp [mergeAt, this]
theorem mgNew_new {i : Nat} {anc mg : List Nat} {o : Obj} {al : List (Nat × Obj)} (h : i ∉ anc) : mgNew anc mg ((i, o) :: al) = mgNew anc mg al := by
  have : memN i anc = false := by
    cases e : memN i anc with
    | false => rfl
    | true => exact absurd (memN_iff.1 e) h
  simp [mgNew, this]
theorem allLt_spec {i : Nat} : ∀ {l : List Nat}, allLt i l = true → ∀ a ∈ l, a < i
  | [], _, a, h => by cases h
  | b :: l, h, a, ha => by
    simp only [allLt, Bool.and_eq_true] at h
    rcases List.mem_cons.1 ha with rfl | ha
    · exact Nat.le_of_ble_eq_true h.1
    · exact allLt_spec h.2 a ha

section
variable {tab : XTab} {ext : XExt} {rec : XFn → List Value → Tr Obj → Nat → XRes} {Eb : Tr Value} {n0 : Nat} {c0 : Ch} {ps : List (List Nat × In)} {g g' : RG} {anc : List Nat} {x : In}

theorem getElem?_snoc {α : Type} {l : List α} {y z : α} {i : Nat} (h : (l ++ [y])[i]? = some z) : l[i]? = some z ∨ (i = l.length ∧ z = y) := by
  rcases Nat.lt_or_ge i l.length with hl | hl
  · rw [List.getElem?_append_left hl] at h; exact .inl h
  · rw [List.getElem?_append_right hl] at h
    cases hk : i - l.length with
    | zero => rw [hk] at h; simp at h; exact .inr ⟨by omega, h.symm⟩
    | succ k => rw [hk] at h; simp at h

theorem ancOf_snoc {e : Nat} (h : e < ps.length) (y : List Nat × In) : ancOf (ps ++ [y]) e = ancOf ps e := by
  unfold ancOf; rw [List.getElem?_append_left h]

theorem rdSame_spec {E : Tr Value} {al : List (Nat × Obj)} {op : IOp} {v : Value} : ∀ {es : List Nat} {cs : List Ch}, rdSame E n0 al anc op v es cs = true → ∀ (j : Nat) (e : Nat) (c : Ch), es[j]? = some e → cs[j]? = some c → e ∉ anc → rdX E (mergeAt n0 c.S anc c.mg al) op = some v
  | [], _, _, j, e, c, h1, _, _ => by simp at h1
  | _ :: _, [], _, j, e, c, _, h2, _ => by simp at h2
  | e0 :: es, c0 :: cs, h, j, e, c, h1, h2, h3 => by
    simp only [rdSame, Bool.and_eq_true, Bool.or_eq_true] at h
    cases j with
    | zero =>
      simp at h1 h2; subst h1; subst h2
      rcases h.1 with h | h
      · exact absurd (memN_iff.1 h) h3
      · split at h
        · rename_i v' hv; rw [hv, valEq_eq h]
        · cases h
    | succ j => exact rdSame_spec h.2 j e c (by simpa using h1) (by simpa using h2) h3
theorem rdsSame_spec {al : List (Nat × Obj)} {c : Ch} : ∀ {l : List (Nat × List Nat × Tr Value × IOp × Value)}, rdsSame n0 al anc c l = true → ∀ r ar Er op v, (r, ar, Er, op, v) ∈ l → r ∉ anc → rdX Er (mergeAt n0 c.S ar c.mg al) op = some v
  | [], _, _, _, _, _, _, h, _ => by cases h
  | (r0, ar0, Er0, op0, v0) :: l, h, r, ar, Er, op, v, hm, hn => by
    simp only [rdsSame, Bool.and_eq_true, Bool.or_eq_true] at h
    rcases List.mem_cons.1 hm with e | hm
    · cases e
      rcases h.1 with h | h
      · exact absurd (memN_iff.1 h) hn
      · split at h
        · rename_i v' hv; rw [hv, valEq_eq h]
        · cases h
    · exact rdsSame_spec h.2 r ar Er op v hm hn

/-- what was known of the others stays so -/
theorem OpK.keep {i : Nat} {a : List Nat} {y : In} {v0 : Value} {al' : List (Nat × Obj)} {rd' : List (Nat × List Nat × Tr Value × IOp × Value)} (hR : RF tab ext rec Eb n0 c0 ps g) (hp : ps[i]? = some (a, y)) 
    (hal : al' = g.al ∨ ∃ o, al' = (ps.length, o) :: g.al) (hrd : ∀ z ∈ g.rd, z ∈ rd') (k : OpK tab ext rec Eb n0 ps g i a y) :
    OpK tab ext rec Eb n0 (ps ++ [(anc, x)]) { g with vals := (ps.length, x.dst, v0) :: g.vals, al := al', rd := rd' } i a y := by
  have hi : i < ps.length := (List.getElem?_eq_some_iff.1 hp).1
  have hna : ps.length ∉ a := fun h => by have := hR.anc i a y hp _ h; omega
  have he : envAt Eb a ((ps.length, x.dst, v0) :: g.vals) = envAt Eb a g.vals := envAt_new hna
  have hm : ∀ S mg, mergeAt n0 S a mg al' = mergeAt n0 S a mg g.al := by
    intro S mg; rcases hal with rfl | ⟨o, rfl⟩
    · rfl
    · exact mergeAt_new hna
  have hmg : ∀ mg, mgNew a mg al' = mgNew a mg g.al := by
    intro mg; rcases hal with rfl | ⟨o, rfl⟩
    · rfl
    · exact mgNew_new hna
  have hin : ∀ {o}, (i, o) ∈ g.al → (i, o) ∈ al' := by
    intro o h; rcases hal with rfl | ⟨o, rfl⟩
    · exact h
    · exact List.mem_cons_of_mem _ h
  have hnin : (∀ o, (i, o) ∉ g.al) → ∀ o, (i, o) ∉ al' := by
    intro h o h'; rcases hal with rfl | ⟨o', rfl⟩
    · exact h o h'
    · rcases List.mem_cons.1 h' with e | h'
      · cases e; omega
      · exact h o h'
  cases k with
  | no h1 h2 h3 h4 => exact .no (by rw [← he] at h1; exact h1) h2 (hnin h3) (List.mem_cons_of_mem _ h4)
  | al h1 h2 h3 h4 h5 => exact .al (by rw [← he] at h1; exact h1) h2 (by rw [← he] at h3; exact h3) (hin h4) (List.mem_cons_of_mem _ h5)
  | rd h1 h2 h3 h4 h5 h6 =>
    refine .rd (by rw [← he] at h1; exact h1) h2 (hnin h3) (List.mem_cons_of_mem _ h4) (by rw [← he] at h5; exact hrd _ h5) (fun j c hj ht hd => ?_)
    have := h6 j c hj ht (fun e hee => by rw [← ancOf_snoc (hR.esl e (List.mem_of_mem_drop hee)) (anc, x)]; exact hd e hee)
    show rdX (envAt Eb a ((ps.length, x.dst, v0) :: g.vals)) (mergeAt n0 c.S a c.mg al') y.op = _
    rw [he, hm]; exact this
  | ef h1 h2 h3 h4 h5 h6 h7 h8 h9 =>
    refine .ef (by rw [← he] at h1; exact h1) (hnin h2) h3 h4 h5 h6 (by rw [h7]; exact (hmg _).symm) (List.mem_cons_of_mem _ h8) ?_
    show stepX tab ext rec (envAt Eb a ((ps.length, x.dst, v0) :: g.vals)) (mergeAt n0 _ a _ al') _ y.op = _
    rw [he, hm]; exact h9

theorem stAt_cons {c c' : Ch} {cs : List Ch} {j : Nat} : stAt c' (c :: cs) (j + 1) = stAt c cs j := by cases j <;> simp [stAt]

theorem OpK.keepE {i : Nat} {a : List Nat} {y : In} {v0 : Value} {c' : Ch} (hR : RF tab ext rec Eb n0 c0 ps g) (hp : ps[i]? = some (a, y)) (hs : rdsSame n0 g.al anc c' g.rd = true)
    (k : OpK tab ext rec Eb n0 ps g i a y) : OpK tab ext rec Eb n0 (ps ++ [(anc, x)]) { g with vals := (ps.length, x.dst, v0) :: g.vals, es := ps.length :: g.es, c := c', cs := g.c :: g.cs } i a y := by
  have hi : i < ps.length := (List.getElem?_eq_some_iff.1 hp).1
  have hna : ps.length ∉ a := fun h => by have := hR.anc i a y hp _ h; omega
  have he : envAt Eb a ((ps.length, x.dst, v0) :: g.vals) = envAt Eb a g.vals := envAt_new hna
  have hne : i ∉ g.es → i ∉ ps.length :: g.es := fun h h' => by
    rcases List.mem_cons.1 h' with e | h'
    · omega
    · exact h h'
  cases k with
  | no h1 h2 h3 h4 => exact .no (by rw [← he] at h1; exact h1) (hne h2) h3 (List.mem_cons_of_mem _ h4)
  | al h1 h2 h3 h4 h5 => exact .al (by rw [← he] at h1; exact h1) (hne h2) (by rw [← he] at h3; exact h3) h4 (List.mem_cons_of_mem _ h5)
  | rd h1 h2 h3 h4 h5 h6 =>
    refine .rd (by rw [← he] at h1; exact h1) (hne h2) h3 (List.mem_cons_of_mem _ h4) (by rw [← he] at h5; exact h5) (fun j c hj ht hd => ?_)
    show rdX (envAt Eb a ((ps.length, x.dst, v0) :: g.vals)) (mergeAt n0 c.S a c.mg g.al) y.op = _
    rw [he]
    cases j with
    | zero =>
      simp only [stAt, Option.some.injEq] at hj; subst hj
      refine rdsSame_spec hs _ _ _ _ _ h5 ?_
      have := hd ps.length (by simp)
      unfold ancOf at this
      simpa using this
    | succ j =>
      rw [stAt_cons] at hj
      exact h6 j c hj (fun e hee => ht e (by simp [hee])) (fun e hee => by
        have hee' : e ∈ g.es.drop j := hee
        rw [← ancOf_snoc (hR.esl e (List.mem_of_mem_drop hee')) (anc, x)]; exact hd e (by simpa using hee'))
  | @ef v j c c'' h1 h2 h3 h4 h5 h6 h7 h8 h9 =>
    refine .ef (j := j + 1) (by rw [← he] at h1; exact h1) h2 (by simpa using h3) (fun e h => h4 e (by simpa using h)) (by rw [stAt_cons]; exact h5) (by rw [stAt_cons]; exact h6) h7 (List.mem_cons_of_mem _ h8) ?_
    show stepX tab ext rec (envAt Eb a ((ps.length, x.dst, v0) :: g.vals)) (mergeAt n0 _ a _ g.al) _ y.op = _
    rw [he]; exact h9

theorem RF.step (hR : RF tab ext rec Eb n0 c0 ps g) (hlt : allLt ps.length anc = true) (hd : slotOK x.dst = true) (hs : rgStep tab ext rec Eb n0 ps.length anc x g = some g') : RF tab ext rec Eb n0 c0 (ps ++ [(anc, x)]) g' := by
  have hanc := allLt_spec hlt
  have hna : ps.length ∉ anc := fun h => by have := hanc _ h; omega
  have hnv : ps.length ∉ g.vals.map (·.1) := by
    intro h
    obtain ⟨⟨j, d, v⟩, h1, h2⟩ := List.mem_map.1 h
    have := (hR.vlt _ _ _ h1).1
    simp only at h2; omega
  have hnes : ps.length ∉ g.es := fun h => by have := hR.esl _ h; omega
  have hnal : ∀ o, (ps.length, o) ∉ g.al := fun o h => by have := hR.alt _ _ h; omega
  have base : ∀ (v : Value) (al' : List (Nat × Obj)) (rd' : List (Nat × List Nat × Tr Value × IOp × Value)), (al' = g.al ∨ ∃ o, al' = (ps.length, o) :: g.al) → (∀ z ∈ g.rd, z ∈ rd') →
      OpK tab ext rec Eb n0 (ps ++ [(anc, x)]) { g with vals := (ps.length, x.dst, v) :: g.vals, al := al', rd := rd' } ps.length anc x →
      RF tab ext rec Eb n0 c0 (ps ++ [(anc, x)]) { g with vals := (ps.length, x.dst, v) :: g.vals, al := al', rd := rd' } := by
    intro v al' rd' hal hrd hk
    refine ⟨hR.len, hR.nodup, hR.first, hR.nle, fun e he => by have := hR.esl e he; simp; omega, ?_, ?_, ?_, ?_, ?_, ?_⟩
    · rcases hal with rfl | ⟨o, rfl⟩
      · exact hR.all
      · simp only [List.map_cons, List.nodup_cons]
        refine ⟨fun h => ?_, hR.all⟩
        obtain ⟨⟨j, o'⟩, h1, h2⟩ := List.mem_map.1 h
        simp only at h2; subst h2
        exact hnal _ h1
    · intro j o h
      rcases hal with rfl | ⟨o', rfl⟩
      · have := hR.alt j o h; simp; omega
      · rcases List.mem_cons.1 h with e | h
        · cases e; simp
        · have := hR.alt j o h; simp; omega
    · intro j d v' h
      rcases List.mem_cons.1 h with e | h
      · cases e; exact ⟨by simp, hd, anc, x, by simp, rfl⟩
      · obtain ⟨h1, h2, a, y, h3, h4⟩ := hR.vlt j d v' h
        exact ⟨by simp; omega, h2, a, y, by rw [List.getElem?_append_left h1]; exact h3, h4⟩
    · simp only [List.map_cons, List.nodup_cons]; exact ⟨hnv, hR.vals⟩
    · intro i a y h j hj
      rcases getElem?_snoc h with h | ⟨rfl, e⟩
      · exact hR.anc i a y h j hj
      · cases e; exact hanc j hj
    · intro i a y h
      rcases getElem?_snoc h with h | ⟨rfl, e⟩
      · exact (hR.op i a y h).keep hR h hal hrd
      · cases e; exact hk
  have hev : ∀ v, envAt Eb anc ((ps.length, x.dst, v) :: g.vals) = envAt Eb anc g.vals := fun v => envAt_new hna
  have hgo : rgStep.go tab ext rec n0 ps.length x (envAt Eb anc g.vals) anc g = some g' → gstX (envAt Eb anc g.vals) x.guard = some true → (∀ e, g.es[0]? = some e → e ∈ anc) → RF tab ext rec Eb n0 c0 (ps ++ [(anc, x)]) g' := by
    intro hs hg hchain
    unfold rgStep.go at hs
    split at hs
    · rename_i v S n hst
      replace hs := cond_some hs
      obtain ⟨hsame, hs⟩ := hs
      simp only [Option.some.injEq] at hs; subst hs
      simp only [Bool.and_eq_true] at hsame
      obtain ⟨hsame, hnn⟩ := hsame
      refine ⟨by simp [hR.len], ?_, ?_, ?_, ?_, hR.all, ?_, ?_, ?_, ?_, ?_⟩
      · simp only [List.nodup_cons]; exact ⟨hnes, hR.nodup⟩
      · simp only [List.length_cons]; rw [stAt_cons]; exact hR.first
      · intro j c hj
        cases j with
        | zero => simp only [stAt, Option.some.injEq] at hj; subst hj; exact Nat.le_trans (hR.nle 0 _ rfl) (Nat.le_of_ble_eq_true hnn)
        | succ j => rw [stAt_cons] at hj; exact hR.nle j c hj
      · intro e he
        rcases List.mem_cons.1 he with rfl | he
        · simp
        · have := hR.esl e he; simp; omega
      · intro j o h; have := hR.alt j o h; simp; omega
      · intro j d v' h
        rcases List.mem_cons.1 h with e | h
        · cases e; exact ⟨by simp, hd, anc, x, by simp, rfl⟩
        · obtain ⟨h1, h2, a, y, h3, h4⟩ := hR.vlt j d v' h
          exact ⟨by simp; omega, h2, a, y, by rw [List.getElem?_append_left h1]; exact h3, h4⟩
      · simp only [List.map_cons, List.nodup_cons]; exact ⟨hnv, hR.vals⟩
      · intro i a y h j hj
        rcases getElem?_snoc h with h | ⟨rfl, e⟩
        · exact hR.anc i a y h j hj
        · cases e; exact hanc j hj
      · intro i a y h
        rcases getElem?_snoc h with h | ⟨rfl, e⟩
        · exact (hR.op i a y h).keepE hR h hsame
        · cases e
          refine .ef (j := 0) (c := g.c) (c' := ⟨S, n, mgNew anc g.c.mg g.al⟩) (by show gstX (envAt Eb anc (_ :: g.vals)) _ = _; rw [hev]; exact hg) hnal rfl (fun e h => hchain e (by simpa using h)) rfl rfl rfl List.mem_cons_self ?_
          show stepX tab ext rec (envAt Eb anc (_ :: g.vals)) (mergeAt n0 g.c.S anc g.c.mg g.al) g.c.n x.op = _
          rw [hev]; exact hst
    · cases hs
  unfold rgStep at hs
  simp only at hs
  split at hs
  · cases hs
  · rename_i hg
    simp only [Option.some.injEq] at hs; subst hs
    refine base undef g.al g.rd (.inl rfl) (fun _ h => h) (.no ?_ hnes hnal List.mem_cons_self)
    show gstX (envAt Eb anc (_ :: g.vals)) _ = _
    rw [hev]; exact hg
  · rename_i hg
    split at hs
    · rename_i v o hal
      simp only [Option.some.injEq] at hs; subst hs
      refine base v ((ps.length, o) :: g.al) g.rd (.inr ⟨o, rfl⟩) (fun _ h => h) (.al ?_ hnes ?_ List.mem_cons_self List.mem_cons_self)
      · show gstX (envAt Eb anc (_ :: g.vals)) _ = _
        rw [hev]; exact hg
      · show alX (envAt Eb anc (_ :: g.vals)) _ _ = _
        rw [hev]; exact hal
    · split at hs
      · rename_i v hv
        replace hs := cond_some hs
        obtain ⟨hsame, hs⟩ := hs
        simp only [Option.some.injEq] at hs; subst hs
        refine base v g.al ((ps.length, anc, envAt Eb anc g.vals, x.op, v) :: g.rd) (.inl rfl) (fun _ h => List.mem_cons_of_mem _ h) (.rd ?_ hnes hnal List.mem_cons_self ?_ ?_)
        · show gstX (envAt Eb anc (_ :: g.vals)) _ = _
          rw [hev]; exact hg
        · show (_, _, envAt Eb anc (_ :: g.vals), _, _) ∈ _
          rw [hev]; exact List.mem_cons_self
        · intro j c hj ht hdd
          show rdX (envAt Eb anc (_ :: g.vals)) (mergeAt n0 c.S anc c.mg g.al) x.op = _
          rw [hev]
          cases j with
          | zero => simp only [stAt, Option.some.injEq] at hj; subst hj; exact hv
          | succ j =>
            have hlt : j < g.es.length := by
              rw [hR.len]; exact (List.getElem?_eq_some_iff.1 hj).1
            refine rdSame_spec hsame j g.es[j] c (by simp [hlt]) hj (ht _ ?_)
            show g.es[j] ∈ g.es.take (j + 1)
            rw [List.mem_take_iff_getElem]
            exact ⟨j, by omega, rfl⟩
      · split at hs
        · rename_i e es he
          replace hs := cond_some hs
          obtain ⟨hm, hs⟩ := hs
          exact hgo hs hg (fun e' h => by rw [he] at h; simp at h; subst h; exact memN_iff.1 hm)
        · rename_i he
          exact hgo hs hg (fun e' h => by rw [he] at h; simp at h)

theorem RF.run : ∀ {p ps : List (List Nat × In)} {g g' : RG}, RF tab ext rec Eb n0 c0 ps g → rgRun tab ext rec Eb n0 ps.length p g = some g' → RF tab ext rec Eb n0 c0 (ps ++ p) g'
  | [], ps, g, g', hR, h => by simp only [rgRun, Option.some.injEq] at h; subst h; simpa using hR
  | (anc, x) :: p, ps, g, g', hR, h => by
    simp only [rgRun] at h
    replace h := cond_some h
    obtain ⟨hc, h⟩ := h
    simp only [Bool.and_eq_true] at hc
    split at h
    · rename_i g1 hs
      have := RF.run (ps := ps ++ [(anc, x)]) (hR.step hc.1 hc.2 hs) (by simpa using h)
      simpa using this
    · cases h
theorem RF.init : RF tab ext rec Eb n0 c0 [] ⟨[], [], [], c0, [], []⟩ := by
  refine ⟨rfl, List.nodup_nil, rfl, ?_, ?_, List.nodup_nil, ?_, ?_, List.nodup_nil, ?_, ?_⟩
  · intro j c h; cases j with
    | zero => simp only [stAt, Option.some.injEq] at h; subst h; exact Nat.le_refl _
    | succ j => simp [stAt] at h
  · intro e h; cases h
  · intro j o h; cases h
  · intro j d v h; cases h
  · intro i a x h; simp at h
  · intro i a x h; simp at h
end
end Go.Sx
