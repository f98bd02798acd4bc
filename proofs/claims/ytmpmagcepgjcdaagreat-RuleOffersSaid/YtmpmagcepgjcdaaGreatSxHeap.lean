/- A part of an engine of our own (the code is compiled to a smaller language, whose steps are proved right), nothing is claimed here: - blocks that stay as they are -/
import Derived.Test.YtmpmagcepgjcdaaGreatSxIR
set_option linter.all false
namespace Go.Sx

abbrev Chunk := Nat × Obj
/-- blocks that stay as they are -/
structure Imm where
  m : Nat → Option Obj
  os : Os
  out : Array (Nat × ByteArray)
instance : CoeFun Imm (fun _ => Nat → Option Obj) := ⟨Imm.m⟩
/-- a memory, and what of the world beside it must stay -/
structure HX where
  a : Array Obj
  os : Os
  out : Array (Nat × ByteArray)
abbrev _root_.Go.World.hx (w : World) : HX := ⟨w.heap, w.os, w.output⟩

structure Imm.le (I J : Imm) : Prop where
  f : ∀ b o, I b = some o → J b = some o
  os : I.os = J.os
  out : I.out = J.out
instance : LE Imm := ⟨Imm.le⟩
instance {I J : Imm} : CoeFun (I ≤ J) (fun _ => ∀ b o, I b = some o → J b = some o) := ⟨Imm.le.f⟩
theorem Imm.le_refl (I : Imm) : I ≤ I := ⟨fun _ _ h => h, rfl, rfl⟩
theorem Imm.le_trans {I J K : Imm} (h : I ≤ J) (h' : J ≤ K) : I ≤ K := ⟨fun b o e => h' b o (h b o e), h.os.trans h'.os, h.out.trans h'.out⟩
def Imm.add (I : Imm) (b : Nat) (o : Obj) : Imm := ⟨fun c => if c = b then some o else I c, I.os, I.out⟩

/-- the memory holds the blocks that stay, and besides these chunks -/
structure Sat (I : Imm) (h : List Chunk) (H : HX) : Prop where
  imm : ∀ b o, I b = some o → H.a[b]? = some o
  own : ∀ c ∈ h, H.a[c.1]? = some c.2 ∧ I c.1 = none
  nodup : (h.map Prod.fst).Nodup
  os : H.os = I.os
  out : H.out = I.out

inductive Has (b : Nat) (o : Obj) : List Chunk → Prop where
  | head {h} : Has b o ((b, o) :: h)
  | tail {c h} : Has b o h → Has b o (c :: h)

theorem Has.mem {b o h} (x : Has b o h) : (b, o) ∈ h := by
  induction x with
  | head => exact List.mem_cons_self
  | tail _ ih => exact List.mem_cons_of_mem _ ih

/-- one chunk's block gives way to another -/
inductive Upd (b : Nat) (o o' : Obj) : List Chunk → List Chunk → Prop where
  | head {h} : Upd b o o' ((b, o) :: h) ((b, o') :: h)
  | tail {c h h'} : Upd b o o' h h' → Upd b o o' (c :: h) (c :: h')

/-- one chunk is taken out -/
inductive Pick (c : Chunk) : List Chunk → List Chunk → Prop where
  | head {h} : Pick c (c :: h) h
  | tail {d h h'} : Pick c h h' → Pick c (d :: h) (d :: h')

theorem Pick.perm {c h h'} (x : Pick c h h') : h.Perm (c :: h') := by
  induction x with
  | head => exact List.Perm.refl _
  | tail _ ih => exact (List.Perm.cons _ ih).trans (List.Perm.swap _ _ _)

theorem Upd.has {b o o' h h'} (x : Upd b o o' h h') : Has b o h := by
  induction x with
  | head => exact .head
  | tail _ ih => exact .tail ih
theorem Upd.keys {b o o' h h'} (x : Upd b o o' h h') : h.map Prod.fst = h'.map Prod.fst := by
  induction x with
  | head => rfl
  | tail _ ih => simp [ih]

namespace Sat
variable {I : Imm} {h h' : List Chunk} {H : HX}

theorem get {b o} (s : Sat I h H) (x : Has b o h) : H.a[b]? = some o := (s.own _ x.mem).1

theorem perm (s : Sat I h H) (p : h.Perm h') : Sat I h' H :=
  ⟨s.imm, fun c hc => s.own c (p.mem_iff.2 hc), (p.map _).nodup_iff.1 s.nodup, s.os, s.out⟩

theorem sub (s : Sat I h H) (p : h'.Sublist h) : Sat I h' H :=
  ⟨s.imm, fun c hc => s.own c (p.subset hc), (p.map _).nodup s.nodup, s.os, s.out⟩

theorem pick {c} (s : Sat I h H) (x : Pick c h h') : Sat I (c :: h') H := s.perm x.perm
theorem drop {c} (s : Sat I (c :: h) H) : Sat I h H := s.sub (List.sublist_cons_self _ _)

theorem lt {b o} (s : Sat I h H) (x : Has b o h) : b < H.a.size := by
  have := s.get x
  rcases Nat.lt_or_ge b H.a.size with h | h
  · exact h
  · simp [Array.getElem?_eq_none h] at this

theorem upd {b o o'} (s : Sat I h H) (x : Upd b o o' h h') : Sat I h' ⟨H.a.setIfInBounds b o', H.os, H.out⟩ := by
  have hb := s.lt x.has
  have hI : I b = none := (s.own _ x.has.mem).2
  refine ⟨fun c p e => ?_, ?_, ?_, s.os, s.out⟩
  · have hc := s.imm c p e
    have hne : b ≠ c := by rintro rfl; rw [hI] at e; cases e
    show (H.a.setIfInBounds b o')[c]? = _; rw [Array.getElem?_setIfInBounds, if_neg hne]; exact hc
  · have hn := s.nodup
    have hown := s.own
    clear s
    induction x with
    | head =>
      intro c hc
      rcases List.mem_cons.1 hc with rfl | hm
      · exact ⟨by simp [hb], hI⟩
      · have := hown c (List.mem_cons_of_mem _ hm)
        have hne : b ≠ c.1 := by
          rintro rfl
          simp only [List.map_cons, List.nodup_cons] at hn
          exact hn.1 (List.mem_map_of_mem hm)
        exact ⟨by show (H.a.setIfInBounds b o')[c.1]? = _; rw [Array.getElem?_setIfInBounds, if_neg hne]; exact this.1, this.2⟩
    | @tail d h1 h2 x ih =>
      intro c hc
      rcases List.mem_cons.1 hc with rfl | hm
      · have := hown c List.mem_cons_self
        have hne : b ≠ c.1 := by
          rintro rfl
          simp only [List.map_cons, List.nodup_cons] at hn
          exact hn.1 (List.mem_map.2 ⟨(c.1, o), x.has.mem, rfl⟩)
        exact ⟨by show (H.a.setIfInBounds b o')[c.1]? = _; rw [Array.getElem?_setIfInBounds, if_neg hne]; exact this.1, this.2⟩
      · exact ih (by simp only [List.map_cons, List.nodup_cons] at hn; exact hn.2) (fun c hc => hown c (List.mem_cons_of_mem _ hc)) c hm
  · rw [← x.keys]; exact s.nodup

theorem fresh {b o} (s : Sat I h H) (hb : H.a.size ≤ b) : (b, o) ∉ h ∧ b ∉ h.map Prod.fst ∧ I b = none := by
  have key : ∀ o, (b, o) ∉ h := fun o hm => by
    have := (s.own _ hm).1
    rw [Array.getElem?_eq_none hb] at this; cases this
  refine ⟨key o, fun hm => ?_, ?_⟩
  · obtain ⟨⟨b', o'⟩, hm', he⟩ := List.mem_map.1 hm
    simp only at he; subst he
    exact key _ hm'
  · cases e : I b with
    | none => rfl
    | some o' => have := s.imm _ _ e; rw [Array.getElem?_eq_none hb] at this; cases this

theorem new (s : Sat I h H) (o : Obj) : Sat I ((H.a.size, o) :: h) ⟨H.a.push o, H.os, H.out⟩ := by
  obtain ⟨_, hk, hI⟩ := s.fresh (b := H.a.size) (o := o) (Nat.le_refl _)
  have old : ∀ (c : Nat) (p : Obj), H.a[c]? = some p → (H.a.push o)[c]? = some p := fun c p e => by
    have hc : c < H.a.size := by
      rcases Nat.lt_or_ge c H.a.size with h | h
      · exact h
      · rw [Array.getElem?_eq_none h] at e; cases e
    rw [Array.getElem?_push, if_neg (by omega)]; exact e
  refine ⟨fun c p e => old c p (s.imm c p e), fun c hc => ?_, ?_, s.os, s.out⟩
  · rcases List.mem_cons.1 hc with rfl | hm
    · exact ⟨by simp, hI⟩
    · exact ⟨old _ _ (s.own c hm).1, (s.own c hm).2⟩
  · simp only [List.map_cons, List.nodup_cons]; exact ⟨hk, s.nodup⟩

theorem freeze {b o} (s : Sat I ((b, o) :: h) H) : Sat (I.add b o) h H := by
  have hn := s.nodup
  simp only [List.map_cons, List.nodup_cons] at hn
  refine ⟨fun c p e => ?_, fun c hc => ?_, hn.2, s.os, s.out⟩
  · unfold Imm.add at e
    simp only at e
    split at e
    · rename_i hcb; subst hcb; cases e; exact (s.own _ List.mem_cons_self).1
    · exact s.imm _ _ e
  · have := s.own c (List.mem_cons_of_mem _ hc)
    refine ⟨this.1, ?_⟩
    show (if c.1 = b then some o else I c.1) = none
    rw [if_neg]
    · exact this.2
    · rintro rfl; exact hn.1 (List.mem_map_of_mem hc)

theorem le_add {b o} (s : Sat I ((b, o) :: h) H) : I ≤ I.add b o := by
  refine ⟨?_, rfl, rfl⟩
  intro c p e
  have hI := (s.own _ (List.mem_cons_self)).2
  show (if c = b then some o else I c) = some p
  rw [if_neg]
  · exact e
  · rintro rfl; simp only at hI; rw [hI] at e; cases e

theorem weaken {J : Imm} (s : Sat J h H) (hle : I ≤ J) : Sat I h H :=
  ⟨fun b o e => s.imm b o (hle b o e), fun c hc => ⟨(s.own c hc).1, by
    cases e : I c.1 with
    | none => rfl
    | some o => have := hle _ _ e; rw [(s.own c hc).2] at this; cases this⟩, s.nodup, s.os.trans hle.os.symm, s.out.trans hle.out.symm⟩

theorem ne {b b' o o'} (s : Sat I h H) {h1} (x : Pick (b, o) h h1) (y : Has b' o' h1) : b ≠ b' := by
  have := (s.pick x).nodup
  simp only [List.map_cons, List.nodup_cons] at this
  rintro rfl
  exact this.1 (List.mem_map.2 ⟨(b, o'), y.mem, rfl⟩)
end Sat
end Go.Sx
