/- A part of an engine of our own (the code is compiled to a smaller language, whose steps are proved right), nothing is claimed here: - the slots hold what is known of them -/
import Derived.Test.YtmpmagcepgjcdaaGreatSxPure
set_option linter.all false
namespace Go.Sx

abbrev Env := List (Nat × Value)

def look (d : Nat) : Env → Option Value
  | [] => none
  | (k, v) :: r => bif Nat.beq k d then some v else look d r

def ev (env : Env) : Opd → Option Value
  | .tm t => look t env
  | .cn v => some v

def setE (d : Option Nat) (v : Value) (env : Env) : Env :=
  match d with
  | some d => (d, v) :: env
  | none => env

/-- the slots hold what is known of them -/
def Agree (env : Env) (tmps : Array Value) : Prop := ∀ d v, look d env = some v → tmps[d]? = some v

theorem Agree.ev {env : Env} {tmps : Array Value} {ds : List Deferred} (h : Agree env tmps) : EvOK (ev env) (Act.mk tmps ds).eval := by
  intro x u hx
  cases x with
  | tmp t => have := h t u hx; simp [Act.eval, this]
  | const v => simpa [Opd.of, Sx.ev, Act.eval] using hx
  | global g => simpa [Opd.of, Sx.ev, Act.eval] using hx
  | func f => simpa [Opd.of, Sx.ev, Act.eval] using hx

theorem Agree.set {env : Env} {tmps : Array Value} (h : Agree env tmps) {d : Option Nat} (hd : ∀ i, d = some i → i < tmps.size) (v : Value) : Agree (setE d v env) (putT tmps d v) := by
  cases d with
  | none => exact h
  | some d =>
    intro i u hu
    simp only [Sx.setE, look] at hu
    by_cases hi : d = i
    · subst hi
      simp at hu
      subst hu
      simp [putT, hd d rfl]
    · have : Nat.beq d i = false := by
        cases e : Nat.beq d i with
        | false => rfl
        | true => exact absurd (Nat.eq_of_beq_eq_true e) hi
      simp only [this, cond_false] at hu
      simp only [putT]
      rw [Array.getElem?_setIfInBounds, if_neg hi]
      exact h i u hu

theorem putT_size (tmps : Array Value) (d : Option Nat) (v : Value) : (putT tmps d v).size = tmps.size := by cases d <;> simp [putT]

def gst (env : Env) : Option (Nat × Bool) → Option Bool
  | none => some true
  | some (d, b) => match look d env with
    | some (.bool x) => some (x == b)
    | some (.tuple _) => some false
    | _ => none

inductive KI where
  | ir (c : IR)
  | ops (l : List In)
  | blk (id : Nat)
  | lp (c : IR)

inductive RelOps (P : Program) (n : Nat) (ops : Array Oper) : List Nat → List In → Prop where
  | nil : RelOps P n ops [] []
  | cons {i o x idx l} : ops[i]? = some o → inOf P n ops o = some x → RelOps P n ops idx l → RelOps P n ops (i :: idx) (x :: l)

inductive RelK (P : Program) (n : Nat) : List Item → List KI → Prop where
  | nil : RelK P n [] []
  | ir {c x k K} : compile P n c = some x → RelK P n k K → RelK P n (.code c :: k) (.ir x :: K)
  | ops {ops idx l k K} : RelOps P n ops idx l → RelK P n k K → RelK P n (.inRegion ops idx :: k) (.ops l :: K)
  | blk {id k K} : RelK P n k K → RelK P n (.inBlock id :: k) (.blk id :: K)
  | lp {c x k K} : compile P n c = some x → RelK P n k K → RelK P n (.inLoop c :: k) (.lp x :: K)

/-- where a result lies -/
inductive IRet where
  | tm (t : Nat)
  | cell (a : Nat) (m : Option Nat)
  deriving Inhabited

def compileRets (P : Program) : List ResultVar → Option (List IRet)
  | [] => some []
  | .tmp t :: r => (compileRets P r).map (.tm t :: ·)
  | .cell a t :: r => match aggOf P t, compileRets P r with
    | some m, some l => some (.cell a m :: l)
    | _, _ => none

/-- a value cut out of cells that are all there -/
def cutV (cs : List Value) (off : Nat) : Option Nat → Option Value
  | none => cs[off]?
  | some n => if off + n ≤ cs.length then some (.agg ((cs.drop off).take n).toArray) else none

def mkRet : List Value → Value
  | [v] => v
  | vs => .tuple vs.toArray

structure Cx where
  P : Program
  f : FuncId
  fn : Func
  cs : List Frame
  Q : Value → Imm → List Chunk → Prop
  rets : List IRet
  hf : P.funcs[f]? = some fn
  hr : compileRets P fn.results.toList = some rets
  hm : P.follows .mixedOrders = true
  ds : List Deferred := []

def Cx.R (C : Cx) (e : Ending) (w : World) : Prop := ∃ v I h, e = .returned v ∧ C.Q v I h ∧ Sat I h w.hx

/-- from here on all goes well -/
def SG (C : Cx) (I : Imm) (env : Env) (h : List Chunk) (K : List KI) : Prop :=
  ∀ (tmps : Array Value) (w : World) (todo : List Item), tmps.size = C.fn.ntmps → Agree env tmps → Sat I h w.hx → RelK C.P C.fn.ntmps todo K →
    Good C.P C.f C.cs C.R (at_ C.f C.ds tmps todo C.cs w)

section
variable {C : Cx} {I : Imm} {env : Env} {h : List Chunk} {K : List KI}

/-- less is known -/
def Env.Le (e' e : Env) : Prop := ∀ d v, look d e' = some v → look d e = some v
theorem Env.Le.nil {e : Env} : Env.Le [] e := fun _ _ h => by cases h
theorem Env.Le.cons {e e' : Env} {d : Nat} {v : Value} (h : look d e = some v) (t : Env.Le e' e) : Env.Le ((d, v) :: e') e := by
  intro i u hu
  simp only [look] at hu
  cases hb : Nat.beq d i with
  | true => rw [hb] at hu; simp at hu; subst hu; rw [← Nat.eq_of_beq_eq_true hb]; exact h
  | false => rw [hb] at hu; exact t i u hu
theorem sg_env {e' : Env} (hle : Env.Le e' env) (g : SG C I e' h K) : SG C I env h K :=
  fun tmps w todo hs ha hh hk => g tmps w todo hs (fun d v hd => ha d v (hle d v hd)) hh hk
def Weak (a b : List Chunk) : Prop := ∀ I H, Sat I a H → Sat I b H
theorem sg_weak {h' : List Chunk} (hw : Weak h h') (g : SG C I env h' K) : SG C I env h K :=
  fun tmps w todo hs ha hh hk => g tmps w todo hs ha (hw _ _ hh) hk
theorem sg_freeze {b o h'} (x : Pick (b, o) h h') (g : I ≤ I.add b o → SG C (I.add b o) env h' K) : SG C I env h K :=
  fun tmps w todo hs ha hh hk => g (hh.pick x).le_add tmps w todo hs ha (hh.pick x).freeze hk
/-- what the memory tells -/
theorem sg_sat (g : ∀ w : World, Sat I h w.hx → SG C I env h K) : SG C I env h K :=
  fun tmps w todo hs ha hh hk => g w hh tmps w todo hs ha hh hk

theorem region_inv {P : Program} {n : Nat} {ops : Array Oper} {d : Bool} {x : IR} (h : compileRegion P n ops d = some x) :
    (d = false ∧ ∃ l, ops.toList.mapM (inOf P n ops) = some l ∧ x = .ops l) ∨ (d = true ∧ ∃ o l, drawPlan P ops = some o ∧ insOf P n ops o = some l ∧ x = .draw (some l) (parPlan P n ops)) ∨ (d = true ∧ x = .draw none (parPlan P n ops)) := by
  unfold compileRegion at h
  cases d
  · simp only [Option.map_eq_some_iff] at h
    obtain ⟨l, hl, rfl⟩ := h
    exact Or.inl ⟨rfl, l, hl, rfl⟩
  · simp only at h
    split at h
    · rename_i o ho
      simp only [Option.map_eq_some_iff] at h
      obtain ⟨l, hl, rfl⟩ := h
      exact Or.inr (Or.inl ⟨rfl, o, l, ho, hl, rfl⟩)
    · simp only [Option.some.injEq] at h; exact Or.inr (Or.inr ⟨rfl, h.symm⟩)

theorem compile_skip {P : Program} {n : Nat} {c : Code} (h : compile P n c = some .skip) : c = .skip := by
  cases c <;> simp [compile, Option.bind_eq_some_iff] at h
  case skip => rfl
  case region id ops d => rcases region_inv h with ⟨_, _, _, h2⟩ | ⟨_, _, _, _, _, h2⟩ | ⟨_, h2⟩ <;> cases h2

theorem sg_skip (g : SG C I env h K) : SG C I env h (.ir .skip :: K) := by
  intro tmps w todo hs ha hh hk
  cases hk with
  | ir hc hk =>
    obtain rfl := compile_skip hc
    exact good_skip (g tmps w _ hs ha hh hk)

theorem compile_seq {P : Program} {n : Nat} {c : Code} {a b : IR} (h : compile P n c = some (.seq a b)) : ∃ x y, c = .seq x y ∧ compile P n x = some a ∧ compile P n y = some b := by
  cases c <;> simp [compile, Option.bind_eq_some_iff] at h
  case seq x y =>
    exact ⟨x, y, rfl, h.1, h.2⟩
  case region id ops d => rcases region_inv h with ⟨_, _, _, h2⟩ | ⟨_, _, _, _, _, h2⟩ | ⟨_, h2⟩ <;> cases h2

theorem sg_seq {a b : IR} (g : SG C I env h (.ir a :: .ir b :: K)) : SG C I env h (.ir (.seq a b) :: K) := by
  intro tmps w todo hs ha hh hk
  cases hk with
  | ir hc hk =>
    obtain ⟨x, y, rfl, hx, hy⟩ := compile_seq hc
    exact good_seq (g tmps w _ hs ha hh (.ir hx (.ir hy hk)))

theorem compile_cond {P : Program} {n : Nat} {c : Code} {o : Opd} {a b : IR} (h : compile P n c = some (.cond o a b)) : ∃ q x y, c = .cond q x y ∧ Opd.of q = o ∧ compile P n x = some a ∧ compile P n y = some b := by
  cases c <;> simp [compile, Option.bind_eq_some_iff] at h
  case cond q x y =>
    obtain ⟨x', hx, y', hy, rfl, rfl, rfl⟩ := h
    exact ⟨q, x, y, rfl, rfl, hx, hy⟩
  case region id ops d => rcases region_inv h with ⟨_, _, _, h2⟩ | ⟨_, _, _, _, _, h2⟩ | ⟨_, h2⟩ <;> cases h2

theorem sg_cond {o : Opd} {a b : IR} {t : Bool} (hc : ev env o = some (.bool t)) (g1 : t = true → SG C I env h (.ir a :: K)) (g2 : t = false → SG C I env h (.ir b :: K)) :
    SG C I env h (.ir (.cond o a b) :: K) := by
  intro tmps w todo hs ha hh hk
  cases hk with
  | ir hcc hk =>
    obtain ⟨q, x, y, rfl, hq, hx, hy⟩ := compile_cond hcc
    have hev := ha.ev (ds := C.ds) q (.bool t) (by rw [hq]; exact hc)
    refine good_cond hev ?_
    cases t
    · exact g2 rfl tmps w _ hs ha hh (.ir hy hk)
    · exact g1 rfl tmps w _ hs ha hh (.ir hx hk)
theorem sg_cond_t {o : Opd} {a b : IR} (hc : ev env o = some (.bool true)) (g : SG C I env h (.ir a :: K)) : SG C I env h (.ir (.cond o a b) :: K) := sg_cond hc (fun _ => g) (fun e => by cases e)
theorem sg_cond_f {o : Opd} {a b : IR} (hc : ev env o = some (.bool false)) (g : SG C I env h (.ir b :: K)) : SG C I env h (.ir (.cond o a b) :: K) := sg_cond hc (fun e => by cases e) (fun _ => g)

theorem compile_block {P : Program} {n : Nat} {c : Code} {id : Nat} {a : IR} (h : compile P n c = some (.block id a)) : ∃ x, c = .block id x ∧ compile P n x = some a := by
  cases c <;> simp [compile, Option.bind_eq_some_iff] at h
  case block id' x =>
    obtain ⟨hx, rfl⟩ := h
    exact ⟨x, rfl, hx⟩
  case region id ops d => rcases region_inv h with ⟨_, _, _, h2⟩ | ⟨_, _, _, _, _, h2⟩ | ⟨_, h2⟩ <;> cases h2

theorem sg_block {id : Nat} {a : IR} (g : SG C I env h (.ir a :: .blk id :: K)) : SG C I env h (.ir (.block id a) :: K) := by
  intro tmps w todo hs ha hh hk
  cases hk with
  | ir hc hk =>
    obtain ⟨x, rfl, hx⟩ := compile_block hc
    exact good_block (g tmps w _ hs ha hh (.ir hx (.blk hk)))
theorem sg_blk {id : Nat} (g : SG C I env h K) : SG C I env h (.blk id :: K) := by
  intro tmps w todo hs ha hh hk
  cases hk with
  | blk hk => exact good_inBlock (g tmps w _ hs ha hh hk)

theorem compile_loop {P : Program} {n : Nat} {c : Code} {a : IR} (h : compile P n c = some (.loop a)) : ∃ x, c = .loop x ∧ compile P n x = some a := by
  cases c <;> simp [compile, Option.bind_eq_some_iff] at h
  case loop x => exact ⟨x, rfl, h⟩
  case region id ops d => rcases region_inv h with ⟨_, _, _, h2⟩ | ⟨_, _, _, _, _, h2⟩ | ⟨_, h2⟩ <;> cases h2

theorem sg_loop {a : IR} (g : SG C I env h (.ir a :: .lp a :: K)) : SG C I env h (.ir (.loop a) :: K) := by
  intro tmps w todo hs ha hh hk
  cases hk with
  | ir hc hk =>
    obtain ⟨x, rfl, hx⟩ := compile_loop hc
    exact good_loop (g tmps w _ hs ha hh (.ir hx (.lp hx hk)))
theorem sg_lp {a : IR} (g : SG C I env h (.ir a :: .lp a :: K)) : SG C I env h (.lp a :: K) := by
  intro tmps w todo hs ha hh hk
  cases hk with
  | lp hc hk => exact good_inLoop (g tmps w _ hs ha hh (.ir hc (.lp hc hk)))

def exitK (id : Nat) : List KI → Option (List KI)
  | .blk i :: K => bif Nat.beq i id then some K else exitK id K
  | _ :: K => exitK id K
  | [] => none

theorem exit_rel {P : Program} {n id : Nat} {todo : List Item} {K : List KI} (hk : RelK P n todo K) : ∀ {K'}, exitK id K = some K' → ∃ k', exitTo id todo = some k' ∧ RelK P n k' K' := by
  induction hk with
  | nil => intro K' h; simp [exitK] at h
  | ir hc hk ih => intro K' h; simp only [exitK] at h; obtain ⟨k', h1, h2⟩ := ih h; exact ⟨k', by simpa [exitTo] using h1, h2⟩
  | ops hc hk ih => intro K' h; simp only [exitK] at h; obtain ⟨k', h1, h2⟩ := ih h; exact ⟨k', by simpa [exitTo] using h1, h2⟩
  | lp hc hk ih => intro K' h; simp only [exitK] at h; obtain ⟨k', h1, h2⟩ := ih h; exact ⟨k', by simpa [exitTo] using h1, h2⟩
  | @blk i k K hk ih =>
    intro K' h
    simp only [exitK] at h
    cases hb : Nat.beq i id with
    | true =>
      simp only [hb, cond_true, Option.some.injEq] at h; subst h
      have := Nat.eq_of_beq_eq_true hb
      exact ⟨k, by simp [exitTo, this], hk⟩
    | false =>
      simp only [hb, cond_false] at h
      obtain ⟨k', h1, h2⟩ := ih h
      refine ⟨k', ?_, h2⟩
      have : (i == id) = false := beq_eq_false_iff_ne.2 (Nat.ne_of_beq_eq_false hb)
      simpa [exitTo, this] using h1

theorem compile_exit {P : Program} {n : Nat} {c : Code} {id : Nat} (h : compile P n c = some (.exit id)) : c = .exit id := by
  cases c <;> simp [compile, Option.bind_eq_some_iff] at h
  case exit i => subst h; rfl
  case region id ops d => rcases region_inv h with ⟨_, _, _, h2⟩ | ⟨_, _, _, _, _, h2⟩ | ⟨_, h2⟩ <;> cases h2

theorem sg_exit {id : Nat} {K' : List KI} (he : exitK id K = some K') (g : SG C I env h K') : SG C I env h (.ir (.exit id) :: K) := by
  intro tmps w todo hs ha hh hk
  cases hk with
  | ir hc hk =>
    obtain rfl := compile_exit hc
    obtain ⟨k', h1, h2⟩ := exit_rel hk he
    exact good_exit h1 (g tmps w _ hs ha hh h2)

theorem compile_ret {P : Program} {n : Nat} {c : Code} (h : compile P n c = some .ret) : c = .ret := by
  cases c <;> simp [compile, Option.bind_eq_some_iff] at h
  case ret => rfl
  case region id ops d => rcases region_inv h with ⟨_, _, _, h2⟩ | ⟨_, _, _, _, _, h2⟩ | ⟨_, h2⟩ <;> cases h2

theorem compile_ops {P : Program} {n : Nat} {c : Code} {l : List In} (h : compile P n c = some (.ops l)) : ∃ id ops, c = .region id ops false ∧ ops.toList.mapM (inOf P n ops) = some l := by
  cases c <;> simp [compile, Option.bind_eq_some_iff] at h
  case region id ops d =>
    rcases region_inv h with ⟨rfl, l', h1, h2⟩ | ⟨_, _, _, _, _, h2⟩ | ⟨_, h2⟩ <;> cases h2
    exact ⟨id, ops, rfl, h1⟩

theorem relOps_of {P : Program} {n : Nat} {ops : Array Oper} : ∀ (os : List Oper) (i : Nat) (l : List In), (∀ j o, os[j]? = some o → ops[i + j]? = some o) → os.mapM (inOf P n ops) = some l → RelOps P n ops (List.range' i os.length) l
  | [], i, l, _, h => by simp at h; subst h; exact .nil
  | o :: os, i, l, ho, h => by
    rw [List.mapM_cons] at h
    simp only [Bind.bind, Option.bind_eq_some_iff, pure, Option.some.injEq] at h
    obtain ⟨x, hx, l', hl, rfl⟩ := h
    rw [List.length_cons, List.range'_succ]
    exact .cons (by simpa using ho 0 o rfl) hx (relOps_of os (i + 1) l' (fun j p hj => by
      have := ho (j + 1) p (by simpa using hj)
      rwa [show i + 1 + j = i + (j + 1) from by omega]) hl)

theorem sg_ops {l : List In} (g : SG C I env h (.ops l :: K)) : SG C I env h (.ir (.ops l) :: K) := by
  intro tmps w todo hs ha hh hk
  cases hk with
  | ir hc hk =>
    obtain ⟨id, ops, rfl, hl⟩ := compile_ops hc
    refine good_region (g tmps w _ hs ha hh (.ops ?_ hk))
    have := relOps_of (P := C.P) (n := C.fn.ntmps) (ops := ops) ops.toList 0 l (fun j o hj => by simpa using hj) hl
    rwa [Array.length_toList, ← List.range_eq_range'] at this
theorem sg_end {K : List KI} (g : SG C I env h K) : SG C I env h (.ops [] :: K) := by
  intro tmps w todo hs ha hh hk
  cases hk with
  | ops hr hk => cases hr; exact good_region_end (g tmps w _ hs ha hh hk)

/-! ### the results -/
inductive RetV (I : Imm) (env : Env) (h : List Chunk) : List IRet → List Value → Prop where
  | nil : RetV I env h [] []
  | tm {t v r vs} : look t env = some v → RetV I env h r vs → RetV I env h (.tm t :: r) (v :: vs)
  | cell {a m b off c e fr v r vs} : look a env = some (.pointer (some ⟨b, off, none⟩)) → Has b (.cells c e fr) h → cutV c.toList off m = some v → RetV I env h r vs → RetV I env h (.cell a m :: r) (v :: vs)

theorem cell_of {H : World} {b off : Nat} {c : Array Value} {e : TypeId} {fr : Nat × Nat} (hb : H.heap[b]? = some (.cells c e fr)) : H.cell? ⟨b, off, none⟩ = c[off]? := by
  simp [World.cell?, hb]

theorem loadCellsFrom_sound {P : Program} {w : World} {b : Nat} {c : Array Value} {e : TypeId} {fr : Nat × Nat} (hb : w.heap[b]? = some (.cells c e fr)) (off : Nat) :
    ∀ (n i : Nat) (acc : Array Value), off + i + n ≤ c.size → (loadCellsFrom ⟨b, off, none⟩ i n acc).run P w = .ok (acc ++ ((c.toList.drop (off + i)).take n).toArray) w
  | 0, i, acc, _ => by simp [loadCellsFrom]
  | n + 1, i, acc, hle => by
    simp only [loadCellsFrom, Sem.run_bind, run_load]
    have ha : (Addr.add ⟨b, off, none⟩ i) = ⟨b, off + i, none⟩ := by
      unfold Addr.add; split
      · rename_i h0; simp [h0]
      · rfl
    have hlt : off + i < c.size := by omega
    have hcell : w.cell? ⟨b, off + i, none⟩ = some c[off + i] := by rw [cell_of hb]; simp [hlt]
    rw [ha, hcell]
    simp only [Result.andThen_ok]
    rw [loadCellsFrom_sound hb off n (i + 1) _ (by omega)]
    congr 1
    apply Array.toList_inj.1
    have e1 : c.toList.drop (off + i) = c[off + i] :: c.toList.drop (off + i + 1) := by
      rw [List.drop_eq_getElem_cons (by simpa using hlt)]; simp
    rw [e1]
    simp [Nat.add_assoc]

theorem load_sound {P : Program} {w : World} {b off : Nat} {c : Array Value} {e : TypeId} {fr : Nat × Nat} {t : TypeId} {m : Option Nat} {v : Value} (hb : w.heap[b]? = some (.cells c e fr))
    (hm : aggOf P t = some m) (hv : cutV c.toList off m = some v) : (loadVar t ⟨b, off, none⟩).run P w = .ok v w := by
  obtain ⟨h1, h2⟩ := run_isAgg_of hm w
  unfold loadVar
  rw [Sem.run_bind, h1]
  cases m with
  | none =>
    simp only [cutV] at hv
    have hcell : w.cell? ⟨b, off, none⟩ = some v := by rw [cell_of hb]; simpa using hv
    simp [hcell]
  | some n =>
    simp only [cutV] at hv
    split at hv
    · rename_i hle
      simp only [Option.some.injEq] at hv
      simp only [Option.isSome_some, Result.andThen_ok, if_true, Sem.run_bind, run_sizeOf_of (h2 n rfl)]
      unfold loadCells
      rw [loadCellsFrom_sound hb off n 0 #[] (by simpa using hle)]
      subst hv
      simp
    · cases hv

def resF (tmps : Array Value) : ResultVar → Sem Value
  | .tmp t => pure (tmps.getD t undef)
  | .cell a t => do loadVar t (← asAddr (tmps.getD a undef))

theorem results_eq (fn : Func) (tmps : Array Value) : results fn tmps = (do let vs ← fn.results.mapM (resF tmps); pure (if h : vs.size = 1 then vs[0] else .tuple vs) : Sem Value) := by
  unfold results
  exact congrArg (fun g : ResultVar → Sem Value => (do let vs ← fn.results.mapM g; pure (if h : vs.size = 1 then vs[0] else .tuple vs) : Sem Value)) (funext fun x => by cases x <;> rfl)

theorem rets_sound {P : Program} {tmps : Array Value} {w : World} (ha : Agree env tmps) (hh : Sat I h w.hx) : ∀ (rs : List ResultVar) (l : List IRet) (vs : List Value), compileRets P rs = some l → RetV I env h l vs →
    (rs.mapM (resF tmps)).run P w = .ok vs w
  | [], l, vs, hc, hv => by simp [compileRets] at hc; subst hc; cases hv; rfl
  | .tmp t :: rs, l, vs, hc, hv => by
    simp only [compileRets, Option.map_eq_some_iff] at hc
    obtain ⟨l', hc', rfl⟩ := hc
    cases hv with
    | tm hl hv =>
      rw [List.mapM_cons, Sem.run_bind]
      have := ha _ _ hl
      simp only [resF, Sem.run_pure, Result.andThen_ok, Sem.run_bind]
      rw [rets_sound ha hh rs l' _ hc' hv]
      simp [this]
  | .cell a t :: rs, l, vs, hc, hv => by
    simp only [compileRets] at hc
    split at hc
    · rename_i m l' hm hc'
      simp only [Option.some.injEq] at hc; subst hc
      cases hv with
      | cell hl hb hcut hv =>
        rw [List.mapM_cons, Sem.run_bind]
        have h1 := ha _ _ hl
        have h2 : tmps.getD a undef = (tmps[a]?).getD undef := by simp
        have h3 : ∀ u, (tmps[a]?).getD undef = .pointer (some u) → (resF tmps (.cell a t)).run P w = (loadVar t u).run P w := by
          intro u hu; simp only [resF]; rw [h2, hu]; rfl
        rw [h3 _ (by rw [h1]; rfl), load_sound (hh.get hb) hm hcut]
        simp only [Result.andThen_ok, Sem.run_bind, rets_sound ha hh rs l' _ hc' hv]
        rfl
    · cases hc

theorem results_sound {tmps : Array Value} {w : World} (ha : Agree env tmps) (hh : Sat I h w.hx) {vs : List Value} (hv : RetV I env h C.rets vs) : (results C.fn tmps).run C.P w = .ok (mkRet vs) w := by
  rw [results_eq, Sem.run_bind, Array.mapM_eq_mapM_toList, Sem.run_map, rets_sound (P := C.P) ha hh _ _ _ C.hr hv]
  simp only [Result.andThen_ok]
  cases vs with
  | nil => rfl
  | cons v vs => cases vs with
    | nil => rfl
    | cons v' vs => rfl

theorem sg_ret {vs : List Value} (hds : C.ds = []) (hv : RetV I env h C.rets vs) (q : C.Q (mkRet vs) I h) : SG C I env h (.ir .ret :: K) := by
  intro tmps w todo hs ha hh hk
  cases hk with
  | ir hc hk =>
    obtain rfl := compile_ret hc
    rw [hds]
    exact good_ret C.hf (results_sound ha hh hv) ⟨_, I, h, rfl, q, hh⟩
theorem sg_fin {vs : List Value} (hds : C.ds = []) (hv : RetV I env h C.rets vs) (q : C.Q (mkRet vs) I h) : SG C I env h [] := by
  intro tmps w todo hs ha hh hk
  cases hk
  rw [hds]
  exact good_end C.hf (results_sound ha hh hv) ⟨_, I, h, rfl, q, hh⟩
end
end Go.Sx
