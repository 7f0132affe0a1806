


/- Regions that draw their order, whose operations leave what was there as it was: one walk, each operation from what it waits for alone. -/
import Derived.WalkKit
import Derived.BigQuiet
import Derived.StillTail
import Derived.KernelRfl
namespace Go.Proofs.YtpdkgpbfmpekgaaGreatDoor

/-- Operations that look, and act on nothing. -/
def lookOp : Op → Bool
  | .move .. | .assign .. | .pick .. | .load .. | .binOp .. | .unOp .. | .convert .. | .slice .. | .fieldAddr .. | .field .. | .indexAddr .. | .index .. | .lookup .. | .extract .. | .build .. | .typeAssert .. | .makeInterface .. | .makeFunc .. | .nilCheck .. => true
  | .call c => match c.callee with
    | .builtin .len => true
    | _ => false
  | _ => false
theorem look_noEnter {P : Program} {o : Oper} (h : lookOp o.op = true) {ρ : Operand → Value} {w w' : World} {f : FuncId} {args : Array Value} : (execOp ρ o).run P w ≠ .ok (.enter f args) w' := by
  obtain ⟨dst, op, type, pos, after, guard⟩ := o
  cases op <;> simp only [lookOp, Bool.false_eq_true] at h
  case nilCheck x =>
    simp only [execOp]
    intro hc
    split at hc
    · simp [runtimePanic] at hc
    · simp [runtimePanic] at hc
    · simp [runtimePanic] at hc
    · split at hc
      · simp [runtimePanic] at hc
      · revert hc
        simp only [Sem.run_bind]
        generalize (Sem.run P program w : Result _) = r
        cases r with
        | halt x w1 => simp [Result.andThen]
        | ok p w1 =>
          simp only [Result.andThen]
          generalize (Sem.run P (nilAhead _ _ _ _) w1 : Result _) = r2
          cases r2 with
          | halt x w2 => simp
          | ok b w2 =>
            simp only
            split
            · simp [unsupported]
            · simp
      · simp at hc
    · simp at hc
  case call c =>
    obtain ⟨callee, args, argTypes⟩ := c
    cases callee with
    | value x => cases h
    | invoke x n => cases h
    | builtin b =>
      cases b <;> first
        | (exfalso; cases h; done)
        | (simp only [execOp, resolve, invoke, builtin, Sem.run_bind, Sem.run_pure, Result.andThen_ok]
           intro hc
           revert hc
           generalize (Sem.run P (Builtin.len_ _ _ _) w : Result _) = r
           cases r <;> simp [Result.andThen])
  all_goals simp only [execOp, Sem.run_bind, Sem.run_pure]
  all_goals intro hc
  all_goals
    first
      | (cases hc; done)
      | (revert hc; generalize (Sem.run P _ w : Result _) = r; cases r <;> simp [Result.andThen]; done)
      | (revert hc; generalize (Sem.run P _ w : Result _) = r; cases r <;> simp [Result.andThen]; generalize (Sem.run P _ _ : Result _) = r; cases r <;> simp; done)

def waitsB (o : Oper) (i : Nat) : Bool := o.after.any fun e => Region.binds .any e && e.on == i
theorem waitsB_of {o : Oper} {e : Edge} (he : e ∈ o.after) (hb : Region.binds .any e = true) : waitsB o e.on = true := Array.any_eq_true'.2 ⟨e, he, by simp [hb]⟩
theorem waitsB_spec {o : Oper} {i : Nat} (h : waitsB o i = true) : ∃ e ∈ o.after, Region.binds .any e = true ∧ e.on = i := by
  obtain ⟨e, he, h⟩ := Array.any_eq_true'.1 h
  simp only [Bool.and_eq_true, beq_iff_eq] at h
  exact ⟨e, he, h.1, h.2⟩

theorem put_same {a a' : Act} {d : Option Tmp} {u v : Value} (hs : a.tmps.size = a'.tmps.size) (h : a'.put d u = a'.put d v) : a.put d u = a.put d v := by
  cases d with
  | none => rfl
  | some t =>
    rcases Nat.lt_or_ge t a.tmps.size with hlt | hge
    · have h1 := congrArg (fun b : Act => b.tmps[t]?) h
      have hlt' : t < a'.tmps.size := hs ▸ hlt
      simp [Act.put, hlt'] at h1
      rw [h1]
    · simp [Act.put, Array.setIfInBounds, Nat.not_lt.2 hge]

section
variable {P : Program} {ops : Array Oper}

/-- One operation, shown to run in a frame that reads the same where it looks. -/
theorem step_move {o : Oper} {i : Nat} (hi : ops[i]? = some o) {a a' : Act} {w : World} {G : Value → World → Prop} {K : Act → World → Prop} {Q : Exit → Act → World → Prop}
    (hs : a.tmps.size = a'.tmps.size) (he : execOp a.eval o = execOp a'.eval o) (hw : Region.wanted o (yielded ops a.tmps) = Region.wanted o (yielded ops a'.tmps))
    (h : wpList P ops (fun e b w => e = .normal ∧ ∃ v, b = a'.put o.dst v ∧ G v w) [o] a' w)
    (hK : ∀ v w, G v w → K (a.put o.dst v) w) : wpOp P ops Q i K a w := by
  have key : ∀ {u : Value} {w' : World}, (∃ v, a'.put o.dst u = a'.put o.dst v ∧ G v w') → K (a.put o.dst u) w' := by
    rintro u w' ⟨v, hv, hg⟩
    rw [put_same hs hv]
    exact hK _ _ hg
  unfold wpOp
  simp only [hi]
  unfold wpList at h
  rw [← hw] at h
  split
  · rename_i hwt
    rw [if_pos hwt] at h
    rcases h with h | ⟨_, b, w', hf, _⟩
    · refine .inl ?_
      unfold Oper.wp at *
      rw [← he] at h
      generalize (execOp a.eval o).run P w = r at *
      cases r with
      | ok nx w' =>
        cases nx <;> simp only [Oper.upon, wpList] at h ⊢
        case value u => exact key h.2
        case skip => exact key h.2
        case defer d =>
          obtain ⟨_, v, hv, _⟩ := h
          have := congrArg (fun b : Act => b.defers.length) hv
          cases hd : o.dst <;> simp [Act.put, hd] at this
        case enter f args =>
          refine h.mono fun e w'' hq => ?_
          cases e with
          | returned u => exact key hq.2
          | panicked c => cases hq.1
          | outgrown =>
            obtain ⟨b, w3, hf, _⟩ := hq
            cases hf
        case row row args => exact Rows.mono h fun u w'' hq => key hq.2
      | halt x w' =>
        cases x <;> simp only [Oper.upon] at h ⊢
        case panic u => cases h.1
    · cases hf
  · rename_i hwt
    rw [if_neg hwt] at h
    exact key h.2

/-- The tail behind the head is a chain. -/
def tailB (ops : Array Oper) (n : Nat) : Bool :=
  (n == ops.size || (decide (n < ops.size) && Region.sinkB .any ops n && Region.chainB .any ops n)) && Region.seqB .any ops (ops.size - n) n ((Array.replicate n true) ++ Array.replicate (ops.size - n) false)
def topoB (ops : Array Oper) (n : Nat) : Bool :=
  (List.range n).all fun i => match ops[i]? with
    | some o => o.after.all fun e => !Region.binds .any e || decide (e.on < i)
    | none => false

theorem topo_spec {n i : Nat} {o : Oper} (h : topoB ops n = true) (hi : i < n) (ho : ops[i]? = some o) {e : Edge} (he : e ∈ o.after) (hb : Region.binds .any e = true) : e.on < i := by
  have h1 := List.all_eq_true.1 h i (List.mem_range.2 hi)
  simp only [ho] at h1
  have h2 := Array.all_eq_true_iff_forall_mem.1 h1 e he
  simpa [hb] using h2

/-- How many of the first n have not come up. -/
def left (n : Nat) (listed : Array Bool) : Nat := ((List.range n).filter fun i => listed.getD i true == false).length
theorem filter_flip {α : Type} [DecidableEq α] {l : List α} (hn : l.Nodup) {p q : α → Bool} {i : α} (hi : i ∈ l) (hp : p i = true) (hq : q i = false) (he : ∀ j, j ≠ i → p j = q j) : (l.filter p).length = (l.filter q).length + 1 := by
  induction l with
  | nil => cases hi
  | cons a t ih =>
    rw [List.nodup_cons] at hn
    by_cases ha : a = i
    · subst ha
      rw [List.filter_cons_of_pos hp, List.filter_cons_of_neg (by simp [hq])]
      have : t.filter p = t.filter q := List.filter_congr fun j hj => he j fun e => hn.1 (e ▸ hj)
      simp [this]
    · have hi' : i ∈ t := by
        rcases List.mem_cons.1 hi with h | h
        · exact absurd h.symm ha
        · exact h
      have := ih hn.2 hi'
      by_cases hpa : p a = true
      · rw [List.filter_cons_of_pos hpa, List.filter_cons_of_pos (by rw [← he a ha]; exact hpa)]
        simp [this]
      · rw [List.filter_cons_of_neg hpa, List.filter_cons_of_neg (by rw [← he a ha]; exact hpa)]
        exact this
theorem left_set {n i : Nat} {listed : Array Bool} (hi : i < n) (h : listed.getD i true = false) : left n listed = left n (listed.setIfInBounds i true) + 1 := by
  have hs : i < listed.size := by
    rcases Nat.lt_or_ge i listed.size with h' | h'
    · exact h'
    · simp [Array.getElem?_eq_none h'] at h
  refine filter_flip List.nodup_range (List.mem_range.2 hi) (by rw [h]; rfl) (by simp [hs]) fun j hj => ?_
  rw [getD_set_ne true (Ne.symm hj)]
theorem left_some {n : Nat} {listed : Array Bool} (h : 0 < left n listed) : ∃ i, i < n ∧ listed.getD i true = false ∧ ∀ j, j < i → listed.getD j true = true := by
  unfold left at h
  have hex : ∃ i, i < n ∧ listed.getD i true = false := by
    obtain ⟨i, hi⟩ := List.exists_mem_of_length_pos h
    rw [List.mem_filter, List.mem_range] at hi
    exact ⟨i, hi.1, by simpa using hi.2⟩
  obtain ⟨i, hi⟩ := hex
  clear h
  induction i using Nat.strongRecOn with
  | _ i ih =>
    by_cases hall : ∀ j, j < i → listed.getD j true = true
    · exact ⟨i, hi.1, hi.2, hall⟩
    · have hm : ∃ j, j < i ∧ listed.getD j true = false := by
        apply Classical.byContradiction
        intro hno
        exact hall fun j hj => by
          cases hb : listed.getD j true with
          | true => rfl
          | false => exact absurd ⟨j, hj, hb⟩ hno
      obtain ⟨j, hj, hb⟩ := hm
      exact ih j hj ⟨by omega, hb⟩
theorem left_none {n : Nat} {listed : Array Bool} (h : left n listed = 0) {i : Nat} (hi : i < n) : listed.getD i true = true := by
  unfold left at h
  have h1 := List.eq_nil_of_length_eq_zero h
  rw [List.filter_eq_nil_iff] at h1
  have := h1 i (List.mem_range.2 hi)
  cases hb : listed.getD i true with
  | true => rfl
  | false => rw [hb] at this; simp at this

theorem getD_true {listed : Array Bool} {i : Nat} (hs : i < listed.size) (h : listed.getD i true = true) : listed.getD i false = true := by
  simp [hs] at h ⊢; exact h

/-- j comes up before i, whatever order is drawn. -/
inductive Behind (ops : Array Oper) : Nat → Nat → Prop where
  | edge {i : Nat} {o : Oper} {e : Edge} : ops[i]? = some o → e ∈ o.after → Region.binds .any e = true → Behind ops i e.on
  | next {i j : Nat} {o : Oper} {e : Edge} : ops[i]? = some o → e ∈ o.after → Region.binds .any e = true → Behind ops e.on j → Behind ops i j
def behindB (ops : Array Oper) : Nat → Nat → Nat → Bool
  | 0, _, _ => false
  | f + 1, i, j => match ops[i]? with
    | some o => o.after.any fun e => Region.binds .any e && (e.on == j || behindB ops f e.on j)
    | none => false
theorem behind_of {ops : Array Oper} : ∀ (f i j : Nat), behindB ops f i j = true → Behind ops i j
  | 0, _, _, h => by cases h
  | f + 1, i, j, h => by
    unfold behindB at h
    split at h
    · rename_i o ho
      obtain ⟨e, he, h⟩ := Array.any_eq_true'.1 h
      simp only [Bool.and_eq_true, Bool.or_eq_true, beq_iff_eq] at h
      rcases h.2 with h2 | h2
      · rw [← h2]; exact .edge ho he h.1
      · exact .next ho he h.1 (behind_of f _ _ h2)
    · cases h
theorem behind_listed {ops : Array Oper} {n : Nat} {listed : Array Bool} (inv : HeadInv .any ops n listed) {i j : Nat} (h : Behind ops i j) : (∀ o, ops[i]? = some o → ∀ e ∈ o.after, Region.binds .any e = true → listed.getD e.on false = true) → listed.getD j false = true := by
  induction h with
  | edge ho he hb => exact fun hl => hl _ ho _ he hb
  | next ho he hb _ ih => exact fun hl => ih fun o' ho' e' he' hb' => inv.closed _ o' ho' (hl _ ho _ he hb) e' he' hb'

/-- How many operations more a world may bear. -/
class Ranked (X : Type) where
  live : Nat → X → Prop
  down : ∀ m x, live (m + 1) x → live m x
  /-- operation i may yet come up -/
  pend : Nat → X → Prop
theorem left_le (n : Nat) (listed : Array Bool) : left n listed ≤ n := by
  unfold left
  exact Nat.le_trans (List.length_filter_le _ _) (by simp)
variable {X : Type} [Ranked X] {to : X → World} {le : X → X → Prop} {Q : Exit → Act → World → Prop}

/-- Whatever order is drawn: A holds of the frame, Φ i of the frame and the world once operation i has come up. -/
theorem any_core {n : Nat} (hn : n ≤ ops.size) (ht : tailB ops n = true) (hto : topoB ops n = true) (A : Act → Prop) (Φ : Nat → Act → X → Prop)
    (step : ∀ m i o, i < n → ops[i]? = some o → ∀ a x, A a → Ranked.live (m + 1) x → Ranked.pend i x → (∀ j, j < n → waitsB o j = true → Φ j a x) → ∀ K : Act → World → Prop,
      (∀ v y, le x y → Ranked.live m y → (∀ j, j ≠ i → ¬ Behind ops i j → Ranked.pend j x → Ranked.pend j y) → A (a.put o.dst v) → Φ i (a.put o.dst v) y → K (a.put o.dst v) (to y)) → wpOp P ops Q i K a (to x))
    (stab : ∀ i j o a x y v, i < n → j < n → i ≠ j → ops[j]? = some o → A a → Φ i a x → le x y → Φ i (a.put o.dst v) y)
    (fin : ∀ a x, A a → (∀ i, i < n → Φ i a x) → wpList P ops Q (ops.toList.drop n) a (to x)) :
    ∀ (f : Nat) (listed : Array Bool) (a : Act) (x : X), left n listed = f → HeadInv .any ops n listed → A a → Ranked.live f x → (∀ i, i < n → listed.getD i false = false → Ranked.pend i x) → (∀ i, i < n → listed.getD i false = true → Φ i a x) →
      wpAny P .any ops Q (f + (ops.size - n)) listed a (to x) := by
  intro f
  induction f with
  | zero =>
    intro listed a x hf inv hA hlv hpn hΦ
    have hall : ∀ i, i < n → listed.getD i true = true := fun i hi => left_none hf hi
    have hL : listed = (Array.replicate n true) ++ Array.replicate (ops.size - n) false := by
      apply Array.ext
      · rw [inv.size]; simp; omega
      · intro i h1 h2
        rcases Nat.lt_or_ge i n with h3 | h3
        · rw [Array.getElem_append_left (by simpa using h3)]
          have := hall i h3
          simp [h1] at this
          simp [this]
        · rw [Array.getElem_append_right (by simpa using h3)]
          have := inv.tail i h3 (by rw [← inv.size]; exact h1)
          simp [h1] at this
          simp [this]
    unfold tailB at ht
    rw [Bool.and_eq_true] at ht
    have hl : (ops.toList.drop n).length = ops.size - n := by simp
    rw [Nat.zero_add, ← hl, hL]
    refine wpAny_of_seq _ n _ a (to x) (fun j => by rw [List.getElem?_drop, Array.getElem?_toList]) (by rw [hl]; exact ht.2) (fin a x hA fun i hi => hΦ i hi ?_)
    exact getD_true (by rw [inv.size]; omega) (hall i hi)
  | succ f ih =>
    intro listed a x hf inv hA hlv hpn hΦ
    obtain ⟨u, hu, hun, hmin⟩ := left_some (n := n) (listed := listed) (by omega)
    rw [show f + 1 + (ops.size - n) = (f + (ops.size - n)) + 1 by omega]
    have hhead : ∀ i ∈ Region.ready .any ops listed, i < n := by
      intro i hi
      unfold tailB at ht
      simp only [Bool.and_eq_true, Bool.or_eq_true, beq_iff_eq, decide_eq_true_eq] at ht
      rcases ht.1 with h | ⟨⟨h1, h2⟩, h3⟩
      · obtain ⟨_, o, ho, _⟩ := mem_ready.1 hi
        rw [h]; exact (Array.getElem?_eq_some_iff.1 ho).1
      · rcases Nat.lt_or_ge i n with h | h
        · exact h
        · exact absurd hi (tail_waits h2 h3 h1 inv _ u rfl hu hun i h)
    refine ⟨fun h0 => ?_, fun i hi => ?_⟩
    · exfalso
      have hus : u < ops.size := Nat.lt_of_lt_of_le hu hn
      have : u ∈ Region.ready .any ops listed := mem_ready.2 ⟨hun, ops[u], Array.getElem?_eq_getElem hus, fun e he hb => by
        have h1 := topo_spec hto hu (Array.getElem?_eq_getElem hus) he hb
        exact getD_true (by rw [inv.size]; omega) (hmin _ h1)⟩
      rw [h0] at this
      cases this
    · have hin := hhead i hi
      obtain ⟨hiun, o, ho, hall⟩ := mem_ready.1 hi
      have hiun' : listed.getD i false = false := by
        have hs : i < listed.size := by rw [inv.size]; omega
        simp [hs] at hiun ⊢; exact hiun
      refine step f i o hin ho a x hA hlv (hpn i hin hiun') (fun j hj hw => ?_) _ fun v y hle hlv' hpy hA' hΦi => ?_
      · obtain ⟨e, he, hb, rfl⟩ := waitsB_spec hw
        exact hΦ _ hj (hall e he hb)
      · refine ih _ _ y ?_ (inv.set hi hin) hA' hlv' (fun j hj hl => ?_) fun j hj hl => ?_
        · have := left_set hin hiun; omega
        · have hji : j ≠ i := by
            rintro rfl
            have hs : j < listed.size := by rw [inv.size]; omega
            simp [hs] at hl
          rw [getD_set_ne false (Ne.symm hji)] at hl
          refine hpy j hji (fun hbh => ?_) (hpn j hj hl)
          have := behind_listed inv hbh fun o' ho' e he hb => (by
            obtain rfl : o = o' := Option.some.inj (ho.symm.trans ho')
            exact hall e he hb)
          rw [this] at hl; cases hl
        · by_cases hji : j = i
          · subst hji; exact hΦi
          · rw [getD_set_ne false (Ne.symm hji)] at hl
            exact stab j i o a x y v hj hin hji ho hA (hΦ j hj hl) hle

/-! ### The table: what each operation hands on. -/
inductive TabR (X : Type) where
  | fix (v : Value)
  | any (R : Value → X → Prop)

def TabR.keep (le : X → X → Prop) : TabR X → Prop
  | .fix _ => True
  | .any R => ∀ v x y, R v x → le x y → R v y
def TabR.holds (r : TabR X) (v : Value) (x : X) : Prop :=
  match r with
  | .fix v0 => v = v0
  | .any R => R v x
/-- What one operation owes. -/
def Good (P : Program) (ops : Array Oper) (to : X → World) (le : X → X → Prop) (i : Nat) (o : Oper) (a : Act) (x : X) (r : TabR X) : Prop :=
  ∀ m, Ranked.live (m + 1) x → Ranked.pend i x → ∀ Qx : Exit → Act → World → Prop, (∀ v y, le x y → Ranked.live m y → (∀ j, j ≠ i → ¬ Behind ops i j → Ranked.pend j x → Ranked.pend j y) → r.holds v y → Qx .normal (a.put o.dst v) (to y)) → wpList P ops Qx [o] a (to x)

/-- t is the temporary of an operation of the head. -/
def IsDst (ops : Array Oper) (n : Nat) (t : Tmp) (j : Nat) : Prop := j < n ∧ ∃ o, ops[j]? = some o ∧ o.dst = some t
def dstB (ops : Array Oper) (n N : Nat) : Bool :=
  (List.range n).all fun i => match ops[i]? with
    | some o => match o.dst with
      | some d => decide (d < N) && (List.range i).all fun j => ((ops[j]?).bind (·.dst)) != some d
      | none => true
    | none => true
theorem dst_lt {n N : Nat} (h : dstB ops n N = true) {t : Tmp} {j : Nat} (hj : IsDst ops n t j) : t < N := by
  obtain ⟨hlt, o, ho, hd⟩ := hj
  have h1 := List.all_eq_true.1 h j (List.mem_range.2 hlt)
  simp only [ho, hd, Bool.and_eq_true, decide_eq_true_eq] at h1
  exact h1.1
theorem dst_one' {n N : Nat} (h : dstB ops n N = true) {t : Tmp} {i j : Nat} (hi : IsDst ops n t i) (hj : IsDst ops n t j) (hlt : j < i) : False := by
  obtain ⟨hin, o, ho, hd⟩ := hi
  obtain ⟨hjn, p, hp, hdp⟩ := hj
  have h1 := List.all_eq_true.1 h i (List.mem_range.2 hin)
  simp only [ho, hd, Bool.and_eq_true] at h1
  have h2 := List.all_eq_true.1 h1.2 j (List.mem_range.2 hlt)
  rw [hp] at h2
  simp [hdp] at h2
theorem dst_one {n N : Nat} (h : dstB ops n N = true) {t : Tmp} {i j : Nat} (hi : IsDst ops n t i) (hj : IsDst ops n t j) : i = j := by
  rcases Nat.lt_trichotomy i j with h1 | h1 | h1
  · exact (dst_one' h hj hi h1).elim
  · exact h1
  · exact (dst_one' h hi hj h1).elim
theorem dst_dec (ops : Array Oper) (n : Nat) (t : Tmp) : (∃ j, IsDst ops n t j) ∨ ∀ j, ¬ IsDst ops n t j := by
  by_cases h : ∃ j, IsDst ops n t j
  · exact .inl h
  · exact .inr fun j hj => h ⟨j, hj⟩

def valOf (a : Act) (o : Oper) : Value := match o.dst with
  | some d => a.tmps.getD d undef
  | none => undef
/-- A frame that differs from a0 at most in the head's temporaries. -/
structure Near (ops : Array Oper) (n : Nat) (a0 a : Act) : Prop where
  size : a.tmps.size = a0.tmps.size
  off : ∀ t, (∀ j, ¬ IsDst ops n t j) → a.tmps[t]? = a0.tmps[t]?
  rest : { a with tmps := a0.tmps } = a0
theorem Near.refl (ops : Array Oper) (n : Nat) (a : Act) : Near ops n a a := ⟨rfl, fun _ _ => rfl, rfl⟩
theorem put_get_ne {a : Act} {d : Option Tmp} {v : Value} {t : Tmp} (h : d ≠ some t) : (a.put d v).tmps[t]? = a.tmps[t]? := by
  cases d with
  | none => rfl
  | some e =>
    have : e ≠ t := fun hh => h (by rw [hh])
    simp [Act.put, Array.getElem?_setIfInBounds_ne this]
theorem put_get {a : Act} {t : Tmp} {v : Value} (h : t < a.tmps.size) : (a.put (some t) v).tmps[t]? = some v := by
  simp [Act.put, h]
theorem put_size (a : Act) (d : Option Tmp) (v : Value) : (a.put d v).tmps.size = a.tmps.size := by
  cases d <;> simp [Act.put]
theorem Near.put {n j : Nat} {a0 a : Act} {o : Oper} {v : Value} (h : Near ops n a0 a) (hj : j < n) (ho : ops[j]? = some o) : Near ops n a0 (a.put o.dst v) := by
  refine ⟨by rw [put_size, h.size], fun t ht => ?_, ?_⟩
  · rw [put_get_ne (fun hd => ht j ⟨hj, o, ho, hd⟩)]
    exact h.off t ht
  · rw [← h.rest]
    cases hd : o.dst <;> simp [Act.put]

def puts (U : Nat → Value) (a : Act) (L : List (Nat × Oper)) : Act := L.foldl (fun b p => b.put p.2.dst (U p.1)) a
theorem puts_size (U : Nat → Value) : ∀ (L : List (Nat × Oper)) (a : Act), (puts U a L).tmps.size = a.tmps.size
  | [], _ => rfl
  | p :: L, a => by
    show (puts U (a.put p.2.dst (U p.1)) L).tmps.size = _
    rw [puts_size U L, put_size]
theorem puts_other (U : Nat → Value) {t : Tmp} : ∀ (L : List (Nat × Oper)) (a : Act), (∀ p ∈ L, p.2.dst ≠ some t) → (puts U a L).tmps[t]? = a.tmps[t]?
  | [], _, _ => rfl
  | p :: L, a, h => by
    show (puts U (a.put p.2.dst (U p.1)) L).tmps[t]? = _
    rw [puts_other U L _ fun q hq => h q (by simp [hq]), put_get_ne (h p (by simp))]
theorem puts_hit (U : Nat → Value) {t : Tmp} {i : Nat} {o : Oper} : ∀ (L : List (Nat × Oper)) (a : Act), (i, o) ∈ L → o.dst = some t → t < a.tmps.size → (∀ p ∈ L, p.2.dst = some t → p.1 = i) → (puts U a L).tmps[t]? = some (U i)
  | [], _, h, _, _, _ => by cases h
  | p :: L, a, h, hd, hs, hone => by
    show (puts U (a.put p.2.dst (U p.1)) L).tmps[t]? = _
    by_cases hin : (i, o) ∈ L
    · exact puts_hit U L _ hin hd (by rw [put_size]; exact hs) fun q hq => hone q (by simp [hq])
    · rcases List.mem_cons.1 h with rfl | h
      · by_cases hex : ∃ q ∈ L, q.2.dst = some t
        · obtain ⟨q, hq, hqd⟩ := hex
          have hqi := hone q (by simp [hq]) hqd
          have := puts_hit U (i := q.1) (o := q.2) L (a.put o.dst (U i)) hq hqd (by rw [put_size]; exact hs) fun r hr hrd => by rw [hone r (by simp [hr]) hrd, hqi]
          rw [this, hqi]
        · rw [puts_other U L _ fun q hq hqd => hex ⟨q, hq, hqd⟩, hd]
          exact put_get hs
      · exact absurd h hin
theorem puts_rest (U : Nat → Value) : ∀ (L : List (Nat × Oper)) (a : Act), { puts U a L with tmps := a.tmps } = a
  | [], _ => rfl
  | p :: L, a => by
    show { puts U (a.put p.2.dst (U p.1)) L with tmps := a.tmps } = _
    have h := puts_rest U L (a.put p.2.dst (U p.1))
    have h2 : { a.put p.2.dst (U p.1) with tmps := a.tmps } = a := by cases hd : p.2.dst <;> simp [Act.put]
    have h3 := congrArg (fun b : Act => { b with tmps := a.tmps }) h
    simp only at h3
    rw [h2] at h3
    exact h3
theorem act_ext {a b : Act} (h : { a with tmps := b.tmps } = b) (hs : a.tmps.size = b.tmps.size) (ht : ∀ t : Nat, a.tmps[t]? = b.tmps[t]?) : a = b := by
  have h1 : a.tmps = b.tmps := Array.ext hs fun i h1 h2 => by
    have := ht i
    simpa [h1, h2] using this
  rw [← h, ← h1]

/-- al reads as a where o looks. -/
theorem look_same {o : Oper} (hsel : ∀ cs b, o.op ≠ .select cs b) {a b : Act} (h : ∀ t ∈ o.looksAt ops, a.tmps[t]? = b.tmps[t]?) :
    execOp a.eval o = execOp b.eval o ∧ Region.wanted o (yielded ops a.tmps) = Region.wanted o (yielded ops b.tmps) := by
  constructor
  · refine execOp_congr o hsel fun x hx => ?_
    cases x with
    | tmp t =>
      have := h t (List.mem_append_left _ (List.mem_filterMap.2 ⟨.tmp t, by simpa using hx, rfl⟩))
      simp [Act.eval, this]
    | _ => rfl
  · unfold Region.wanted
    cases hg : o.guard with
    | none => rfl
    | some gw =>
      obtain ⟨g, want⟩ := gw
      have hy : yielded ops a.tmps g = yielded ops b.tmps g := by
        unfold yielded
        cases ht : (ops[g]?).bind (·.dst) with
        | none => rfl
        | some t =>
          have := h t (List.mem_append_right _ (by simp [hg, ht]))
          simp [this]
      simp only [hy]

def looksB (ops : Array Oper) (n : Nat) : Bool :=
  (List.range n).all fun i => match ops[i]? with
    | some o => (o.looksAt ops).all fun t => (List.range n).all fun j => ((ops[j]?).bind (·.dst)) != some t || waitsB o j
    | none => true
theorem looks_spec {n i j : Nat} {o : Oper} (h : looksB ops n = true) (hi : i < n) (ho : ops[i]? = some o) {t : Tmp} (ht : t ∈ o.looksAt ops) (hj : IsDst ops n t j) : waitsB o j = true := by
  obtain ⟨hjn, p, hp, hd⟩ := hj
  have h1 := List.all_eq_true.1 h i (List.mem_range.2 hi)
  simp only [ho] at h1
  have h2 := List.all_eq_true.1 h1 t ht
  have h3 := List.all_eq_true.1 h2 j (List.mem_range.2 hjn)
  rw [hp] at h3
  simpa [hd] using h3

/-- Whatever order is drawn, by a table. -/
theorem any_table {n : Nat} (hn : n ≤ ops.size) (hsel : Region.noSelect ops = true) (ht : tailB ops n = true) (hto : topoB ops n = true) (hlk : looksB ops n = true) {a0 : Act} (hds : dstB ops n a0.tmps.size = true)
    (T : Nat → TabR X) (hT : ∀ i, (T i).keep le) (hany : ∀ i o, i < n → ops[i]? = some o → (∃ v, T i = .fix v) ∨ o.dst.isSome = true ∨ ∀ R, T i = .any R → ∀ u v x, R u x → R v x) (L : List (Nat × Oper)) (hL : ∀ i o, ops[i]? = some o → i < n → (i, o) ∈ L) (hL' : ∀ p ∈ L, p.1 < n ∧ ops[p.1]? = some p.2)
    (lex : ∀ i o, i < n → ops[i]? = some o → ∀ U : Nat → Value, (∀ j v0, T j = .fix v0 → U j = v0) →
      ∃ al : Act, Near ops n a0 al ∧ (∀ t j, t ∈ o.looksAt ops → IsDst ops n t j → al.tmps[t]? = some (U j)) ∧ ∀ x, (∀ j, j < n → waitsB o j = true → (T j).holds (U j) x) → Good P ops to le i o al x (T i))
    (fin : ∀ U : Nat → Value, (∀ j v0, T j = .fix v0 → U j = v0) → ∀ x, (∀ j, j < n → (T j).holds (U j) x) → wpList P ops Q (ops.toList.drop n) (puts U a0 L) (to x))
    (x0 : X) (hl0 : Ranked.live (left n (Array.replicate ops.size false)) x0) (hp0 : ∀ i, i < n → Ranked.pend i x0) : wpAny P .any ops Q ops.size (Array.replicate ops.size false) a0 (to x0) := by
  -- the value of an operation, read off the frame
  let Uof : Act → Nat → Value := fun a j => match T j with
    | .fix v0 => v0
    | .any _ => match ops[j]? with
      | some oj => valOf a oj
      | none => undef
  have hU : ∀ a j v0, T j = .fix v0 → Uof a j = v0 := fun a j v0 h => by simp only [Uof, h]
  let Φ : Nat → Act → X → Prop := fun i a x => ∀ o, ops[i]? = some o → (∀ d, o.dst = some d → a.tmps[d]? = some (Uof a i)) ∧ (T i).holds (Uof a i) x
  have hput : ∀ {i o a v x}, i < n → ops[i]? = some o → Near ops n a0 a → (T i).holds v x → Φ i (a.put o.dst v) x := by
    intro i o a v x hi ho hA hv o' ho'
    obtain rfl : o = o' := Option.some.inj (ho.symm.trans ho')
    have hval : ∀ d, o.dst = some d → (a.put o.dst v).tmps[d]? = some v := fun d hd => by
      rw [hd]; exact put_get (by rw [hA.size]; exact dst_lt hds ⟨hi, o, ho, hd⟩)
    have hUv : Uof (a.put o.dst v) i = v ∨ (o.dst = none ∧ ∃ R, T i = .any R ∧ ∀ u v x, R u x → R v x) := by
      cases hTi : T i with
      | fix v0 =>
        rw [hU _ _ _ hTi]
        rw [hTi] at hv
        exact .inl hv.symm
      | any R =>
        simp only [Uof, hTi, ho, valOf]
        have hsome : o.dst.isSome = true → (match o.dst with | some d => (a.put o.dst v).tmps.getD d undef | none => undef) = v := fun h0 => by
          obtain ⟨d, hd⟩ := Option.isSome_iff_exists.1 h0
          have := hval d hd
          simp only [hd] at this ⊢
          simp [Array.getD_eq_getD_getElem?, this]
        rcases hany i o hi ho with ⟨v0, h0⟩ | h0 | h0
        · rw [hTi] at h0; cases h0
        · exact .inl (hsome h0)
        · cases hd : o.dst with
          | some d => left; have := hsome (by rw [hd]; rfl); simpa only [hd] using this
          | none => exact .inr ⟨rfl, R, rfl, h0 R hTi⟩
    rcases hUv with hUv | ⟨hd, R, hR, hst⟩
    · rw [hUv]
      exact ⟨hval, hv⟩
    · refine ⟨fun d hd' => (by rw [hd] at hd'; cases hd'), ?_⟩
      rw [hR] at hv ⊢
      exact hst _ _ _ hv
  have H := any_core (P := P) (Q := Q) (to := to) (le := le) hn ht hto (Near ops n a0) Φ ?step ?stab ?fin (left n (Array.replicate ops.size false)) (Array.replicate ops.size false) a0 x0 rfl
    ⟨by simp, fun j oj _ hl => (by rw [getD_replicate_false] at hl; cases hl), fun t _ ht => getD_in (by simpa using ht) (getD_replicate_false _ _)⟩ (Near.refl _ _ _) hl0 (fun i hi _ => hp0 i hi) (fun i hi hl => (by rw [getD_replicate_false] at hl; cases hl))
  case step =>
    intro m i o hi ho a x hA hlv hpi hdeps K hK
    obtain ⟨al, hal, hlook, hgood⟩ := lex i o hi ho (Uof a) (hU a)
    have hdep : ∀ j, j < n → waitsB o j = true → (T j).holds (Uof a j) x := fun j hj hw => (hdeps j hj hw _ (Array.getElem?_eq_getElem (Nat.lt_of_lt_of_le hj hn))).2
    have hsame : ∀ t ∈ o.looksAt ops, a.tmps[t]? = al.tmps[t]? := by
      intro t htl
      rcases dst_dec ops n t with ⟨j, hj⟩ | hno
      · have hw := looks_spec hlk hi ho htl hj
        obtain ⟨hjn, oj, hoj, hd⟩ := id hj
        rw [hlook t j htl hj, (hdeps j hjn hw oj hoj).1 t hd]
      · rw [hA.off t hno, hal.off t hno]
    obtain ⟨h1, h2⟩ := look_same (fun cs b => Region.noSelect_spec hsel i o cs b ho) hsame
    refine step_move (G := fun v w => ∃ y, w = to y ∧ le x y ∧ Ranked.live m y ∧ (∀ j, j ≠ i → ¬ Behind ops i j → Ranked.pend j x → Ranked.pend j y) ∧ (T i).holds v y) ho (by rw [hA.size, hal.size]) h1 h2 (hgood x hdep m hlv hpi _ fun v y hle hl hp hv => ⟨rfl, v, rfl, y, rfl, hle, hl, hp, hv⟩) ?_
    rintro v w ⟨y, rfl, hle, hl, hp, hv⟩
    exact hK v y hle hl hp (hA.put hi ho) (hput hi ho hA hv)
  case stab =>
    intro i j o a x y v hi hj hij ho hA hΦ hle o' ho'
    obtain ⟨h1, h2⟩ := hΦ o' ho'
    have hne : ∀ d, o'.dst = some d → o.dst ≠ some d := fun d hd hod => hij (dst_one hds ⟨hi, o', ho', hd⟩ ⟨hj, o, ho, hod⟩)
    have hUe : Uof (a.put o.dst v) i = Uof a i := by
      cases hTi : T i with
      | fix v0 => rw [hU _ _ _ hTi, hU _ _ _ hTi]
      | any R =>
        simp only [Uof, hTi, ho', valOf]
        cases hd : o'.dst with
        | none => rfl
        | some d =>
          have := put_get_ne (a := a) (v := v) (hne d hd)
          simp only [Array.getD_eq_getD_getElem?, this]
    rw [hUe]
    refine ⟨fun d hd => by rw [put_get_ne (hne d hd)]; exact h1 d hd, ?_⟩
    have hk := hT i
    cases hTi : T i with
    | fix v0 => rw [hTi] at h2; exact h2
    | any R =>
      rw [hTi] at h2 hk
      exact hk _ _ _ h2 hle
  case fin =>
    intro a x hA hΦ
    have hall : ∀ j, j < n → (T j).holds (Uof a j) x := fun j hj => (hΦ j hj _ (Array.getElem?_eq_getElem (Nat.lt_of_lt_of_le hj hn))).2
    have he : a = puts (Uof a) a0 L := by
      refine act_ext ?_ ?_ ?_
      · have h1 := hA.rest
        have h2 := puts_rest (Uof a) L a0
        have h3 := congrArg (fun b : Act => { b with tmps := (puts (Uof a) a0 L).tmps }) (h1.trans h2.symm)
        exact h3
      · rw [hA.size, puts_size]
      · intro t
        rcases dst_dec ops n t with ⟨j, hj⟩ | hno
        · obtain ⟨hjn, oj, hoj, hd⟩ := id hj
          rw [(hΦ j hjn oj hoj).1 t hd, puts_hit (Uof a) L a0 (hL j oj hoj hjn) hd (dst_lt hds hj) fun p hp hpd => ?_]
          exact dst_one hds ⟨(hL' p hp).1, p.2, (hL' p hp).2, hpd⟩ hj
        · rw [hA.off t hno, puts_other _ _ _ fun p hp hpd => hno p.1 ⟨(hL' p hp).1, p.2, (hL' p hp).2, hpd⟩]
    rw [he]
    exact fin _ (hU a) x hall
  have hleft : left n (Array.replicate ops.size false) = n := by
    unfold left
    rw [List.filter_eq_self.2]
    · simp
    · intro i hi
      have hi' := List.mem_range.1 hi
      rw [getD_in (by simp; omega) (getD_replicate_false _ _)]; rfl
  rw [hleft, show n + (ops.size - n) = ops.size by omega] at H
  exact H

/-! ### The walk. -/
def depF : List (Nat × (X → Prop)) → Oper → X → Prop
  | [], _, _ => True
  | (j, p) :: F, o, x => (waitsB o j = true → p x) ∧ depF F o x
def allF : List (Nat × (X → Prop)) → X → Prop
  | [], _ => True
  | (_, p) :: F, x => p x ∧ allF F x
omit [Ranked X] in
theorem depF_of {F : List (Nat × (X → Prop))} {o : Oper} {x : X} (h : ∀ p ∈ F, waitsB o p.1 = true → p.2 x) : depF F o x := by
  induction F with
  | nil => trivial
  | cons p F ih => exact ⟨h p (by simp), ih fun q hq => h q (by simp [hq])⟩
omit [Ranked X] in
theorem allF_of {F : List (Nat × (X → Prop))} {x : X} (h : ∀ p ∈ F, p.2 x) : allF F x := by
  induction F with
  | nil => trivial
  | cons p F ih => exact ⟨h p (by simp), ih fun q hq => h q (by simp [hq])⟩

/-- Behind the looks: one operation behind the other, each from the facts of those that it waits for. -/
def TabGo (P : Program) (ops : Array Oper) (to : X → World) (le : X → X → Prop) (Qt : Act → World → Prop) : List (Nat × Oper) → List (Nat × (X → Prop)) → List (TabR X) → Act → Prop
  | [], F, [], a => ∀ x, allF F x → Qt a (to x)
  | (i, o) :: l, F, .fix v0 :: Rs, a => (∀ x, depF F o x → Good P ops to le i o a x (.fix v0)) ∧ TabGo P ops to le Qt l F Rs (a.put o.dst v0)
  | (i, o) :: l, F, .any R :: Rs, a => (o.dst.isSome = true ∨ ∀ u v x, R u x → R v x) ∧ (∀ v x y, R v x → le x y → R v y) ∧ (∀ x, depF F o x → Good P ops to le i o a x (.any R)) ∧ ∀ v, TabGo P ops to le Qt l ((i, R v) :: F) Rs (a.put o.dst v)
  | _, _, _, _ => False

theorem tab_end {Qt : Act → World → Prop} {F : List (Nat × (X → Prop))} {a : Act} (h : ∀ x, allF F x → Qt a (to x)) : TabGo P ops to le Qt [] F [] a := h
theorem tab_fix {Qt : Act → World → Prop} {i : Nat} {o : Oper} {l : List (Nat × Oper)} {F : List (Nat × (X → Prop))} {Rs : List (TabR X)} {a : Act} (v0 : Value)
    (h1 : ∀ x, depF F o x → ∀ m, Ranked.live (m + 1) x → Ranked.pend i x → ∀ Qx : Exit → Act → World → Prop, (∀ y, le x y → Ranked.live m y → (∀ j, j ≠ i → ¬ Behind ops i j → Ranked.pend j x → Ranked.pend j y) → Qx .normal (a.put o.dst v0) (to y)) → wpList P ops Qx [o] a (to x))
    (h2 : TabGo P ops to le Qt l F Rs (a.put o.dst v0)) : TabGo P ops to le Qt ((i, o) :: l) F (.fix v0 :: Rs) a :=
  ⟨fun x hx m hm hp Qx hQ => h1 x hx m hm hp Qx fun y hy hl hpy => hQ v0 y hy hl hpy rfl, h2⟩
theorem tab_any {Qt : Act → World → Prop} {i : Nat} {o : Oper} {l : List (Nat × Oper)} {F : List (Nat × (X → Prop))} {Rs : List (TabR X)} {a : Act} (R : Value → X → Prop) (hd : o.dst.isSome = true ∨ ∀ u v x, R u x → R v x) (hs : ∀ v x y, R v x → le x y → R v y)
    (h1 : ∀ x, depF F o x → ∀ m, Ranked.live (m + 1) x → Ranked.pend i x → ∀ Qx : Exit → Act → World → Prop, (∀ v y, le x y → Ranked.live m y → (∀ j, j ≠ i → ¬ Behind ops i j → Ranked.pend j x → Ranked.pend j y) → R v y → Qx .normal (a.put o.dst v) (to y)) → wpList P ops Qx [o] a (to x))
    (h2 : ∀ v, TabGo P ops to le Qt l ((i, R v) :: F) Rs (a.put o.dst v)) : TabGo P ops to le Qt ((i, o) :: l) F (.any R :: Rs) a :=
  ⟨hd, hs, fun x hx m hm hp Qx hQ => h1 x hx m hm hp Qx fun v y hy hl hpy hv => hQ v y hy hl hpy hv, h2⟩

def pick (l : List Oper) (ord : List Nat) : List (Nat × Oper) := ord.map fun i => (i, l.getD i default)

def orderB (ops : Array Oper) (n : Nat) : List Nat → List Nat → Bool
  | [], _ => true
  | i :: t, done => (match ops[i]? with
    | some o => (List.range n).all fun j => !waitsB o j || done.contains j
    | none => false) && orderB ops n t (i :: done)
theorem order_spec {n : Nat} : ∀ (ord done : List Nat), orderB ops n ord done = true → ∀ k i o j, ord[k]? = some i → ops[i]? = some o → j < n → waitsB o j = true → j ∈ done ∨ j ∈ ord.take k
  | [], _, _, k, i, _, _, h, _, _, _ => by simp at h
  | a :: t, done, hB, k, i, o, j, h, ho, hj, hw => by
    simp only [orderB, Bool.and_eq_true] at hB
    cases k with
    | zero =>
      simp at h
      subst h
      have h1 := hB.1
      simp only [ho] at h1
      have h2 := List.all_eq_true.1 h1 j (List.mem_range.2 hj)
      left
      simpa [hw] using h2
    | succ k =>
      rcases order_spec t (a :: done) hB.2 k i o j (by simpa using h) ho hj hw with h1 | h1
      · rcases List.mem_cons.1 h1 with rfl | h1
        · right; simp
        · exact .inl h1
      · right
        rw [List.take_succ_cons]
        exact List.mem_cons_of_mem _ h1

def tabB (l : List Oper) (n : Nat) (ord1 ord2 : List Nat) : Bool :=
  Region.noSelect l.toArray && decide (n ≤ l.length) && tailB l.toArray n && topoB l.toArray n && looksB l.toArray n && decide ((ord1 ++ ord2).Nodup) && (List.range n).all (fun i => (ord1 ++ ord2).contains i) && (ord1 ++ ord2).all (fun i => decide (i < n)) &&
    ord1.all (fun i => lookOp (l.getD i default).op) && orderB l.toArray n (ord1 ++ ord2) []

theorem puts_congr {U V : Nat → Value} : ∀ (L : List (Nat × Oper)) (a : Act), (∀ p ∈ L, U p.1 = V p.1) → puts U a L = puts V a L
  | [], _, _ => rfl
  | p :: L, a, h => by
    show puts U (a.put p.2.dst (U p.1)) L = puts V (a.put p.2.dst (V p.1)) L
    rw [h p (by simp)]
    exact puts_congr L _ fun q hq => h q (by simp [hq])
theorem puts_append (U : Nat → Value) (L M : List (Nat × Oper)) (a : Act) : puts U a (L ++ M) = puts U (puts U a L) M := by
  unfold puts; exact List.foldl_append

/-- The values that the looks give. -/
theorem quiet_vals {C : World → Prop} {Qq : Act → Prop} : ∀ (L : List (Nat × Oper)) (a : Act), (L.map (·.1)).Nodup → wpQuiet P ops C Qq (L.map (·.2)) a →
    ∃ V : Nat → Value, Qq (puts V a L) ∧ ∀ (k : Nat) (p : Nat × Oper), L[k]? = some p → YieldsIn P ops C p.2 (V p.1) (puts V a (L.take k))
  | [], a, _, h => ⟨fun _ => undef, h, fun k p hp => by simp at hp⟩
  | p :: L, a, hn, h => by
    rw [List.map_cons, List.nodup_cons] at hn
    have hv : ∃ v, YieldsIn P ops C p.2 v a ∧ wpQuiet P ops C Qq (L.map (·.2)) (a.put p.2.dst v) := by
      rw [List.map_cons] at h
      unfold wpQuiet at h
      split at h
      · rename_i hw
        obtain ⟨v, h1, h2⟩ := h
        exact ⟨v, .inl ⟨hw, h1⟩, h2⟩
      · rename_i hw
        exact ⟨undef, .inr ⟨by simpa using hw, rfl⟩, h⟩
    obtain ⟨v, hy, hrest⟩ := hv
    obtain ⟨V, hQ, hV⟩ := quiet_vals L _ hn.2 hrest
    let W : Nat → Value := fun j => if j = p.1 then v else V j
    have hW0 : W p.1 = v := by simp [W]
    have hWL : ∀ q ∈ L, W q.1 = V q.1 := fun q hq => by
      have : q.1 ≠ p.1 := fun e => hn.1 (e ▸ List.mem_map.2 ⟨q, hq, rfl⟩)
      simp [W, this]
    have hc : ∀ k, puts W a ((p :: L).take (k + 1)) = puts V (a.put p.2.dst v) (L.take k) := fun k => by
      rw [List.take_succ_cons]
      show puts W (a.put p.2.dst (W p.1)) (L.take k) = _
      rw [hW0]
      exact puts_congr _ _ fun q hq => hWL q (List.mem_of_mem_take hq)
    refine ⟨W, ?_, fun k q hq => ?_⟩
    · have := hc L.length
      rw [List.take_length, ← List.length_cons (a := p), List.take_length] at this
      rw [this]; exact hQ
    · cases k with
      | zero =>
        simp at hq
        subst hq
        rw [hW0]; exact hy
      | succ k =>
        have hq' : L[k]? = some q := by simpa using hq
        rw [hc, hWL q (List.mem_of_getElem? hq')]
        exact hV k q hq'

theorem tabGo_get {Qt : Act → World → Prop} {n : Nat} {T : Nat → TabR X} {U : Nat → Value} (hU : ∀ j v0, T j = .fix v0 → U j = v0) : ∀ (L : List (Nat × Oper)) (F : List (Nat × (X → Prop))) (Rs : List (TabR X)) (a : Act),
    TabGo P ops to le Qt L F Rs a → (∀ (k : Nat) (p : Nat × Oper) (r : TabR X), L[k]? = some p → Rs[k]? = some r → T p.1 = r) → (∀ p ∈ L, p.1 < n) → (∀ p ∈ F, p.1 < n ∧ ∀ x, (T p.1).holds (U p.1) x → p.2 x) →
    (∀ (k : Nat) (p : Nat × Oper), L[k]? = some p → ∀ x, (∀ j, j < n → waitsB p.2 j = true → (T j).holds (U j) x) → Good P ops to le p.1 p.2 (puts U a (L.take k)) x (T p.1)) ∧ (∀ x, (∀ j, j < n → (T j).holds (U j) x) → Qt (puts U a L) (to x))
  | [], F, [], a, h, _, _, hF => ⟨fun k p hp => by simp at hp, fun x hx => h x (allF_of fun p hp => (hF p hp).2 x (hx _ (hF p hp).1))⟩
  | [], _, _ :: _, _, h, _, _, _ => h.elim
  | (i, o) :: L, F, [], _, h, _, _, _ => h.elim
  | (i, o) :: L, F, .fix v0 :: Rs, a, h, hT, hn, hF => by
    obtain ⟨h1, h2⟩ := h
    have hTi : T i = .fix v0 := hT 0 (i, o) (.fix v0) rfl rfl
    have hUi : U i = v0 := hU i v0 hTi
    obtain ⟨h3, h4⟩ := tabGo_get hU L F Rs _ h2 (fun k p r hp hr => hT (k + 1) p r (by simpa using hp) (by simpa using hr)) (fun p hp => hn p (by simp [hp])) hF
    have hput : ∀ M, puts U a ((i, o) :: M) = puts U (a.put o.dst v0) M := fun M => by
      show puts U (a.put o.dst (U i)) M = _
      rw [hUi]
    refine ⟨fun k p hp x hx => ?_, fun x hx => by rw [hput]; exact h4 x hx⟩
    cases k with
    | zero =>
      simp at hp
      subst hp
      rw [hTi]
      exact h1 x (depF_of fun q hq hw => (hF q hq).2 x (hx _ (hF q hq).1 hw))
    | succ k =>
      rw [List.take_succ_cons, hput]
      exact h3 k p (by simpa using hp) x hx
  | (i, o) :: L, F, .any R :: Rs, a, h, hT, hn, hF => by
    obtain ⟨_, hk, h1, h2⟩ := h
    have hTi : T i = .any R := hT 0 (i, o) (.any R) rfl rfl
    obtain ⟨h3, h4⟩ := tabGo_get hU L ((i, R (U i)) :: F) Rs _ (h2 (U i)) (fun k p r hp hr => hT (k + 1) p r (by simpa using hp) (by simpa using hr)) (fun p hp => hn p (by simp [hp])) fun q hq => by
      rcases List.mem_cons.1 hq with rfl | hq
      · exact ⟨hn (i, o) (by simp), fun x hx => by rw [hTi] at hx; exact hx⟩
      · exact hF q hq
    refine ⟨fun k p hp x hx => ?_, fun x hx => h4 x hx⟩
    cases k with
    | zero =>
      simp at hp
      subst hp
      rw [hTi]
      exact h1 x (depF_of fun q hq hw => (hF q hq).2 x (hx _ (hF q hq).1 hw))
    | succ k => exact h3 k p (by simpa using hp) x hx
theorem tabGo_form {Qt : Act → World → Prop} : ∀ (L : List (Nat × Oper)) (F : List (Nat × (X → Prop))) (Rs : List (TabR X)) (a : Act),
    TabGo P ops to le Qt L F Rs a → Rs.length = L.length ∧ ∀ (k : Nat) (p : Nat × Oper) (r : TabR X), L[k]? = some p → Rs[k]? = some r → r.keep le ∧ ((∃ v, r = .fix v) ∨ p.2.dst.isSome = true ∨ ∀ R, r = .any R → ∀ u v x, R u x → R v x)
  | [], _, [], _, _ => ⟨rfl, fun k p r hp => by simp at hp⟩
  | [], _, _ :: _, _, h => h.elim
  | (i, o) :: L, F, [], _, h => h.elim
  | (i, o) :: L, F, .fix v0 :: Rs, a, h => by
    obtain ⟨_, h2⟩ := h
    obtain ⟨h3, h4⟩ := tabGo_form L F Rs _ h2
    refine ⟨by simp [h3], fun k p r hp hr => ?_⟩
    cases k with
    | zero =>
      simp at hr
      subst hr
      exact ⟨trivial, .inl ⟨_, rfl⟩⟩
    | succ k => exact h4 k p r (by simpa using hp) (by simpa using hr)
  | (i, o) :: L, F, .any R :: Rs, a, h => by
    obtain ⟨hd, hk, _, h2⟩ := h
    obtain ⟨h3, h4⟩ := tabGo_form L _ Rs _ (h2 undef)
    refine ⟨by simp [h3], fun k p r hp hr => ?_⟩
    cases k with
    | zero =>
      simp at hr hp
      subst hr hp
      exact ⟨hk, .inr (hd.imp id fun hd R' hR => by cases hR; exact hd)⟩
    | succ k => exact h4 k p r (by simpa using hp) (by simpa using hr)

theorem lookup_zip {α : Type} : ∀ (ks : List Nat) (rs : List α) (k i : Nat) (r : α), ks.Nodup → ks[k]? = some i → rs[k]? = some r → (ks.zip rs).lookup i = some r
  | [], _, _, _, _, _, h, _ => by simp at h
  | a :: ks, [], _, _, _, _, _, h => by simp at h
  | a :: ks, b :: rs, k, i, r, hn, h, hr => by
    rw [List.nodup_cons] at hn
    cases k with
    | zero =>
      simp at h hr
      subst h hr
      simp [List.lookup]
    | succ k =>
      have h1 : ks[k]? = some i := by simpa using h
      have hne : (i == a) = false := beq_eq_false_iff_ne.2 fun e => hn.1 (e ▸ List.mem_of_getElem? h1)
      simp only [List.zip_cons_cons, List.lookup, hne]
      exact lookup_zip ks rs k i r hn.2 h1 (by simpa using hr)

/-- **ONE WALK FOR EVERY ORDER.** First the looks (ord1), then what makes memory or calls (ord2), each from what it waits for; behind them the tail. -/
theorem region_tab {rid : Nat} {l : List Oper} {a0 : Act} {w : World} (to : X → World) (le : X → X → Prop) (hle : ∀ x, le x x) (n : Nat) (ord1 ord2 : List Nat) (hm : P.follows .mixedOrders = true) (hB : tabB l n ord1 ord2 = true) (hd : dstB l.toArray n a0.tmps.size = true)
    (x0 : X) (hl0 : ∀ m, m ≤ n → Ranked.live m x0) (hp0 : ∀ i, i < n → Ranked.pend i x0) (hx : to x0 = w.drew)
    (h : wpQuiet P l.toArray (fun w' => ∃ x, w' = to x) (fun a1 => ∃ Rs, TabGo P l.toArray to le (wpList P l.toArray Q (l.drop n)) (pick l ord2) [] Rs a1) ((pick l ord1).map (·.2)) a0) : (Code.region rid l.toArray true).wp P Q a0 w := by
  simp only [tabB, Bool.and_eq_true, decide_eq_true_eq] at hB
  obtain ⟨⟨⟨⟨⟨⟨⟨⟨⟨hsel, hn⟩, ht⟩, hto⟩, hlk⟩, hnd⟩, hcov⟩, hrng⟩, hlook⟩, hord⟩ := hB
  have hn' : n ≤ l.toArray.size := by simpa using hn
  have hcov' : ∀ i, i < n → i ∈ ord1 ++ ord2 := fun i hi => by simpa using List.all_eq_true.1 hcov i (List.mem_range.2 hi)
  have hrng' : ∀ i ∈ ord1 ++ ord2, i < n := fun i hi => by simpa using List.all_eq_true.1 hrng i hi
  have hget : ∀ i, i < n → l.toArray[i]? = some (l.getD i default) := fun i hi => by
    have hil : i < l.length := Nat.lt_of_lt_of_le hi hn
    simp [hil]
  have hmap1 : ∀ ord : List Nat, (pick l ord).map (·.1) = ord := fun ord => by simp [pick, Function.comp_def]
  obtain ⟨V, ⟨Rs, hgo⟩, hV⟩ := quiet_vals (pick l ord1) a0 (by rw [hmap1]; exact (List.nodup_append.1 hnd).1) h
  obtain ⟨hlen, hform⟩ := tabGo_form _ _ _ _ hgo
  have hlen' : Rs.length = ord2.length := by rw [hlen]; simp [pick]
  let T : Nat → TabR X := fun j => (((ord1 ++ ord2).zip (ord1.map (fun i => TabR.fix (V i)) ++ Rs)).lookup j).getD (.fix undef)
  have hT1 : ∀ i ∈ ord1, T i = .fix (V i) := fun i hi => by
    obtain ⟨k, hk⟩ := List.mem_iff_getElem?.1 hi
    have hk' : k < ord1.length := by
      rcases Nat.lt_or_ge k ord1.length with h | h
      · exact h
      · rw [List.getElem?_eq_none h] at hk; cases hk
    have := lookup_zip (ord1 ++ ord2) (ord1.map (fun i => TabR.fix (V i)) ++ Rs) k i (.fix (V i)) hnd (by rw [List.getElem?_append_left hk']; exact hk) (by rw [List.getElem?_append_left (by simpa using hk'), List.getElem?_map, hk]; rfl)
    simp only [T, this, Option.getD_some]
  have hT2 : ∀ k i r, ord2[k]? = some i → Rs[k]? = some r → T i = r := fun k i r hk hr => by
    have := lookup_zip (ord1 ++ ord2) (ord1.map (fun i => TabR.fix (V i)) ++ Rs) (ord1.length + k) i r hnd (by rw [List.getElem?_append_right (by omega), Nat.add_sub_cancel_left]; exact hk)
      (by rw [List.getElem?_append_right (by simp), List.length_map, Nat.add_sub_cancel_left]; exact hr)
    simp only [T, this, Option.getD_some]
  have hTp : ∀ (k : Nat) (p : Nat × Oper) (r : TabR X), (pick l ord2)[k]? = some p → Rs[k]? = some r → T p.1 = r := fun k p r hp hr => by
    simp only [pick, List.getElem?_map, Option.map_eq_some_iff] at hp
    obtain ⟨i, hi, rfl⟩ := hp
    exact hT2 k i r hi hr
  have hTr : ∀ i, i < n → (i ∈ ord1 ∧ T i = .fix (V i)) ∨ ∃ k r, ord2[k]? = some i ∧ Rs[k]? = some r ∧ T i = r := fun i hi => by
    rcases List.mem_append.1 (hcov' i hi) with h1 | h1
    · exact .inl ⟨h1, hT1 i h1⟩
    · obtain ⟨k, hk⟩ := List.mem_iff_getElem?.1 h1
      have hk' : k < Rs.length := by
        rcases Nat.lt_or_ge k ord2.length with h | h
        · omega
        · rw [List.getElem?_eq_none h] at hk; cases hk
      exact .inr ⟨k, Rs[k], hk, List.getElem?_eq_getElem hk', hT2 k i _ hk (List.getElem?_eq_getElem hk')⟩
  have hTall : ∀ i, (T i).keep le := fun i => by
    by_cases hi : i < n
    · rcases hTr i hi with ⟨_, h1⟩ | ⟨k, r, hk, hr, h1⟩
      · rw [h1]; trivial
      · rw [h1]; exact (hform k (i, l.getD i default) r (by simp [pick, hk]) hr).1
    · have : ((ord1 ++ ord2).zip (ord1.map (fun i => TabR.fix (V i)) ++ Rs)).lookup i = none := by
        rw [List.lookup_eq_none_iff]
        intro p hp
        have h1 := (List.of_mem_zip hp).1
        have := hrng' _ h1
        have hne : i ≠ p.1 := fun e => hi (by rw [e]; exact this)
        simpa using hne
      simp only [T, this, Option.getD_none]; trivial
  have hpickmem : ∀ i, i ∈ ord1 ++ ord2 → (i, l.getD i default) ∈ pick l (ord1 ++ ord2) := fun i hi => List.mem_map.2 ⟨i, hi, rfl⟩
  have hpa : pick l (ord1 ++ ord2) = pick l ord1 ++ pick l ord2 := by simp [pick]
  refine wp_region_any hm ?_
  have H := any_table (P := P) (Q := Q) (to := to) (le := le) hn' hsel ht hto hlk hd T hTall ?any (pick l (ord1 ++ ord2)) ?L ?L' ?lex ?fin x0 (hl0 _ (left_le _ _)) hp0
  · rw [hx] at H
    exact H
  case any =>
    intro i o hi ho
    rcases hTr i hi with ⟨_, h1⟩ | ⟨k, r, hk, hr, h1⟩
    · exact .inl ⟨_, h1⟩
    · rw [h1]
      obtain rfl : o = l.getD i default := Option.some.inj (ho.symm.trans (hget i hi))
      exact (hform k (i, l.getD i default) r (by simp [pick, hk]) hr).2
  case L =>
    intro i o ho hi
    obtain rfl : o = l.getD i default := Option.some.inj (ho.symm.trans (hget i hi))
    exact hpickmem i (hcov' i hi)
  case L' =>
    intro p hp
    obtain ⟨i, hi, rfl⟩ := List.mem_map.1 hp
    exact ⟨hrng' i hi, hget i (hrng' i hi)⟩
  case lex =>
    intro i o hi ho U hU
    obtain rfl : o = l.getD i default := Option.some.inj (ho.symm.trans (hget i hi))
    obtain ⟨hg, _⟩ := tabGo_get (n := n) (T := T) (U := U) hU _ _ _ _ hgo hTp (fun p hp => by
      obtain ⟨j, hj, rfl⟩ := List.mem_map.1 hp
      exact hrng' j (List.mem_append_right _ hj)) (fun p hp => by cases hp)
    obtain ⟨k, hk⟩ := List.mem_iff_getElem?.1 (hcov' i hi)
    have hput1 : ∀ M : List (Nat × Oper), (∀ p ∈ M, p.1 ∈ ord1) → puts U a0 M = puts V a0 M := fun M hM => puts_congr M a0 fun p hp => by rw [hU _ _ (hT1 _ (hM p hp))]
    have hmem1 : ∀ p ∈ pick l ord1, p.1 ∈ ord1 := fun p hp => by
      obtain ⟨j, hj, rfl⟩ := List.mem_map.1 hp
      exact hj
    refine ⟨puts U a0 ((pick l (ord1 ++ ord2)).take k), ?_, ?_, ?_⟩
    · refine ⟨puts_size _ _ _, fun t hno => puts_other _ _ _ fun p hp hpd => ?_, ?_⟩
      · obtain ⟨j, hj, rfl⟩ := List.mem_map.1 (List.mem_of_mem_take hp)
        exact hno j ⟨hrng' j hj, _, hget j (hrng' j hj), hpd⟩
      · exact puts_rest _ _ _
    · intro t j ht2 hj
      have hw := looks_spec hlk hi ho ht2 hj
      have hjo := (order_spec (ord1 ++ ord2) [] hord k i _ j hk ho hj.1 hw).resolve_left (by simp)
      have hj0 := hj
      obtain ⟨hjn, oj, hoj, hjd⟩ := hj0
      obtain rfl : oj = l.getD j default := Option.some.inj (hoj.symm.trans (hget j hjn))
      refine puts_hit U (o := l.getD j default) _ a0 ?_ hjd (dst_lt hd hj) fun p hp hpd => ?_
      · rw [pick, ← List.map_take]
        exact List.mem_map.2 ⟨j, hjo, rfl⟩
      · obtain ⟨j', hj', rfl⟩ := List.mem_map.1 (List.mem_of_mem_take hp)
        exact dst_one hd ⟨hrng' j' hj', _, hget j' (hrng' j' hj'), hpd⟩ hj
    · intro x hx
      rcases Nat.lt_or_ge k ord1.length with hk1 | hk1
      · have hi1 : ord1[k]? = some i := by rw [List.getElem?_append_left hk1] at hk; exact hk
        have himem : i ∈ ord1 := List.mem_of_getElem? hi1
        have htake : (pick l (ord1 ++ ord2)).take k = (pick l ord1).take k := by rw [hpa, List.take_append_of_le_length (by simp [pick]; omega)]
        have hy := hV k (i, l.getD i default) (by simp [pick, hi1])
        rw [htake, hput1 _ fun p hp => hmem1 p (List.mem_of_mem_take hp), hT1 i himem]
        intro mq hmq hpq Qx hQ
        have hlo : lookOp (l.getD i default).op = true := List.all_eq_true.1 hlook i himem
        have hQ' := fun y hy hl hpy => hQ (V i) y hy hl hpy rfl
        unfold wpList
        rcases hy with ⟨hw, hq⟩ | ⟨hw, hq⟩
        · rw [if_pos hw]
          refine .inl ?_
          have h1 := hq (to x) ⟨x, rfl⟩
          unfold Oper.quietAt at h1
          unfold Oper.wp
          cases hr : (execOp (puts V a0 (List.take k (pick l ord1))).eval (l.getD i default)).run P (to x) with
          | ok nx w' =>
            rw [hr] at h1
            cases nx <;> simp only [Oper.quietUpon] at h1
            case value u =>
              obtain ⟨rfl, rfl⟩ := h1
              exact hQ' x (hle x) (Ranked.down _ _ hmq) fun _ _ _ h => h
            case skip =>
              obtain ⟨rfl, h2⟩ := h1
              show Qx .normal _ _
              rw [← h2]
              exact hQ' x (hle x) (Ranked.down _ _ hmq) fun _ _ _ h => h
            case enter f args => exact absurd hr (look_noEnter hlo)
          | halt c w' =>
            rw [hr] at h1
            simp only [Oper.quietUpon] at h1
        · rw [if_neg (by rw [hw]; exact Bool.false_ne_true)]
          have := hQ' x (hle x) (Ranked.down _ _ hmq) fun _ _ _ h => h
          rw [hq] at this
          exact this
      · have hi2 : ord2[k - ord1.length]? = some i := by rw [List.getElem?_append_right hk1] at hk; exact hk
        have htake : (pick l (ord1 ++ ord2)).take k = pick l ord1 ++ (pick l ord2).take (k - ord1.length) := by
          rw [hpa, List.take_append, List.take_of_length_le (by simp [pick]; omega)]
          simp [pick]
        rw [htake, puts_append, hput1 _ hmem1]
        exact hg (k - ord1.length) (i, l.getD i default) (by simp [pick, hi2]) x hx
  case fin =>
    intro U hU x hx
    obtain ⟨_, hf⟩ := tabGo_get (n := n) (T := T) (U := U) hU _ _ _ _ hgo hTp (fun p hp => by
      obtain ⟨j, hj, rfl⟩ := List.mem_map.1 hp
      exact hrng' j (List.mem_append_right _ hj)) (fun p hp => by cases hp)
    have h1 := hf x hx
    rw [hpa, puts_append, puts_congr (U := U) (V := V) (pick l ord1) a0 fun p hp => by
      obtain ⟨j, hj, rfl⟩ := List.mem_map.1 hp
      exact hU _ _ (hT1 j hj)]
    simpa using h1
end
end Go.Proofs.YtpdkgpbfmpekgaaGreatDoor
