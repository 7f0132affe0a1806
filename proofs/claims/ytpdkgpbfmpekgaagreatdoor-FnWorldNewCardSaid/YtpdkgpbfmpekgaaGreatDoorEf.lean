


/- A region that draws its order, in which one operation changes what S says, or a slice of the region's own: one walk. -/
import Derived.Test.YtpdkgpbfmpekgaaGreatDoorFlat
namespace Go.Proofs.YtpdkgpbfmpekgaaGreatDoor
open Go.RowKit

/-- A world behind w; operation s has the effect (on blocks of S, on the region's own blocks of element type ty). -/
structure PastE (w : World) (s : Nat) (ty : TypeId) (S : Nat → Prop) (pre : List Nat) where
  to : World
  done : Bool
  ok : Chg (fun b => done = true ∧ S b) w to
section
variable {w : World} {s : Nat} {ty : TypeId} {S : Nat → Prop} {pre : List Nat}
instance pasteNonempty : Nonempty (PastE w s ty S pre) := ⟨⟨w, false, Chg.refl _ _⟩⟩
instance pasteRanked : Ranked (PastE w s ty S pre) := ⟨fun _ _ => True, fun _ _ _ => trivial, fun i x => i = s ∨ i ∈ pre → x.done = false⟩
def PastE.le (x y : PastE w s ty S pre) : Prop :=
  (y.done = x.done ∧ Below x.to.heap.size x.to y.to) ∨ (x.done = false ∧ y.done = true ∧ Chg (fun b => S b ∨ (w.heap.size ≤ b ∧ ∃ cs : Array Value, Blk x.to b ty cs)) x.to y.to)
theorem PastE.le_refl (x : PastE w s ty S pre) : PastE.le x x := .inl ⟨rfl, Below.refl _ _⟩
/-- A fact that holds till the effect. -/
theorem PastE.le.till {x y : PastE w s ty S pre} (h : PastE.le x y) (hd : y.done = false) : x.done = false ∧ Below x.to.heap.size x.to y.to := by
  rcases h with ⟨h1, h2⟩ | ⟨_, h1, _⟩
  · exact ⟨h1 ▸ hd, h2⟩
  · rw [hd] at h1; cases h1
/-- .. from the effect on. -/
theorem PastE.le.from_ {x y : PastE w s ty S pre} (h : PastE.le x y) (hd : x.done = true) : y.done = true ∧ Below x.to.heap.size x.to y.to := by
  rcases h with ⟨h1, h2⟩ | ⟨h1, _⟩
  · exact ⟨h1.trans hd, h2⟩
  · rw [hd] at h1; cases h1
/-- A block of another element type. -/
theorem PastE.le.blk {x y : PastE w s ty S pre} (h : PastE.le x y) {b : Nat} {t : TypeId} {cs : Array Value} (hk : Blk x.to b t cs) (ht : t ≠ ty) (hS : ¬ S b) : Blk y.to b t cs := by
  rcases h with ⟨_, h⟩ | ⟨_, _, h⟩
  · exact blk_keep hk h
  · refine blk_chg hk h ?_
    rintro (h | ⟨_, ds, h⟩)
    · exact hS h
    · unfold Blk at hk h
      rw [hk] at h
      simp at h
      exact ht h.2
theorem paste_cell {p : Addr} {v : Value} (h : w.cell? p = some v) (hS : ¬ S p.block) : ∀ x : PastE w s ty S pre, x.to.cell? p = some v := fun x => by
  have hlt := World.block_lt_of_cell? w p h
  unfold World.cell? at h ⊢
  rw [x.ok.block p.block hlt fun h => hS h.2]
  exact h
theorem PastE.till (x : PastE w s ty S pre) (hd : x.done = false) : Below w.heap.size w x.to := ⟨x.ok.os, x.ok.tape, x.ok.output, x.ok.size, fun b hb => x.ok.block b hb fun h => by rw [hd] at h; cases h.1⟩
theorem PastE.all (x : PastE w s ty S pre) (hS : ∀ b, ¬ S b) : Below w.heap.size w x.to := ⟨x.ok.os, x.ok.tape, x.ok.output, x.ok.size, fun b hb => x.ok.block b hb fun h => hS b h.2⟩
def PastE.on (x : PastE w s ty S pre) {w2 : World} (hb : Below x.to.heap.size x.to w2) : PastE w s ty S pre := ⟨w2, x.done, x.ok.trans (Chg.of_below (S := fun b => x.done = true ∧ S b) hb) fun _ _ e => e⟩
def PastE.did (x : PastE w s ty S pre) {w2 : World} (hc : Chg (fun b => S b ∨ (w.heap.size ≤ b ∧ ∃ cs : Array Value, Blk x.to b ty cs)) x.to w2) : PastE w s ty S pre :=
  ⟨w2, true, (x.ok.mono (T := fun b => true = true ∧ S b) fun _ _ h => ⟨rfl, h.2⟩).trans hc fun b hb h => by
    rcases h with h | h
    · exact ⟨rfl, h⟩
    · omega⟩

/-- region_tab over such worlds. -/
theorem region_efT {P : Program} {Q : Exit → Act → World → Prop} {rid : Nat} {ops : List Oper} {a0 : Act} (s : Nat) (ty : TypeId) (S : Nat → Prop) (pre : List Nat) (n : Nat) (ord1 ord2 : List Nat) (hm : P.follows .mixedOrders = true) (hB : tabB ops n ord1 ord2 = true) (hd : dstB ops.toArray n a0.tmps.size = true)
    (h : wpQuiet P ops.toArray (fun w' => ∃ x : PastE w s ty S pre, w' = x.to) (fun a1 => ∃ Rs : List (TabR (PastE w s ty S pre)), TabGo P ops.toArray (PastE.to (w := w)) (PastE.le (w := w)) (wpList P ops.toArray Q (ops.drop n)) (pick ops ord2) [] Rs a1) ((pick ops ord1).map (·.2)) a0) : (Code.region rid ops.toArray true).wp P Q a0 w :=
  region_tab (PastE.to (w := w)) (PastE.le (w := w)) PastE.le_refl n ord1 ord2 hm hB hd ⟨w.drew, false, (Chg.refl _ _).drew⟩ (fun _ _ => trivial) (fun _ _ _ => rfl) rfl h

variable {P : Program} {ops : Array Oper} {Qt : Act → World → Prop} {i : Nat} {o : Oper} {L : List (Nat × Oper)} {F : List (Nat × (PastE w s ty S pre → Prop))} {Rs : List (TabR (PastE w s ty S pre))} {a : Act}
theorem ef_any (R : Value → PastE w s ty S pre → Prop) (hd : o.dst.isSome = true) (hs : ∀ v x y, R v x → PastE.le x y → R v y)
    (h1 : ∀ x : PastE w s ty S pre, depF F o x → (i ∈ pre → x.done = false) → ∀ Qx : Exit → Act → World → Prop, (∀ v w2 (hb : Below x.to.heap.size x.to w2), R v (x.on hb) → Qx .normal (a.put o.dst v) w2) → wpList P ops Qx [o] a x.to)
    (h2 : ∀ v, TabGo P ops (PastE.to (w := w)) (PastE.le (w := w)) Qt L ((i, fun x => R v x) :: F) Rs (a.put o.dst v)) : TabGo P ops (PastE.to (w := w)) (PastE.le (w := w)) Qt ((i, o) :: L) F (.any R :: Rs) a :=
  tab_any (to := PastE.to (w := w)) (le := PastE.le (w := w)) R (.inl hd) hs (fun x hx _ _ hp Qx hQ => h1 x hx (fun hi => hp (.inr hi)) Qx fun v w2 hb hv =>
    hQ v (x.on hb) (.inl ⟨rfl, hb⟩) trivial (fun _ _ _ h => h) hv) h2
theorem ef_fix (v0 : Value)
    (h1 : ∀ x : PastE w s ty S pre, depF F o x → (i ∈ pre → x.done = false) → ∀ Qx : Exit → Act → World → Prop, (∀ w2, Below x.to.heap.size x.to w2 → Qx .normal (a.put o.dst v0) w2) → wpList P ops Qx [o] a x.to)
    (h2 : TabGo P ops (PastE.to (w := w)) (PastE.le (w := w)) Qt L F Rs (a.put o.dst v0)) : TabGo P ops (PastE.to (w := w)) (PastE.le (w := w)) Qt ((i, o) :: L) F (.fix v0 :: Rs) a :=
  tab_fix (to := PastE.to (w := w)) (le := PastE.le (w := w)) v0 (fun x hx _ _ hp Qx hQ => h1 x hx (fun hi => hp (.inr hi)) Qx fun w2 hb => hQ (x.on hb) (.inl ⟨rfl, hb⟩) trivial fun _ _ _ h => h) h2
theorem ef_eff (R : Value → PastE w s ty S pre → Prop) (hd : o.dst.isSome = true) (hi' : i = s) (hpre : ∀ j ∈ pre, Behind ops i j) (hs : ∀ v x y, R v x → PastE.le x y → R v y)
    (h1 : ∀ x : PastE w s ty S pre, depF F o x → x.done = false → ∀ Qx : Exit → Act → World → Prop, (∀ v w2 (hc : Chg (fun b => S b ∨ (w.heap.size ≤ b ∧ ∃ cs : Array Value, Blk x.to b ty cs)) x.to w2), R v (x.did hc) → Qx .normal (a.put o.dst v) w2) → wpList P ops Qx [o] a x.to)
    (h2 : ∀ v, TabGo P ops (PastE.to (w := w)) (PastE.le (w := w)) Qt L ((i, fun x => R v x) :: F) Rs (a.put o.dst v)) : TabGo P ops (PastE.to (w := w)) (PastE.le (w := w)) Qt ((i, o) :: L) F (.any R :: Rs) a :=
  tab_any (to := PastE.to (w := w)) (le := PastE.le (w := w)) R (.inl hd) hs (fun x hx _ _ hp Qx hQ => h1 x hx (hp (.inl hi')) Qx fun v w2 hc hr =>
    hQ v (x.did hc) (.inr ⟨hp (.inl hi'), rfl, hc⟩) trivial (fun j hj hnb _ e => e.elim (fun e => absurd (e.trans hi'.symm) hj) fun e => absurd (hpre j e) hnb) hr) h2
theorem ef_end (h : ∀ x : PastE w s ty S pre, allF F x → Qt a x.to) : TabGo P ops (PastE.to (w := w)) (PastE.le (w := w)) Qt [] F [] a := tab_end h
/-- Whose block a slice of the region's own lies in. -/
theorem own_ty {x : World} {α : Type} {F : Flat α} {e : TypeId} {base : Nat} {v : Value} {xs : List α} (ho : OwnF F e x base v xs) {b : Nat} (hb : v.ownBlock = some b) : base ≤ b ∧ ∃ cs : Array Value, Blk x b e cs := by
  refine ⟨(ho.at_ hb).1, ?_⟩
  rcases ho.2 with ⟨rfl, _⟩ | ⟨g', cap, cur, rfl, _, hg, _⟩
  · cases hb
  · cases hb
    exact ⟨_, hg⟩
end
end Go.Proofs.YtpdkgpbfmpekgaaGreatDoor
