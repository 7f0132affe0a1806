


/- A region that draws its order, with effects one behind the other: one walk. -/
import Derived.Test.YtpdkgpbfmpekgaaGreatDoorFlat
namespace Go.Proofs.YtpdkgpbfmpekgaaGreatDoor
open Go.RowKit

/-- A world behind w; the operations effs have effects, one behind the other: on blocks of S, and, where fl says so, on the region's own blocks of element type ty. -/
structure PastM (w : World) (effs : List Nat) (fl : Nat → Bool) (ty : TypeId) (S : Nat → Prop) where
  to : World
  st : Nat
  ok : Chg (fun b => 0 < st ∧ S b) w to
  lim : st ≤ effs.length
section
variable {w : World} {effs : List Nat} {fl : Nat → Bool} {ty : TypeId} {S : Nat → Prop}
instance pastmNonempty : Nonempty (PastM w effs fl ty S) := ⟨⟨w, 0, Chg.refl _ _, Nat.zero_le _⟩⟩
instance pastmRanked : Ranked (PastM w effs fl ty S) := ⟨fun _ _ => True, fun _ _ _ => trivial, fun i x => ∀ k, effs[k]? = some i → x.st ≤ k⟩
/-- What an effect may change. -/
def PastM.may (x : PastM w effs fl ty S) (b : Nat) : Prop := S b ∨ (fl x.st = true ∧ w.heap.size ≤ b ∧ ∃ cs : Array Value, Blk x.to b ty cs)
def PastM.le (x y : PastM w effs fl ty S) : Prop := (y.st = x.st ∧ Below x.to.heap.size x.to y.to) ∨ (y.st = x.st + 1 ∧ Chg x.may x.to y.to)
theorem PastM.le_refl (x : PastM w effs fl ty S) : PastM.le x x := .inl ⟨rfl, Below.refl _ _⟩
theorem PastM.le.st {x y : PastM w effs fl ty S} (h : PastM.le x y) : x.st ≤ y.st := by rcases h with ⟨h, _⟩ | ⟨h, _⟩ <;> omega
theorem PastM.le.same {x y : PastM w effs fl ty S} (h : PastM.le x y) (hs : y.st ≤ x.st) : Below x.to.heap.size x.to y.to := by
  rcases h with ⟨_, h⟩ | ⟨h, _⟩
  · exact h
  · omega
theorem PastM.le.chg {x y : PastM w effs fl ty S} (h : PastM.le x y) : Chg x.may x.to y.to := by
  rcases h with ⟨_, h⟩ | ⟨_, h⟩
  · exact Chg.of_below h
  · exact h
/-- A block of another element type. -/
theorem PastM.le.blk {x y : PastM w effs fl ty S} (h : PastM.le x y) {b : Nat} {t : TypeId} {cs : Array Value} (hk : Blk x.to b t cs) (ht : t ≠ ty) (hS : ¬ S b) : Blk y.to b t cs := by
  refine blk_chg hk h.chg ?_
  rintro (h | ⟨_, _, ds, h⟩)
  · exact hS h
  · unfold Blk at hk h
    rw [hk] at h
    simp at h
    exact ht h.2
theorem pastm_cell {p : Addr} {v : Value} (h : w.cell? p = some v) (hS : ¬ S p.block) : ∀ x : PastM w effs fl ty S, x.to.cell? p = some v := fun x => by
  have hlt := World.block_lt_of_cell? w p h
  unfold World.cell? at h ⊢
  rw [x.ok.block p.block hlt fun h => hS h.2]
  exact h
theorem PastM.on_ (x : PastM w effs fl ty S) : Chg S w x.to := x.ok.mono fun _ _ h => h.2
def PastM.on (x : PastM w effs fl ty S) {w2 : World} (hb : Below x.to.heap.size x.to w2) : PastM w effs fl ty S := ⟨w2, x.st, x.ok.trans (Chg.of_below (S := fun b => 0 < x.st ∧ S b) hb) fun _ _ e => e, x.lim⟩
def PastM.did (x : PastM w effs fl ty S) {w2 : World} (hc : Chg x.may x.to w2) (hl : x.st < effs.length) : PastM w effs fl ty S :=
  ⟨w2, x.st + 1, (x.ok.mono (T := fun b => 0 < x.st + 1 ∧ S b) fun _ _ h => ⟨by omega, h.2⟩).trans hc fun b hb h => by
    rcases h with h | h
    · exact ⟨by omega, h⟩
    · omega, hl⟩
theorem PastM.zero (x : PastM w effs fl ty S) (h : x.st = 0) : Below w.heap.size w x.to := ⟨x.ok.os, x.ok.tape, x.ok.output, x.ok.size, fun b hb => x.ok.block b hb fun h' => by omega⟩

theorem region_emT {P : Program} {Q : Exit → Act → World → Prop} {rid : Nat} {ops : List Oper} {a0 : Act} (effs : List Nat) (fl : Nat → Bool) (ty : TypeId) (S : Nat → Prop) (n : Nat) (ord1 ord2 : List Nat) (hm : P.follows .mixedOrders = true) (hB : tabB ops n ord1 ord2 = true) (hd : dstB ops.toArray n a0.tmps.size = true)
    (h : wpQuiet P ops.toArray (fun w' => ∃ x : PastM w effs fl ty S, w' = x.to) (fun a1 => ∃ Rs : List (TabR (PastM w effs fl ty S)), TabGo P ops.toArray (PastM.to (w := w)) (PastM.le (w := w)) (wpList P ops.toArray Q (ops.drop n)) (pick ops ord2) [] Rs a1) ((pick ops ord1).map (·.2)) a0) : (Code.region rid ops.toArray true).wp P Q a0 w :=
  region_tab (PastM.to (w := w)) (PastM.le (w := w)) PastM.le_refl n ord1 ord2 hm hB hd ⟨w.drew, 0, (Chg.refl _ _).drew, Nat.zero_le _⟩ (fun _ _ => trivial) (fun _ _ k _ => Nat.zero_le k) rfl h

variable {P : Program} {ops : Array Oper} {Qt : Act → World → Prop} {i : Nat} {o : Oper} {L : List (Nat × Oper)} {F : List (Nat × (PastM w effs fl ty S → Prop))} {Rs : List (TabR (PastM w effs fl ty S))} {a : Act}
theorem em_any (R : Value → PastM w effs fl ty S → Prop) (hd : o.dst.isSome = true) (hs : ∀ v x y, R v x → PastM.le x y → R v y)
    (h1 : ∀ x : PastM w effs fl ty S, depF F o x → ∀ Qx : Exit → Act → World → Prop, (∀ v w2 (hb : Below x.to.heap.size x.to w2), R v (x.on hb) → Qx .normal (a.put o.dst v) w2) → wpList P ops Qx [o] a x.to)
    (h2 : ∀ v, TabGo P ops (PastM.to (w := w)) (PastM.le (w := w)) Qt L ((i, fun x => R v x) :: F) Rs (a.put o.dst v)) : TabGo P ops (PastM.to (w := w)) (PastM.le (w := w)) Qt ((i, o) :: L) F (.any R :: Rs) a :=
  tab_any (to := PastM.to (w := w)) (le := PastM.le (w := w)) R (.inl hd) hs (fun x hx _ _ hp Qx hQ => h1 x hx Qx fun v w2 hb hv =>
    hQ v (x.on hb) (.inl ⟨rfl, hb⟩) trivial (fun _ _ _ h => h) hv) h2
theorem em_fix (v0 : Value)
    (h1 : ∀ x : PastM w effs fl ty S, depF F o x → ∀ Qx : Exit → Act → World → Prop, (∀ w2, Below x.to.heap.size x.to w2 → Qx .normal (a.put o.dst v0) w2) → wpList P ops Qx [o] a x.to)
    (h2 : TabGo P ops (PastM.to (w := w)) (PastM.le (w := w)) Qt L F Rs (a.put o.dst v0)) : TabGo P ops (PastM.to (w := w)) (PastM.le (w := w)) Qt ((i, o) :: L) F (.fix v0 :: Rs) a :=
  tab_fix (to := PastM.to (w := w)) (le := PastM.le (w := w)) v0 (fun x hx _ _ hp Qx hQ => h1 x hx Qx fun w2 hb => hQ (x.on hb) (.inl ⟨rfl, hb⟩) trivial fun _ _ _ h => h) h2
/-- Effect k. -/
theorem em_eff (k : Nat) (R : Value → PastM w effs fl ty S → Prop) (hd : o.dst.isSome = true) (hk : effs[k]? = some i) (hnd : effs.Nodup) (hpre : ∀ m j, m < k → effs[m]? = some j → Behind ops i j) (hs : ∀ v x y, R v x → PastM.le x y → R v y)
    (hst : ∀ x : PastM w effs fl ty S, depF F o x → k ≤ x.st)
    (h1 : ∀ x : PastM w effs fl ty S, depF F o x → x.st = k → ∀ Qx : Exit → Act → World → Prop, (∀ v w2 (hc : Chg x.may x.to w2) (hl : x.st < effs.length), R v (x.did hc hl) → Qx .normal (a.put o.dst v) w2) → wpList P ops Qx [o] a x.to)
    (h2 : ∀ v, TabGo P ops (PastM.to (w := w)) (PastM.le (w := w)) Qt L ((i, fun x => R v x) :: F) Rs (a.put o.dst v)) : TabGo P ops (PastM.to (w := w)) (PastM.le (w := w)) Qt ((i, o) :: L) F (.any R :: Rs) a :=
  tab_any (to := PastM.to (w := w)) (le := PastM.le (w := w)) R (.inl hd) hs (fun x hx _ _ hp Qx hQ => by
    have h3 := hst x hx
    have h4 : x.st ≤ k := hp k hk
    have h5 : x.st = k := Nat.le_antisymm h4 h3
    exact h1 x hx h5 Qx fun v w2 hc hl hr =>
      hQ v (x.did hc hl) (.inr ⟨rfl, hc⟩) trivial (fun j hj hnb _ m hm => by
        show x.st + 1 ≤ m
        rcases Nat.lt_trichotomy m k with h6 | h6 | h6
        · exact absurd (hpre m j h6 hm) hnb
        · subst h6
          rw [hk] at hm
          cases hm
          exact absurd rfl hj
        · omega) hr) h2
theorem em_end (h : ∀ x : PastM w effs fl ty S, allF F x → Qt a x.to) : TabGo P ops (PastM.to (w := w)) (PastM.le (w := w)) Qt [] F [] a := tab_end h
/-- Whose block a slice of the region's own lies in. -/
theorem own_tym {x : World} {α : Type} {F : Flat α} {e : TypeId} {base : Nat} {v : Value} {xs : List α} (ho : OwnF F e x base v xs) {b : Nat} (hb : v.ownBlock = some b) : base ≤ b ∧ ∃ cs : Array Value, Blk x b e cs := by
  refine ⟨(ho.at_ hb).1, ?_⟩
  rcases ho.2 with ⟨rfl, _⟩ | ⟨g', cap, cur, rfl, _, hg, _⟩
  · cases hb
  · cases hb
    exact ⟨_, hg⟩
end
end Go.Proofs.YtpdkgpbfmpekgaaGreatDoor
