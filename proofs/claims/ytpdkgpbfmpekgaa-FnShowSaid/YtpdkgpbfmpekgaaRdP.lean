


/- A region that draws its order and takes numbers from a reader: one walk. -/
import Derived.Test.YtpdkgpbfmpekgaaRd
import Derived.Test.YtpdkgpbfmpekgaaPast
namespace Go.Proofs.Ytpdkgpbfmpekgaa
open Go.RowKit

/-- A world behind w in which the reader at g has gone on, not beyond N. -/
structure PastR (w : World) (lo hi g : Nat) (l : List Int) (N : Nat) where
  to : World
  q : Nat
  rd : Rd to lo hi g l q
  ok : Chg (fun b => b = g) w to
  lim : q ≤ N
section
variable {w : World} {lo hi g : Nat} {l : List Int} {N : Nat}
instance pastrRanked : Ranked (PastR w lo hi g l N) := ⟨fun m x => x.q + m ≤ N, fun _ _ h => Nat.le_of_succ_le h, fun _ _ => True⟩
def PastR.le (x y : PastR w lo hi g l N) : Prop := Chg (fun b => b = g) x.to y.to
theorem PastR.le_refl (x : PastR w lo hi g l N) : PastR.le x x := Chg.refl _ _
theorem pastr_cell {p : Addr} {v : Value} (h : w.cell? p = some v) (hp : p.block ≠ g) : ∀ x : PastR w lo hi g l N, x.to.cell? p = some v := fun x => by
  have hlt := World.block_lt_of_cell? w p h
  unfold World.cell? at h ⊢
  rw [x.ok.block p.block hlt hp]
  exact h
variable {P : Program}
/-- region_tab over such worlds. -/
theorem region_rdT {Q : Exit → Act → World → Prop} {rid : Nat} {ops : List Oper} {a0 : Act} (n q : Nat) (ord1 ord2 : List Nat) (hm : P.follows .mixedOrders = true) (hB : tabB ops n ord1 ord2 = true) (hd : dstB ops.toArray n a0.tmps.size = true)
    (hr : Rd w lo hi g l q) (hN : q + n ≤ N)
    (h : wpQuiet P ops.toArray (fun w' => ∃ x : PastR w lo hi g l N, w' = x.to) (fun a1 => ∃ Rs : List (TabR (PastR w lo hi g l N)), TabGo P ops.toArray (PastR.to (w := w)) (PastR.le (w := w)) (wpList P ops.toArray Q (ops.drop n)) (pick ops ord2) [] Rs a1) ((pick ops ord1).map (·.2)) a0) : (Code.region rid ops.toArray true).wp P Q a0 w :=
  region_tab (PastR.to (w := w)) (PastR.le (w := w)) PastR.le_refl n ord1 ord2 hm hB hd ⟨w.drew, q, hr.drew, (Chg.refl _ _).drew, by omega⟩ (fun m hm => by show q + m ≤ N; omega) (fun _ _ => trivial) rfl h

variable {ops : Array Oper} {Qt : Act → World → Prop} {i : Nat} {o : Oper} {L : List (Nat × Oper)} {F : List (Nat × (PastR w lo hi g l N → Prop))} {Rs : List (TabR (PastR w lo hi g l N))} {a : Act}
/-- An operation that leaves the reader alone. -/
theorem rd_any (R : Value → World → Prop) (hd : o.dst.isSome = true) (hs : ∀ v x y, R v x → Chg (fun b => b = g) x y → R v y)
    (h1 : ∀ x : PastR w lo hi g l N, depF F o x → ∀ Qx : Exit → Act → World → Prop, (∀ v w2, Below x.to.heap.size x.to w2 → R v w2 → Qx .normal (a.put o.dst v) w2) → wpList P ops Qx [o] a x.to)
    (h2 : ∀ v, TabGo P ops (PastR.to (w := w)) (PastR.le (w := w)) Qt L ((i, fun x => R v x.to) :: F) Rs (a.put o.dst v)) : TabGo P ops (PastR.to (w := w)) (PastR.le (w := w)) Qt ((i, o) :: L) F (.any (fun v x => R v x.to) :: Rs) a :=
  tab_any (X := PastR w lo hi g l N) (to := PastR.to (w := w)) (le := PastR.le (w := w)) (fun v x => R v x.to) (.inl hd) (fun v x y h hle => hs v x.to y.to h hle) (fun x hx m hm _ Qx hQ => h1 x hx Qx fun v w2 hb hv =>
    hQ v ⟨w2, x.q, x.rd.chg (Chg.of_below (S := fun _ => False) hb) (fun _ _ h => h), x.ok.trans (Chg.of_below (S := fun b => b = g) hb) fun _ _ e => e, x.lim⟩ (Chg.of_below hb) (Nat.le_of_succ_le hm) (fun _ _ _ _ => trivial) hv) h2
/-- One whose value is known. -/
theorem rd_fix (v0 : Value)
    (h1 : ∀ x : PastR w lo hi g l N, depF F o x → ∀ Qx : Exit → Act → World → Prop, (∀ w2, Below x.to.heap.size x.to w2 → Qx .normal (a.put o.dst v0) w2) → wpList P ops Qx [o] a x.to)
    (h2 : TabGo P ops (PastR.to (w := w)) (PastR.le (w := w)) Qt L F Rs (a.put o.dst v0)) : TabGo P ops (PastR.to (w := w)) (PastR.le (w := w)) Qt ((i, o) :: L) F (.fix v0 :: Rs) a :=
  tab_fix (X := PastR w lo hi g l N) (to := PastR.to (w := w)) (le := PastR.le (w := w)) v0 (fun x hx m hm _ Qx hQ => h1 x hx Qx fun w2 hb =>
    hQ ⟨w2, x.q, x.rd.chg (Chg.of_below (S := fun _ => False) hb) (fun _ _ h => h), x.ok.trans (Chg.of_below (S := fun b => b = g) hb) fun _ _ e => e, x.lim⟩ (Chg.of_below hb) (Nat.le_of_succ_le hm) fun _ _ _ _ => trivial) h2
/-- A pick. -/
theorem rd_pick (R : Value → Prop) (hd : o.dst.isSome = true)
    (h1 : ∀ x : PastR w lo hi g l N, depF F o x → x.q < N → ∀ Qx : Exit → Act → World → Prop, (∀ v w2, Rd w2 lo hi g l (x.q + 1) → Chg (fun b => b = g) x.to w2 → R v → Qx .normal (a.put o.dst v) w2) → wpList P ops Qx [o] a x.to)
    (h2 : ∀ v, TabGo P ops (PastR.to (w := w)) (PastR.le (w := w)) Qt L ((i, fun _ => R v) :: F) Rs (a.put o.dst v)) : TabGo P ops (PastR.to (w := w)) (PastR.le (w := w)) Qt ((i, o) :: L) F (.any (fun v _ => R v) :: Rs) a :=
  tab_any (X := PastR w lo hi g l N) (to := PastR.to (w := w)) (le := PastR.le (w := w)) (fun v _ => R v) (.inl hd) (fun v x y h _ => h) (fun x hx m hm _ Qx hQ => h1 x hx (by have : x.q + (m + 1) ≤ N := hm; omega) Qx fun v w2 hr hc hv =>
    hQ v ⟨w2, x.q + 1, hr, x.ok.trans hc fun _ _ e => e, by have : x.q + (m + 1) ≤ N := hm; omega⟩ hc (by have : x.q + (m + 1) ≤ N := hm; show x.q + 1 + m ≤ N; omega) (fun _ _ _ _ => trivial) hv) h2
/-- The end: what the region leaves. -/
theorem rd_end (h : ∀ x : PastR w lo hi g l N, allF F x → Qt a x.to) : TabGo P ops (PastR.to (w := w)) (PastR.le (w := w)) Qt [] F [] a := tab_end h
end
end Go.Proofs.Ytpdkgpbfmpekgaa
