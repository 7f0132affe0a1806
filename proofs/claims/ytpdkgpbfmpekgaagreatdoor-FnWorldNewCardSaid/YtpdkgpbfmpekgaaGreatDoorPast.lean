


/- Worlds behind a world: what was there is as it was. Regions walked over them. -/
import Derived.Test.YtpdkgpbfmpekgaaGreatDoorOwn
import Derived.Test.YtpdkgpbfmpekgaaGreatDoorReg
import Derived.Deep.RegionHeld3
import Derived.Deep.RegionLaw
namespace Go.Proofs.YtpdkgpbfmpekgaaGreatDoor
open Go.RowKit

theorem cell_keep {w w' : World} {p : Addr} {v : Value} (hb : Below w.heap.size w w') (h : w.cell? p = some v) : w'.cell? p = some v := by
  refine (hb.cell (p := p) ?_).trans h
  rcases Nat.lt_or_ge p.block w.heap.size with hlt | hge
  · exact hlt
  · simp [World.cell?, Array.getElem?_eq_none hge] at h
theorem new_cell (w : World) (cs : Array Value) (t : TypeId) (i : Nat) {v : Value} (h : cs[i]? = some v) : (w.alloc (.cells cs t)).cell? ⟨w.heap.size, i, none⟩ = some v := by
  rw [(Blk.new w t cs).cell]; exact h
theorem below_alloc' {a w : World} (h : Below a.heap.size a w) (o : Obj) : Below a.heap.size a (w.alloc o) := h.alloc h.size o
theorem blk_alloc {w : World} {g : Nat} {t : TypeId} {cs : Array Value} (h : Blk w g t cs) (o : Obj) : Blk (w.alloc o) g t cs := (Below.heap_alloc w o g h.lt).trans h
theorem blk_ne {w : World} {g : Nat} {t : TypeId} {cs : Array Value} (h : Blk w g t cs) {p : Addr} (u : Value) (hp : g ≠ p.block) : Blk (w.setCell p u) g t cs := (Below.heap_setCell w p u g hp).trans h
theorem cell_ne {w : World} {q p : Addr} {v : Value} (h : w.cell? q = some v) (u : Value) (hp : q.block ≠ p.block) : (w.setCell p u).cell? q = some v := (World.cell?_of_block (Below.heap_setCell w p u q.block hp)).trans h
theorem blk_chg {w w' : World} {g : Nat} {t : TypeId} {cs : Array Value} (h : Blk w g t cs) {S : Nat → Prop} (hc : Chg S w w') (hS : ¬ S g) : Blk w' g t cs := (hc.block g h.lt hS).trans h
theorem below_alloc (w : World) (o : Obj) : Below w.heap.size w (w.alloc o) := (Below.refl _ _).alloc (Nat.le_refl _) _
theorem sl_keep {α : Type} {E : Rep α} (hE : Loc E) {sz : Nat} {w w' : World} {lo hi : Nat} {xs : List α} {cs : List Value} (h : RSl E sz w lo hi xs cs) (hb : Below w.heap.size w w') (hhi : hi ≤ w.heap.size) : RSl E sz w' lo hi xs cs :=
  (RSl.loc hE).below h hb hhi

/-- A world behind w: what w had is as it was. -/
structure Past (w : World) where
  to : World
  ok : Below w.heap.size w to
instance pastNonempty (w : World) : Nonempty (Past w) := ⟨⟨w, Below.refl _ _⟩⟩
theorem past_cell {w : World} {p : Addr} {v : Value} (h : w.cell? p = some v) : ∀ x : Past w, x.to.cell? p = some v := fun x => cell_keep x.ok h
/-- A region that draws its order, whose operations read what w has, whose callees leave that as it was: one walk. -/
theorem region_past {P : Program} {id : Nat} {Q : Exit → Act → World → Prop} {a : Act} {w : World} {l : List Oper} (hm : P.follows .mixedOrders = true) (hB : Region.lexB .any l.toArray = true)
    (h : wpQuiet P l.toArray (fun w' => ∃ x : Past w, w' = x.to) (fun a' => ∀ w', (∃ x : Past w, w' = x.to) → Q .normal a' w') l a) : (Code.region id l.toArray true).wp P Q a w :=
  wp_region_quiet (C := fun w' => ∃ x : Past w, w' = x.to) hm hB ⟨⟨w.drew, ⟨rfl, rfl, rfl, Nat.le_refl _, fun _ _ => rfl⟩⟩, rfl⟩ (by simpa using h)
theorem past_out {w w' : World} (h : ∃ x : Past w, w' = x.to) : Below w.heap.size w w' := by
  obtain ⟨x, rfl⟩ := h; exact x.ok
/-- A call in such a region. -/
theorem past_call {P : Program} {f : FuncId} {args : Array Value} {w : World} {x : Past w} {v : Value}
    (h : Calls P f args x.to fun e w' => e = .returned v ∧ Below x.to.heap.size x.to w') : Calls P f args x.to fun e w'' => e = .returned v ∧ ∃ y : Past w, w'' = y.to :=
  h.mono fun _ w2 ⟨he, hb⟩ => ⟨he, ⟨⟨w2, x.ok.trans (hb.mono x.ok.size)⟩, rfl⟩⟩
theorem past_same {P : Program} {f : FuncId} {args : Array Value} {w : World} {x : Past w} {v : Value}
    (h : Calls P f args x.to fun e w' => e = .returned v ∧ x.to = w') : Calls P f args x.to fun e w'' => e = .returned v ∧ ∃ y : Past w, w'' = y.to :=
  h.mono fun _ _ ⟨he, hb⟩ => ⟨he, ⟨x, hb.symm⟩⟩


instance pastRanked (w : World) : Ranked (Past w) := ⟨fun _ _ => True, fun _ _ _ => trivial, fun _ _ => True⟩
def Past.le {w : World} (x y : Past w) : Prop := Below x.to.heap.size x.to y.to
theorem Past.le_refl {w : World} (x : Past w) : Past.le x x := Below.refl _ _
def Past.mk' {w : World} (x : Past w) {w' : World} (h : Below x.to.heap.size x.to w') : Past w := ⟨w', x.ok.trans (h.mono x.ok.size)⟩
/-- region_tab over the worlds behind w. -/
theorem region_pastT {P : Program} {Q : Exit → Act → World → Prop} {rid : Nat} {l : List Oper} {a0 : Act} {w : World} (n : Nat) (ord1 ord2 : List Nat) (hm : P.follows .mixedOrders = true) (hB : tabB l n ord1 ord2 = true) (hd : dstB l.toArray n a0.tmps.size = true)
    (h : wpQuiet P l.toArray (fun w' => ∃ x : Past w, w' = x.to) (fun a1 => ∃ Rs : List (TabR (Past w)), TabGo P l.toArray (Past.to (w := w)) (Past.le (w := w)) (wpList P l.toArray Q (l.drop n)) (pick l ord2) [] Rs a1) ((pick l ord1).map (·.2)) a0) : (Code.region rid l.toArray true).wp P Q a0 w :=
  region_tab (Past.to (w := w)) (Past.le (w := w)) Past.le_refl n ord1 ord2 hm hB hd ⟨w.drew, ⟨rfl, rfl, rfl, Nat.le_refl _, fun _ _ => rfl⟩⟩ (fun _ _ => trivial) (fun _ _ => trivial) rfl h

section
variable {P : Program} {ops : Array Oper} {w : World} {Qt : Act → World → Prop} {i : Nat} {o : Oper} {l : List (Nat × Oper)} {F : List (Nat × (Past w → Prop))} {Rs : List (TabR (Past w))} {a : Act}
theorem past_any (R : Value → World → Prop) (hd : o.dst.isSome = true) (hs : ∀ v x y, R v x → Below x.heap.size x y → R v y)
    (h1 : ∀ x : Past w, depF F o x → ∀ Qx : Exit → Act → World → Prop, (∀ v w2, Below x.to.heap.size x.to w2 → R v w2 → Qx .normal (a.put o.dst v) w2) → wpList P ops Qx [o] a x.to)
    (h2 : ∀ v, TabGo P ops (Past.to (w := w)) (Past.le (w := w)) Qt l ((i, fun x => R v x.to) :: F) Rs (a.put o.dst v)) : TabGo P ops (Past.to (w := w)) (Past.le (w := w)) Qt ((i, o) :: l) F (.any (fun v x => R v x.to) :: Rs) a :=
  tab_any (X := Past w) (to := Past.to (w := w)) (le := Past.le (w := w)) (fun v x => R v x.to) (.inl hd) (fun v x y h hle => hs v x.to y.to h hle) (fun x hx m _ _ Qx hQ => h1 x hx Qx fun v w2 hb hv => hQ v (x.mk' hb) hb trivial (fun _ _ _ _ => trivial) hv) h2
theorem past_fix (v0 : Value)
    (h1 : ∀ x : Past w, depF F o x → ∀ Qx : Exit → Act → World → Prop, (∀ w2, Below x.to.heap.size x.to w2 → Qx .normal (a.put o.dst v0) w2) → wpList P ops Qx [o] a x.to)
    (h2 : TabGo P ops (Past.to (w := w)) (Past.le (w := w)) Qt l F Rs (a.put o.dst v0)) : TabGo P ops (Past.to (w := w)) (Past.le (w := w)) Qt ((i, o) :: l) F (.fix v0 :: Rs) a :=
  tab_fix (X := Past w) (to := Past.to (w := w)) (le := Past.le (w := w)) v0 (fun x hx m _ _ Qx hQ => h1 x hx Qx fun w2 hy => hQ (x.mk' hy) hy trivial fun _ _ _ _ => trivial) h2
theorem past_end (h : ∀ w2, Below w.heap.size w w2 → ∀ x : Past w, x.to = w2 → allF F x → Qt a w2) : TabGo P ops (Past.to (w := w)) (Past.le (w := w)) Qt [] F [] a :=
  tab_end (X := Past w) (to := Past.to (w := w)) (le := Past.le (w := w)) fun x hx => h x.to x.ok x rfl hx
end

/-- An empty slice of the call's own: a literal. -/
def Lit0 (base : Nat) (e : TypeId) (v : Value) (w : World) : Prop := ∃ g, v = .slice (some ⟨g, 0, none⟩) 0 0 ∧ base ≤ g ∧ Blk w g e #[]
theorem Lit0.own {base : Nat} {e : TypeId} {v : Value} {w : World} (h : Lit0 base e v w) (sz : Nat) : w.ownsRow base e sz v 0 [] := by
  obtain ⟨g, rfl, hb, hk⟩ := h
  exact ⟨by simp, .inr ⟨g, 0, #[], rfl, hb, hk, Nat.le_refl _, by unfold maxLen; omega, by simp, by simp⟩⟩
theorem blk_keep {w w' : World} {g : Nat} {t : TypeId} {cs : Array Value} (h : Blk w g t cs) (hb : Below w.heap.size w w') : Blk w' g t cs := (hb.block g h.lt).trans h
theorem Lit0.keep {base : Nat} {e : TypeId} {v : Value} {w w' : World} (h : Lit0 base e v w) (hb : Below w.heap.size w w') : Lit0 base e v w' := by
  obtain ⟨g, rfl, h1, hk⟩ := h
  exact ⟨g, rfl, h1, blk_keep hk hb⟩
theorem Lit0.new (w : World) {base : Nat} (e : TypeId) (hb : base ≤ w.heap.size) : Lit0 base e (.slice (some ⟨w.heap.size, 0, none⟩) 0 0) (w.alloc (.cells #[] e)) := ⟨_, rfl, hb, Blk.new _ _ _⟩
/-- A slice of one element in a block of its own. -/
def Lit1 (base : Nat) (e : TypeId) (es : Array Value) (v : Value) (w : World) : Prop := ∃ g, v = .slice (some ⟨g, 0, none⟩) 1 1 ∧ base ≤ g ∧ Blk w g e es
theorem Lit1.keep {base : Nat} {e : TypeId} {es : Array Value} {v : Value} {w w' : World} (h : Lit1 base e es v w) (hb : Below w.heap.size w w') : Lit1 base e es v w' := by
  obtain ⟨g, rfl, h1, hk⟩ := h
  exact ⟨g, rfl, h1, blk_keep hk hb⟩
theorem Lit1.new (w : World) {base : Nat} (e : TypeId) (es : Array Value) (hb : base ≤ w.heap.size) : Lit1 base e es (.slice (some ⟨w.heap.size, 0, none⟩) 1 1) (w.alloc (.cells es e)) := ⟨_, rfl, hb, Blk.new _ _ _⟩
end Go.Proofs.YtpdkgpbfmpekgaaGreatDoor
