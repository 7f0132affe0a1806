


/- A region that draws its order, takes numbers from a reader, may make a box, and fills it once: one walk. -/
import Derived.Test.YtpdkgpbfmpekgaaRdP
namespace Go.Proofs.Ytpdkgpbfmpekgaa
open Go.RowKit

theorem Rd.hi_ {w : World} {lo hi g : Nat} {l : List Int} {p : Nat} (h : Rd w lo hi g l p) : hi ≤ g := by
  obtain ⟨A, c, _, _, _, hg⟩ := h
  exact hg
/-- A world behind w: the reader at g has gone on, not beyond N; a box (operation ia makes it, if it is not there before, as bk) is filled once, by operation s. -/
structure PastS (w : World) (lo hi g : Nat) (l : List Int) (N s ia ic bk : Nat) (fx : Bool) (ty : TypeId) (n : Nat) (S : Nat → Prop) (pre : List Nat) where
  to : World
  q : Nat
  box : Option Nat
  done : Bool
  /-- what operation ic gave -/
  res : Option Value
  rd : Rd to lo hi g l q
  ok : Chg (fun b => b = g ∨ box = some b ∨ (done = true ∧ S b)) w to
  lim : q ≤ N
  bw : ∀ b, box = some b → b = bk ∨ w.heap.size ≤ b
  bf : fx = true → box = some bk
  sf : ∀ b, S b → b ≠ g ∧ hi ≤ b ∧ b ≠ bk ∧ b < w.heap.size
  bx : ∀ b, box = some b → b ≠ g ∧ hi ≤ b ∧ ∃ cs : Array Value, cs.size = n ∧ Blk to b ty cs
section
variable {w : World} {lo hi g : Nat} {l : List Int} {N s ia ic bk : Nat} {fx : Bool} {ty : TypeId} {n : Nat} {S : Nat → Prop} {pre : List Nat}
instance pastsRanked : Ranked (PastS w lo hi g l N s ia ic bk fx ty n S pre) := ⟨fun m x => x.q + m ≤ N, fun _ _ h => Nat.le_of_succ_le h, fun i x => (i = s ∨ i ∈ pre → x.done = false) ∧ (i = ia → x.box = none) ∧ (i = ic → x.res = none)⟩
structure PastS.le (x y : PastS w lo hi g l N s ia ic bk fx ty n S pre) : Prop where
  chg : Chg (fun b => b = g ∨ (x.done = false ∧ (x.box = some b ∨ S b))) x.to y.to
  done : x.done = true → y.done = true
  box : ∀ b, x.box = some b → y.box = some b
  fresh : ∀ b, x.box = none → y.box = some b → x.to.heap.size ≤ b
  res : ∀ v, x.res = some v → y.res = some v
theorem PastS.le_refl (x : PastS w lo hi g l N s ia ic bk fx ty n S pre) : PastS.le x x := ⟨Chg.refl _ _, id, fun _ h => h, fun b h1 h2 => (by rw [h1] at h2; cases h2), fun _ h => h⟩
/-- A block that the region leaves alone. -/
def PastS.free (x : PastS w lo hi g l N s ia ic bk fx ty n S pre) (b : Nat) : Prop := b < x.to.heap.size ∧ b ≠ g ∧ x.box ≠ some b ∧ ¬ S b
theorem PastS.le.free {x y : PastS w lo hi g l N s ia ic bk fx ty n S pre} (h : PastS.le x y) {b : Nat} (hb : x.free b) : y.free b := by
  refine ⟨Nat.lt_of_lt_of_le hb.1 h.chg.size, hb.2.1, fun e => ?_, hb.2.2.2⟩
  cases hx : x.box with
  | none => have := h.fresh b hx e; have := hb.1; omega
  | some c =>
    have := h.box c hx
    rw [e] at this
    cases this
    exact hb.2.2.1 hx
theorem PastS.le.not {x y : PastS w lo hi g l N s ia ic bk fx ty n S pre} (_ : PastS.le x y) {b : Nat} (hb : x.free b) : ¬ (b = g ∨ (x.done = false ∧ (x.box = some b ∨ S b))) := by
  rintro (rfl | ⟨_, h | h⟩)
  · exact hb.2.1 rfl
  · exact hb.2.2.1 h
  · exact hb.2.2.2 h
theorem PastS.le.blk {x y : PastS w lo hi g l N s ia ic bk fx ty n S pre} (h : PastS.le x y) {b : Nat} {t : TypeId} {cs : Array Value} (hb : x.free b) (hk : Blk x.to b t cs) : Blk y.to b t cs := (h.chg.block b hb.1 (h.not hb)).trans hk
/-- The box, once filled. -/
theorem PastS.le.full {x y : PastS w lo hi g l N s ia ic bk fx ty n S pre} (h : PastS.le x y) {b : Nat} {t : TypeId} {cs : Array Value} (hd : x.done = true) (hb : x.box = some b) (hk : Blk x.to b t cs) : y.done = true ∧ y.box = some b ∧ Blk y.to b t cs := by
  refine ⟨h.done hd, h.box b hb, (h.chg.block b hk.lt ?_).trans hk⟩
  rintro (rfl | ⟨h1, _⟩)
  · exact (x.bx _ hb).1 rfl
  · rw [hd] at h1; cases h1

/-- A block that is not the reader's: as it is once all is done. -/
theorem PastS.le.done_blk {x y : PastS w lo hi g l N s ia ic bk fx ty n S pre} (h : PastS.le x y) (hd : x.done = true) {b : Nat} (hb : b < x.to.heap.size) (hg : b ≠ g) : y.to.heap[b]? = x.to.heap[b]? :=
  h.chg.block b hb (by rintro (h | ⟨h1, _⟩) <;> first | contradiction | (rw [hd] at h1; cases h1))
theorem PastS.le.done_chg {x y : PastS w lo hi g l N s ia ic bk fx ty n S pre} (h : PastS.le x y) (hd : x.done = true) : Chg (fun b => b = g) x.to y.to := h.chg.mono fun b _ hb => by
  rcases hb with hb | ⟨h1, _⟩
  · exact hb
  · rw [hd] at h1; cases h1
theorem pasts_cell {p : Addr} {v : Value} (h : w.cell? p = some v) {x : PastS w lo hi g l N s ia ic bk fx ty n S pre} (hp : p.block ≠ g) (hb : p.block ≠ bk) (hS : ¬ S p.block) : x.to.cell? p = some v := by
  have hlt := World.block_lt_of_cell? w p h
  have hb : x.box ≠ some p.block := fun e => by
    rcases x.bw _ e with h | h
    · exact hb h
    · omega
  unfold World.cell? at h ⊢
  rw [x.ok.block p.block hlt (by
    rintro (h | h | ⟨_, h⟩)
    · exact hp h
    · exact hb h
    · exact hS h)]
  exact h
/-- .. one that the effect may change, before it. -/
theorem pasts_pre {p : Addr} {v : Value} (h : w.cell? p = some v) {x : PastS w lo hi g l N s ia ic bk fx ty n S pre} (hp : p.block ≠ g) (hb : p.block ≠ bk) (hd : x.done = false) : x.to.cell? p = some v := by
  have hlt := World.block_lt_of_cell? w p h
  unfold World.cell? at h ⊢
  rw [x.ok.block p.block hlt (by
    rintro (h | h | ⟨h, _⟩)
    · exact hp h
    · rcases x.bw _ h with h | h
      · exact hb h
      · omega
    · rw [hd] at h; cases h)]
  exact h
/-- What was there, before the effect. -/
theorem PastS.before (x : PastS w lo hi g l N s ia ic bk fx ty n S pre) (hd : x.done = false) : Chg (fun b => b = g ∨ b = bk) w x.to := x.ok.mono fun b hb h => by
  rcases h with h | h | ⟨h, _⟩
  · exact .inl h
  · rcases x.bw _ h with h | h
    · exact .inr h
    · omega
  · rw [hd] at h; cases h

/-- There are such worlds: the looks want it. -/
theorem st_some {q : Nat} (hr : Rd w lo hi g l q) (hN : q ≤ N) (box : Option Nat) (hbk : ∀ b, box = some b → b = bk) (hfx : fx = true → box = some bk) (hsf : ∀ b, S b → b ≠ g ∧ hi ≤ b ∧ b ≠ bk ∧ b < w.heap.size) (hbx : ∀ b, box = some b → b ≠ g ∧ hi ≤ b ∧ ∃ cs : Array Value, cs.size = n ∧ Blk w b ty cs) : Nonempty (PastS w lo hi g l N s ia ic bk fx ty n S pre) :=
  ⟨w, q, box, false, none, hr, Chg.refl _ _, hN, fun b hb => .inl (hbk b hb), hfx, hsf, hbx⟩
/-- region_tab over such worlds. -/
theorem region_stT {P : Program} {Q : Exit → Act → World → Prop} {rid : Nat} {ops : List Oper} {a0 : Act} (k q : Nat) (ord1 ord2 : List Nat) (hm : P.follows .mixedOrders = true) (hB : tabB ops k ord1 ord2 = true) (hd : dstB ops.toArray k a0.tmps.size = true)
    (hr : Rd w lo hi g l q) (hN : q + k ≤ N) (box : Option Nat) (hbk : ∀ b, box = some b → b = bk) (hfx : fx = true → box = some bk) (hsf : ∀ b, S b → b ≠ g ∧ hi ≤ b ∧ b ≠ bk ∧ b < w.heap.size) (hbx : ∀ b, box = some b → b ≠ g ∧ hi ≤ b ∧ ∃ cs : Array Value, cs.size = n ∧ Blk w b ty cs) (hia : box = none ∨ k ≤ ia)
    (h : wpQuiet P ops.toArray (fun w' => ∃ x : PastS w lo hi g l N s ia ic bk fx ty n S pre, w' = x.to) (fun a1 => ∃ Rs : List (TabR (PastS w lo hi g l N s ia ic bk fx ty n S pre)), TabGo P ops.toArray (PastS.to (w := w)) (PastS.le (w := w)) (wpList P ops.toArray Q (ops.drop k)) (pick ops ord2) [] Rs a1) ((pick ops ord1).map (·.2)) a0) : (Code.region rid ops.toArray true).wp P Q a0 w :=
  region_tab (PastS.to (w := w)) (PastS.le (w := w)) PastS.le_refl k ord1 ord2 hm hB hd
    ⟨w.drew, q, box, false, none, hr.drew, (Chg.refl _ _).drew, by omega, fun b hb => .inl (hbk b hb), hfx, hsf, fun b hb => by
      obtain ⟨h1, h2, cs, h3, h4⟩ := hbx b hb
      exact ⟨h1, h2, cs, h3, h4⟩⟩ (fun m hm => by show q + m ≤ N; omega) (fun i hi => And.intro (fun _ => rfl) (And.intro (fun e => by
      rcases hia with h | h
      · exact h
      · omega) fun _ => rfl)) rfl h

/-- The world behind an operation that leaves the reader and the box alone. -/
def PastS.on (x : PastS w lo hi g l N s ia ic bk fx ty n S pre) {w2 : World} (hb : Below x.to.heap.size x.to w2) : PastS w lo hi g l N s ia ic bk fx ty n S pre :=
  ⟨w2, x.q, x.box, x.done, x.res, x.rd.chg (Chg.of_below (S := fun _ => False) hb) (fun _ _ h => h), x.ok.trans (Chg.of_below (S := fun b => b = g ∨ x.box = some b ∨ (x.done = true ∧ S b)) hb) fun _ _ e => e, x.lim, x.bw, x.bf, x.sf, fun b h => by
    obtain ⟨h1, h2, cs, h3, h4⟩ := x.bx b h
    exact ⟨h1, h2, cs, h3, blk_keep h4 hb⟩⟩
theorem PastS.free_new (x : PastS w lo hi g l N s ia ic bk fx ty n S pre) (cs : Array Value) (t : TypeId) : (x.on (below_alloc x.to (.cells cs t))).free x.to.heap.size := by
  refine ⟨?_, ?_, fun e => ?_, fun e => ?_⟩
  · show x.to.heap.size < (x.to.alloc _).heap.size
    simp only [World.size_alloc]; omega
  · have := x.rd.lt; omega
  · obtain ⟨_, _, cs, _, hk⟩ := x.bx _ e
    have := hk.lt
    omega
  · have h1 := (x.sf _ e).2.2.2
    have h2 := x.ok.size
    omega
theorem PastS.on_le (x : PastS w lo hi g l N s ia ic bk fx ty n S pre) {w2 : World} (hb : Below x.to.heap.size x.to w2) : PastS.le x (x.on hb) := ⟨Chg.of_below hb, id, fun _ h => h, fun b h1 h2 => (by
  have : x.box = some b := h2
  rw [h1] at this; cases this), fun _ h => h⟩
/-- .. and whose result is kept in mind. -/
def PastS.told (x : PastS w lo hi g l N s ia ic bk fx ty n S pre) {w2 : World} (hb : Below x.to.heap.size x.to w2) (v : Value) : PastS w lo hi g l N s ia ic bk fx ty n S pre := { x.on hb with res := some v }
theorem PastS.told_le (x : PastS w lo hi g l N s ia ic bk fx ty n S pre) {w2 : World} (hb : Below x.to.heap.size x.to w2) (v : Value) (hr : x.res = none) : PastS.le x (x.told hb v) := ⟨Chg.of_below hb, id, fun _ h => h, fun b h1 h2 => (by
  have : x.box = some b := h2
  rw [h1] at this; cases this), fun u h => by rw [hr] at h; cases h⟩
/-- .. that takes a number. -/
def PastS.took (x : PastS w lo hi g l N s ia ic bk fx ty n S pre) {w2 : World} (hr : Rd w2 lo hi g l (x.q + 1)) (hc : Chg (fun b => b = g) x.to w2) (hl : x.q + 1 ≤ N) : PastS w lo hi g l N s ia ic bk fx ty n S pre :=
  ⟨w2, x.q + 1, x.box, x.done, x.res, hr, x.ok.trans (hc.mono fun b _ h => .inl h) fun _ _ e => e, hl, x.bw, x.bf, x.sf, fun b h => by
    obtain ⟨h1, h2, cs, h3, h4⟩ := x.bx b h
    exact ⟨h1, h2, cs, h3, blk_chg h4 hc h1⟩⟩
theorem PastS.took_le (x : PastS w lo hi g l N s ia ic bk fx ty n S pre) {w2 : World} (hr : Rd w2 lo hi g l (x.q + 1)) (hc : Chg (fun b => b = g) x.to w2) (hl : x.q + 1 ≤ N) : PastS.le x (x.took hr hc hl) := ⟨hc.mono fun b _ h => .inl h, id, fun _ h => h, fun b h1 h2 => (by
  have : x.box = some b := h2
  rw [h1] at this; cases this), fun _ h => h⟩
/-- .. that makes the box. -/
def PastS.made (x : PastS w lo hi g l N s ia ic bk fx ty n S pre) (hx : x.box = none) (cs : Array Value) (hn : cs.size = n) (hg : hi ≤ x.to.heap.size) : PastS w lo hi g l N s ia ic bk fx ty n S pre :=
  ⟨x.to.alloc (.cells cs ty), x.q, some x.to.heap.size, x.done, x.res, x.rd.alloc _, (x.ok.mono fun b _ h => by rw [hx] at h; exact h.elim .inl fun h => h.elim (fun h => by cases h) fun h => .inr (.inr h)).alloc _, x.lim, fun b h => (by cases h; exact .inr x.ok.size), fun h => (by rw [x.bf h] at hx; cases hx), x.sf, fun b h => by
    cases h
    exact ⟨Nat.ne_of_gt x.rd.lt, hg, cs, hn, Blk.new _ _ _⟩⟩
theorem PastS.made_le (x : PastS w lo hi g l N s ia ic bk fx ty n S pre) (hx : x.box = none) (cs : Array Value) (hn : cs.size = n) (hg : hi ≤ x.to.heap.size) : PastS.le x (x.made hx cs hn hg) := ⟨(Chg.refl _ _).alloc _, id, fun b h => (by rw [hx] at h; cases h), fun b _ h2 => (by
  have : some x.to.heap.size = some b := h2
  cases this; exact Nat.le_refl _), fun _ h => h⟩
/-- .. that fills it. -/
def PastS.fill (x : PastS w lo hi g l N s ia ic bk fx ty n S pre) {b : Nat} (hx : x.box = some b) {w2 : World} (hc : Chg (fun c => c = b) x.to w2) {cs : Array Value} (hn : cs.size = n) (hk : Blk w2 b ty cs) : PastS w lo hi g l N s ia ic bk fx ty n S pre :=
  ⟨w2, x.q, x.box, true, x.res, x.rd.chg hc (fun c h e => by
    obtain ⟨h1, h2, _⟩ := x.bx b hx
    rcases h with h | h
    · omega
    · exact h1 (e ▸ h)), (x.ok.mono (T := fun b => b = g ∨ x.box = some b ∨ (true = true ∧ S b)) fun c _ h => h.elim .inl fun h => h.elim (fun h => .inr (.inl h)) fun h => .inr (.inr ⟨rfl, h.2⟩)).trans (hc.mono fun c _ h => .inr (.inl (by rw [hx, h]))) fun _ _ e => e, x.lim, x.bw, x.bf, x.sf, fun c h => by
    rw [hx] at h
    cases h
    exact ⟨(x.bx _ hx).1, (x.bx _ hx).2.1, cs, hn, hk⟩⟩
theorem PastS.fill_le (x : PastS w lo hi g l N s ia ic bk fx ty n S pre) {b : Nat} (hx : x.box = some b) {w2 : World} (hc : Chg (fun c => c = b) x.to w2) {cs : Array Value} (hn : cs.size = n) (hk : Blk w2 b ty cs) (hd : x.done = false) : PastS.le x (x.fill hx hc hn hk) :=
  ⟨hc.mono fun c _ h => .inr ⟨hd, .inl (by rw [hx, h])⟩, fun _ => rfl, fun _ h => h, fun c h1 h2 => (by rw [hx] at h1; cases h1), fun _ h => h⟩

theorem PastS.sbox (x : PastS w lo hi g l N s ia ic bk fx ty n S pre) {b : Nat} (h : x.box = some b) : ¬ S b := fun hs => by
  have h1 := x.sf b hs
  rcases x.bw b h with h2 | h2 <;> omega
/-- .. that has the effect. -/
def PastS.did (x : PastS w lo hi g l N s ia ic bk fx ty n S pre) {w2 : World} (hc : Chg S x.to w2) : PastS w lo hi g l N s ia ic bk fx ty n S pre :=
  ⟨w2, x.q, x.box, true, x.res, x.rd.chg hc (fun c h e => by
    have h1 := x.sf c e
    omega), (x.ok.mono (T := fun b => b = g ∨ x.box = some b ∨ (true = true ∧ S b)) fun c _ h => h.elim .inl fun h => h.elim (fun h => .inr (.inl h)) fun h => .inr (.inr ⟨rfl, h.2⟩)).trans (hc.mono (T := fun b => b = g ∨ x.box = some b ∨ (true = true ∧ S b)) fun c _ h => .inr (.inr ⟨rfl, h⟩)) fun _ _ e => e, x.lim, x.bw, x.bf, x.sf, fun b h => by
    obtain ⟨h1, h2, cs, h3, h4⟩ := x.bx b h
    exact ⟨h1, h2, cs, h3, blk_chg h4 hc (x.sbox h)⟩⟩
theorem PastS.did_le (x : PastS w lo hi g l N s ia ic bk fx ty n S pre) {w2 : World} (hc : Chg S x.to w2) (hd : x.done = false) : PastS.le x (x.did hc) :=
  ⟨hc.mono fun c _ h => .inr ⟨hd, .inr h⟩, fun _ => rfl, fun _ h => h, fun c h1 h2 => (by
    have : x.box = some c := h2
    rw [h1] at this; cases this), fun _ h => h⟩

variable {P : Program} {ops : Array Oper} {Qt : Act → World → Prop} {i : Nat} {o : Oper} {L : List (Nat × Oper)} {F : List (Nat × (PastS w lo hi g l N s ia ic bk fx ty n S pre → Prop))} {Rs : List (TabR (PastS w lo hi g l N s ia ic bk fx ty n S pre))} {a : Act}
/-- An operation that leaves the reader and the box alone. -/
theorem st_any (R : Value → PastS w lo hi g l N s ia ic bk fx ty n S pre → Prop) (hd : o.dst.isSome = true) (hs : ∀ v x y, R v x → PastS.le x y → R v y)
    (h1 : ∀ x : PastS w lo hi g l N s ia ic bk fx ty n S pre, depF F o x → ∀ Qx : Exit → Act → World → Prop, (∀ v w2 (hb : Below x.to.heap.size x.to w2), R v (x.on hb) → Qx .normal (a.put o.dst v) w2) → wpList P ops Qx [o] a x.to)
    (h2 : ∀ v, TabGo P ops (PastS.to (w := w)) (PastS.le (w := w)) Qt L ((i, fun x => R v x) :: F) Rs (a.put o.dst v)) : TabGo P ops (PastS.to (w := w)) (PastS.le (w := w)) Qt ((i, o) :: L) F (.any R :: Rs) a :=
  tab_any (to := PastS.to (w := w)) (le := PastS.le (w := w)) R (.inl hd) hs (fun x hx m hm hp Qx hQ => h1 x hx Qx fun v w2 hb hv =>
    hQ v (x.on hb) (x.on_le hb) (Nat.le_of_succ_le hm) (fun _ _ _ h => h) hv) h2
/-- One that acts on nothing. -/
theorem st_look (R : Value → Prop) (hd : o.dst.isSome = true)
    (h1 : ∀ x : PastS w lo hi g l N s ia ic bk fx ty n S pre, depF F o x → ∀ Qx : Exit → Act → World → Prop, (∀ v, R v → Qx .normal (a.put o.dst v) x.to) → wpList P ops Qx [o] a x.to)
    (h2 : ∀ v, TabGo P ops (PastS.to (w := w)) (PastS.le (w := w)) Qt L ((i, fun _ => R v) :: F) Rs (a.put o.dst v)) : TabGo P ops (PastS.to (w := w)) (PastS.le (w := w)) Qt ((i, o) :: L) F (.any (fun v _ => R v) :: Rs) a :=
  tab_any (to := PastS.to (w := w)) (le := PastS.le (w := w)) (fun v _ => R v) (.inl hd) (fun _ _ _ h _ => h) (fun x hx m hm hp Qx hQ => h1 x hx Qx fun v hv =>
    hQ v x (PastS.le_refl x) (Nat.le_of_succ_le hm) (fun _ _ _ h => h) hv) h2
/-- A pick. -/
theorem st_pick (R : Value → Prop) (hd : o.dst.isSome = true)
    (h1 : ∀ x : PastS w lo hi g l N s ia ic bk fx ty n S pre, depF F o x → x.q < N → ∀ Qx : Exit → Act → World → Prop, (∀ v w2, Rd w2 lo hi g l (x.q + 1) → Chg (fun b => b = g) x.to w2 → R v → Qx .normal (a.put o.dst v) w2) → wpList P ops Qx [o] a x.to)
    (h2 : ∀ v, TabGo P ops (PastS.to (w := w)) (PastS.le (w := w)) Qt L ((i, fun _ => R v) :: F) Rs (a.put o.dst v)) : TabGo P ops (PastS.to (w := w)) (PastS.le (w := w)) Qt ((i, o) :: L) F (.any (fun v _ => R v) :: Rs) a :=
  tab_any (to := PastS.to (w := w)) (le := PastS.le (w := w)) (fun v _ => R v) (.inl hd) (fun v x y h _ => h) (fun x hx m hm hp Qx hQ => by
    have hm' : x.q + (m + 1) ≤ N := hm
    exact h1 x hx (by omega) Qx fun v w2 hr hc hv =>
      hQ v (x.took hr hc (by omega)) (x.took_le hr hc (by omega)) (by show x.q + 1 + m ≤ N; omega) (fun _ _ _ h => h) hv) h2
/-- The call whose result is kept in mind. -/
theorem st_call (R : Value → PastS w lo hi g l N s ia ic bk fx ty n S pre → Prop) (hd : o.dst.isSome = true) (hi' : i = ic) (hs : ∀ v x y, R v x → PastS.le x y → R v y)
    (h1 : ∀ x : PastS w lo hi g l N s ia ic bk fx ty n S pre, depF F o x → ∀ Qx : Exit → Act → World → Prop, (∀ v w2 (hb : Below x.to.heap.size x.to w2), R v (x.told hb v) → Qx .normal (a.put o.dst v) w2) → wpList P ops Qx [o] a x.to)
    (h2 : ∀ v, TabGo P ops (PastS.to (w := w)) (PastS.le (w := w)) Qt L ((i, fun x => R v x ∧ x.res = some v) :: F) Rs (a.put o.dst v)) : TabGo P ops (PastS.to (w := w)) (PastS.le (w := w)) Qt ((i, o) :: L) F (.any (fun v x => R v x ∧ x.res = some v) :: Rs) a :=
  tab_any (to := PastS.to (w := w)) (le := PastS.le (w := w)) (fun v x => R v x ∧ x.res = some v) (.inl hd) (fun v x y h hl => ⟨hs v x y h.1 hl, hl.res v h.2⟩) (fun x hx m hm hp Qx hQ => h1 x hx Qx fun v w2 hb hv =>
    hQ v (x.told hb v) (x.told_le hb v (hp.2.2 hi')) (Nat.le_of_succ_le hm) (fun j hj _ hpj => ⟨hpj.1, hpj.2.1, fun e => absurd (e.trans hi'.symm) hj⟩) ⟨hv, rfl⟩) h2
/-- One that acts on nothing, of what is kept in mind. -/
theorem st_see (R : Value → Value → Prop) (hd : o.dst.isSome = true)
    (h1 : ∀ x : PastS w lo hi g l N s ia ic bk fx ty n S pre, depF F o x → ∀ Qx : Exit → Act → World → Prop, (∀ v u, x.res = some u → R v u → Qx .normal (a.put o.dst v) x.to) → wpList P ops Qx [o] a x.to)
    (h2 : ∀ v, TabGo P ops (PastS.to (w := w)) (PastS.le (w := w)) Qt L ((i, fun x => ∃ u, x.res = some u ∧ R v u) :: F) Rs (a.put o.dst v)) : TabGo P ops (PastS.to (w := w)) (PastS.le (w := w)) Qt ((i, o) :: L) F (.any (fun v x => ∃ u, x.res = some u ∧ R v u) :: Rs) a :=
  tab_any (to := PastS.to (w := w)) (le := PastS.le (w := w)) (fun v x => ∃ u, x.res = some u ∧ R v u) (.inl hd) (fun _ _ _ ⟨u, h, hr⟩ hl => ⟨u, hl.res u h, hr⟩) (fun x hx m hm hp Qx hQ => h1 x hx Qx fun v u hu hv =>
    hQ v x (PastS.le_refl x) (Nat.le_of_succ_le hm) (fun _ _ _ h => h) ⟨u, hu, hv⟩) h2
/-- The box is made. -/
theorem st_alloc (hd : o.dst.isSome = true) (hi' : i = ia) (hne : ia ≠ s) (hg : hi ≤ w.heap.size) (cs : Array Value) (hn : cs.size = n)
    (h1 : ∀ x : PastS w lo hi g l N s ia ic bk fx ty n S pre, ∀ Qx : Exit → Act → World → Prop, (Qx .normal (a.put o.dst (.pointer (some ⟨x.to.heap.size, 0, none⟩))) (x.to.alloc (.cells cs ty))) → wpList P ops Qx [o] a x.to)
    (h2 : ∀ v, TabGo P ops (PastS.to (w := w)) (PastS.le (w := w)) Qt L ((i, fun x => ∃ b, v = .pointer (some ⟨b, 0, none⟩) ∧ w.heap.size ≤ b ∧ x.box = some b) :: F) Rs (a.put o.dst v)) : TabGo P ops (PastS.to (w := w)) (PastS.le (w := w)) Qt ((i, o) :: L) F (.any (fun v x => ∃ b, v = .pointer (some ⟨b, 0, none⟩) ∧ w.heap.size ≤ b ∧ x.box = some b) :: Rs) a :=
  tab_any (to := PastS.to (w := w)) (le := PastS.le (w := w)) (fun v x => ∃ b, v = .pointer (some ⟨b, 0, none⟩) ∧ w.heap.size ≤ b ∧ x.box = some b) (.inl hd) (fun v x y ⟨b, e, hb, h⟩ hle => ⟨b, e, hb, hle.box b h⟩) (fun x hx m hm hp Qx hQ => by
    have hbx := hp.2.1 hi'
    have hgx : hi ≤ x.to.heap.size := Nat.le_trans hg x.ok.size
    refine h1 x Qx (hQ _ (x.made hbx cs hn hgx) (x.made_le hbx cs hn hgx) (Nat.le_of_succ_le hm) (fun j hj _ hpj => ⟨hpj.1, fun e => absurd (e.trans hi'.symm) hj, hpj.2.2⟩) ⟨_, rfl, x.ok.size, rfl⟩)) h2
/-- It is filled. -/
theorem st_store (R : PastS w lo hi g l N s ia ic bk fx ty n S pre → Prop) (hi' : i = s) (hpre : ∀ j ∈ pre, Behind ops i j) (hs : ∀ x y, R x → PastS.le x y → R y)
    (h1 : ∀ x : PastS w lo hi g l N s ia ic bk fx ty n S pre, depF F o x → x.done = false → ∀ Qx : Exit → Act → World → Prop, (∀ b (hx : x.box = some b) w2 (hc : Chg (fun c => c = b) x.to w2) (cs : Array Value) (hn : cs.size = n) (hk : Blk w2 b ty cs), R (x.fill hx hc hn hk) → Qx .normal (a.put o.dst undef) w2) → wpList P ops Qx [o] a x.to)
    (hd : o.dst = none)
    (h2 : TabGo P ops (PastS.to (w := w)) (PastS.le (w := w)) Qt L ((i, fun x => R x) :: F) Rs (a.put o.dst undef)) : TabGo P ops (PastS.to (w := w)) (PastS.le (w := w)) Qt ((i, o) :: L) F (.any (fun _ x => R x) :: Rs) a :=
  tab_any (to := PastS.to (w := w)) (le := PastS.le (w := w)) (fun _ x => R x) (.inr fun _ _ _ h => h) (fun _ x y h hle => hs x y h hle) (fun x hx m hm hp Qx hQ => h1 x hx (hp.1 (.inl hi')) Qx fun b hbx w2 hc cs hn hk hr => by
    exact hQ undef (x.fill hbx hc hn hk) (x.fill_le hbx hc hn hk (hp.1 (.inl hi'))) (Nat.le_of_succ_le hm) (fun j hj hnb hpj => ⟨fun e => e.elim (fun e => absurd (e.trans hi'.symm) hj) fun e => absurd (hpre j e) hnb, hpj.2⟩) hr) (fun v => by
    have e : a.put o.dst v = a.put o.dst undef := by rw [hd]; rfl
    rw [e]; exact h2)
/-- The effect: it changes what S says. -/
theorem st_eff (R : Value → PastS w lo hi g l N s ia ic bk fx ty n S pre → Prop) (hd : o.dst.isSome = true) (hi' : i = s) (hpre : ∀ j ∈ pre, Behind ops i j) (hs : ∀ v x y, R v x → PastS.le x y → R v y)
    (h1 : ∀ x : PastS w lo hi g l N s ia ic bk fx ty n S pre, depF F o x → x.done = false → ∀ Qx : Exit → Act → World → Prop, (∀ v w2 (hc : Chg S x.to w2), R v (x.did hc) → Qx .normal (a.put o.dst v) w2) → wpList P ops Qx [o] a x.to)
    (h2 : ∀ v, TabGo P ops (PastS.to (w := w)) (PastS.le (w := w)) Qt L ((i, fun x => R v x) :: F) Rs (a.put o.dst v)) : TabGo P ops (PastS.to (w := w)) (PastS.le (w := w)) Qt ((i, o) :: L) F (.any R :: Rs) a :=
  tab_any (to := PastS.to (w := w)) (le := PastS.le (w := w)) R (.inl hd) hs (fun x hx m hm hp Qx hQ => h1 x hx (hp.1 (.inl hi')) Qx fun v w2 hc hr =>
    hQ v (x.did hc) (x.did_le hc (hp.1 (.inl hi'))) (Nat.le_of_succ_le hm) (fun j hj hnb hpj => ⟨fun e => e.elim (fun e => absurd (e.trans hi'.symm) hj) fun e => absurd (hpre j e) hnb, hpj.2⟩) hr) h2
/-- One that acts on nothing, ahead of the effect. -/
theorem st_lookP (R : Value → Prop) (hd : o.dst.isSome = true) (hi' : i ∈ pre)
    (h1 : ∀ x : PastS w lo hi g l N s ia ic bk fx ty n S pre, depF F o x → x.done = false → ∀ Qx : Exit → Act → World → Prop, (∀ v, R v → Qx .normal (a.put o.dst v) x.to) → wpList P ops Qx [o] a x.to)
    (h2 : ∀ v, TabGo P ops (PastS.to (w := w)) (PastS.le (w := w)) Qt L ((i, fun _ => R v) :: F) Rs (a.put o.dst v)) : TabGo P ops (PastS.to (w := w)) (PastS.le (w := w)) Qt ((i, o) :: L) F (.any (fun v _ => R v) :: Rs) a :=
  tab_any (to := PastS.to (w := w)) (le := PastS.le (w := w)) (fun v _ => R v) (.inl hd) (fun _ _ _ h _ => h) (fun x hx m hm hp Qx hQ => h1 x hx (hp.1 (.inr hi')) Qx fun v hv =>
    hQ v x (PastS.le_refl x) (Nat.le_of_succ_le hm) (fun _ _ _ h => h) hv) h2
/-- The end. -/
theorem st_end (h : ∀ x : PastS w lo hi g l N s ia ic bk fx ty n S pre, allF F x → Qt a x.to) : TabGo P ops (PastS.to (w := w)) (PastS.le (w := w)) Qt [] F [] a := tab_end h
end
end Go.Proofs.Ytpdkgpbfmpekgaa
