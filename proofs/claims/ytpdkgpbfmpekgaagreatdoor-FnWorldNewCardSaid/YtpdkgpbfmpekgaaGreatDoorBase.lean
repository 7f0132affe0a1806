


/- Words for memory that the walks of this seat use: a block known whole, a row of integers. -/
import Derived.Test.YtpdkgpbfmpekgaaGreatDoorRows
import Derived.WalkKit
import Derived.ProofKit
import Derived.OpenShut
import Derived.Handy
import Derived.BigQuiet
import Derived.Deep.QuietTactic
import Derived.Outline
import Derived.Deep.Draws
import Derived.Lib.Hide
namespace Go.Proofs.YtpdkgpbfmpekgaaGreatDoor
open Go.RowKit

theorem ret_int {k : IntKind} {a b : Int} (h : a = b) : Ending.returned (.int k a) = .returned (.int k b) := by rw [h]
theorem ret_bool {a b : Bool} (h : a = b) : Ending.returned (.bool a) = .returned (.bool b) := by rw [h]

/-! ### What a call has changed: at most the blocks of S, of those that were there. -/
structure Chg (S : Nat → Prop) (w w' : World) : Prop where
  os : w'.os = w.os
  tape : w'.tape = w.tape
  output : w'.output = w.output
  size : w.heap.size ≤ w'.heap.size
  block : ∀ k, k < w.heap.size → ¬ S k → w'.heap[k]? = w.heap[k]?

theorem Chg.refl (S : Nat → Prop) (w : World) : Chg S w w := ⟨rfl, rfl, rfl, Nat.le_refl _, fun _ _ _ => rfl⟩
theorem Chg.trans {S T : Nat → Prop} {a b c : World} (h : Chg S a b) (k : Chg T b c) (hT : ∀ i, i < a.heap.size → T i → S i) : Chg S a c :=
  ⟨k.os.trans h.os, k.tape.trans h.tape, k.output.trans h.output, Nat.le_trans h.size k.size,
    fun i hi hn => (k.block i (Nat.lt_of_lt_of_le hi h.size) (fun ht => hn (hT i hi ht))).trans (h.block i hi hn)⟩
theorem Chg.mono {S T : Nat → Prop} {a b : World} (h : Chg S a b) (hT : ∀ i, i < a.heap.size → S i → T i) : Chg T a b :=
  ⟨h.os, h.tape, h.output, h.size, fun i hi hn => h.block i hi fun hs => hn (hT i hi hs)⟩
theorem Chg.below {S : Nat → Prop} {w w' : World} {B : Nat} (h : Chg S w w') (hB : B ≤ w.heap.size) (hS : ∀ i, i < B → ¬ S i) : Below B w w' :=
  ⟨h.os, h.tape, h.output, h.size, fun k hk => h.block k (Nat.lt_of_lt_of_le hk hB) (hS k hk)⟩
theorem Chg.of_below {S : Nat → Prop} {w w' : World} (h : Below w.heap.size w w') : Chg S w w' :=
  ⟨h.os, h.tape, h.output, h.size, fun k hk _ => h.block k hk⟩
theorem Chg.alloc {S : Nat → Prop} {a w : World} (h : Chg S a w) (o : Obj) : Chg S a (w.alloc o) :=
  ⟨h.os, h.tape, h.output, Nat.le_trans h.size (by simp), fun i hi hne => (Below.heap_alloc w o i (Nat.lt_of_lt_of_le hi h.size)).trans (h.block i hi hne)⟩
theorem Chg.drew {S : Nat → Prop} {a w : World} (h : Chg S a w) : Chg S a w.drew := ⟨h.os, h.tape, h.output, h.size, h.block⟩
theorem Chg.drewN {S : Nat → Prop} {a w : World} (h : Chg S a w) (n : Nat) : Chg S a (w.drewN n) := ⟨h.os, h.tape, h.output, h.size, h.block⟩
theorem Chg.setCell {S : Nat → Prop} {a w : World} (h : Chg S a w) {p : Addr} (hp : S p.block ∨ a.heap.size ≤ p.block) (u : Value) : Chg S a (w.setCell p u) :=
  ⟨h.os, h.tape, h.output, by simpa [World.setCell] using h.size, fun i hi hn => (Below.heap_setCell w p u i (by
    rintro rfl
    rcases hp with hp | hp
    · exact hn hp
    · omega)).trans (h.block i hi hn)⟩
theorem below_chg {S : Nat → Prop} {a w w' : World} (h : Below a.heap.size a w) (hc : Chg S w w') (hS : ∀ i, S i → a.heap.size ≤ i) : Below a.heap.size a w' :=
  h.trans (hc.below h.size fun i hi hs => by have := hS i hs; omega)
theorem below_below {a w w' : World} (h : Below a.heap.size a w) (hb : Below w.heap.size w w') : Below a.heap.size a w' := h.trans (hb.mono h.size)
theorem below_drewN {B : Nat} {a w : World} (h : Below B a w) (n : Nat) : Below B a (w.drewN n) := ⟨h.os, h.tape, h.output, h.size, h.block⟩

/-! ### How a value reads: in world w the cells cs are the value x, all that it leads to lies in blocks from lo on, below hi. -/
abbrev Rep (α : Type) := World → Nat → Nat → α → List Value → Prop
/-- A reading hangs on nothing but the blocks that it names. -/
structure Loc {α : Type} (E : Rep α) : Prop where
  go : ∀ {w w' : World} {lo hi lo' hi' : Nat} {x : α} {cs : List Value},
    (∀ b, lo ≤ b → b < hi → w'.heap[b]? = w.heap[b]?) → lo' ≤ lo → hi ≤ hi' → E w lo hi x cs → E w' lo' hi' x cs
/-- An int fits. -/
def In64 (x : Int) : Prop := -9223372036854775808 ≤ x ∧ x ≤ 9223372036854775807
def RInt : Rep Int := fun _ _ _ x cs => cs = [.int .i64 x] ∧ In64 x
def RByte : Rep Int := fun _ _ _ x cs => cs = [.int .u8 x] ∧ 0 ≤ x ∧ x < 256
def RBool : Rep Bool := fun _ _ _ x cs => cs = [.bool x]
def RStr : Rep ByteArray := fun _ _ _ x cs => cs = [.string x] ∧ x.size ≤ maxLen
theorem RInt.loc : Loc RInt := ⟨fun _ _ _ h => h⟩
theorem RByte.loc : Loc RByte := ⟨fun _ _ _ h => h⟩
theorem RBool.loc : Loc RBool := ⟨fun _ _ _ h => h⟩
theorem RStr.loc : Loc RStr := ⟨fun _ _ _ h => h⟩
/-- A slice of elements of sz cells each. -/
def RSl {α : Type} (E : Rep α) (sz : Nat) : Rep (List α) := fun w lo hi xs cs =>
  ∃ (A : Option Addr) (c : Nat), cs = [.slice A xs.length c] ∧ xs.length ≤ c ∧ c ≤ maxLen ∧
    (0 < xs.length → ∃ b off, A = some ⟨b, off, none⟩ ∧ lo ≤ b ∧ b < hi ∧
      ∀ i x, xs[i]? = some x → ∃ es : List Value, es.length = sz ∧ E w lo hi x es ∧ ∀ j u, es[j]? = some u → w.cell? ⟨b, off + i * sz + j, none⟩ = some u)
theorem RSl.loc {α : Type} {E : Rep α} (hE : Loc E) {sz : Nat} : Loc (RSl E sz) := by
  refine ⟨?_⟩
  intro w w' lo hi lo' hi' xs cs hs hlo hhi ⟨A, c, hcs, hc, hm, h⟩
  refine ⟨A, c, hcs, hc, hm, fun hp => ?_⟩
  obtain ⟨b, off, rfl, h1, h2, hx⟩ := h hp
  refine ⟨b, off, rfl, Nat.le_trans hlo h1, Nat.lt_of_lt_of_le h2 hhi, fun i x hi' => ?_⟩
  obtain ⟨es, hl, he, hcell⟩ := hx i x hi'
  exact ⟨es, hl, hE.go hs hlo hhi he, fun j u hu => (World.cell?_of_block (hs b h1 h2)).trans (hcell j u hu)⟩
theorem Loc.below {α : Type} {E : Rep α} (hE : Loc E) {w w' : World} {lo hi B : Nat} {x : α} {cs : List Value} (h : E w lo hi x cs) (hb : Below B w w') (hB : hi ≤ B) : E w' lo hi x cs :=
  hE.go (fun b _ hb' => hb.block b (Nat.lt_of_lt_of_le hb' hB)) (Nat.le_refl _) (Nat.le_refl _) h
theorem Loc.chg {α : Type} {E : Rep α} (hE : Loc E) {S : Nat → Prop} {w w' : World} {lo hi : Nat} {x : α} {cs : List Value} (h : E w lo hi x cs) (hc : Chg S w w') (hS : ∀ b, lo ≤ b → b < hi → b < w.heap.size ∧ ¬ S b) : E w' lo hi x cs :=
  hE.go (fun b h1 h2 => hc.block b (hS b h1 h2).1 (hS b h1 h2).2) (Nat.le_refl _) (Nat.le_refl _) h
theorem Loc.wide {α : Type} {E : Rep α} (hE : Loc E) {w : World} {lo hi lo' hi' : Nat} {x : α} {cs : List Value} (h : E w lo hi x cs) (h1 : lo' ≤ lo) (h2 : hi ≤ hi') : E w lo' hi' x cs :=
  hE.go (fun _ _ _ => rfl) h1 h2 h
/-- The element at a place. -/
theorem RSl.at_ {α : Type} {E : Rep α} {sz : Nat} {w : World} {lo hi : Nat} {xs : List α} {A : Option Addr} {n c : Nat} (h : RSl E sz w lo hi xs [.slice A n c]) {k : Nat} {x : α} (hk : xs[k]? = some x) :
    ∃ b off es, A = some ⟨b, off, none⟩ ∧ lo ≤ b ∧ b < hi ∧ es.length = sz ∧ E w lo hi x es ∧ ∀ j u, es[j]? = some u → w.cell? ⟨b, off + k * sz + j, none⟩ = some u := by
  obtain ⟨A', c', hcs, hc, hm, hx⟩ := h
  simp only [List.cons.injEq, Value.slice.injEq, and_true] at hcs
  obtain ⟨rfl, rfl, rfl⟩ := hcs
  have hlt : k < xs.length := by
    rcases Nat.lt_or_ge k xs.length with h | h
    · exact h
    · rw [List.getElem?_eq_none h] at hk; cases hk
  obtain ⟨b, off, rfl, h1, h2, hx⟩ := hx (by omega)
  obtain ⟨es, hl, he, hcell⟩ := hx k x hk
  exact ⟨b, off, es, rfl, h1, h2, hl, he, hcell⟩
theorem RSl.ints_at {w : World} {lo hi : Nat} {xs : List Int} {A : Option Addr} {n c : Nat} (h : RSl RInt 1 w lo hi xs [.slice A n c]) {k : Nat} {x : Int} (hk : xs[k]? = some x) :
    ∃ b off, A = some ⟨b, off, none⟩ ∧ lo ≤ b ∧ b < hi ∧ In64 x ∧ w.cell? ⟨b, off + k, none⟩ = some (.int .i64 x) := by
  obtain ⟨b, off, es, rfl, h1, h2, hl, ⟨rfl, h64⟩, hc⟩ := h.at_ hk
  exact ⟨b, off, rfl, h1, h2, h64, by simpa using hc 0 _ rfl⟩
theorem RSl.bytes_at {w : World} {lo hi : Nat} {xs : List Int} {A : Option Addr} {n c : Nat} (h : RSl RByte 1 w lo hi xs [.slice A n c]) {k : Nat} {x : Int} (hk : xs[k]? = some x) :
    ∃ b off, A = some ⟨b, off, none⟩ ∧ lo ≤ b ∧ b < hi ∧ (0 ≤ x ∧ x < 256) ∧ w.cell? ⟨b, off + k, none⟩ = some (.int .u8 x) := by
  obtain ⟨b, off, es, rfl, h1, h2, hl, ⟨rfl, h64⟩, hc⟩ := h.at_ hk
  exact ⟨b, off, rfl, h1, h2, h64, by simpa using hc 0 _ rfl⟩
theorem RSl.len_ {α : Type} {E : Rep α} {sz : Nat} {w : World} {lo hi : Nat} {xs : List α} {A : Option Addr} {n c : Nat} (h : RSl E sz w lo hi xs [.slice A n c]) : n = xs.length ∧ n ≤ c ∧ c ≤ maxLen := by
  obtain ⟨A', c', hcs, hc, hm, hx⟩ := h
  simp only [List.cons.injEq, Value.slice.injEq, and_true] at hcs
  obtain ⟨rfl, rfl, rfl⟩ := hcs
  exact ⟨rfl, hc, hm⟩
theorem RSl.form {α : Type} {E : Rep α} {sz : Nat} {w : World} {lo hi : Nat} {xs : List α} {v : Value} (h : RSl E sz w lo hi xs [v]) : ∃ A c, v = .slice A xs.length c := by
  obtain ⟨A', c', hcs, hc, hm, hx⟩ := h
  simp only [List.cons.injEq, and_true] at hcs
  exact ⟨_, _, hcs⟩
theorem some_of_lt {α : Type} {l : List α} {k : Nat} (h : k < l.length) : ∃ x, l[k]? = some x := ⟨l[k], List.getElem?_eq_getElem h⟩
theorem lt_of_some {α : Type} {l : List α} {k : Nat} {x : α} (h : l[k]? = some x) : k < l.length := by
  rcases Nat.lt_or_ge k l.length with h' | h'
  · exact h'
  · rw [List.getElem?_eq_none h'] at h; cases h
theorem snocInd {α : Type} {P : List α → Prop} (h0 : P []) (h1 : ∀ l a, P l → P (l ++ [a])) (l : List α) : P l := by
  rw [← l.reverse_reverse]
  induction l.reverse with
  | nil => exact h0
  | cons a t ih => rw [List.reverse_cons]; exact h1 _ _ ih
theorem take_succ {α : Type} {l : List α} {k : Nat} {x : α} (h : l[k]? = some x) : l.take (k + 1) = l.take k ++ [x] := by
  rw [List.take_add_one, h]; rfl

def Blk (w : World) (g : Nat) (t : TypeId) (cs : Array Value) : Prop := w.heap[g]? = some (.cells cs t (0, 0))
section
variable {w w' : World} {g : Nat} {t : TypeId} {cs : Array Value}
theorem Blk.lt (h : Blk w g t cs) : g < w.heap.size := by
  rcases Nat.lt_or_ge g w.heap.size with hlt | hge
  · exact hlt
  · unfold Blk at h; rw [Array.getElem?_eq_none hge] at h; cases h
theorem Blk.cell (h : Blk w g t cs) (i : Nat) : w.cell? ⟨g, i, none⟩ = cs[i]? := cell_of_row w g i cs t (0, 0) h
theorem Blk.frozen (h : Blk w g t cs) (i : Nat) : w.frozen? ⟨g, i, none⟩ = false := by
  unfold Blk at h
  simp [World.frozen?, h]
theorem Blk.new (w : World) (t : TypeId) (cs : Array Value) : Blk (w.alloc (.cells cs t)) w.heap.size t cs := heap_alloc_new w _
theorem Blk.set_ (h : Blk w g t cs) (i : Nat) (u : Value) : Blk (w.setCell ⟨g, i, none⟩ u) g t (cs.setIfInBounds i u) := by
  unfold Blk at h ⊢
  simp [World.setCell, Array.getElem?_modify, h]
theorem Blk.drew (h : Blk w g t cs) : Blk w.drew g t cs := h
end

/-- Block g of N cells begins with the cells vs. -/
def Pre (w : World) (g : Nat) (t : TypeId) (N : Nat) (vs : List Value) : Prop := ∃ cs : Array Value, Blk w g t cs ∧ cs.size = N ∧ ∀ (j : Nat) (u : Value), vs[j]? = some u → cs[j]? = some u
section
variable {w w' : World} {g N : Nat} {t : TypeId} {vs : List Value}
theorem Pre.new (w : World) (t : TypeId) (cs : Array Value) : Pre (w.alloc (.cells cs t)) w.heap.size t cs.size [] := ⟨cs, Blk.new _ _ _, rfl, fun j u h => by simp at h⟩
theorem Pre.lt (h : Pre w g t N vs) : g < w.heap.size := by
  obtain ⟨cs, hb, _⟩ := h
  exact hb.lt
theorem Pre.cell (h : Pre w g t N vs) {j : Nat} {u : Value} (hj : vs[j]? = some u) : w.cell? ⟨g, j, none⟩ = some u := by
  obtain ⟨cs, hb, _, hc⟩ := h
  rw [hb.cell]; exact hc j u hj
theorem Pre.there (h : Pre w g t N vs) {j : Nat} (hj : j < N) : ∃ u, w.cell? ⟨g, j, none⟩ = some u := by
  obtain ⟨cs, hb, hn, hc⟩ := h
  rw [hb.cell]; exact ⟨cs[j]'(by omega), Array.getElem?_eq_getElem (by omega)⟩
theorem Pre.frozen (h : Pre w g t N vs) (j : Nat) : w.frozen? ⟨g, j, none⟩ = false := by
  obtain ⟨cs, hb, _⟩ := h
  exact hb.frozen j
theorem Pre.push (h : Pre w g t N vs) (u : Value) (hlt : vs.length < N) : Pre (w.setCell ⟨g, vs.length, none⟩ u) g t N (vs ++ [u]) := by
  obtain ⟨cs, hb, hn, hc⟩ := h
  refine ⟨_, hb.set_ vs.length u, by simpa using hn, fun j v hj => ?_⟩
  rw [Array.getElem?_setIfInBounds]
  by_cases hjl : vs.length = j
  · subst hjl
    rw [List.getElem?_append_right (Nat.le_refl _)] at hj
    simp at hj
    subst hj
    rw [if_pos rfl, if_pos (by omega)]
  · rw [if_neg hjl]
    have hl := lt_of_some hj
    simp at hl
    rw [List.getElem?_append_left (by omega)] at hj
    exact hc j v hj
theorem Pre.chg {S : Nat → Prop} (h : Pre w g t N vs) (hc : Chg S w w') (hS : ¬ S g) : Pre w' g t N vs := by
  obtain ⟨cs, hb, hn, hcc⟩ := h
  exact ⟨cs, (hc.block g hb.lt hS).trans hb, hn, hcc⟩
end
/-- A row of ints written to the end reads as the slice of them. -/
theorem Pre.ints {w : World} {g N : Nat} {t : TypeId} {xs : List Int} (h : Pre w g t N (xs.map (Value.int .i64))) (h64 : ∀ x ∈ xs, In64 x) {lo hi : Nat} (h1 : lo ≤ g) (h2 : g < hi) {c : Nat} (hc : xs.length ≤ c) (hm : c ≤ maxLen) :
    RSl RInt 1 w lo hi xs [.slice (some ⟨g, 0, none⟩) xs.length c] :=
  ⟨_, _, rfl, hc, hm, fun _ => ⟨g, 0, rfl, h1, h2, fun i x hi => ⟨[.int .i64 x], rfl, ⟨rfl, h64 x (List.mem_of_getElem? hi)⟩, fun j u hu => by
    have hj : j = 0 := by have := lt_of_some hu; simpa using this
    subst hj
    simp at hu
    subst hu
    have := h.cell (j := i) (u := .int .i64 x) (by rw [List.getElem?_map, hi]; rfl)
    simpa using this⟩⟩⟩
/-- What a call that makes a slice leaves: a new slice that reads as xs; what was there is as it was. -/
def NewSl {α : Type} (E : Rep α) (sz : Nat) (w : World) (xs : List α) (e : Ending) (w' : World) : Prop :=
  ∃ v, e = .returned v ∧ RSl E sz w' w.heap.size w'.heap.size xs [v] ∧ Below w.heap.size w w'
theorem RSl.all_ {α : Type} {E : Rep α} {sz : Nat} {w : World} {lo hi : Nat} {xs : List α} {cs : List Value} (h : RSl E sz w lo hi xs cs) : ∀ x ∈ xs, ∃ es, E w lo hi x es := by
  obtain ⟨A, c, hcs, hc, hm, hh⟩ := h
  intro x hx
  obtain ⟨i, hi⟩ := List.mem_iff_getElem?.1 hx
  obtain ⟨b, off, _, _, _, hat⟩ := hh (by have := lt_of_some hi; omega)
  obtain ⟨es, _, he, _⟩ := hat i x hi
  exact ⟨es, he⟩
theorem RSl.in64 {w : World} {lo hi : Nat} {xs : List Int} {cs : List Value} (h : RSl RInt 1 w lo hi xs cs) : ∀ x ∈ xs, In64 x := fun x hx => by
  obtain ⟨es, he⟩ := h.all_ x hx
  exact he.2

/-- Block g holds n integers, f says which. -/
def IRow (w : World) (g : Nat) (t : TypeId) (n : Nat) (f : Nat → Int) : Prop := ∃ cs : Array Value, Blk w g t cs ∧ cs.size = n ∧ ∀ j, j < n → cs[j]? = some (.int .i64 (f j))
section
variable {w : World} {g : Nat} {t : TypeId} {n : Nat} {f f' : Nat → Int}
theorem IRow.cell (h : IRow w g t n f) {j : Nat} (hj : j < n) : w.cell? ⟨g, j, none⟩ = some (.int .i64 (f j)) := by
  obtain ⟨cs, hb, _, hc⟩ := h
  rw [hb.cell, hc j hj]
theorem IRow.frozen (h : IRow w g t n f) (j : Nat) : w.frozen? ⟨g, j, none⟩ = false := by
  obtain ⟨cs, hb, hc⟩ := h
  exact hb.frozen j
theorem IRow.congr (h : IRow w g t n f) (he : ∀ j, j < n → f j = f' j) : IRow w g t n f' := by
  obtain ⟨cs, hb, hs, hc⟩ := h
  exact ⟨cs, hb, hs, fun j hj => by rw [← he j hj]; exact hc j hj⟩
theorem IRow.drew (h : IRow w g t n f) : IRow w.drew g t n f := h
theorem IRow.set_ (h : IRow w g t n f) (i : Nat) (x : Int) (he : ∀ j, j < n → f' j = if j = i then x else f j) : IRow (w.setCell ⟨g, i, none⟩ (.int .i64 x)) g t n f' := by
  obtain ⟨cs, hb, hs, hc⟩ := h
  refine ⟨_, hb.set_ i _, by simpa using hs, fun j hj => ?_⟩
  rw [Array.getElem?_setIfInBounds, he j hj]
  by_cases h : i = j
  · subst h; rw [if_pos rfl, if_pos (by omega), if_pos rfl]
  · rw [if_neg h, if_neg (fun e => h e.symm)]; exact hc j hj
end

end Go.Proofs.YtpdkgpbfmpekgaaGreatDoor
