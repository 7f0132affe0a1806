


/- Rings that a call owns: copies, and what is appended to them. -/
import Derived.Test.YtdbeclnoaeiaeaaRgM
import Derived.Test.YtdbeclnoaeiaeaaFlat
namespace Go.Proofs.Ytdbeclnoaeiaeaa
open Go.RowKit

/-- An append as one step of a region that draws. -/
theorem step_app {P : Program} {ops : Array Oper} {w : World} {o : Oper} {a : Act} {K : Act → World → Prop} {Q : Exit → Act → World → Prop} {F : Prop} (hgd : o.guard = none) (s x : Operand) (t : TypeId)
    (ho : o.op = .call { callee := .builtin .append, args := #[s, x], argTypes := #[t, t] })
    {e : TypeId} {sz bytes : Nat} (hE : Elem P t e sz bytes) {base : Nat} {v : Value} {n : Nat} {cells : List Value} (hs : a.eval s = v) (hown : w.ownsRow base e sz v n cells)
    {A : Option Addr} {m c : Nat} {news : List Value} (hx : a.eval x = .slice A m c) (hl : news.length = m * sz) (hA : 0 < m → ∃ a, A = some a ∧ ∀ (j : Nat) (u : Value), news[j]? = some u → w.cell? (a.add j) = some u) (h1 : ∀ u ∈ news, u.oneCell' = true)
    (hn : n + m ≤ 1099511627776) (hbase : base ≤ w.heap.size)
    (h : ∀ v' w', Apped w w' base e sz v v' (n + m) (cells ++ news) → K (a.put o.dst v') w') : if Region.wanted o (yielded ops a.tmps) = true then Oper.wp P o a w K Q else F := by
  have hw : Region.wanted o (yielded ops a.tmps) = true := by simp [Region.wanted, hgd]
  rw [if_pos hw]
  exact wp_app s x t ho hE hs hown hx hl hA h1 hn hbase h

def FGr : Flat Gr := ⟨3, fun g => [.int .i64 g.m, .int .i64 g.f, .int .i64 g.t], fun x => In64 x.m ∧ In64 x.f ∧ In64 x.t, fun _ => rfl, fun x u hu => by simp at hu; rcases hu with rfl | rfl | rfl <;> rfl, by decide⟩
theorem elem_gr : Elem Try.prog 28 37 3 24 := Elem.mk' Try.underlying28 (z := .agg #[.int .i64 0, .int .i64 0, .int .i64 0]) (by kernel_rfl) rfl (by decide) (by decide)

/-- A ring that a call owns. -/
structure OwnRg (w : World) (base : Nat) (va vb : Value) (r : Rg) : Prop where
  keys : OwnF FInt 3 w base va r.keys
  grs : OwnF FGr 37 w base vb r.grs
theorem OwnRg.below {w w' : World} {base : Nat} {va vb : Value} {r : Rg} (h : OwnRg w base va vb r) (hb : Below w.heap.size w w') : OwnRg w' base va vb r := ⟨h.keys.below hb, h.grs.below hb⟩
theorem OwnRg.base {w : World} {base base' : Nat} {va vb : Value} {r : Rg} (h : OwnRg w base va vb r) (hb : base' ≤ base) : OwnRg w base' va vb r := ⟨h.keys.base hb, h.grs.base hb⟩
theorem OwnRg.set_ {w : World} {base : Nat} {va vb : Value} {r : Rg} (h : OwnRg w base va vb r) {p : Addr} (u : Value) (hp : p.block < base) : OwnRg (w.setCell p u) base va vb r := ⟨h.keys.set_ u hp, h.grs.set_ u hp⟩
def NewRg (w : World) (r : Rg) (e : Ending) (w' : World) : Prop := ∃ va vb, e = .returned (.agg #[va, vb]) ∧ OwnRg w' w.heap.size va vb r ∧ Below w.heap.size w w'
end Go.Proofs.Ytdbeclnoaeiaeaa
