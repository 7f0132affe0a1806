/- The draws for samples: what ranges the drawn numbers lie in. -/
import Derived.Test.YtahdphhlmblacaaRd
import Derived.Deep.RegionHeld3
namespace Go.Proofs.Ytahdphhlmblacaa
open Go.RowKit

def DrawAllPost (w : World) (e : Ending) (w' : World) : Prop :=
  ∃ m d : Int, e = .returned (.tuple #[.int .i64 m, .int .i64 d]) ∧ (0 ≤ m ∧ m ≤ 21) ∧ (-1 ≤ d ∧ d ≤ 21) ∧ Below w.heap.size w w'
theorem drawAll_any (l : List Int) (A : Option Addr) (n c : Nat) (w : World) (h : RSl RByte 1 w 0 w.heap.size l [.slice A n c]) :
    Calls Try.prog 19 #[.slice A n c] w (DrawAllPost w) := by
  go_enter Try.func19, Try.ntmps19
  go_wp2_with fail
  refine (open_any _ _ _ _ _ _ _ h (Nat.le_refl _)).mono ?_
  rintro e w1 ⟨g, rfl, hr1, hg, hb1⟩
  have k1 := hb1.size
  go_wp2_with fail
  refine (pick_any _ _ _ _ _ _ _ hr1 (by omega)).mono ?_
  rintro e w2 ⟨v1, rfl, ⟨_, hp1⟩, hr2, hc2⟩
  obtain ⟨p1, p2⟩ := hp1 (by omega)
  clear hp1
  go_wp2_with fail
  refine (pick_any _ _ _ _ _ _ _ hr2 (by omega)).mono ?_
  rintro e w3 ⟨v2, rfl, ⟨_, hp2⟩, hr3, hc3⟩
  obtain ⟨p3, p4⟩ := hp2 (by omega)
  clear hp2
  go_wp2_with fail
  refine (pick_any _ _ _ _ _ _ _ hr3 (by omega)).mono ?_
  rintro e w4 ⟨v3, rfl, ⟨_, hp3⟩, hr4, hc4⟩
  obtain ⟨p5, p6⟩ := hp3 (by omega)
  clear hp3
  go_wp2_with fail
  go_ret2
  have hS : ∀ i, i = g → w.heap.size ≤ i := fun i hi => by omega
  have hb3 := below_chg (below_chg hb1 hc2 hS) hc3 hS
  exact ⟨v1, v2 - v3 / 23, rfl, ⟨p1, by omega⟩, ⟨by omega, by omega⟩, below_chg hb3 hc4 hS⟩

def DrawMissPost (w : World) (e : Ending) (w' : World) : Prop :=
  ∃ m l d : Int, e = .returned (.tuple #[.int .i64 m, .int .i64 l, .int .i64 d]) ∧ (0 ≤ m ∧ m ≤ 21) ∧ (0 ≤ l ∧ l ≤ m + 1) ∧ (0 ≤ d ∧ d ≤ m + 1) ∧ Below w.heap.size w w'
theorem drawMiss_any (l : List Int) (A : Option Addr) (n c : Nat) (w : World) (h : RSl RByte 1 w 0 w.heap.size l [.slice A n c]) :
    Calls Try.prog 26 #[.slice A n c] w (DrawMissPost w) := by
  go_enter Try.func26, Try.ntmps26
  go_wp2_with fail
  refine (open_any _ _ _ _ _ _ _ h (Nat.le_refl _)).mono ?_
  rintro e w1 ⟨g, rfl, hr1, hg, hb1⟩
  have k1 := hb1.size
  go_wp2_with fail
  refine (pick_any _ _ _ _ _ _ _ hr1 (by omega)).mono ?_
  rintro e w2 ⟨v1, rfl, ⟨_, hp1⟩, hr2, hc2⟩
  obtain ⟨p1, p2⟩ := hp1 (by omega)
  clear hp1
  go_wp2_with fail
  refine (pick_any _ _ _ _ _ _ _ hr2 (by omega)).mono ?_
  rintro e w3 ⟨v2, rfl, ⟨_, hp2⟩, hr3, hc3⟩
  obtain ⟨p3, p4⟩ := hp2 (by omega)
  clear hp2
  go_wp2_with fail
  refine (pick_any _ _ _ _ _ _ _ hr3 (by omega)).mono ?_
  rintro e w4 ⟨v3, rfl, ⟨_, hp3⟩, hr4, hc4⟩
  obtain ⟨p5, p6⟩ := hp3 (by omega)
  clear hp3
  go_wp2_with fail
  go_ret3
  have hS : ∀ i, i = g → w.heap.size ≤ i := fun i hi => by omega
  have hb3 := below_chg (below_chg hb1 hc2 hS) hc3 hS
  exact ⟨v1, v2, v3, rfl, ⟨p1, by omega⟩, ⟨by omega, by omega⟩, ⟨by omega, by omega⟩, below_chg hb3 hc4 hS⟩

theorem built4 {w4 w5 : World} {T g : Nat} {v3 v4 : Int} (hv : 0 ≤ v3 ∧ v3 < 1001) (hc : Chg (fun b => b = g) (w4.alloc (.cells #[.int .i64 1, .int .i64 10, .int .i64 100, .int .i64 v3] T)) w5) (hg : g < w4.heap.size) (h1 : 0 ≤ v4) (h2 : v4 < 4) :
    ∃ o : Int, w5.cell? ⟨w4.heap.size, v4.toNat, none⟩ = some (.int .i64 o) ∧ 0 ≤ o ∧ o ≤ 1000 := by
  have hk : w5.heap[w4.heap.size]? = _ := hc.block w4.heap.size (by simp) (fun e => by omega)
  have hb : Blk w5 w4.heap.size T #[.int .i64 1, .int .i64 10, .int .i64 100, .int .i64 v3] := hk.trans (Blk.new _ _ _)
  rw [hb.cell]
  have hv4 : v4.toNat = 0 ∨ v4.toNat = 1 ∨ v4.toNat = 2 ∨ v4.toNat = 3 := by omega
  rcases hv4 with h | h | h | h <;> rw [h]
  · exact ⟨1, rfl, by omega, by omega⟩
  · exact ⟨10, rfl, by omega, by omega⟩
  · exact ⟨100, rfl, by omega, by omega⟩
  · exact ⟨v3, rfl, by omega, by omega⟩
theorem built4' {w5 : World} (T : Nat) {v3 v4 : Int} (hv : 0 ≤ v3 ∧ v3 < 1001) (h1 : 0 ≤ v4) (h2 : v4 < 4) :
    ∃ o : Int, (w5.alloc (.cells #[.int .i64 1, .int .i64 10, .int .i64 100, .int .i64 v3] T)).cell? ⟨w5.heap.size, v4.toNat, none⟩ = some (.int .i64 o) ∧ 0 ≤ o ∧ o ≤ 1000 := by
  have hb := Blk.new w5 T #[.int .i64 1, .int .i64 10, .int .i64 100, .int .i64 v3]
  rw [hb.cell]
  have hv4 : v4.toNat = 0 ∨ v4.toNat = 1 ∨ v4.toNat = 2 ∨ v4.toNat = 3 := by omega
  rcases hv4 with h | h | h | h <;> rw [h]
  · exact ⟨1, rfl, by omega, by omega⟩
  · exact ⟨10, rfl, by omega, by omega⟩
  · exact ⟨100, rfl, by omega, by omega⟩
  · exact ⟨v3, rfl, by omega, by omega⟩
def DrawEnoughPost (w : World) (e : Ending) (w' : World) : Prop :=
  ∃ m l o : Int, e = .returned (.tuple #[.int .i64 m, .int .i64 l, .int .i64 o]) ∧ (0 ≤ m ∧ m ≤ 21) ∧ (0 ≤ l ∧ l ≤ m + 1) ∧ (0 ≤ o ∧ o ≤ 1000) ∧ Below w.heap.size w w'
theorem drawEnough_any (l : List Int) (A : Option Addr) (n c : Nat) (w : World) (h : RSl RByte 1 w 0 w.heap.size l [.slice A n c]) :
    Calls Try.prog 27 #[.slice A n c] w (DrawEnoughPost w) := by
  go_enter Try.func27, Try.ntmps27
  go_wp2_with fail
  refine (open_any _ _ _ _ _ _ _ h (Nat.le_refl _)).mono ?_
  rintro e w1 ⟨g, rfl, hr1, hg, hb1⟩
  have k1 := hb1.size
  go_wp2_with fail
  refine (pick_any _ _ _ _ _ _ _ hr1 (by omega)).mono ?_
  rintro e w2 ⟨v1, rfl, ⟨_, hp1⟩, hr2, hc2⟩
  obtain ⟨p1, p2⟩ := hp1 (by omega)
  clear hp1
  have e1 : IntKind.i64.wrap (v1 + 2) = v1 + 2 := IntWalk.i64_in _ (by omega)
  go_wp2_with fail
  go_region_with (first
    | ((with_reducible refine (pick_any _ _ _ _ _ _ (v1 + 2) hr2.drew (by omega)).mono ?_); rintro e w3 ⟨v2, rfl, ⟨_, hp2⟩, hr3, hc3⟩)
    | ((with_reducible refine (pick_any _ _ _ _ _ _ 1001 hr3 (by omega)).mono ?_); rintro e w4 ⟨v3, rfl, ⟨_, hp3⟩, hr4, hc4⟩)
    | ((with_reducible refine (pick_any _ _ _ _ _ _ 4 hr4 (by omega)).mono ?_); rintro e w5 ⟨v4, rfl, ⟨_, hp4⟩, hr5, hc5⟩; obtain ⟨p7, p8⟩ := hp4 (by omega); obtain ⟨o, hcell, ho⟩ := built4' (w5 := w5) 3 (hp3 (by omega)) p7 p8)
    | ((with_reducible refine (pick_any _ _ _ _ _ _ 4 (hr4.alloc _) (by omega)).mono ?_); rintro e w5 ⟨v4, rfl, ⟨_, hp4⟩, hr5, hc5⟩; obtain ⟨p7, p8⟩ := hp4 (by omega); obtain ⟨o, hcell, ho⟩ := built4 (hp3 (by omega)) hc5 hr4.lt p7 p8))
  all_goals
    go_wp2_with fail
    go_ret3
    have hS : ∀ i, i = g → w.heap.size ≤ i := fun i hi => by omega
    have hb3 := below_chg (below_chg hb1 hc2 hS).drew hc3 hS
    have hb4 := below_chg hb3 hc4 hS
    obtain ⟨p3, p4⟩ := hp2 (by omega)
    refine ⟨v1, v2, o, rfl, ⟨p1, by omega⟩, ⟨p3, by omega⟩, ho, ?_⟩
    first
      | exact below_chg (hb4.alloc hb4.size _) hc5 hS
      | exact (below_chg hb4 hc5 hS).alloc (below_chg hb4 hc5 hS).size _
end Go.Proofs.Ytahdphhlmblacaa
