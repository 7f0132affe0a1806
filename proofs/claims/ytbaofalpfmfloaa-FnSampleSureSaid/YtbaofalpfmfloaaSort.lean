/- slices.Sort at a slice that the call owns, and at one that is nil: the contract of the library's shelf, in this seat's words. -/
import Derived.Test.YtbaofalpfmfloaaOwn
import Derived.Test.YtbaofalpfmfloaaShelf
namespace Go.Proofs.Ytbaofalpfmfloaa
open Go.RowKit Go.Sort

def sorted (xs : List Int) : List Int := xs.mergeSort fun x y => decide (x ≤ y)
theorem putCells_size {α : Type} [Inhabited α] (enc : α → Value) (off : Nat) (d : Array α) (c : Array Value) : (putCells enc off d c).size = c.size := by unfold putCells; simp
theorem putRow_chg {α : Type} [Inhabited α] (enc : α → Value) (w : World) (g off n : Nat) (d : Array α) (os : Array Obj) : Chg (fun b => b = g) w (grow (putRow enc (Sort.ahead w n) g off d) os) := by
  refine ⟨rfl, rfl, rfl, ?_, fun k hk hne => ?_⟩
  · simp [grow, putRow, mapBlock, Sort.ahead]
  · rw [heap_grow_old _ _ (by simpa [putRow, mapBlock, Sort.ahead] using hk)]
    simp only [putRow, mapBlock, Sort.ahead, Array.getElem?_modify]
    rw [if_neg (fun e => hne e.symm)]

theorem sort_own (xs : List Int) (v : Value) (w : World) (base : Nat) (h : OwnI w base v xs) (hl : xs.length ≤ 1099511627776) :
    Calls Try.prog 75 #[v] w fun e w' => e = .returned (.tuple #[]) ∧ OwnI w' base v (sorted xs) ∧ Chg (fun b => v.ownBlock = some b) w w' := by
  have hlen : (sorted xs).length = xs.length := by unfold sorted; simp
  obtain ⟨h1, h2⟩ := id h
  rcases h2 with ⟨rfl, h0⟩ | ⟨g, cap, cur, rfl, hb, hh, hnc, hcm, hcs, htake⟩
  · have hx : xs = [] := List.eq_nil_of_length_eq_zero h0
    subst hx
    refine (Go.Proofs.Try.slices_Sort_int_none none 0 w).mono fun e w' ⟨he, hw⟩ => ⟨he, ?_, ?_⟩
    · rw [hw]; simpa [sorted] using h
    · rw [hw]; exact Chg.refl _ _
  · have hH : Holds (Value.int .i64) w g 0 xs.toArray := by
      intro j hj
      have hj' : j < xs.length := by simpa using hj
      have hc := h.cellAt j (by omega)
      rw [List.getElem?_map, List.getElem?_eq_getElem hj'] at hc
      rw [Nat.zero_add]
      refine ⟨?_, h.frozenAt j⟩
      rw [hc]
      simp [hj']
    refine (Go.Proofs.Try.slices_Sort_int g 0 cap xs w hH (Array.getElem?_eq_some_iff.1 hh).1 (by omega)).mono fun e w' ⟨he, n, os, hw⟩ => ⟨he, ?_, ?_⟩
    · rw [hw]
      unfold OwnI
      rw [hlen]
      refine ⟨by simp [hlen], .inr ⟨g, cap, putCells (Value.int .i64) 0 (sorted xs).toArray cur, rfl, hb, ?_, hnc, hcm, ?_, ?_⟩⟩
      · rw [heap_grow_old _ _ (by simpa [putRow, mapBlock, Sort.ahead] using (Array.getElem?_eq_some_iff.1 hh).1)]
        simp only [putRow, mapBlock, Sort.ahead, Array.getElem?_modify, if_true, hh, Option.map_some, onCells]
        rfl
      · rw [putCells_size]; exact hcs
      · apply List.ext_getElem?
        intro j
        rw [List.getElem?_take]
        by_cases hj : j < xs.length
        · rw [if_pos (by omega), Array.getElem?_toList]
          have hjc : j < cur.size := by omega
          simp only [putCells, Array.getElem?_mapIdx, Array.getElem?_eq_getElem hjc, Option.map_some]
          have hj2 : j < (sorted xs).length := by omega
          rw [if_pos ⟨Nat.zero_le _, by simpa using hj2⟩, List.getElem?_map, List.getElem?_eq_getElem hj2]
          simp [hj2]
        · rw [if_neg (by omega), List.getElem?_eq_none (by simp; omega)]
    · rw [hw]
      exact (putRow_chg (Value.int .i64) w g 0 n _ os).mono fun i _ hi => by subst hi; rfl
end Go.Proofs.Ytbaofalpfmfloaa
