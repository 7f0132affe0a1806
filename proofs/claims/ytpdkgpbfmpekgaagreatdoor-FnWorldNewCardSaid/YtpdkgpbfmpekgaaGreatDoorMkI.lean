


/- Marks on rows of ints. -/
import Derived.Test.YtpdkgpbfmpekgaaGreatDoorMk
namespace Go.Proofs.YtpdkgpbfmpekgaaGreatDoor
open Go.RowKit

/-- n numbers from k on. -/
def marks (k : Int) : Nat → List Int
  | 0 => []
  | n + 1 => marks k n ++ [k + n]
theorem marks_len (k : Int) : ∀ n : Nat, (marks k n).length = n
  | 0 => rfl
  | n + 1 => by show (marks k n ++ [_]).length = _; rw [List.length_append, marks_len k n]; rfl
theorem marks_get (k : Int) : ∀ (n j : Nat), j < n → (marks k n)[j]? = some (k + j)
  | 0, j, h => by omega
  | n + 1, j, h => by
    show (marks k n ++ [k + (n : Int)])[j]? = _
    by_cases hj : j < n
    · rw [List.getElem?_append_left (by rw [marks_len]; exact hj), marks_get k n j hj]
    · obtain rfl : j = n := by omega
      rw [List.getElem?_append_right (by rw [marks_len]; exact Nat.le_refl _), marks_len]
      simp
theorem marks_set (k : Int) (xs : List Int) (j : Nat) (hj : j < xs.length) : (marks k j ++ xs.drop j).set j (k + j) = marks k (j + 1) ++ xs.drop (j + 1) := by
  rw [List.set_append_right _ _ (by rw [marks_len]; exact Nat.le_refl _), marks_len, Nat.sub_self, List.drop_eq_getElem_cons hj, List.set_cons_zero]
  show _ = marks k j ++ [k + (j : Int)] ++ _
  simp

end Go.Proofs.YtpdkgpbfmpekgaaGreatDoor
