


/- IndexMerge and IndexFind of the program; indexes compared. -/
import Derived.Test.YtpdkgpbfmpekgaaIxI
namespace Go.Proofs.Ytpdkgpbfmpekgaa
open Go.RowKit

theorem findS_out {n : Int} : ∀ {l : List Sp}, (∀ x ∈ l, ¬ x.n = n) → findS n l = 0
  | [], _ => rfl
  | x :: l, h => by
    show (if x.n = n then x.p else findS n l) = 0
    rw [if_neg (h x (by simp)), findS_out fun y hy => h y (by simp [hy])]
/-- What IndexFind gives. -/
def IFind (l : List Sp) (n r : Int) : Prop := (ixP l ∧ r = findS n l) ∨ (¬ ixP l ∧ r = 0)
end Go.Proofs.Ytpdkgpbfmpekgaa
