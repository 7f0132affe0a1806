


/- The draws of indexes. -/
import Derived.Test.YtanppokbjladfaaIxF
import Derived.Test.YtanppokbjladfaaRdP
import Derived.Test.YtanppokbjladfaaStR
import Derived.Test.YtanppokbjladfaaEm
namespace Go.Proofs.Ytanppokbjladfaa
open Go.RowKit

/-- What a draw of an index gives: an index, or one with one spot behind. -/
def IxPost (w : World) (lo hi g : Nat) (l : List Int) (p : Nat) (e : Ending) (w' : World) : Prop :=
  ∃ v ys q, e = .returned v ∧ OwnF FSp 77 w' w.heap.size v ys ∧ ys.length ≤ 10 ∧ (∀ y ∈ ys, FSp.good y) ∧ Rd w' lo hi g l q ∧ q ≤ p + 100 ∧ Chg (fun b => b = g) w w'
end Go.Proofs.Ytanppokbjladfaa
