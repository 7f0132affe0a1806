


/- What a machine keeps: two numbers. -/
import Derived.Test.YtpdkgpbfmpekgaaGreatDoorTr
namespace Go.Proofs.YtpdkgpbfmpekgaaGreatDoor
open Go.RowKit

structure Me where
  l : Int
  s : Int
def FMe : Flat Me := ⟨2, fun x => [.int .i64 x.l, .int .i64 x.s], fun x => In64 x.l ∧ In64 x.s, fun _ => rfl, fun x u hu => by simp at hu; rcases hu with rfl | rfl <;> rfl, by decide⟩
end Go.Proofs.YtpdkgpbfmpekgaaGreatDoor
