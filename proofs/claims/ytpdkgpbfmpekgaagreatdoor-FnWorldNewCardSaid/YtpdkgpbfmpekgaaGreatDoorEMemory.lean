


/- The helpers of the exact laws for Memory. -/
import Derived.Test.YtpdkgpbfmpekgaaGreatDoorMk
import Derived.Test.YtpdkgpbfmpekgaaGreatDoorMe
namespace Go.Proofs.YtpdkgpbfmpekgaaGreatDoor
open Go.RowKit
end Go.Proofs.YtpdkgpbfmpekgaaGreatDoor
