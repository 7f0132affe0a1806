


/- Facts of the whole program that every tied card asks. -/
import Derived.Test.YtpdkgpbfmpekgaaGreatDoorLawZ
namespace Go.Proofs.YtpdkgpbfmpekgaaGreatDoor
open Go.RowKit
set_option maxRecDepth 100000 in
theorem mainIs_ : Tryz.pinned.checked.prog.mainIs = some (true, "87ac4b0deda0295dfa6c42f248ef01efaeb7b5edce4acd3048f11378fe746a0d".toList) := by kernel_rfl
set_option maxRecDepth 100000 in
theorem looks_ : false = Tryz.pinned.checked.prog.looks [] := by kernel_rfl
end Go.Proofs.YtpdkgpbfmpekgaaGreatDoor
