


/- A fact of the whole program, reckoned once. -/
import Derived.Test.YtpdkgpbfmpekgaaGreatDoorRows
import Derived.KernelRfl
import Derived.JoinedOf
namespace Go.Proofs.YtpdkgpbfmpekgaaGreatDoor
set_option maxRecDepth 100000 in
theorem makeIs : Tryz.pinned.checked.prog.make = some .cut := by kernel_rfl
end Go.Proofs.YtpdkgpbfmpekgaaGreatDoor
