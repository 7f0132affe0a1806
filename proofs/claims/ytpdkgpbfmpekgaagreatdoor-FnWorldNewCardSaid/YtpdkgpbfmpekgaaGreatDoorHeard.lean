


/- A fact of the whole program, reckoned once. -/
import Derived.Test.YtpdkgpbfmpekgaaGreatDoorRows
import Derived.KernelRfl
import Derived.JoinedOf
namespace Go.Proofs.YtpdkgpbfmpekgaaGreatDoor
set_option maxRecDepth 100000 in
theorem liftsFinal : Tryz.pinned.checked.prog.liftsFinal = false := by kernel_rfl
end Go.Proofs.YtpdkgpbfmpekgaaGreatDoor
