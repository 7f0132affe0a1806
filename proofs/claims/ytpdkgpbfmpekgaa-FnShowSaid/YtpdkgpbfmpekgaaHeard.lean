


/- A fact of the whole program, reckoned once. -/
import Derived.Test.YtpdkgpbfmpekgaaRows
import Derived.KernelRfl
import Derived.JoinedOf
namespace Go.Proofs.Ytpdkgpbfmpekgaa
set_option maxRecDepth 100000 in
theorem liftsFinal : Try.pinned.checked.prog.liftsFinal = false := by kernel_rfl
end Go.Proofs.Ytpdkgpbfmpekgaa
