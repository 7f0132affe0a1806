


/- A fact of the whole program, reckoned once. -/
import Derived.Test.YtpdkgpbfmpekgaaRows
import Derived.KernelRfl
import Derived.JoinedOf
namespace Go.Proofs.Ytpdkgpbfmpekgaa
set_option maxRecDepth 100000 in
theorem mayEnter : Try.pinned.checked.prog.mayEnter = true := by kernel_rfl
end Go.Proofs.Ytpdkgpbfmpekgaa
