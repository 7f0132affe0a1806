/- Heard. -/
import Derived.Test.YtblbaiejjagdoaaGreatDoorRows
import Derived.KernelRfl
import Derived.JoinedOf
set_option maxRecDepth 100000
set_option maxHeartbeats 8000000
namespace Go.Proofs.YtblbaiejjagdoaaGreatDoor
theorem liftsFinal:Tryz.pinned.checked.prog.liftsFinal=false:=by kernel_rfl
end Go.Proofs.YtblbaiejjagdoaaGreatDoor
