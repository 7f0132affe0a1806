/- Make. -/
import Derived.Test.YtblbaiejjagdoaaGreatDoorRows
import Derived.KernelRfl
import Derived.JoinedOf
set_option maxRecDepth 100000
set_option maxHeartbeats 8000000
namespace Go.Proofs.YtblbaiejjagdoaaGreatDoor
theorem makeIs:Tryz.pinned.checked.prog.make=some .cut:=by kernel_rfl
end Go.Proofs.YtblbaiejjagdoaaGreatDoor
