


/- The library's lock, by this program's numbers. -/
import Derived.Test.YtdbeclnoaeiaeaaRows
import Derived.Conc.RwLib
import Derived.Conc.MuData
import Derived.KernelRfl
namespace Go.Proofs.Ytdbeclnoaeiaeaa
abbrev muLink : Go.Conc.Locks.MuLink := { lock := 78, unlock := 79, ilock := 84, iunlock := 85, lockSlow := 92, unlockSlow := 95, disable := 88, enable := 90, acquire := 91, relMerge := 93, cas32 := 89, add32 := 94, tIMutex := 79, tMutex := 81, tPMutex := 95, tPIMutex := 97, tPI32 := 99, tUP := 101, tNoCopy := 76, tU32 := 77 }
theorem muLib : Go.Conc.Locks.MuLib Try.prog muLink :=
  ⟨Try.func78, Try.func79, Try.func84, Try.func85, Try.func88, Try.func90, Try.func91, Try.func93, Try.func89, Try.func94, Try.underlying79, Try.runUnderlying79, Try.sizeOf79, Try.isAgg79, Try.zeroValue79, Try.underlying81, Try.runUnderlying81, Try.sizeOf81, Try.isAgg81, Try.zeroValue81, Try.underlying95, Try.runUnderlying95, Try.sizeOf95, Try.isAgg95, Try.zeroValue95, Try.underlying97, Try.runUnderlying97, Try.sizeOf97, Try.isAgg97, Try.zeroValue97, Try.underlying99, Try.runUnderlying99, Try.sizeOf99, Try.isAgg99, Try.zeroValue99, Try.underlying101, Try.runUnderlying101, Try.sizeOf101, Try.isAgg101, Try.zeroValue101, Try.underlying76, Try.runUnderlying76, Try.sizeOf76, Try.isAgg76, Try.zeroValue76, Try.underlying21, Try.runUnderlying21, Try.sizeOf21, Try.isAgg21, Try.zeroValue21, (by kernel_rfl)⟩
end Go.Proofs.Ytdbeclnoaeiaeaa
