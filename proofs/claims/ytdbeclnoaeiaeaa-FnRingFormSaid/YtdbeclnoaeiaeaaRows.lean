/-
  No cell of these rows narrows 'for every input' (looked for: loops, veiled, ifaces, maps, wideKeys, modest, calm, conditions, laid).
  DERIVED. THE GIVEN ROWS OF THIS SEAT. 16 by the template 'for every input the law returns true; each argument reads behind the call as it read before'; 0 by the template 'total and deterministic' (their statements: YtdbeclnoaeiaeaaTotals.lean).
  GIVEN WITH THE SEED: the statements are not yours to turn. If you find one false, say at which input.
  Laid BY PROGRAM, IN A SANDBOX (cutbox-rows.mjs): the forced cells as the released guide's own fill.sh prints them over the translation 3bb08f182919eea3… (all of the seat's roots in one cut). By AI agents, Wed Nov 11 2026. No macro, syntax, notation, axiom, sorry.
-/
import Derived.Test.YtdbeclnoaeiaeaaChecked
import GoSem.Claim
import GoSem.ClaimJoined
import GoSem.ClaimMapViews
import Derived.JoinedTies
import Derived.KernelRfl
namespace Go.Proofs.Ytdbeclnoaeiaeaa
/- THE CELL 'sum', in the pinned program and in every row, IS THE sha256 OF THE DUMP (.gsa) THAT YtdbeclnoaeiaeaaProg.lean LOADS. Nothing in Lean hashes anything: it is a label: what it is worth is what the hold of that sum in a sandbox is worth. -/
noncomputable def Try.pinned : Pinned := { name := "ytdbeclnoaeiaeaa", sum := "3bb08f182919eea387f8b0cfae1a2adc69dfab270cf5b174b7d3022dcd6c2543", checked := Try.checked }
namespace Rows
def none {H : Type} : Left H := { results := [], args := [] }

/-- 'laws.FnExactRingOk': WHATEVER THE INPUT: true; the input reads as it did. -/
def fnExactRingOkSpec : ChangeSpec := { name := "fnExactRingOk", fn := fun _ => fun
  | [d] => { results := [.lit (.bool true)], args := [d] }
  | _ => none }
def fnExactRingOkRow : OpenClaim := { program := "ytdbeclnoaeiaeaa", sum := "3bb08f182919eea387f8b0cfae1a2adc69dfab270cf5b174b7d3022dcd6c2543", func := "loop.example/depositary/laws.FnExactRingOk", spec := "fnExactRingOk", apart := false }
def FnExactRingOkSaid : Prop := fnExactRingOkRow.holds Try.pinned (OpenSpec.ofChange fnExactRingOkSpec)

/-- ITS FALSE NEIGHBOUR: 'it returns false'. Refute it at one input. -/
def fnExactRingOkWrong : ChangeSpec := { name := "fnExactRingOk", fn := fun _ => fun
  | [d] => { results := [.lit (.bool false)], args := [d] }
  | _ => none }
def FnExactRingOkWrongFalsely : Prop := fnExactRingOkRow.holds Try.pinned (OpenSpec.ofChange fnExactRingOkWrong)

/-- 'laws.FnRingForm': WHATEVER THE INPUT: true; the input reads as it did. -/
def fnRingFormSpec : ChangeSpec := { name := "fnRingForm", fn := fun _ => fun
  | [d] => { results := [.lit (.bool true)], args := [d] }
  | _ => none }
def fnRingFormRow : OpenClaim := { program := "ytdbeclnoaeiaeaa", sum := "3bb08f182919eea387f8b0cfae1a2adc69dfab270cf5b174b7d3022dcd6c2543", func := "loop.example/depositary/laws.FnRingForm", spec := "fnRingForm", apart := false }
def FnRingFormSaid : Prop := fnRingFormRow.holds Try.pinned (OpenSpec.ofChange fnRingFormSpec)

/-- ITS FALSE NEIGHBOUR: 'it returns false'. Refute it at one input. -/
def fnRingFormWrong : ChangeSpec := { name := "fnRingForm", fn := fun _ => fun
  | [d] => { results := [.lit (.bool false)], args := [d] }
  | _ => none }
def FnRingFormWrongFalsely : Prop := fnRingFormRow.holds Try.pinned (OpenSpec.ofChange fnRingFormWrong)

/-- 'laws.FnExactRingKey': WHATEVER THE INPUT: true; the input reads as it did. -/
def fnExactRingKeySpec : ChangeSpec := { name := "fnExactRingKey", fn := fun _ => fun
  | [d1, d2, d3] => { results := [.lit (.bool true)], args := [d1, d2, d3] }
  | _ => none }
def fnExactRingKeyRow : OpenClaim := { program := "ytdbeclnoaeiaeaa", sum := "3bb08f182919eea387f8b0cfae1a2adc69dfab270cf5b174b7d3022dcd6c2543", func := "loop.example/depositary/laws.FnExactRingKey", spec := "fnExactRingKey", apart := false }
def FnExactRingKeySaid : Prop := fnExactRingKeyRow.holds Try.pinned (OpenSpec.ofChange fnExactRingKeySpec)

/-- ITS FALSE NEIGHBOUR: 'it returns false'. Refute it at one input. -/
def fnExactRingKeyWrong : ChangeSpec := { name := "fnExactRingKey", fn := fun _ => fun
  | [d1, d2, d3] => { results := [.lit (.bool false)], args := [d1, d2, d3] }
  | _ => none }
def FnExactRingKeyWrongFalsely : Prop := fnExactRingKeyRow.holds Try.pinned (OpenSpec.ofChange fnExactRingKeyWrong)

/-- 'laws.FnRingKey': WHATEVER THE INPUT: true; the input reads as it did. -/
def fnRingKeySpec : ChangeSpec := { name := "fnRingKey", fn := fun _ => fun
  | [d] => { results := [.lit (.bool true)], args := [d] }
  | _ => none }
def fnRingKeyRow : OpenClaim := { program := "ytdbeclnoaeiaeaa", sum := "3bb08f182919eea387f8b0cfae1a2adc69dfab270cf5b174b7d3022dcd6c2543", func := "loop.example/depositary/laws.FnRingKey", spec := "fnRingKey", apart := false }
def FnRingKeySaid : Prop := fnRingKeyRow.holds Try.pinned (OpenSpec.ofChange fnRingKeySpec)

/-- ITS FALSE NEIGHBOUR: 'it returns false'. Refute it at one input. -/
def fnRingKeyWrong : ChangeSpec := { name := "fnRingKey", fn := fun _ => fun
  | [d] => { results := [.lit (.bool false)], args := [d] }
  | _ => none }
def FnRingKeyWrongFalsely : Prop := fnRingKeyRow.holds Try.pinned (OpenSpec.ofChange fnRingKeyWrong)

/-- 'laws.FnRingSpan': WHATEVER THE INPUT: true; the input reads as it did. -/
def fnRingSpanSpec : ChangeSpec := { name := "fnRingSpan", fn := fun _ => fun
  | [d1, d2] => { results := [.lit (.bool true)], args := [d1, d2] }
  | _ => none }
def fnRingSpanRow : OpenClaim := { program := "ytdbeclnoaeiaeaa", sum := "3bb08f182919eea387f8b0cfae1a2adc69dfab270cf5b174b7d3022dcd6c2543", func := "loop.example/depositary/laws.FnRingSpan", spec := "fnRingSpan", apart := false }
def FnRingSpanSaid : Prop := fnRingSpanRow.holds Try.pinned (OpenSpec.ofChange fnRingSpanSpec)

/-- ITS FALSE NEIGHBOUR: 'it returns false'. Refute it at one input. -/
def fnRingSpanWrong : ChangeSpec := { name := "fnRingSpan", fn := fun _ => fun
  | [d1, d2] => { results := [.lit (.bool false)], args := [d1, d2] }
  | _ => none }
def FnRingSpanWrongFalsely : Prop := fnRingSpanRow.holds Try.pinned (OpenSpec.ofChange fnRingSpanWrong)

/-- 'laws.FnExactRingMany': WHATEVER THE INPUT: true; the input reads as it did. -/
def fnExactRingManySpec : ChangeSpec := { name := "fnExactRingMany", fn := fun _ => fun
  | [d1, d2] => { results := [.lit (.bool true)], args := [d1, d2] }
  | _ => none }
def fnExactRingManyRow : OpenClaim := { program := "ytdbeclnoaeiaeaa", sum := "3bb08f182919eea387f8b0cfae1a2adc69dfab270cf5b174b7d3022dcd6c2543", func := "loop.example/depositary/laws.FnExactRingMany", spec := "fnExactRingMany", apart := false }
def FnExactRingManySaid : Prop := fnExactRingManyRow.holds Try.pinned (OpenSpec.ofChange fnExactRingManySpec)

/-- ITS FALSE NEIGHBOUR: 'it returns false'. Refute it at one input. -/
def fnExactRingManyWrong : ChangeSpec := { name := "fnExactRingMany", fn := fun _ => fun
  | [d1, d2] => { results := [.lit (.bool false)], args := [d1, d2] }
  | _ => none }
def FnExactRingManyWrongFalsely : Prop := fnExactRingManyRow.holds Try.pinned (OpenSpec.ofChange fnExactRingManyWrong)

/-- 'laws.FnRingMany': WHATEVER THE INPUT: true; the input reads as it did. -/
def fnRingManySpec : ChangeSpec := { name := "fnRingMany", fn := fun _ => fun
  | [d] => { results := [.lit (.bool true)], args := [d] }
  | _ => none }
def fnRingManyRow : OpenClaim := { program := "ytdbeclnoaeiaeaa", sum := "3bb08f182919eea387f8b0cfae1a2adc69dfab270cf5b174b7d3022dcd6c2543", func := "loop.example/depositary/laws.FnRingMany", spec := "fnRingMany", apart := false }
def FnRingManySaid : Prop := fnRingManyRow.holds Try.pinned (OpenSpec.ofChange fnRingManySpec)

/-- ITS FALSE NEIGHBOUR: 'it returns false'. Refute it at one input. -/
def fnRingManyWrong : ChangeSpec := { name := "fnRingMany", fn := fun _ => fun
  | [d] => { results := [.lit (.bool false)], args := [d] }
  | _ => none }
def FnRingManyWrongFalsely : Prop := fnRingManyRow.holds Try.pinned (OpenSpec.ofChange fnRingManyWrong)

/-- 'laws.FnRingFull': WHATEVER THE INPUT: true; the input reads as it did. -/
def fnRingFullSpec : ChangeSpec := { name := "fnRingFull", fn := fun _ => fun
  | [d] => { results := [.lit (.bool true)], args := [d] }
  | _ => none }
def fnRingFullRow : OpenClaim := { program := "ytdbeclnoaeiaeaa", sum := "3bb08f182919eea387f8b0cfae1a2adc69dfab270cf5b174b7d3022dcd6c2543", func := "loop.example/depositary/laws.FnRingFull", spec := "fnRingFull", inPlace := ["(*internal/sync.Mutex).Lock", "internal/race.Disable", "sync/atomic.CompareAndSwapInt32", "internal/race.Enable", "internal/race.Acquire", "(*internal/sync.Mutex).lockSlow", "internal/sync.runtime_canSpin", "internal/sync.runtime_doSpin", "internal/sync.throw", "internal/sync.runtime_nanotime", "internal/sync.runtime_SemacquireMutex", "sync/atomic.AddInt32", "(*internal/sync.Mutex).Unlock", "internal/race.ReleaseMerge", "(*internal/sync.Mutex).unlockSlow", "internal/sync.fatal", "internal/sync.runtime_Semrelease"], apart := false }
def FnRingFullSaid : Prop := fnRingFullRow.holds Try.pinned (OpenSpec.ofChange fnRingFullSpec)

/-- ITS FALSE NEIGHBOUR: 'it returns false'. Refute it at one input. -/
def fnRingFullWrong : ChangeSpec := { name := "fnRingFull", fn := fun _ => fun
  | [d] => { results := [.lit (.bool false)], args := [d] }
  | _ => none }
def FnRingFullWrongFalsely : Prop := fnRingFullRow.holds Try.pinned (OpenSpec.ofChange fnRingFullWrong)

/-- 'laws.FnRingTurn': WHATEVER THE INPUT: true; the input reads as it did. -/
def fnRingTurnSpec : ChangeSpec := { name := "fnRingTurn", fn := fun _ => fun
  | [d] => { results := [.lit (.bool true)], args := [d] }
  | _ => none }
def fnRingTurnRow : OpenClaim := { program := "ytdbeclnoaeiaeaa", sum := "3bb08f182919eea387f8b0cfae1a2adc69dfab270cf5b174b7d3022dcd6c2543", func := "loop.example/depositary/laws.FnRingTurn", spec := "fnRingTurn", inPlace := ["(*internal/sync.Mutex).Lock", "internal/race.Disable", "sync/atomic.CompareAndSwapInt32", "internal/race.Enable", "internal/race.Acquire", "(*internal/sync.Mutex).lockSlow", "internal/sync.runtime_canSpin", "internal/sync.runtime_doSpin", "internal/sync.throw", "internal/sync.runtime_nanotime", "internal/sync.runtime_SemacquireMutex", "sync/atomic.AddInt32", "(*internal/sync.Mutex).Unlock", "internal/race.ReleaseMerge", "(*internal/sync.Mutex).unlockSlow", "internal/sync.fatal", "internal/sync.runtime_Semrelease"], apart := false }
def FnRingTurnSaid : Prop := fnRingTurnRow.holds Try.pinned (OpenSpec.ofChange fnRingTurnSpec)

/-- ITS FALSE NEIGHBOUR: 'it returns false'. Refute it at one input. -/
def fnRingTurnWrong : ChangeSpec := { name := "fnRingTurn", fn := fun _ => fun
  | [d] => { results := [.lit (.bool false)], args := [d] }
  | _ => none }
def FnRingTurnWrongFalsely : Prop := fnRingTurnRow.holds Try.pinned (OpenSpec.ofChange fnRingTurnWrong)

/-- 'laws.FnExactRingTurn': WHATEVER THE INPUT: true; the input reads as it did. -/
def fnExactRingTurnSpec : ChangeSpec := { name := "fnExactRingTurn", fn := fun _ => fun
  | [d1, d2] => { results := [.lit (.bool true)], args := [d1, d2] }
  | _ => none }
def fnExactRingTurnRow : OpenClaim := { program := "ytdbeclnoaeiaeaa", sum := "3bb08f182919eea387f8b0cfae1a2adc69dfab270cf5b174b7d3022dcd6c2543", func := "loop.example/depositary/laws.FnExactRingTurn", spec := "fnExactRingTurn", inPlace := ["(*internal/sync.Mutex).Lock", "internal/race.Disable", "sync/atomic.CompareAndSwapInt32", "internal/race.Enable", "internal/race.Acquire", "(*internal/sync.Mutex).lockSlow", "internal/sync.runtime_canSpin", "internal/sync.runtime_doSpin", "internal/sync.throw", "internal/sync.runtime_nanotime", "internal/sync.runtime_SemacquireMutex", "sync/atomic.AddInt32", "(*internal/sync.Mutex).Unlock", "internal/race.ReleaseMerge", "(*internal/sync.Mutex).unlockSlow", "internal/sync.fatal", "internal/sync.runtime_Semrelease"], apart := false }
def FnExactRingTurnSaid : Prop := fnExactRingTurnRow.holds Try.pinned (OpenSpec.ofChange fnExactRingTurnSpec)

/-- ITS FALSE NEIGHBOUR: 'it returns false'. Refute it at one input. -/
def fnExactRingTurnWrong : ChangeSpec := { name := "fnExactRingTurn", fn := fun _ => fun
  | [d1, d2] => { results := [.lit (.bool false)], args := [d1, d2] }
  | _ => none }
def FnExactRingTurnWrongFalsely : Prop := fnExactRingTurnRow.holds Try.pinned (OpenSpec.ofChange fnExactRingTurnWrong)

/-- 'laws.FnRingShut': WHATEVER THE INPUT: true; the input reads as it did. -/
def fnRingShutSpec : ChangeSpec := { name := "fnRingShut", fn := fun _ => fun
  | [d1, d2] => { results := [.lit (.bool true)], args := [d1, d2] }
  | _ => none }
def fnRingShutRow : OpenClaim := { program := "ytdbeclnoaeiaeaa", sum := "3bb08f182919eea387f8b0cfae1a2adc69dfab270cf5b174b7d3022dcd6c2543", func := "loop.example/depositary/laws.FnRingShut", spec := "fnRingShut", inPlace := ["(*internal/sync.Mutex).Lock", "internal/race.Disable", "sync/atomic.CompareAndSwapInt32", "internal/race.Enable", "internal/race.Acquire", "(*internal/sync.Mutex).lockSlow", "internal/sync.runtime_canSpin", "internal/sync.runtime_doSpin", "internal/sync.throw", "internal/sync.runtime_nanotime", "internal/sync.runtime_SemacquireMutex", "sync/atomic.AddInt32", "(*internal/sync.Mutex).Unlock", "internal/race.ReleaseMerge", "(*internal/sync.Mutex).unlockSlow", "internal/sync.fatal", "internal/sync.runtime_Semrelease"], unfollowed := true, recurses := true, apart := false }
def FnRingShutSaid : Prop := fnRingShutRow.holds Try.pinned (OpenSpec.ofChange fnRingShutSpec)

/-- ITS FALSE NEIGHBOUR: 'it returns false'. Refute it at one input. -/
def fnRingShutWrong : ChangeSpec := { name := "fnRingShut", fn := fun _ => fun
  | [d1, d2] => { results := [.lit (.bool false)], args := [d1, d2] }
  | _ => none }
def FnRingShutWrongFalsely : Prop := fnRingShutRow.holds Try.pinned (OpenSpec.ofChange fnRingShutWrong)

/-- 'laws.FnExactRingShut': WHATEVER THE INPUT: true; the input reads as it did. -/
def fnExactRingShutSpec : ChangeSpec := { name := "fnExactRingShut", fn := fun _ => fun
  | [d1, d2, d3] => { results := [.lit (.bool true)], args := [d1, d2, d3] }
  | _ => none }
def fnExactRingShutRow : OpenClaim := { program := "ytdbeclnoaeiaeaa", sum := "3bb08f182919eea387f8b0cfae1a2adc69dfab270cf5b174b7d3022dcd6c2543", func := "loop.example/depositary/laws.FnExactRingShut", spec := "fnExactRingShut", inPlace := ["(*internal/sync.Mutex).Lock", "internal/race.Disable", "sync/atomic.CompareAndSwapInt32", "internal/race.Enable", "internal/race.Acquire", "(*internal/sync.Mutex).lockSlow", "internal/sync.runtime_canSpin", "internal/sync.runtime_doSpin", "internal/sync.throw", "internal/sync.runtime_nanotime", "internal/sync.runtime_SemacquireMutex", "sync/atomic.AddInt32", "(*internal/sync.Mutex).Unlock", "internal/race.ReleaseMerge", "(*internal/sync.Mutex).unlockSlow", "internal/sync.fatal", "internal/sync.runtime_Semrelease"], unfollowed := true, recurses := true, apart := false }
def FnExactRingShutSaid : Prop := fnExactRingShutRow.holds Try.pinned (OpenSpec.ofChange fnExactRingShutSpec)

/-- ITS FALSE NEIGHBOUR: 'it returns false'. Refute it at one input. -/
def fnExactRingShutWrong : ChangeSpec := { name := "fnExactRingShut", fn := fun _ => fun
  | [d1, d2, d3] => { results := [.lit (.bool false)], args := [d1, d2, d3] }
  | _ => none }
def FnExactRingShutWrongFalsely : Prop := fnExactRingShutRow.holds Try.pinned (OpenSpec.ofChange fnExactRingShutWrong)

/-- 'laws.FnRingLet': WHATEVER THE INPUT: true; the input reads as it did. -/
def fnRingLetSpec : ChangeSpec := { name := "fnRingLet", fn := fun _ => fun
  | [d] => { results := [.lit (.bool true)], args := [d] }
  | _ => none }
def fnRingLetRow : OpenClaim := { program := "ytdbeclnoaeiaeaa", sum := "3bb08f182919eea387f8b0cfae1a2adc69dfab270cf5b174b7d3022dcd6c2543", func := "loop.example/depositary/laws.FnRingLet", spec := "fnRingLet", inPlace := ["(*internal/sync.Mutex).Lock", "internal/race.Disable", "sync/atomic.CompareAndSwapInt32", "internal/race.Enable", "internal/race.Acquire", "(*internal/sync.Mutex).lockSlow", "internal/sync.runtime_canSpin", "internal/sync.runtime_doSpin", "internal/sync.throw", "internal/sync.runtime_nanotime", "internal/sync.runtime_SemacquireMutex", "sync/atomic.AddInt32", "(*internal/sync.Mutex).Unlock", "internal/race.ReleaseMerge", "(*internal/sync.Mutex).unlockSlow", "internal/sync.fatal", "internal/sync.runtime_Semrelease", "slices.overlaps[loop.example/depositary/impl.Grant]"], apart := false }
def FnRingLetSaid : Prop := fnRingLetRow.holds Try.pinned (OpenSpec.ofChange fnRingLetSpec)

/-- ITS FALSE NEIGHBOUR: 'it returns false'. Refute it at one input. -/
def fnRingLetWrong : ChangeSpec := { name := "fnRingLet", fn := fun _ => fun
  | [d] => { results := [.lit (.bool false)], args := [d] }
  | _ => none }
def FnRingLetWrongFalsely : Prop := fnRingLetRow.holds Try.pinned (OpenSpec.ofChange fnRingLetWrong)

/-- 'laws.FnRingLate': WHATEVER THE INPUT: true; the input reads as it did. -/
def fnRingLateSpec : ChangeSpec := { name := "fnRingLate", fn := fun _ => fun
  | [d1, d2] => { results := [.lit (.bool true)], args := [d1, d2] }
  | _ => none }
def fnRingLateRow : OpenClaim := { program := "ytdbeclnoaeiaeaa", sum := "3bb08f182919eea387f8b0cfae1a2adc69dfab270cf5b174b7d3022dcd6c2543", func := "loop.example/depositary/laws.FnRingLate", spec := "fnRingLate", inPlace := ["(*internal/sync.Mutex).Lock", "internal/race.Disable", "sync/atomic.CompareAndSwapInt32", "internal/race.Enable", "internal/race.Acquire", "(*internal/sync.Mutex).lockSlow", "internal/sync.runtime_canSpin", "internal/sync.runtime_doSpin", "internal/sync.throw", "internal/sync.runtime_nanotime", "internal/sync.runtime_SemacquireMutex", "sync/atomic.AddInt32", "(*internal/sync.Mutex).Unlock", "internal/race.ReleaseMerge", "(*internal/sync.Mutex).unlockSlow", "internal/sync.fatal", "internal/sync.runtime_Semrelease", "slices.overlaps[loop.example/depositary/impl.Grant]"], apart := false }
def FnRingLateSaid : Prop := fnRingLateRow.holds Try.pinned (OpenSpec.ofChange fnRingLateSpec)

/-- ITS FALSE NEIGHBOUR: 'it returns false'. Refute it at one input. -/
def fnRingLateWrong : ChangeSpec := { name := "fnRingLate", fn := fun _ => fun
  | [d1, d2] => { results := [.lit (.bool false)], args := [d1, d2] }
  | _ => none }
def FnRingLateWrongFalsely : Prop := fnRingLateRow.holds Try.pinned (OpenSpec.ofChange fnRingLateWrong)

/-- 'laws.FnRingShutTwice': WHATEVER THE INPUT: true; the input reads as it did. -/
def fnRingShutTwiceSpec : ChangeSpec := { name := "fnRingShutTwice", fn := fun _ => fun
  | [d1, d2] => { results := [.lit (.bool true)], args := [d1, d2] }
  | _ => none }
def fnRingShutTwiceRow : OpenClaim := { program := "ytdbeclnoaeiaeaa", sum := "3bb08f182919eea387f8b0cfae1a2adc69dfab270cf5b174b7d3022dcd6c2543", func := "loop.example/depositary/laws.FnRingShutTwice", spec := "fnRingShutTwice", inPlace := ["(*internal/sync.Mutex).Lock", "internal/race.Disable", "sync/atomic.CompareAndSwapInt32", "internal/race.Enable", "internal/race.Acquire", "(*internal/sync.Mutex).lockSlow", "internal/sync.runtime_canSpin", "internal/sync.runtime_doSpin", "internal/sync.throw", "internal/sync.runtime_nanotime", "internal/sync.runtime_SemacquireMutex", "sync/atomic.AddInt32", "(*internal/sync.Mutex).Unlock", "internal/race.ReleaseMerge", "(*internal/sync.Mutex).unlockSlow", "internal/sync.fatal", "internal/sync.runtime_Semrelease", "slices.overlaps[loop.example/depositary/impl.Grant]"], unfollowed := true, recurses := true, apart := false }
def FnRingShutTwiceSaid : Prop := fnRingShutTwiceRow.holds Try.pinned (OpenSpec.ofChange fnRingShutTwiceSpec)

/-- ITS FALSE NEIGHBOUR: 'it returns false'. Refute it at one input. -/
def fnRingShutTwiceWrong : ChangeSpec := { name := "fnRingShutTwice", fn := fun _ => fun
  | [d1, d2] => { results := [.lit (.bool false)], args := [d1, d2] }
  | _ => none }
def FnRingShutTwiceWrongFalsely : Prop := fnRingShutTwiceRow.holds Try.pinned (OpenSpec.ofChange fnRingShutTwiceWrong)

/-- 'laws.FnExactRingLet': WHATEVER THE INPUT: true; the input reads as it did. -/
def fnExactRingLetSpec : ChangeSpec := { name := "fnExactRingLet", fn := fun _ => fun
  | [d1, d2, d3] => { results := [.lit (.bool true)], args := [d1, d2, d3] }
  | _ => none }
def fnExactRingLetRow : OpenClaim := { program := "ytdbeclnoaeiaeaa", sum := "3bb08f182919eea387f8b0cfae1a2adc69dfab270cf5b174b7d3022dcd6c2543", func := "loop.example/depositary/laws.FnExactRingLet", spec := "fnExactRingLet", inPlace := ["(*internal/sync.Mutex).Lock", "internal/race.Disable", "sync/atomic.CompareAndSwapInt32", "internal/race.Enable", "internal/race.Acquire", "(*internal/sync.Mutex).lockSlow", "internal/sync.runtime_canSpin", "internal/sync.runtime_doSpin", "internal/sync.throw", "internal/sync.runtime_nanotime", "internal/sync.runtime_SemacquireMutex", "sync/atomic.AddInt32", "(*internal/sync.Mutex).Unlock", "internal/race.ReleaseMerge", "(*internal/sync.Mutex).unlockSlow", "internal/sync.fatal", "internal/sync.runtime_Semrelease", "slices.overlaps[loop.example/depositary/impl.Grant]"], apart := false }
def FnExactRingLetSaid : Prop := fnExactRingLetRow.holds Try.pinned (OpenSpec.ofChange fnExactRingLetSpec)

/-- ITS FALSE NEIGHBOUR: 'it returns false'. Refute it at one input. -/
def fnExactRingLetWrong : ChangeSpec := { name := "fnExactRingLet", fn := fun _ => fun
  | [d1, d2, d3] => { results := [.lit (.bool false)], args := [d1, d2, d3] }
  | _ => none }
def FnExactRingLetWrongFalsely : Prop := fnExactRingLetRow.holds Try.pinned (OpenSpec.ofChange fnExactRingLetWrong)

/- THE SECOND FORM. 'bulk': how many values and letters a reading holds, each counted each time it is reached (what is shared counts as often as it is met; a slice's spare places count too). A statement '..UptoSaid' is the law's where the arguments, and the package variables that the reading takes, are together of bulk at most 1048576: NARROWER than '..Said'. Prove '..Said' where nothing that the law and all that it calls make is longer than what came in: it says more and counts as full. Else prove '..UptoSaid'. A law counts once. -/
mutual
def uptoBulk {H : Type} : DataW H → Nat
  | .lit (.string bytes) => bytes.length + 1
  | .lit _ => 1
  | .nil => 1
  | .ptr d => uptoBulk d + 1
  | .slice elems spare => uptoBulkAll elems + uptoBulkAll spare + 1
  | .agg parts => uptoBulkAll parts + 1
  | .iface _ d => uptoBulk d + 1
  | .map entries => uptoBulkEntries entries + 1
  | .held _ => 1
def uptoBulkAll {H : Type} : List (DataW H) → Nat
  | [] => 0
  | d :: r => uptoBulk d + uptoBulkAll r
def uptoBulkEntries {H : Type} : List (Lit × DataW H) → Nat
  | [] => 0
  | x :: r => uptoBulkEntry x + uptoBulkEntries r
def uptoBulkEntry {H : Type} : Lit × DataW H → Nat
  | (.string bytes, d) => bytes.length + uptoBulk d + 1
  | (_, d) => uptoBulk d + 1
 end
def uptoSmall : (H : Type) → List (DataW H) → Bool := fun _ ds => decide (uptoBulkAll ds ≤ 1048576)
def OpenSpec.upto (s : _root_.Go.ChangeSpec) : _root_.Go.OpenSpec := { _root_.Go.OpenSpec.ofChange s with cond := some uptoSmall }

/-- 'laws.FnExactRingOk', WHERE WHAT IT READS IS OF BULK AT MOST 1048576: true; the input reads as it did. -/
def fnExactRingOkUptoRow : OpenClaim := { program := "ytdbeclnoaeiaeaa", sum := "3bb08f182919eea387f8b0cfae1a2adc69dfab270cf5b174b7d3022dcd6c2543", func := "loop.example/depositary/laws.FnExactRingOk", spec := "fnExactRingOk", apart := false, narrowed := true }
def FnExactRingOkUptoSaid : Prop := fnExactRingOkUptoRow.holds Try.pinned (OpenSpec.upto fnExactRingOkSpec)

/-- 'laws.FnRingForm', WHERE WHAT IT READS IS OF BULK AT MOST 1048576: true; the input reads as it did. -/
def fnRingFormUptoRow : OpenClaim := { program := "ytdbeclnoaeiaeaa", sum := "3bb08f182919eea387f8b0cfae1a2adc69dfab270cf5b174b7d3022dcd6c2543", func := "loop.example/depositary/laws.FnRingForm", spec := "fnRingForm", apart := false, narrowed := true }
def FnRingFormUptoSaid : Prop := fnRingFormUptoRow.holds Try.pinned (OpenSpec.upto fnRingFormSpec)

/-- 'laws.FnExactRingKey', WHERE WHAT IT READS IS OF BULK AT MOST 1048576: true; the input reads as it did. -/
def fnExactRingKeyUptoRow : OpenClaim := { program := "ytdbeclnoaeiaeaa", sum := "3bb08f182919eea387f8b0cfae1a2adc69dfab270cf5b174b7d3022dcd6c2543", func := "loop.example/depositary/laws.FnExactRingKey", spec := "fnExactRingKey", apart := false, narrowed := true }
def FnExactRingKeyUptoSaid : Prop := fnExactRingKeyUptoRow.holds Try.pinned (OpenSpec.upto fnExactRingKeySpec)

/-- 'laws.FnRingKey', WHERE WHAT IT READS IS OF BULK AT MOST 1048576: true; the input reads as it did. -/
def fnRingKeyUptoRow : OpenClaim := { program := "ytdbeclnoaeiaeaa", sum := "3bb08f182919eea387f8b0cfae1a2adc69dfab270cf5b174b7d3022dcd6c2543", func := "loop.example/depositary/laws.FnRingKey", spec := "fnRingKey", apart := false, narrowed := true }
def FnRingKeyUptoSaid : Prop := fnRingKeyUptoRow.holds Try.pinned (OpenSpec.upto fnRingKeySpec)

/-- 'laws.FnRingSpan', WHERE WHAT IT READS IS OF BULK AT MOST 1048576: true; the input reads as it did. -/
def fnRingSpanUptoRow : OpenClaim := { program := "ytdbeclnoaeiaeaa", sum := "3bb08f182919eea387f8b0cfae1a2adc69dfab270cf5b174b7d3022dcd6c2543", func := "loop.example/depositary/laws.FnRingSpan", spec := "fnRingSpan", apart := false, narrowed := true }
def FnRingSpanUptoSaid : Prop := fnRingSpanUptoRow.holds Try.pinned (OpenSpec.upto fnRingSpanSpec)

/-- 'laws.FnExactRingMany', WHERE WHAT IT READS IS OF BULK AT MOST 1048576: true; the input reads as it did. -/
def fnExactRingManyUptoRow : OpenClaim := { program := "ytdbeclnoaeiaeaa", sum := "3bb08f182919eea387f8b0cfae1a2adc69dfab270cf5b174b7d3022dcd6c2543", func := "loop.example/depositary/laws.FnExactRingMany", spec := "fnExactRingMany", apart := false, narrowed := true }
def FnExactRingManyUptoSaid : Prop := fnExactRingManyUptoRow.holds Try.pinned (OpenSpec.upto fnExactRingManySpec)

/-- 'laws.FnRingMany', WHERE WHAT IT READS IS OF BULK AT MOST 1048576: true; the input reads as it did. -/
def fnRingManyUptoRow : OpenClaim := { program := "ytdbeclnoaeiaeaa", sum := "3bb08f182919eea387f8b0cfae1a2adc69dfab270cf5b174b7d3022dcd6c2543", func := "loop.example/depositary/laws.FnRingMany", spec := "fnRingMany", apart := false, narrowed := true }
def FnRingManyUptoSaid : Prop := fnRingManyUptoRow.holds Try.pinned (OpenSpec.upto fnRingManySpec)

/-- 'laws.FnRingFull', WHERE WHAT IT READS IS OF BULK AT MOST 1048576: true; the input reads as it did. -/
def fnRingFullUptoRow : OpenClaim := { program := "ytdbeclnoaeiaeaa", sum := "3bb08f182919eea387f8b0cfae1a2adc69dfab270cf5b174b7d3022dcd6c2543", func := "loop.example/depositary/laws.FnRingFull", spec := "fnRingFull", inPlace := ["(*internal/sync.Mutex).Lock", "internal/race.Disable", "sync/atomic.CompareAndSwapInt32", "internal/race.Enable", "internal/race.Acquire", "(*internal/sync.Mutex).lockSlow", "internal/sync.runtime_canSpin", "internal/sync.runtime_doSpin", "internal/sync.throw", "internal/sync.runtime_nanotime", "internal/sync.runtime_SemacquireMutex", "sync/atomic.AddInt32", "(*internal/sync.Mutex).Unlock", "internal/race.ReleaseMerge", "(*internal/sync.Mutex).unlockSlow", "internal/sync.fatal", "internal/sync.runtime_Semrelease"], apart := false, narrowed := true }
def FnRingFullUptoSaid : Prop := fnRingFullUptoRow.holds Try.pinned (OpenSpec.upto fnRingFullSpec)

/-- 'laws.FnRingTurn', WHERE WHAT IT READS IS OF BULK AT MOST 1048576: true; the input reads as it did. -/
def fnRingTurnUptoRow : OpenClaim := { program := "ytdbeclnoaeiaeaa", sum := "3bb08f182919eea387f8b0cfae1a2adc69dfab270cf5b174b7d3022dcd6c2543", func := "loop.example/depositary/laws.FnRingTurn", spec := "fnRingTurn", inPlace := ["(*internal/sync.Mutex).Lock", "internal/race.Disable", "sync/atomic.CompareAndSwapInt32", "internal/race.Enable", "internal/race.Acquire", "(*internal/sync.Mutex).lockSlow", "internal/sync.runtime_canSpin", "internal/sync.runtime_doSpin", "internal/sync.throw", "internal/sync.runtime_nanotime", "internal/sync.runtime_SemacquireMutex", "sync/atomic.AddInt32", "(*internal/sync.Mutex).Unlock", "internal/race.ReleaseMerge", "(*internal/sync.Mutex).unlockSlow", "internal/sync.fatal", "internal/sync.runtime_Semrelease"], apart := false, narrowed := true }
def FnRingTurnUptoSaid : Prop := fnRingTurnUptoRow.holds Try.pinned (OpenSpec.upto fnRingTurnSpec)

/-- 'laws.FnExactRingTurn', WHERE WHAT IT READS IS OF BULK AT MOST 1048576: true; the input reads as it did. -/
def fnExactRingTurnUptoRow : OpenClaim := { program := "ytdbeclnoaeiaeaa", sum := "3bb08f182919eea387f8b0cfae1a2adc69dfab270cf5b174b7d3022dcd6c2543", func := "loop.example/depositary/laws.FnExactRingTurn", spec := "fnExactRingTurn", inPlace := ["(*internal/sync.Mutex).Lock", "internal/race.Disable", "sync/atomic.CompareAndSwapInt32", "internal/race.Enable", "internal/race.Acquire", "(*internal/sync.Mutex).lockSlow", "internal/sync.runtime_canSpin", "internal/sync.runtime_doSpin", "internal/sync.throw", "internal/sync.runtime_nanotime", "internal/sync.runtime_SemacquireMutex", "sync/atomic.AddInt32", "(*internal/sync.Mutex).Unlock", "internal/race.ReleaseMerge", "(*internal/sync.Mutex).unlockSlow", "internal/sync.fatal", "internal/sync.runtime_Semrelease"], apart := false, narrowed := true }
def FnExactRingTurnUptoSaid : Prop := fnExactRingTurnUptoRow.holds Try.pinned (OpenSpec.upto fnExactRingTurnSpec)

/-- 'laws.FnRingShut', WHERE WHAT IT READS IS OF BULK AT MOST 1048576: true; the input reads as it did. -/
def fnRingShutUptoRow : OpenClaim := { program := "ytdbeclnoaeiaeaa", sum := "3bb08f182919eea387f8b0cfae1a2adc69dfab270cf5b174b7d3022dcd6c2543", func := "loop.example/depositary/laws.FnRingShut", spec := "fnRingShut", inPlace := ["(*internal/sync.Mutex).Lock", "internal/race.Disable", "sync/atomic.CompareAndSwapInt32", "internal/race.Enable", "internal/race.Acquire", "(*internal/sync.Mutex).lockSlow", "internal/sync.runtime_canSpin", "internal/sync.runtime_doSpin", "internal/sync.throw", "internal/sync.runtime_nanotime", "internal/sync.runtime_SemacquireMutex", "sync/atomic.AddInt32", "(*internal/sync.Mutex).Unlock", "internal/race.ReleaseMerge", "(*internal/sync.Mutex).unlockSlow", "internal/sync.fatal", "internal/sync.runtime_Semrelease"], unfollowed := true, recurses := true, apart := false, narrowed := true }
def FnRingShutUptoSaid : Prop := fnRingShutUptoRow.holds Try.pinned (OpenSpec.upto fnRingShutSpec)

/-- 'laws.FnExactRingShut', WHERE WHAT IT READS IS OF BULK AT MOST 1048576: true; the input reads as it did. -/
def fnExactRingShutUptoRow : OpenClaim := { program := "ytdbeclnoaeiaeaa", sum := "3bb08f182919eea387f8b0cfae1a2adc69dfab270cf5b174b7d3022dcd6c2543", func := "loop.example/depositary/laws.FnExactRingShut", spec := "fnExactRingShut", inPlace := ["(*internal/sync.Mutex).Lock", "internal/race.Disable", "sync/atomic.CompareAndSwapInt32", "internal/race.Enable", "internal/race.Acquire", "(*internal/sync.Mutex).lockSlow", "internal/sync.runtime_canSpin", "internal/sync.runtime_doSpin", "internal/sync.throw", "internal/sync.runtime_nanotime", "internal/sync.runtime_SemacquireMutex", "sync/atomic.AddInt32", "(*internal/sync.Mutex).Unlock", "internal/race.ReleaseMerge", "(*internal/sync.Mutex).unlockSlow", "internal/sync.fatal", "internal/sync.runtime_Semrelease"], unfollowed := true, recurses := true, apart := false, narrowed := true }
def FnExactRingShutUptoSaid : Prop := fnExactRingShutUptoRow.holds Try.pinned (OpenSpec.upto fnExactRingShutSpec)

/-- 'laws.FnRingLet', WHERE WHAT IT READS IS OF BULK AT MOST 1048576: true; the input reads as it did. -/
def fnRingLetUptoRow : OpenClaim := { program := "ytdbeclnoaeiaeaa", sum := "3bb08f182919eea387f8b0cfae1a2adc69dfab270cf5b174b7d3022dcd6c2543", func := "loop.example/depositary/laws.FnRingLet", spec := "fnRingLet", inPlace := ["(*internal/sync.Mutex).Lock", "internal/race.Disable", "sync/atomic.CompareAndSwapInt32", "internal/race.Enable", "internal/race.Acquire", "(*internal/sync.Mutex).lockSlow", "internal/sync.runtime_canSpin", "internal/sync.runtime_doSpin", "internal/sync.throw", "internal/sync.runtime_nanotime", "internal/sync.runtime_SemacquireMutex", "sync/atomic.AddInt32", "(*internal/sync.Mutex).Unlock", "internal/race.ReleaseMerge", "(*internal/sync.Mutex).unlockSlow", "internal/sync.fatal", "internal/sync.runtime_Semrelease", "slices.overlaps[loop.example/depositary/impl.Grant]"], apart := false, narrowed := true }
def FnRingLetUptoSaid : Prop := fnRingLetUptoRow.holds Try.pinned (OpenSpec.upto fnRingLetSpec)

/-- 'laws.FnRingLate', WHERE WHAT IT READS IS OF BULK AT MOST 1048576: true; the input reads as it did. -/
def fnRingLateUptoRow : OpenClaim := { program := "ytdbeclnoaeiaeaa", sum := "3bb08f182919eea387f8b0cfae1a2adc69dfab270cf5b174b7d3022dcd6c2543", func := "loop.example/depositary/laws.FnRingLate", spec := "fnRingLate", inPlace := ["(*internal/sync.Mutex).Lock", "internal/race.Disable", "sync/atomic.CompareAndSwapInt32", "internal/race.Enable", "internal/race.Acquire", "(*internal/sync.Mutex).lockSlow", "internal/sync.runtime_canSpin", "internal/sync.runtime_doSpin", "internal/sync.throw", "internal/sync.runtime_nanotime", "internal/sync.runtime_SemacquireMutex", "sync/atomic.AddInt32", "(*internal/sync.Mutex).Unlock", "internal/race.ReleaseMerge", "(*internal/sync.Mutex).unlockSlow", "internal/sync.fatal", "internal/sync.runtime_Semrelease", "slices.overlaps[loop.example/depositary/impl.Grant]"], apart := false, narrowed := true }
def FnRingLateUptoSaid : Prop := fnRingLateUptoRow.holds Try.pinned (OpenSpec.upto fnRingLateSpec)

/-- 'laws.FnRingShutTwice', WHERE WHAT IT READS IS OF BULK AT MOST 1048576: true; the input reads as it did. -/
def fnRingShutTwiceUptoRow : OpenClaim := { program := "ytdbeclnoaeiaeaa", sum := "3bb08f182919eea387f8b0cfae1a2adc69dfab270cf5b174b7d3022dcd6c2543", func := "loop.example/depositary/laws.FnRingShutTwice", spec := "fnRingShutTwice", inPlace := ["(*internal/sync.Mutex).Lock", "internal/race.Disable", "sync/atomic.CompareAndSwapInt32", "internal/race.Enable", "internal/race.Acquire", "(*internal/sync.Mutex).lockSlow", "internal/sync.runtime_canSpin", "internal/sync.runtime_doSpin", "internal/sync.throw", "internal/sync.runtime_nanotime", "internal/sync.runtime_SemacquireMutex", "sync/atomic.AddInt32", "(*internal/sync.Mutex).Unlock", "internal/race.ReleaseMerge", "(*internal/sync.Mutex).unlockSlow", "internal/sync.fatal", "internal/sync.runtime_Semrelease", "slices.overlaps[loop.example/depositary/impl.Grant]"], unfollowed := true, recurses := true, apart := false, narrowed := true }
def FnRingShutTwiceUptoSaid : Prop := fnRingShutTwiceUptoRow.holds Try.pinned (OpenSpec.upto fnRingShutTwiceSpec)

/-- 'laws.FnExactRingLet', WHERE WHAT IT READS IS OF BULK AT MOST 1048576: true; the input reads as it did. -/
def fnExactRingLetUptoRow : OpenClaim := { program := "ytdbeclnoaeiaeaa", sum := "3bb08f182919eea387f8b0cfae1a2adc69dfab270cf5b174b7d3022dcd6c2543", func := "loop.example/depositary/laws.FnExactRingLet", spec := "fnExactRingLet", inPlace := ["(*internal/sync.Mutex).Lock", "internal/race.Disable", "sync/atomic.CompareAndSwapInt32", "internal/race.Enable", "internal/race.Acquire", "(*internal/sync.Mutex).lockSlow", "internal/sync.runtime_canSpin", "internal/sync.runtime_doSpin", "internal/sync.throw", "internal/sync.runtime_nanotime", "internal/sync.runtime_SemacquireMutex", "sync/atomic.AddInt32", "(*internal/sync.Mutex).Unlock", "internal/race.ReleaseMerge", "(*internal/sync.Mutex).unlockSlow", "internal/sync.fatal", "internal/sync.runtime_Semrelease", "slices.overlaps[loop.example/depositary/impl.Grant]"], apart := false, narrowed := true }
def FnExactRingLetUptoSaid : Prop := fnExactRingLetUptoRow.holds Try.pinned (OpenSpec.upto fnExactRingLetSpec)

end Rows
end Go.Proofs.Ytdbeclnoaeiaeaa
