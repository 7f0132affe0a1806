/-
  No cell of these rows narrows 'for every input' (looked for: loops, veiled, ifaces, maps, wideKeys, modest, calm, conditions, laid).
  DERIVED. THE GIVEN ROWS OF THIS SEAT. 12 by the template 'for every input the law returns true; each argument reads behind the call as it read before'; 0 by the template 'total and deterministic' (their statements: YtahdphhlmblacaaTotals.lean).
  GIVEN WITH THE SEED: the statements are not yours to turn. If you find one false, say at which input.
  Laid BY PROGRAM, IN A SANDBOX (cutbox-rows.mjs): the forced cells as the released guide's own fill.sh prints them over the translation 45925ff2b0876af3… (all of the seat's roots in one cut). By AI agents, Wed Nov 11 2026. No macro, syntax, notation, axiom, sorry.
-/
import Derived.Test.YtahdphhlmblacaaChecked
import GoSem.Claim
import GoSem.ClaimJoined
import GoSem.ClaimMapViews
import Derived.JoinedTies
import Derived.KernelRfl
namespace Go.Proofs.Ytahdphhlmblacaa
/- THE CELL 'sum', in the pinned program and in every row, IS THE sha256 OF THE DUMP (.gsa) THAT YtahdphhlmblacaaProg.lean LOADS. Nothing in Lean hashes anything: it is a label: what it is worth is what the hold of that sum in a sandbox is worth. -/
noncomputable def Try.pinned : Pinned := { name := "ytahdphhlmblacaa", sum := "45925ff2b0876af3f0f51a13b534ad950054b27c827d8c6719aa0a76cd9a8d6a", checked := Try.checked }
namespace Rows
def none {H : Type} : Left H := { results := [], args := [] }

/-- 'laws.FnExactSampleAll': WHATEVER THE INPUT: true; the input reads as it did. -/
def fnExactSampleAllSpec : ChangeSpec := { name := "fnExactSampleAll", fn := fun _ => fun
  | [d1, d2] => { results := [.lit (.bool true)], args := [d1, d2] }
  | _ => none }
def fnExactSampleAllRow : OpenClaim := { program := "ytahdphhlmblacaa", sum := "45925ff2b0876af3f0f51a13b534ad950054b27c827d8c6719aa0a76cd9a8d6a", func := "loop.example/depositary/laws.FnExactSampleAll", spec := "fnExactSampleAll", apart := false }
def FnExactSampleAllSaid : Prop := fnExactSampleAllRow.holds Try.pinned (OpenSpec.ofChange fnExactSampleAllSpec)

/-- ITS FALSE NEIGHBOUR: 'it returns false'. Refute it at one input. -/
def fnExactSampleAllWrong : ChangeSpec := { name := "fnExactSampleAll", fn := fun _ => fun
  | [d1, d2] => { results := [.lit (.bool false)], args := [d1, d2] }
  | _ => none }
def FnExactSampleAllWrongFalsely : Prop := fnExactSampleAllRow.holds Try.pinned (OpenSpec.ofChange fnExactSampleAllWrong)

/-- 'laws.FnExactSampleMiss': WHATEVER THE INPUT: true; the input reads as it did. -/
def fnExactSampleMissSpec : ChangeSpec := { name := "fnExactSampleMiss", fn := fun _ => fun
  | [d1, d2, d3] => { results := [.lit (.bool true)], args := [d1, d2, d3] }
  | _ => none }
def fnExactSampleMissRow : OpenClaim := { program := "ytahdphhlmblacaa", sum := "45925ff2b0876af3f0f51a13b534ad950054b27c827d8c6719aa0a76cd9a8d6a", func := "loop.example/depositary/laws.FnExactSampleMiss", spec := "fnExactSampleMiss", apart := false }
def FnExactSampleMissSaid : Prop := fnExactSampleMissRow.holds Try.pinned (OpenSpec.ofChange fnExactSampleMissSpec)

/-- ITS FALSE NEIGHBOUR: 'it returns false'. Refute it at one input. -/
def fnExactSampleMissWrong : ChangeSpec := { name := "fnExactSampleMiss", fn := fun _ => fun
  | [d1, d2, d3] => { results := [.lit (.bool false)], args := [d1, d2, d3] }
  | _ => none }
def FnExactSampleMissWrongFalsely : Prop := fnExactSampleMissRow.holds Try.pinned (OpenSpec.ofChange fnExactSampleMissWrong)

/-- 'laws.FnSampleAll': WHATEVER THE INPUT: true; the input reads as it did. -/
def fnSampleAllSpec : ChangeSpec := { name := "fnSampleAll", fn := fun _ => fun
  | [d] => { results := [.lit (.bool true)], args := [d] }
  | _ => none }
def fnSampleAllRow : OpenClaim := { program := "ytahdphhlmblacaa", sum := "45925ff2b0876af3f0f51a13b534ad950054b27c827d8c6719aa0a76cd9a8d6a", func := "loop.example/depositary/laws.FnSampleAll", spec := "fnSampleAll", apart := false }
def FnSampleAllSaid : Prop := fnSampleAllRow.holds Try.pinned (OpenSpec.ofChange fnSampleAllSpec)

/-- ITS FALSE NEIGHBOUR: 'it returns false'. Refute it at one input. -/
def fnSampleAllWrong : ChangeSpec := { name := "fnSampleAll", fn := fun _ => fun
  | [d] => { results := [.lit (.bool false)], args := [d] }
  | _ => none }
def FnSampleAllWrongFalsely : Prop := fnSampleAllRow.holds Try.pinned (OpenSpec.ofChange fnSampleAllWrong)

/-- 'laws.FnSampleSum': WHATEVER THE INPUT: true; the input reads as it did. -/
def fnSampleSumSpec : ChangeSpec := { name := "fnSampleSum", fn := fun _ => fun
  | [d] => { results := [.lit (.bool true)], args := [d] }
  | _ => none }
def fnSampleSumRow : OpenClaim := { program := "ytahdphhlmblacaa", sum := "45925ff2b0876af3f0f51a13b534ad950054b27c827d8c6719aa0a76cd9a8d6a", func := "loop.example/depositary/laws.FnSampleSum", spec := "fnSampleSum", apart := false }
def FnSampleSumSaid : Prop := fnSampleSumRow.holds Try.pinned (OpenSpec.ofChange fnSampleSumSpec)

/-- ITS FALSE NEIGHBOUR: 'it returns false'. Refute it at one input. -/
def fnSampleSumWrong : ChangeSpec := { name := "fnSampleSum", fn := fun _ => fun
  | [d] => { results := [.lit (.bool false)], args := [d] }
  | _ => none }
def FnSampleSumWrongFalsely : Prop := fnSampleSumRow.holds Try.pinned (OpenSpec.ofChange fnSampleSumWrong)

/-- 'laws.FnExactSampleFinds': WHATEVER THE INPUT: true; the input reads as it did. -/
def fnExactSampleFindsSpec : ChangeSpec := { name := "fnExactSampleFinds", fn := fun _ => fun
  | [d1, d2] => { results := [.lit (.bool true)], args := [d1, d2] }
  | _ => none }
def fnExactSampleFindsRow : OpenClaim := { program := "ytahdphhlmblacaa", sum := "45925ff2b0876af3f0f51a13b534ad950054b27c827d8c6719aa0a76cd9a8d6a", func := "loop.example/depositary/laws.FnExactSampleFinds", spec := "fnExactSampleFinds", unfollowed := true, recurses := true, apart := false }
def FnExactSampleFindsSaid : Prop := fnExactSampleFindsRow.holds Try.pinned (OpenSpec.ofChange fnExactSampleFindsSpec)

/-- ITS FALSE NEIGHBOUR: 'it returns false'. Refute it at one input. -/
def fnExactSampleFindsWrong : ChangeSpec := { name := "fnExactSampleFinds", fn := fun _ => fun
  | [d1, d2] => { results := [.lit (.bool false)], args := [d1, d2] }
  | _ => none }
def FnExactSampleFindsWrongFalsely : Prop := fnExactSampleFindsRow.holds Try.pinned (OpenSpec.ofChange fnExactSampleFindsWrong)

/-- 'laws.FnExactSampleEnough': WHATEVER THE INPUT: true; the input reads as it did. -/
def fnExactSampleEnoughSpec : ChangeSpec := { name := "fnExactSampleEnough", fn := fun _ => fun
  | [d1, d2, d3] => { results := [.lit (.bool true)], args := [d1, d2, d3] }
  | _ => none }
def fnExactSampleEnoughRow : OpenClaim := { program := "ytahdphhlmblacaa", sum := "45925ff2b0876af3f0f51a13b534ad950054b27c827d8c6719aa0a76cd9a8d6a", func := "loop.example/depositary/laws.FnExactSampleEnough", spec := "fnExactSampleEnough", apart := false }
def FnExactSampleEnoughSaid : Prop := fnExactSampleEnoughRow.holds Try.pinned (OpenSpec.ofChange fnExactSampleEnoughSpec)

/-- ITS FALSE NEIGHBOUR: 'it returns false'. Refute it at one input. -/
def fnExactSampleEnoughWrong : ChangeSpec := { name := "fnExactSampleEnough", fn := fun _ => fun
  | [d1, d2, d3] => { results := [.lit (.bool false)], args := [d1, d2, d3] }
  | _ => none }
def FnExactSampleEnoughWrongFalsely : Prop := fnExactSampleEnoughRow.holds Try.pinned (OpenSpec.ofChange fnExactSampleEnoughWrong)

/-- 'laws.FnSampleMiss': WHATEVER THE INPUT: true; the input reads as it did. -/
def fnSampleMissSpec : ChangeSpec := { name := "fnSampleMiss", fn := fun _ => fun
  | [d] => { results := [.lit (.bool true)], args := [d] }
  | _ => none }
def fnSampleMissRow : OpenClaim := { program := "ytahdphhlmblacaa", sum := "45925ff2b0876af3f0f51a13b534ad950054b27c827d8c6719aa0a76cd9a8d6a", func := "loop.example/depositary/laws.FnSampleMiss", spec := "fnSampleMiss", apart := false }
def FnSampleMissSaid : Prop := fnSampleMissRow.holds Try.pinned (OpenSpec.ofChange fnSampleMissSpec)

/-- ITS FALSE NEIGHBOUR: 'it returns false'. Refute it at one input. -/
def fnSampleMissWrong : ChangeSpec := { name := "fnSampleMiss", fn := fun _ => fun
  | [d] => { results := [.lit (.bool false)], args := [d] }
  | _ => none }
def FnSampleMissWrongFalsely : Prop := fnSampleMissRow.holds Try.pinned (OpenSpec.ofChange fnSampleMissWrong)

/-- 'laws.FnEnoughLess': WHATEVER THE INPUT: true; the input reads as it did. -/
def fnEnoughLessSpec : ChangeSpec := { name := "fnEnoughLess", fn := fun _ => fun
  | [d1, d2] => { results := [.lit (.bool true)], args := [d1, d2] }
  | _ => none }
def fnEnoughLessRow : OpenClaim := { program := "ytahdphhlmblacaa", sum := "45925ff2b0876af3f0f51a13b534ad950054b27c827d8c6719aa0a76cd9a8d6a", func := "loop.example/depositary/laws.FnEnoughLess", spec := "fnEnoughLess", apart := false }
def FnEnoughLessSaid : Prop := fnEnoughLessRow.holds Try.pinned (OpenSpec.ofChange fnEnoughLessSpec)

/-- ITS FALSE NEIGHBOUR: 'it returns false'. Refute it at one input. -/
def fnEnoughLessWrong : ChangeSpec := { name := "fnEnoughLess", fn := fun _ => fun
  | [d1, d2] => { results := [.lit (.bool false)], args := [d1, d2] }
  | _ => none }
def FnEnoughLessWrongFalsely : Prop := fnEnoughLessRow.holds Try.pinned (OpenSpec.ofChange fnEnoughLessWrong)

/-- 'laws.FnSampleEnough': WHATEVER THE INPUT: true; the input reads as it did. -/
def fnSampleEnoughSpec : ChangeSpec := { name := "fnSampleEnough", fn := fun _ => fun
  | [d] => { results := [.lit (.bool true)], args := [d] }
  | _ => none }
def fnSampleEnoughRow : OpenClaim := { program := "ytahdphhlmblacaa", sum := "45925ff2b0876af3f0f51a13b534ad950054b27c827d8c6719aa0a76cd9a8d6a", func := "loop.example/depositary/laws.FnSampleEnough", spec := "fnSampleEnough", apart := false }
def FnSampleEnoughSaid : Prop := fnSampleEnoughRow.holds Try.pinned (OpenSpec.ofChange fnSampleEnoughSpec)

/-- ITS FALSE NEIGHBOUR: 'it returns false'. Refute it at one input. -/
def fnSampleEnoughWrong : ChangeSpec := { name := "fnSampleEnough", fn := fun _ => fun
  | [d] => { results := [.lit (.bool false)], args := [d] }
  | _ => none }
def FnSampleEnoughWrongFalsely : Prop := fnSampleEnoughRow.holds Try.pinned (OpenSpec.ofChange fnSampleEnoughWrong)

/-- 'laws.FnSampleHalf': WHATEVER THE INPUT: true; the input reads as it did. -/
def fnSampleHalfSpec : ChangeSpec := { name := "fnSampleHalf", fn := fun _ => fun
  | [d] => { results := [.lit (.bool true)], args := [d] }
  | _ => none }
def fnSampleHalfRow : OpenClaim := { program := "ytahdphhlmblacaa", sum := "45925ff2b0876af3f0f51a13b534ad950054b27c827d8c6719aa0a76cd9a8d6a", func := "loop.example/depositary/laws.FnSampleHalf", spec := "fnSampleHalf", apart := false }
def FnSampleHalfSaid : Prop := fnSampleHalfRow.holds Try.pinned (OpenSpec.ofChange fnSampleHalfSpec)

/-- ITS FALSE NEIGHBOUR: 'it returns false'. Refute it at one input. -/
def fnSampleHalfWrong : ChangeSpec := { name := "fnSampleHalf", fn := fun _ => fun
  | [d] => { results := [.lit (.bool false)], args := [d] }
  | _ => none }
def FnSampleHalfWrongFalsely : Prop := fnSampleHalfRow.holds Try.pinned (OpenSpec.ofChange fnSampleHalfWrong)

/-- 'laws.FnSampleWays': WHATEVER THE INPUT: true; the input reads as it did. -/
def fnSampleWaysSpec : ChangeSpec := { name := "fnSampleWays", fn := fun _ => fun
  | [d1, d2] => { results := [.lit (.bool true)], args := [d1, d2] }
  | _ => none }
def fnSampleWaysRow : OpenClaim := { program := "ytahdphhlmblacaa", sum := "45925ff2b0876af3f0f51a13b534ad950054b27c827d8c6719aa0a76cd9a8d6a", func := "loop.example/depositary/laws.FnSampleWays", spec := "fnSampleWays", unfollowed := true, recurses := true, apart := false }
def FnSampleWaysSaid : Prop := fnSampleWaysRow.holds Try.pinned (OpenSpec.ofChange fnSampleWaysSpec)

/-- ITS FALSE NEIGHBOUR: 'it returns false'. Refute it at one input. -/
def fnSampleWaysWrong : ChangeSpec := { name := "fnSampleWays", fn := fun _ => fun
  | [d1, d2] => { results := [.lit (.bool false)], args := [d1, d2] }
  | _ => none }
def FnSampleWaysWrongFalsely : Prop := fnSampleWaysRow.holds Try.pinned (OpenSpec.ofChange fnSampleWaysWrong)

/-- 'laws.FnFinds': WHATEVER THE INPUT: true; the input reads as it did. -/
def fnFindsSpec : ChangeSpec := { name := "fnFinds", fn := fun _ => fun
  | [d] => { results := [.lit (.bool true)], args := [d] }
  | _ => none }
def fnFindsRow : OpenClaim := { program := "ytahdphhlmblacaa", sum := "45925ff2b0876af3f0f51a13b534ad950054b27c827d8c6719aa0a76cd9a8d6a", func := "loop.example/depositary/laws.FnFinds", spec := "fnFinds", unfollowed := true, recurses := true, apart := false }
def FnFindsSaid : Prop := fnFindsRow.holds Try.pinned (OpenSpec.ofChange fnFindsSpec)

/-- ITS FALSE NEIGHBOUR: 'it returns false'. Refute it at one input. -/
def fnFindsWrong : ChangeSpec := { name := "fnFinds", fn := fun _ => fun
  | [d] => { results := [.lit (.bool false)], args := [d] }
  | _ => none }
def FnFindsWrongFalsely : Prop := fnFindsRow.holds Try.pinned (OpenSpec.ofChange fnFindsWrong)

/- THE SECOND FORM. 'bulk': how many values and letters a reading holds, each counted each time it is reached (what is shared counts as often as it is met; a slice's spare places count too). A statement '..UptoSaid' is the law's where the arguments, and the package variables that the reading takes, are together of bulk at most 1048576: NARROWER than '..Said'. Prove '..Said' where nothing that the law and all that it calls make is longer than what came in: it says more and counts as full. Else prove '..UptoSaid'. A law counts once. -/
mutual
def uptoBulk {H : Type} : DataW H → Nat
  | .lit (.string bytes) => bytes.length + 1
  | .lit _ => 1
  | .nil => 1
  | .ptr d => uptoBulk d + 1
  | .slice elems spare => uptoBulkAll elems + uptoBulkAll spare + 1
  | .agg parts => uptoBulkAll parts + 1
  | .iface _ d => uptoBulk d + 1
  | .map entries => uptoBulkEntries entries + 1
  | .held _ => 1
def uptoBulkAll {H : Type} : List (DataW H) → Nat
  | [] => 0
  | d :: r => uptoBulk d + uptoBulkAll r
def uptoBulkEntries {H : Type} : List (Lit × DataW H) → Nat
  | [] => 0
  | x :: r => uptoBulkEntry x + uptoBulkEntries r
def uptoBulkEntry {H : Type} : Lit × DataW H → Nat
  | (.string bytes, d) => bytes.length + uptoBulk d + 1
  | (_, d) => uptoBulk d + 1
 end
def uptoSmall : (H : Type) → List (DataW H) → Bool := fun _ ds => decide (uptoBulkAll ds ≤ 1048576)
def OpenSpec.upto (s : _root_.Go.ChangeSpec) : _root_.Go.OpenSpec := { _root_.Go.OpenSpec.ofChange s with cond := some uptoSmall }

/-- 'laws.FnExactSampleAll', WHERE WHAT IT READS IS OF BULK AT MOST 1048576: true; the input reads as it did. -/
def fnExactSampleAllUptoRow : OpenClaim := { program := "ytahdphhlmblacaa", sum := "45925ff2b0876af3f0f51a13b534ad950054b27c827d8c6719aa0a76cd9a8d6a", func := "loop.example/depositary/laws.FnExactSampleAll", spec := "fnExactSampleAll", apart := false, narrowed := true }
def FnExactSampleAllUptoSaid : Prop := fnExactSampleAllUptoRow.holds Try.pinned (OpenSpec.upto fnExactSampleAllSpec)

/-- 'laws.FnExactSampleMiss', WHERE WHAT IT READS IS OF BULK AT MOST 1048576: true; the input reads as it did. -/
def fnExactSampleMissUptoRow : OpenClaim := { program := "ytahdphhlmblacaa", sum := "45925ff2b0876af3f0f51a13b534ad950054b27c827d8c6719aa0a76cd9a8d6a", func := "loop.example/depositary/laws.FnExactSampleMiss", spec := "fnExactSampleMiss", apart := false, narrowed := true }
def FnExactSampleMissUptoSaid : Prop := fnExactSampleMissUptoRow.holds Try.pinned (OpenSpec.upto fnExactSampleMissSpec)

/-- 'laws.FnSampleAll', WHERE WHAT IT READS IS OF BULK AT MOST 1048576: true; the input reads as it did. -/
def fnSampleAllUptoRow : OpenClaim := { program := "ytahdphhlmblacaa", sum := "45925ff2b0876af3f0f51a13b534ad950054b27c827d8c6719aa0a76cd9a8d6a", func := "loop.example/depositary/laws.FnSampleAll", spec := "fnSampleAll", apart := false, narrowed := true }
def FnSampleAllUptoSaid : Prop := fnSampleAllUptoRow.holds Try.pinned (OpenSpec.upto fnSampleAllSpec)

/-- 'laws.FnSampleSum', WHERE WHAT IT READS IS OF BULK AT MOST 1048576: true; the input reads as it did. -/
def fnSampleSumUptoRow : OpenClaim := { program := "ytahdphhlmblacaa", sum := "45925ff2b0876af3f0f51a13b534ad950054b27c827d8c6719aa0a76cd9a8d6a", func := "loop.example/depositary/laws.FnSampleSum", spec := "fnSampleSum", apart := false, narrowed := true }
def FnSampleSumUptoSaid : Prop := fnSampleSumUptoRow.holds Try.pinned (OpenSpec.upto fnSampleSumSpec)

/-- 'laws.FnExactSampleFinds', WHERE WHAT IT READS IS OF BULK AT MOST 1048576: true; the input reads as it did. -/
def fnExactSampleFindsUptoRow : OpenClaim := { program := "ytahdphhlmblacaa", sum := "45925ff2b0876af3f0f51a13b534ad950054b27c827d8c6719aa0a76cd9a8d6a", func := "loop.example/depositary/laws.FnExactSampleFinds", spec := "fnExactSampleFinds", unfollowed := true, recurses := true, apart := false, narrowed := true }
def FnExactSampleFindsUptoSaid : Prop := fnExactSampleFindsUptoRow.holds Try.pinned (OpenSpec.upto fnExactSampleFindsSpec)

/-- 'laws.FnExactSampleEnough', WHERE WHAT IT READS IS OF BULK AT MOST 1048576: true; the input reads as it did. -/
def fnExactSampleEnoughUptoRow : OpenClaim := { program := "ytahdphhlmblacaa", sum := "45925ff2b0876af3f0f51a13b534ad950054b27c827d8c6719aa0a76cd9a8d6a", func := "loop.example/depositary/laws.FnExactSampleEnough", spec := "fnExactSampleEnough", apart := false, narrowed := true }
def FnExactSampleEnoughUptoSaid : Prop := fnExactSampleEnoughUptoRow.holds Try.pinned (OpenSpec.upto fnExactSampleEnoughSpec)

/-- 'laws.FnSampleMiss', WHERE WHAT IT READS IS OF BULK AT MOST 1048576: true; the input reads as it did. -/
def fnSampleMissUptoRow : OpenClaim := { program := "ytahdphhlmblacaa", sum := "45925ff2b0876af3f0f51a13b534ad950054b27c827d8c6719aa0a76cd9a8d6a", func := "loop.example/depositary/laws.FnSampleMiss", spec := "fnSampleMiss", apart := false, narrowed := true }
def FnSampleMissUptoSaid : Prop := fnSampleMissUptoRow.holds Try.pinned (OpenSpec.upto fnSampleMissSpec)

/-- 'laws.FnEnoughLess', WHERE WHAT IT READS IS OF BULK AT MOST 1048576: true; the input reads as it did. -/
def fnEnoughLessUptoRow : OpenClaim := { program := "ytahdphhlmblacaa", sum := "45925ff2b0876af3f0f51a13b534ad950054b27c827d8c6719aa0a76cd9a8d6a", func := "loop.example/depositary/laws.FnEnoughLess", spec := "fnEnoughLess", apart := false, narrowed := true }
def FnEnoughLessUptoSaid : Prop := fnEnoughLessUptoRow.holds Try.pinned (OpenSpec.upto fnEnoughLessSpec)

/-- 'laws.FnSampleEnough', WHERE WHAT IT READS IS OF BULK AT MOST 1048576: true; the input reads as it did. -/
def fnSampleEnoughUptoRow : OpenClaim := { program := "ytahdphhlmblacaa", sum := "45925ff2b0876af3f0f51a13b534ad950054b27c827d8c6719aa0a76cd9a8d6a", func := "loop.example/depositary/laws.FnSampleEnough", spec := "fnSampleEnough", apart := false, narrowed := true }
def FnSampleEnoughUptoSaid : Prop := fnSampleEnoughUptoRow.holds Try.pinned (OpenSpec.upto fnSampleEnoughSpec)

/-- 'laws.FnSampleHalf', WHERE WHAT IT READS IS OF BULK AT MOST 1048576: true; the input reads as it did. -/
def fnSampleHalfUptoRow : OpenClaim := { program := "ytahdphhlmblacaa", sum := "45925ff2b0876af3f0f51a13b534ad950054b27c827d8c6719aa0a76cd9a8d6a", func := "loop.example/depositary/laws.FnSampleHalf", spec := "fnSampleHalf", apart := false, narrowed := true }
def FnSampleHalfUptoSaid : Prop := fnSampleHalfUptoRow.holds Try.pinned (OpenSpec.upto fnSampleHalfSpec)

/-- 'laws.FnSampleWays', WHERE WHAT IT READS IS OF BULK AT MOST 1048576: true; the input reads as it did. -/
def fnSampleWaysUptoRow : OpenClaim := { program := "ytahdphhlmblacaa", sum := "45925ff2b0876af3f0f51a13b534ad950054b27c827d8c6719aa0a76cd9a8d6a", func := "loop.example/depositary/laws.FnSampleWays", spec := "fnSampleWays", unfollowed := true, recurses := true, apart := false, narrowed := true }
def FnSampleWaysUptoSaid : Prop := fnSampleWaysUptoRow.holds Try.pinned (OpenSpec.upto fnSampleWaysSpec)

/-- 'laws.FnFinds', WHERE WHAT IT READS IS OF BULK AT MOST 1048576: true; the input reads as it did. -/
def fnFindsUptoRow : OpenClaim := { program := "ytahdphhlmblacaa", sum := "45925ff2b0876af3f0f51a13b534ad950054b27c827d8c6719aa0a76cd9a8d6a", func := "loop.example/depositary/laws.FnFinds", spec := "fnFinds", unfollowed := true, recurses := true, apart := false, narrowed := true }
def FnFindsUptoSaid : Prop := fnFindsUptoRow.holds Try.pinned (OpenSpec.upto fnFindsSpec)

end Rows
end Go.Proofs.Ytahdphhlmblacaa
