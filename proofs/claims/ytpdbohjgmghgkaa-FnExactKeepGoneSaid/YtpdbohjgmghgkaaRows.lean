/-
  No cell of these rows narrows 'for every input' (looked for: loops, veiled, ifaces, maps, wideKeys, modest, calm, conditions, laid).
  DERIVED. THE GIVEN ROWS OF THIS SEAT. 15 by the template 'for every input the law returns true; each argument reads behind the call as it read before'; 0 by the template 'total and deterministic' (their statements: YtpdbohjgmghgkaaTotals.lean).
  GIVEN WITH THE SEED: the statements are not yours to turn. If you find one false, say at which input.
  Laid BY PROGRAM, IN A SANDBOX (cutbox-rows.mjs): the forced cells as the released guide's own fill.sh prints them over the translation 3ac3159be40edcab… (all of the seat's roots in one cut). By AI agents, Wed Nov 11 2026. No macro, syntax, notation, axiom, sorry.
-/
import Derived.Test.YtpdbohjgmghgkaaChecked
import GoSem.Claim
import GoSem.ClaimJoined
import GoSem.ClaimMapViews
import Derived.JoinedTies
import Derived.KernelRfl
namespace Go.Proofs.Ytpdbohjgmghgkaa
/- THE CELL 'sum', in the pinned program and in every row, IS THE sha256 OF THE DUMP (.gsa) THAT YtpdbohjgmghgkaaProg.lean LOADS. Nothing in Lean hashes anything: it is a label: what it is worth is what the hold of that sum in a sandbox is worth. -/
noncomputable def Try.pinned : Pinned := { name := "ytpdbohjgmghgkaa", sum := "3ac3159be40edcab7f56a6abb434f52c29ab43a74df00dbf60c348c98cb9f46e", checked := Try.checked }
namespace Rows
def none {H : Type} : Left H := { results := [], args := [] }

/-- 'laws.FnExactIndexMerge': WHATEVER THE INPUT: true; the input reads as it did. -/
def fnExactIndexMergeSpec : ChangeSpec := { name := "fnExactIndexMerge", fn := fun _ => fun
  | [d1, d2] => { results := [.lit (.bool true)], args := [d1, d2] }
  | _ => none }
def fnExactIndexMergeRow : OpenClaim := { program := "ytpdbohjgmghgkaa", sum := "3ac3159be40edcab7f56a6abb434f52c29ab43a74df00dbf60c348c98cb9f46e", func := "loop.example/depositary/laws.FnExactIndexMerge", spec := "fnExactIndexMerge", recurses := true, apart := false }
def FnExactIndexMergeSaid : Prop := fnExactIndexMergeRow.holds Try.pinned (OpenSpec.ofChange fnExactIndexMergeSpec)

/-- ITS FALSE NEIGHBOUR: 'it returns false'. Refute it at one input. -/
def fnExactIndexMergeWrong : ChangeSpec := { name := "fnExactIndexMerge", fn := fun _ => fun
  | [d1, d2] => { results := [.lit (.bool false)], args := [d1, d2] }
  | _ => none }
def FnExactIndexMergeWrongFalsely : Prop := fnExactIndexMergeRow.holds Try.pinned (OpenSpec.ofChange fnExactIndexMergeWrong)

/-- 'laws.FnIndexMerge': WHATEVER THE INPUT: true; the input reads as it did. -/
def fnIndexMergeSpec : ChangeSpec := { name := "fnIndexMerge", fn := fun _ => fun
  | [d] => { results := [.lit (.bool true)], args := [d] }
  | _ => none }
def fnIndexMergeRow : OpenClaim := { program := "ytpdbohjgmghgkaa", sum := "3ac3159be40edcab7f56a6abb434f52c29ab43a74df00dbf60c348c98cb9f46e", func := "loop.example/depositary/laws.FnIndexMerge", spec := "fnIndexMerge", recurses := true, apart := false }
def FnIndexMergeSaid : Prop := fnIndexMergeRow.holds Try.pinned (OpenSpec.ofChange fnIndexMergeSpec)

/-- ITS FALSE NEIGHBOUR: 'it returns false'. Refute it at one input. -/
def fnIndexMergeWrong : ChangeSpec := { name := "fnIndexMerge", fn := fun _ => fun
  | [d] => { results := [.lit (.bool false)], args := [d] }
  | _ => none }
def FnIndexMergeWrongFalsely : Prop := fnIndexMergeRow.holds Try.pinned (OpenSpec.ofChange fnIndexMergeWrong)

/-- 'laws.FnExactIndexOf': WHATEVER THE INPUT: true; the input reads as it did. -/
def fnExactIndexOfSpec : ChangeSpec := { name := "fnExactIndexOf", fn := fun _ => fun
  | [d] => { results := [.lit (.bool true)], args := [d] }
  | _ => none }
def fnExactIndexOfRow : OpenClaim := { program := "ytpdbohjgmghgkaa", sum := "3ac3159be40edcab7f56a6abb434f52c29ab43a74df00dbf60c348c98cb9f46e", func := "loop.example/depositary/laws.FnExactIndexOf", spec := "fnExactIndexOf", recurses := true, apart := false }
def FnExactIndexOfSaid : Prop := fnExactIndexOfRow.holds Try.pinned (OpenSpec.ofChange fnExactIndexOfSpec)

/-- ITS FALSE NEIGHBOUR: 'it returns false'. Refute it at one input. -/
def fnExactIndexOfWrong : ChangeSpec := { name := "fnExactIndexOf", fn := fun _ => fun
  | [d] => { results := [.lit (.bool false)], args := [d] }
  | _ => none }
def FnExactIndexOfWrongFalsely : Prop := fnExactIndexOfRow.holds Try.pinned (OpenSpec.ofChange fnExactIndexOfWrong)

/-- 'laws.FnIndexPacks': WHATEVER THE INPUT: true; the input reads as it did. -/
def fnIndexPacksSpec : ChangeSpec := { name := "fnIndexPacks", fn := fun _ => fun
  | [d1, d2] => { results := [.lit (.bool true)], args := [d1, d2] }
  | _ => none }
def fnIndexPacksRow : OpenClaim := { program := "ytpdbohjgmghgkaa", sum := "3ac3159be40edcab7f56a6abb434f52c29ab43a74df00dbf60c348c98cb9f46e", func := "loop.example/depositary/laws.FnIndexPacks", spec := "fnIndexPacks", recurses := true, apart := false }
def FnIndexPacksSaid : Prop := fnIndexPacksRow.holds Try.pinned (OpenSpec.ofChange fnIndexPacksSpec)

/-- ITS FALSE NEIGHBOUR: 'it returns false'. Refute it at one input. -/
def fnIndexPacksWrong : ChangeSpec := { name := "fnIndexPacks", fn := fun _ => fun
  | [d1, d2] => { results := [.lit (.bool false)], args := [d1, d2] }
  | _ => none }
def FnIndexPacksWrongFalsely : Prop := fnIndexPacksRow.holds Try.pinned (OpenSpec.ofChange fnIndexPacksWrong)

/-- 'laws.FnIndexOf': WHATEVER THE INPUT: true; the input reads as it did. -/
def fnIndexOfSpec : ChangeSpec := { name := "fnIndexOf", fn := fun _ => fun
  | [d] => { results := [.lit (.bool true)], args := [d] }
  | _ => none }
def fnIndexOfRow : OpenClaim := { program := "ytpdbohjgmghgkaa", sum := "3ac3159be40edcab7f56a6abb434f52c29ab43a74df00dbf60c348c98cb9f46e", func := "loop.example/depositary/laws.FnIndexOf", spec := "fnIndexOf", recurses := true, apart := false }
def FnIndexOfSaid : Prop := fnIndexOfRow.holds Try.pinned (OpenSpec.ofChange fnIndexOfSpec)

/-- ITS FALSE NEIGHBOUR: 'it returns false'. Refute it at one input. -/
def fnIndexOfWrong : ChangeSpec := { name := "fnIndexOf", fn := fun _ => fun
  | [d] => { results := [.lit (.bool false)], args := [d] }
  | _ => none }
def FnIndexOfWrongFalsely : Prop := fnIndexOfRow.holds Try.pinned (OpenSpec.ofChange fnIndexOfWrong)

/-- 'laws.FnExactStoreMany': WHATEVER THE INPUT: true; the input reads as it did. -/
def fnExactStoreManySpec : ChangeSpec := { name := "fnExactStoreMany", fn := fun _ => fun
  | [d] => { results := [.lit (.bool true)], args := [d] }
  | _ => none }
def fnExactStoreManyRow : OpenClaim := { program := "ytpdbohjgmghgkaa", sum := "3ac3159be40edcab7f56a6abb434f52c29ab43a74df00dbf60c348c98cb9f46e", func := "loop.example/depositary/laws.FnExactStoreMany", spec := "fnExactStoreMany", apart := false }
def FnExactStoreManySaid : Prop := fnExactStoreManyRow.holds Try.pinned (OpenSpec.ofChange fnExactStoreManySpec)

/-- ITS FALSE NEIGHBOUR: 'it returns false'. Refute it at one input. -/
def fnExactStoreManyWrong : ChangeSpec := { name := "fnExactStoreMany", fn := fun _ => fun
  | [d] => { results := [.lit (.bool false)], args := [d] }
  | _ => none }
def FnExactStoreManyWrongFalsely : Prop := fnExactStoreManyRow.holds Try.pinned (OpenSpec.ofChange fnExactStoreManyWrong)

/-- 'laws.FnKeepBound': WHATEVER THE INPUT: true; the input reads as it did. -/
def fnKeepBoundSpec : ChangeSpec := { name := "fnKeepBound", fn := fun _ => fun
  | [d] => { results := [.lit (.bool true)], args := [d] }
  | _ => none }
def fnKeepBoundRow : OpenClaim := { program := "ytpdbohjgmghgkaa", sum := "3ac3159be40edcab7f56a6abb434f52c29ab43a74df00dbf60c348c98cb9f46e", func := "loop.example/depositary/laws.FnKeepBound", spec := "fnKeepBound", unfollowed := true, recurses := true, apart := false }
def FnKeepBoundSaid : Prop := fnKeepBoundRow.holds Try.pinned (OpenSpec.ofChange fnKeepBoundSpec)

/-- ITS FALSE NEIGHBOUR: 'it returns false'. Refute it at one input. -/
def fnKeepBoundWrong : ChangeSpec := { name := "fnKeepBound", fn := fun _ => fun
  | [d] => { results := [.lit (.bool false)], args := [d] }
  | _ => none }
def FnKeepBoundWrongFalsely : Prop := fnKeepBoundRow.holds Try.pinned (OpenSpec.ofChange fnKeepBoundWrong)

/-- 'laws.FnKeepOne': WHATEVER THE INPUT: true; the input reads as it did. -/
def fnKeepOneSpec : ChangeSpec := { name := "fnKeepOne", fn := fun _ => fun
  | [d] => { results := [.lit (.bool true)], args := [d] }
  | _ => none }
def fnKeepOneRow : OpenClaim := { program := "ytpdbohjgmghgkaa", sum := "3ac3159be40edcab7f56a6abb434f52c29ab43a74df00dbf60c348c98cb9f46e", func := "loop.example/depositary/laws.FnKeepOne", spec := "fnKeepOne", unfollowed := true, recurses := true, apart := false }
def FnKeepOneSaid : Prop := fnKeepOneRow.holds Try.pinned (OpenSpec.ofChange fnKeepOneSpec)

/-- ITS FALSE NEIGHBOUR: 'it returns false'. Refute it at one input. -/
def fnKeepOneWrong : ChangeSpec := { name := "fnKeepOne", fn := fun _ => fun
  | [d] => { results := [.lit (.bool false)], args := [d] }
  | _ => none }
def FnKeepOneWrongFalsely : Prop := fnKeepOneRow.holds Try.pinned (OpenSpec.ofChange fnKeepOneWrong)

/-- 'laws.FnKeepAgain': WHATEVER THE INPUT: true; the input reads as it did. -/
def fnKeepAgainSpec : ChangeSpec := { name := "fnKeepAgain", fn := fun _ => fun
  | [d] => { results := [.lit (.bool true)], args := [d] }
  | _ => none }
def fnKeepAgainRow : OpenClaim := { program := "ytpdbohjgmghgkaa", sum := "3ac3159be40edcab7f56a6abb434f52c29ab43a74df00dbf60c348c98cb9f46e", func := "loop.example/depositary/laws.FnKeepAgain", spec := "fnKeepAgain", unfollowed := true, recurses := true, apart := false }
def FnKeepAgainSaid : Prop := fnKeepAgainRow.holds Try.pinned (OpenSpec.ofChange fnKeepAgainSpec)

/-- ITS FALSE NEIGHBOUR: 'it returns false'. Refute it at one input. -/
def fnKeepAgainWrong : ChangeSpec := { name := "fnKeepAgain", fn := fun _ => fun
  | [d] => { results := [.lit (.bool false)], args := [d] }
  | _ => none }
def FnKeepAgainWrongFalsely : Prop := fnKeepAgainRow.holds Try.pinned (OpenSpec.ofChange fnKeepAgainWrong)

/-- 'laws.FnKeepAll': WHATEVER THE INPUT: true; the input reads as it did. -/
def fnKeepAllSpec : ChangeSpec := { name := "fnKeepAll", fn := fun _ => fun
  | [d] => { results := [.lit (.bool true)], args := [d] }
  | _ => none }
def fnKeepAllRow : OpenClaim := { program := "ytpdbohjgmghgkaa", sum := "3ac3159be40edcab7f56a6abb434f52c29ab43a74df00dbf60c348c98cb9f46e", func := "loop.example/depositary/laws.FnKeepAll", spec := "fnKeepAll", unfollowed := true, recurses := true, apart := false }
def FnKeepAllSaid : Prop := fnKeepAllRow.holds Try.pinned (OpenSpec.ofChange fnKeepAllSpec)

/-- ITS FALSE NEIGHBOUR: 'it returns false'. Refute it at one input. -/
def fnKeepAllWrong : ChangeSpec := { name := "fnKeepAll", fn := fun _ => fun
  | [d] => { results := [.lit (.bool false)], args := [d] }
  | _ => none }
def FnKeepAllWrongFalsely : Prop := fnKeepAllRow.holds Try.pinned (OpenSpec.ofChange fnKeepAllWrong)

/-- 'laws.FnKeepNew': WHATEVER THE INPUT: true; the input reads as it did. -/
def fnKeepNewSpec : ChangeSpec := { name := "fnKeepNew", fn := fun _ => fun
  | [d] => { results := [.lit (.bool true)], args := [d] }
  | _ => none }
def fnKeepNewRow : OpenClaim := { program := "ytpdbohjgmghgkaa", sum := "3ac3159be40edcab7f56a6abb434f52c29ab43a74df00dbf60c348c98cb9f46e", func := "loop.example/depositary/laws.FnKeepNew", spec := "fnKeepNew", unfollowed := true, recurses := true, apart := false }
def FnKeepNewSaid : Prop := fnKeepNewRow.holds Try.pinned (OpenSpec.ofChange fnKeepNewSpec)

/-- ITS FALSE NEIGHBOUR: 'it returns false'. Refute it at one input. -/
def fnKeepNewWrong : ChangeSpec := { name := "fnKeepNew", fn := fun _ => fun
  | [d] => { results := [.lit (.bool false)], args := [d] }
  | _ => none }
def FnKeepNewWrongFalsely : Prop := fnKeepNewRow.holds Try.pinned (OpenSpec.ofChange fnKeepNewWrong)

/-- 'laws.FnKeepRule': WHATEVER THE INPUT: true; the input reads as it did. -/
def fnKeepRuleSpec : ChangeSpec := { name := "fnKeepRule", fn := fun _ => fun
  | [d1, d2] => { results := [.lit (.bool true)], args := [d1, d2] }
  | _ => none }
def fnKeepRuleRow : OpenClaim := { program := "ytpdbohjgmghgkaa", sum := "3ac3159be40edcab7f56a6abb434f52c29ab43a74df00dbf60c348c98cb9f46e", func := "loop.example/depositary/laws.FnKeepRule", spec := "fnKeepRule", unfollowed := true, recurses := true, apart := false }
def FnKeepRuleSaid : Prop := fnKeepRuleRow.holds Try.pinned (OpenSpec.ofChange fnKeepRuleSpec)

/-- ITS FALSE NEIGHBOUR: 'it returns false'. Refute it at one input. -/
def fnKeepRuleWrong : ChangeSpec := { name := "fnKeepRule", fn := fun _ => fun
  | [d1, d2] => { results := [.lit (.bool false)], args := [d1, d2] }
  | _ => none }
def FnKeepRuleWrongFalsely : Prop := fnKeepRuleRow.holds Try.pinned (OpenSpec.ofChange fnKeepRuleWrong)

/-- 'laws.FnExactKeepAll': WHATEVER THE INPUT: true; the input reads as it did. -/
def fnExactKeepAllSpec : ChangeSpec := { name := "fnExactKeepAll", fn := fun _ => fun
  | [d1, d2] => { results := [.lit (.bool true)], args := [d1, d2] }
  | _ => none }
def fnExactKeepAllRow : OpenClaim := { program := "ytpdbohjgmghgkaa", sum := "3ac3159be40edcab7f56a6abb434f52c29ab43a74df00dbf60c348c98cb9f46e", func := "loop.example/depositary/laws.FnExactKeepAll", spec := "fnExactKeepAll", unfollowed := true, recurses := true, apart := false }
def FnExactKeepAllSaid : Prop := fnExactKeepAllRow.holds Try.pinned (OpenSpec.ofChange fnExactKeepAllSpec)

/-- ITS FALSE NEIGHBOUR: 'it returns false'. Refute it at one input. -/
def fnExactKeepAllWrong : ChangeSpec := { name := "fnExactKeepAll", fn := fun _ => fun
  | [d1, d2] => { results := [.lit (.bool false)], args := [d1, d2] }
  | _ => none }
def FnExactKeepAllWrongFalsely : Prop := fnExactKeepAllRow.holds Try.pinned (OpenSpec.ofChange fnExactKeepAllWrong)

/-- 'laws.FnKeepGone': WHATEVER THE INPUT: true; the input reads as it did. -/
def fnKeepGoneSpec : ChangeSpec := { name := "fnKeepGone", fn := fun _ => fun
  | [d] => { results := [.lit (.bool true)], args := [d] }
  | _ => none }
def fnKeepGoneRow : OpenClaim := { program := "ytpdbohjgmghgkaa", sum := "3ac3159be40edcab7f56a6abb434f52c29ab43a74df00dbf60c348c98cb9f46e", func := "loop.example/depositary/laws.FnKeepGone", spec := "fnKeepGone", unfollowed := true, recurses := true, apart := false }
def FnKeepGoneSaid : Prop := fnKeepGoneRow.holds Try.pinned (OpenSpec.ofChange fnKeepGoneSpec)

/-- ITS FALSE NEIGHBOUR: 'it returns false'. Refute it at one input. -/
def fnKeepGoneWrong : ChangeSpec := { name := "fnKeepGone", fn := fun _ => fun
  | [d] => { results := [.lit (.bool false)], args := [d] }
  | _ => none }
def FnKeepGoneWrongFalsely : Prop := fnKeepGoneRow.holds Try.pinned (OpenSpec.ofChange fnKeepGoneWrong)

/-- 'laws.FnExactKeepGone': WHATEVER THE INPUT: true; the input reads as it did. -/
def fnExactKeepGoneSpec : ChangeSpec := { name := "fnExactKeepGone", fn := fun _ => fun
  | [d1, d2] => { results := [.lit (.bool true)], args := [d1, d2] }
  | _ => none }
def fnExactKeepGoneRow : OpenClaim := { program := "ytpdbohjgmghgkaa", sum := "3ac3159be40edcab7f56a6abb434f52c29ab43a74df00dbf60c348c98cb9f46e", func := "loop.example/depositary/laws.FnExactKeepGone", spec := "fnExactKeepGone", unfollowed := true, recurses := true, apart := false }
def FnExactKeepGoneSaid : Prop := fnExactKeepGoneRow.holds Try.pinned (OpenSpec.ofChange fnExactKeepGoneSpec)

/-- ITS FALSE NEIGHBOUR: 'it returns false'. Refute it at one input. -/
def fnExactKeepGoneWrong : ChangeSpec := { name := "fnExactKeepGone", fn := fun _ => fun
  | [d1, d2] => { results := [.lit (.bool false)], args := [d1, d2] }
  | _ => none }
def FnExactKeepGoneWrongFalsely : Prop := fnExactKeepGoneRow.holds Try.pinned (OpenSpec.ofChange fnExactKeepGoneWrong)

/- THE SECOND FORM. 'bulk': how many values and letters a reading holds, each counted each time it is reached (what is shared counts as often as it is met; a slice's spare places count too). A statement '..UptoSaid' is the law's where the arguments, and the package variables that the reading takes, are together of bulk at most 1048576: NARROWER than '..Said'. Prove '..Said' where nothing that the law and all that it calls make is longer than what came in: it says more and counts as full. Else prove '..UptoSaid'. A law counts once. -/
mutual
def uptoBulk {H : Type} : DataW H → Nat
  | .lit (.string bytes) => bytes.length + 1
  | .lit _ => 1
  | .nil => 1
  | .ptr d => uptoBulk d + 1
  | .slice elems spare => uptoBulkAll elems + uptoBulkAll spare + 1
  | .agg parts => uptoBulkAll parts + 1
  | .iface _ d => uptoBulk d + 1
  | .map entries => uptoBulkEntries entries + 1
  | .held _ => 1
def uptoBulkAll {H : Type} : List (DataW H) → Nat
  | [] => 0
  | d :: r => uptoBulk d + uptoBulkAll r
def uptoBulkEntries {H : Type} : List (Lit × DataW H) → Nat
  | [] => 0
  | x :: r => uptoBulkEntry x + uptoBulkEntries r
def uptoBulkEntry {H : Type} : Lit × DataW H → Nat
  | (.string bytes, d) => bytes.length + uptoBulk d + 1
  | (_, d) => uptoBulk d + 1
 end
def uptoSmall : (H : Type) → List (DataW H) → Bool := fun _ ds => decide (uptoBulkAll ds ≤ 1048576)
def OpenSpec.upto (s : _root_.Go.ChangeSpec) : _root_.Go.OpenSpec := { _root_.Go.OpenSpec.ofChange s with cond := some uptoSmall }

/-- 'laws.FnExactIndexMerge', WHERE WHAT IT READS IS OF BULK AT MOST 1048576: true; the input reads as it did. -/
def fnExactIndexMergeUptoRow : OpenClaim := { program := "ytpdbohjgmghgkaa", sum := "3ac3159be40edcab7f56a6abb434f52c29ab43a74df00dbf60c348c98cb9f46e", func := "loop.example/depositary/laws.FnExactIndexMerge", spec := "fnExactIndexMerge", recurses := true, apart := false, narrowed := true }
def FnExactIndexMergeUptoSaid : Prop := fnExactIndexMergeUptoRow.holds Try.pinned (OpenSpec.upto fnExactIndexMergeSpec)

/-- 'laws.FnIndexMerge', WHERE WHAT IT READS IS OF BULK AT MOST 1048576: true; the input reads as it did. -/
def fnIndexMergeUptoRow : OpenClaim := { program := "ytpdbohjgmghgkaa", sum := "3ac3159be40edcab7f56a6abb434f52c29ab43a74df00dbf60c348c98cb9f46e", func := "loop.example/depositary/laws.FnIndexMerge", spec := "fnIndexMerge", recurses := true, apart := false, narrowed := true }
def FnIndexMergeUptoSaid : Prop := fnIndexMergeUptoRow.holds Try.pinned (OpenSpec.upto fnIndexMergeSpec)

/-- 'laws.FnExactIndexOf', WHERE WHAT IT READS IS OF BULK AT MOST 1048576: true; the input reads as it did. -/
def fnExactIndexOfUptoRow : OpenClaim := { program := "ytpdbohjgmghgkaa", sum := "3ac3159be40edcab7f56a6abb434f52c29ab43a74df00dbf60c348c98cb9f46e", func := "loop.example/depositary/laws.FnExactIndexOf", spec := "fnExactIndexOf", recurses := true, apart := false, narrowed := true }
def FnExactIndexOfUptoSaid : Prop := fnExactIndexOfUptoRow.holds Try.pinned (OpenSpec.upto fnExactIndexOfSpec)

/-- 'laws.FnIndexPacks', WHERE WHAT IT READS IS OF BULK AT MOST 1048576: true; the input reads as it did. -/
def fnIndexPacksUptoRow : OpenClaim := { program := "ytpdbohjgmghgkaa", sum := "3ac3159be40edcab7f56a6abb434f52c29ab43a74df00dbf60c348c98cb9f46e", func := "loop.example/depositary/laws.FnIndexPacks", spec := "fnIndexPacks", recurses := true, apart := false, narrowed := true }
def FnIndexPacksUptoSaid : Prop := fnIndexPacksUptoRow.holds Try.pinned (OpenSpec.upto fnIndexPacksSpec)

/-- 'laws.FnIndexOf', WHERE WHAT IT READS IS OF BULK AT MOST 1048576: true; the input reads as it did. -/
def fnIndexOfUptoRow : OpenClaim := { program := "ytpdbohjgmghgkaa", sum := "3ac3159be40edcab7f56a6abb434f52c29ab43a74df00dbf60c348c98cb9f46e", func := "loop.example/depositary/laws.FnIndexOf", spec := "fnIndexOf", recurses := true, apart := false, narrowed := true }
def FnIndexOfUptoSaid : Prop := fnIndexOfUptoRow.holds Try.pinned (OpenSpec.upto fnIndexOfSpec)

/-- 'laws.FnExactStoreMany', WHERE WHAT IT READS IS OF BULK AT MOST 1048576: true; the input reads as it did. -/
def fnExactStoreManyUptoRow : OpenClaim := { program := "ytpdbohjgmghgkaa", sum := "3ac3159be40edcab7f56a6abb434f52c29ab43a74df00dbf60c348c98cb9f46e", func := "loop.example/depositary/laws.FnExactStoreMany", spec := "fnExactStoreMany", apart := false, narrowed := true }
def FnExactStoreManyUptoSaid : Prop := fnExactStoreManyUptoRow.holds Try.pinned (OpenSpec.upto fnExactStoreManySpec)

/-- 'laws.FnKeepBound', WHERE WHAT IT READS IS OF BULK AT MOST 1048576: true; the input reads as it did. -/
def fnKeepBoundUptoRow : OpenClaim := { program := "ytpdbohjgmghgkaa", sum := "3ac3159be40edcab7f56a6abb434f52c29ab43a74df00dbf60c348c98cb9f46e", func := "loop.example/depositary/laws.FnKeepBound", spec := "fnKeepBound", unfollowed := true, recurses := true, apart := false, narrowed := true }
def FnKeepBoundUptoSaid : Prop := fnKeepBoundUptoRow.holds Try.pinned (OpenSpec.upto fnKeepBoundSpec)

/-- 'laws.FnKeepOne', WHERE WHAT IT READS IS OF BULK AT MOST 1048576: true; the input reads as it did. -/
def fnKeepOneUptoRow : OpenClaim := { program := "ytpdbohjgmghgkaa", sum := "3ac3159be40edcab7f56a6abb434f52c29ab43a74df00dbf60c348c98cb9f46e", func := "loop.example/depositary/laws.FnKeepOne", spec := "fnKeepOne", unfollowed := true, recurses := true, apart := false, narrowed := true }
def FnKeepOneUptoSaid : Prop := fnKeepOneUptoRow.holds Try.pinned (OpenSpec.upto fnKeepOneSpec)

/-- 'laws.FnKeepAgain', WHERE WHAT IT READS IS OF BULK AT MOST 1048576: true; the input reads as it did. -/
def fnKeepAgainUptoRow : OpenClaim := { program := "ytpdbohjgmghgkaa", sum := "3ac3159be40edcab7f56a6abb434f52c29ab43a74df00dbf60c348c98cb9f46e", func := "loop.example/depositary/laws.FnKeepAgain", spec := "fnKeepAgain", unfollowed := true, recurses := true, apart := false, narrowed := true }
def FnKeepAgainUptoSaid : Prop := fnKeepAgainUptoRow.holds Try.pinned (OpenSpec.upto fnKeepAgainSpec)

/-- 'laws.FnKeepAll', WHERE WHAT IT READS IS OF BULK AT MOST 1048576: true; the input reads as it did. -/
def fnKeepAllUptoRow : OpenClaim := { program := "ytpdbohjgmghgkaa", sum := "3ac3159be40edcab7f56a6abb434f52c29ab43a74df00dbf60c348c98cb9f46e", func := "loop.example/depositary/laws.FnKeepAll", spec := "fnKeepAll", unfollowed := true, recurses := true, apart := false, narrowed := true }
def FnKeepAllUptoSaid : Prop := fnKeepAllUptoRow.holds Try.pinned (OpenSpec.upto fnKeepAllSpec)

/-- 'laws.FnKeepNew', WHERE WHAT IT READS IS OF BULK AT MOST 1048576: true; the input reads as it did. -/
def fnKeepNewUptoRow : OpenClaim := { program := "ytpdbohjgmghgkaa", sum := "3ac3159be40edcab7f56a6abb434f52c29ab43a74df00dbf60c348c98cb9f46e", func := "loop.example/depositary/laws.FnKeepNew", spec := "fnKeepNew", unfollowed := true, recurses := true, apart := false, narrowed := true }
def FnKeepNewUptoSaid : Prop := fnKeepNewUptoRow.holds Try.pinned (OpenSpec.upto fnKeepNewSpec)

/-- 'laws.FnKeepRule', WHERE WHAT IT READS IS OF BULK AT MOST 1048576: true; the input reads as it did. -/
def fnKeepRuleUptoRow : OpenClaim := { program := "ytpdbohjgmghgkaa", sum := "3ac3159be40edcab7f56a6abb434f52c29ab43a74df00dbf60c348c98cb9f46e", func := "loop.example/depositary/laws.FnKeepRule", spec := "fnKeepRule", unfollowed := true, recurses := true, apart := false, narrowed := true }
def FnKeepRuleUptoSaid : Prop := fnKeepRuleUptoRow.holds Try.pinned (OpenSpec.upto fnKeepRuleSpec)

/-- 'laws.FnExactKeepAll', WHERE WHAT IT READS IS OF BULK AT MOST 1048576: true; the input reads as it did. -/
def fnExactKeepAllUptoRow : OpenClaim := { program := "ytpdbohjgmghgkaa", sum := "3ac3159be40edcab7f56a6abb434f52c29ab43a74df00dbf60c348c98cb9f46e", func := "loop.example/depositary/laws.FnExactKeepAll", spec := "fnExactKeepAll", unfollowed := true, recurses := true, apart := false, narrowed := true }
def FnExactKeepAllUptoSaid : Prop := fnExactKeepAllUptoRow.holds Try.pinned (OpenSpec.upto fnExactKeepAllSpec)

/-- 'laws.FnKeepGone', WHERE WHAT IT READS IS OF BULK AT MOST 1048576: true; the input reads as it did. -/
def fnKeepGoneUptoRow : OpenClaim := { program := "ytpdbohjgmghgkaa", sum := "3ac3159be40edcab7f56a6abb434f52c29ab43a74df00dbf60c348c98cb9f46e", func := "loop.example/depositary/laws.FnKeepGone", spec := "fnKeepGone", unfollowed := true, recurses := true, apart := false, narrowed := true }
def FnKeepGoneUptoSaid : Prop := fnKeepGoneUptoRow.holds Try.pinned (OpenSpec.upto fnKeepGoneSpec)

/-- 'laws.FnExactKeepGone', WHERE WHAT IT READS IS OF BULK AT MOST 1048576: true; the input reads as it did. -/
def fnExactKeepGoneUptoRow : OpenClaim := { program := "ytpdbohjgmghgkaa", sum := "3ac3159be40edcab7f56a6abb434f52c29ab43a74df00dbf60c348c98cb9f46e", func := "loop.example/depositary/laws.FnExactKeepGone", spec := "fnExactKeepGone", unfollowed := true, recurses := true, apart := false, narrowed := true }
def FnExactKeepGoneUptoSaid : Prop := fnExactKeepGoneUptoRow.holds Try.pinned (OpenSpec.upto fnExactKeepGoneSpec)

end Rows
end Go.Proofs.Ytpdbohjgmghgkaa
