/-
  No cell of these rows narrows 'for every input' (looked for: loops, veiled, ifaces, maps, wideKeys, modest, calm, conditions, laid).
  DERIVED. THE GIVEN ROWS OF THIS SEAT. 10 by the template 'for every input the law returns true; each argument reads behind the call as it read before'; 0 by the template 'total and deterministic' (their statements: YtbaofalpfmfloaaTotals.lean).
  GIVEN WITH THE SEED: the statements are not yours to turn. If you find one false, say at which input.
  Laid BY PROGRAM, IN A SANDBOX (cutbox-rows.mjs): the forced cells as the released guide's own fill.sh prints them over the translation 1014bfc522a6229d… (all of the seat's roots in one cut). By AI agents, Wed Nov 11 2026. No macro, syntax, notation, axiom, sorry.
-/
import Derived.Test.YtbaofalpfmfloaaChecked
import GoSem.Claim
import GoSem.ClaimJoined
import GoSem.ClaimMapViews
import Derived.JoinedTies
import Derived.KernelRfl
namespace Go.Proofs.Ytbaofalpfmfloaa
/- THE CELL 'sum', in the pinned program and in every row, IS THE sha256 OF THE DUMP (.gsa) THAT YtbaofalpfmfloaaProg.lean LOADS. Nothing in Lean hashes anything: it is a label: what it is worth is what the hold of that sum in a sandbox is worth. -/
noncomputable def Try.pinned : Pinned := { name := "ytbaofalpfmfloaa", sum := "1014bfc522a6229dee01841d58cf8aee365e63acb207bf20eab07aec635f9e54", checked := Try.checked }
namespace Rows
def none {H : Type} : Left H := { results := [], args := [] }

/-- 'laws.FnExactIndexMerge': WHATEVER THE INPUT: true; the input reads as it did. -/
def fnExactIndexMergeSpec : ChangeSpec := { name := "fnExactIndexMerge", fn := fun _ => fun
  | [d1, d2] => { results := [.lit (.bool true)], args := [d1, d2] }
  | _ => none }
def fnExactIndexMergeRow : OpenClaim := { program := "ytbaofalpfmfloaa", sum := "1014bfc522a6229dee01841d58cf8aee365e63acb207bf20eab07aec635f9e54", func := "loop.example/depositary/laws.FnExactIndexMerge", spec := "fnExactIndexMerge", recurses := true, apart := false }
def FnExactIndexMergeSaid : Prop := fnExactIndexMergeRow.holds Try.pinned (OpenSpec.ofChange fnExactIndexMergeSpec)

/-- ITS FALSE NEIGHBOUR: 'it returns false'. Refute it at one input. -/
def fnExactIndexMergeWrong : ChangeSpec := { name := "fnExactIndexMerge", fn := fun _ => fun
  | [d1, d2] => { results := [.lit (.bool false)], args := [d1, d2] }
  | _ => none }
def FnExactIndexMergeWrongFalsely : Prop := fnExactIndexMergeRow.holds Try.pinned (OpenSpec.ofChange fnExactIndexMergeWrong)

/-- 'laws.FnIndexMerge': WHATEVER THE INPUT: true; the input reads as it did. -/
def fnIndexMergeSpec : ChangeSpec := { name := "fnIndexMerge", fn := fun _ => fun
  | [d] => { results := [.lit (.bool true)], args := [d] }
  | _ => none }
def fnIndexMergeRow : OpenClaim := { program := "ytbaofalpfmfloaa", sum := "1014bfc522a6229dee01841d58cf8aee365e63acb207bf20eab07aec635f9e54", func := "loop.example/depositary/laws.FnIndexMerge", spec := "fnIndexMerge", recurses := true, apart := false }
def FnIndexMergeSaid : Prop := fnIndexMergeRow.holds Try.pinned (OpenSpec.ofChange fnIndexMergeSpec)

/-- ITS FALSE NEIGHBOUR: 'it returns false'. Refute it at one input. -/
def fnIndexMergeWrong : ChangeSpec := { name := "fnIndexMerge", fn := fun _ => fun
  | [d] => { results := [.lit (.bool false)], args := [d] }
  | _ => none }
def FnIndexMergeWrongFalsely : Prop := fnIndexMergeRow.holds Try.pinned (OpenSpec.ofChange fnIndexMergeWrong)

/-- 'laws.FnExactIndexOf': WHATEVER THE INPUT: true; the input reads as it did. -/
def fnExactIndexOfSpec : ChangeSpec := { name := "fnExactIndexOf", fn := fun _ => fun
  | [d] => { results := [.lit (.bool true)], args := [d] }
  | _ => none }
def fnExactIndexOfRow : OpenClaim := { program := "ytbaofalpfmfloaa", sum := "1014bfc522a6229dee01841d58cf8aee365e63acb207bf20eab07aec635f9e54", func := "loop.example/depositary/laws.FnExactIndexOf", spec := "fnExactIndexOf", recurses := true, apart := false }
def FnExactIndexOfSaid : Prop := fnExactIndexOfRow.holds Try.pinned (OpenSpec.ofChange fnExactIndexOfSpec)

/-- ITS FALSE NEIGHBOUR: 'it returns false'. Refute it at one input. -/
def fnExactIndexOfWrong : ChangeSpec := { name := "fnExactIndexOf", fn := fun _ => fun
  | [d] => { results := [.lit (.bool false)], args := [d] }
  | _ => none }
def FnExactIndexOfWrongFalsely : Prop := fnExactIndexOfRow.holds Try.pinned (OpenSpec.ofChange fnExactIndexOfWrong)

/-- 'laws.FnIndexPacks': WHATEVER THE INPUT: true; the input reads as it did. -/
def fnIndexPacksSpec : ChangeSpec := { name := "fnIndexPacks", fn := fun _ => fun
  | [d1, d2] => { results := [.lit (.bool true)], args := [d1, d2] }
  | _ => none }
def fnIndexPacksRow : OpenClaim := { program := "ytbaofalpfmfloaa", sum := "1014bfc522a6229dee01841d58cf8aee365e63acb207bf20eab07aec635f9e54", func := "loop.example/depositary/laws.FnIndexPacks", spec := "fnIndexPacks", recurses := true, apart := false }
def FnIndexPacksSaid : Prop := fnIndexPacksRow.holds Try.pinned (OpenSpec.ofChange fnIndexPacksSpec)

/-- ITS FALSE NEIGHBOUR: 'it returns false'. Refute it at one input. -/
def fnIndexPacksWrong : ChangeSpec := { name := "fnIndexPacks", fn := fun _ => fun
  | [d1, d2] => { results := [.lit (.bool false)], args := [d1, d2] }
  | _ => none }
def FnIndexPacksWrongFalsely : Prop := fnIndexPacksRow.holds Try.pinned (OpenSpec.ofChange fnIndexPacksWrong)

/-- 'laws.FnIndexOf': WHATEVER THE INPUT: true; the input reads as it did. -/
def fnIndexOfSpec : ChangeSpec := { name := "fnIndexOf", fn := fun _ => fun
  | [d] => { results := [.lit (.bool true)], args := [d] }
  | _ => none }
def fnIndexOfRow : OpenClaim := { program := "ytbaofalpfmfloaa", sum := "1014bfc522a6229dee01841d58cf8aee365e63acb207bf20eab07aec635f9e54", func := "loop.example/depositary/laws.FnIndexOf", spec := "fnIndexOf", recurses := true, apart := false }
def FnIndexOfSaid : Prop := fnIndexOfRow.holds Try.pinned (OpenSpec.ofChange fnIndexOfSpec)

/-- ITS FALSE NEIGHBOUR: 'it returns false'. Refute it at one input. -/
def fnIndexOfWrong : ChangeSpec := { name := "fnIndexOf", fn := fun _ => fun
  | [d] => { results := [.lit (.bool false)], args := [d] }
  | _ => none }
def FnIndexOfWrongFalsely : Prop := fnIndexOfRow.holds Try.pinned (OpenSpec.ofChange fnIndexOfWrong)

/-- 'laws.FnExactStoreMany': WHATEVER THE INPUT: true; the input reads as it did. -/
def fnExactStoreManySpec : ChangeSpec := { name := "fnExactStoreMany", fn := fun _ => fun
  | [d] => { results := [.lit (.bool true)], args := [d] }
  | _ => none }
def fnExactStoreManyRow : OpenClaim := { program := "ytbaofalpfmfloaa", sum := "1014bfc522a6229dee01841d58cf8aee365e63acb207bf20eab07aec635f9e54", func := "loop.example/depositary/laws.FnExactStoreMany", spec := "fnExactStoreMany", apart := false }
def FnExactStoreManySaid : Prop := fnExactStoreManyRow.holds Try.pinned (OpenSpec.ofChange fnExactStoreManySpec)

/-- ITS FALSE NEIGHBOUR: 'it returns false'. Refute it at one input. -/
def fnExactStoreManyWrong : ChangeSpec := { name := "fnExactStoreMany", fn := fun _ => fun
  | [d] => { results := [.lit (.bool false)], args := [d] }
  | _ => none }
def FnExactStoreManyWrongFalsely : Prop := fnExactStoreManyRow.holds Try.pinned (OpenSpec.ofChange fnExactStoreManyWrong)

/-- 'laws.FnExactSampleDraw': WHATEVER THE INPUT: true; the input reads as it did. -/
def fnExactSampleDrawSpec : ChangeSpec := { name := "fnExactSampleDraw", fn := fun _ => fun
  | [d1, d2, d3] => { results := [.lit (.bool true)], args := [d1, d2, d3] }
  | _ => none }
def fnExactSampleDrawRow : OpenClaim := { program := "ytbaofalpfmfloaa", sum := "1014bfc522a6229dee01841d58cf8aee365e63acb207bf20eab07aec635f9e54", func := "loop.example/depositary/laws.FnExactSampleDraw", spec := "fnExactSampleDraw", recurses := true, apart := false }
def FnExactSampleDrawSaid : Prop := fnExactSampleDrawRow.holds Try.pinned (OpenSpec.ofChange fnExactSampleDrawSpec)

/-- ITS FALSE NEIGHBOUR: 'it returns false'. Refute it at one input. -/
def fnExactSampleDrawWrong : ChangeSpec := { name := "fnExactSampleDraw", fn := fun _ => fun
  | [d1, d2, d3] => { results := [.lit (.bool false)], args := [d1, d2, d3] }
  | _ => none }
def FnExactSampleDrawWrongFalsely : Prop := fnExactSampleDrawRow.holds Try.pinned (OpenSpec.ofChange fnExactSampleDrawWrong)

/-- 'laws.FnSampleDraw': WHATEVER THE INPUT: true; the input reads as it did. -/
def fnSampleDrawSpec : ChangeSpec := { name := "fnSampleDraw", fn := fun _ => fun
  | [d] => { results := [.lit (.bool true)], args := [d] }
  | _ => none }
def fnSampleDrawRow : OpenClaim := { program := "ytbaofalpfmfloaa", sum := "1014bfc522a6229dee01841d58cf8aee365e63acb207bf20eab07aec635f9e54", func := "loop.example/depositary/laws.FnSampleDraw", spec := "fnSampleDraw", recurses := true, apart := false }
def FnSampleDrawSaid : Prop := fnSampleDrawRow.holds Try.pinned (OpenSpec.ofChange fnSampleDrawSpec)

/-- ITS FALSE NEIGHBOUR: 'it returns false'. Refute it at one input. -/
def fnSampleDrawWrong : ChangeSpec := { name := "fnSampleDraw", fn := fun _ => fun
  | [d] => { results := [.lit (.bool false)], args := [d] }
  | _ => none }
def FnSampleDrawWrongFalsely : Prop := fnSampleDrawRow.holds Try.pinned (OpenSpec.ofChange fnSampleDrawWrong)

/-- 'laws.FnSampleMore': WHATEVER THE INPUT: true; the input reads as it did. -/
def fnSampleMoreSpec : ChangeSpec := { name := "fnSampleMore", fn := fun _ => fun
  | [d] => { results := [.lit (.bool true)], args := [d] }
  | _ => none }
def fnSampleMoreRow : OpenClaim := { program := "ytbaofalpfmfloaa", sum := "1014bfc522a6229dee01841d58cf8aee365e63acb207bf20eab07aec635f9e54", func := "loop.example/depositary/laws.FnSampleMore", spec := "fnSampleMore", recurses := true, apart := false }
def FnSampleMoreSaid : Prop := fnSampleMoreRow.holds Try.pinned (OpenSpec.ofChange fnSampleMoreSpec)

/-- ITS FALSE NEIGHBOUR: 'it returns false'. Refute it at one input. -/
def fnSampleMoreWrong : ChangeSpec := { name := "fnSampleMore", fn := fun _ => fun
  | [d] => { results := [.lit (.bool false)], args := [d] }
  | _ => none }
def FnSampleMoreWrongFalsely : Prop := fnSampleMoreRow.holds Try.pinned (OpenSpec.ofChange fnSampleMoreWrong)

/-- 'laws.FnSampleSure': WHATEVER THE INPUT: true; the input reads as it did. -/
def fnSampleSureSpec : ChangeSpec := { name := "fnSampleSure", fn := fun _ => fun
  | [d1, d2] => { results := [.lit (.bool true)], args := [d1, d2] }
  | _ => none }
def fnSampleSureRow : OpenClaim := { program := "ytbaofalpfmfloaa", sum := "1014bfc522a6229dee01841d58cf8aee365e63acb207bf20eab07aec635f9e54", func := "loop.example/depositary/laws.FnSampleSure", spec := "fnSampleSure", unfollowed := true, recurses := true, apart := false }
def FnSampleSureSaid : Prop := fnSampleSureRow.holds Try.pinned (OpenSpec.ofChange fnSampleSureSpec)

/-- ITS FALSE NEIGHBOUR: 'it returns false'. Refute it at one input. -/
def fnSampleSureWrong : ChangeSpec := { name := "fnSampleSure", fn := fun _ => fun
  | [d1, d2] => { results := [.lit (.bool false)], args := [d1, d2] }
  | _ => none }
def FnSampleSureWrongFalsely : Prop := fnSampleSureRow.holds Try.pinned (OpenSpec.ofChange fnSampleSureWrong)

/- THE SECOND FORM. 'bulk': how many values and letters a reading holds, each counted each time it is reached (what is shared counts as often as it is met; a slice's spare places count too). A statement '..UptoSaid' is the law's where the arguments, and the package variables that the reading takes, are together of bulk at most 1048576: NARROWER than '..Said'. Prove '..Said' where nothing that the law and all that it calls make is longer than what came in: it says more and counts as full. Else prove '..UptoSaid'. A law counts once. -/
mutual
def uptoBulk {H : Type} : DataW H → Nat
  | .lit (.string bytes) => bytes.length + 1
  | .lit _ => 1
  | .nil => 1
  | .ptr d => uptoBulk d + 1
  | .slice elems spare => uptoBulkAll elems + uptoBulkAll spare + 1
  | .agg parts => uptoBulkAll parts + 1
  | .iface _ d => uptoBulk d + 1
  | .map entries => uptoBulkEntries entries + 1
  | .held _ => 1
def uptoBulkAll {H : Type} : List (DataW H) → Nat
  | [] => 0
  | d :: r => uptoBulk d + uptoBulkAll r
def uptoBulkEntries {H : Type} : List (Lit × DataW H) → Nat
  | [] => 0
  | x :: r => uptoBulkEntry x + uptoBulkEntries r
def uptoBulkEntry {H : Type} : Lit × DataW H → Nat
  | (.string bytes, d) => bytes.length + uptoBulk d + 1
  | (_, d) => uptoBulk d + 1
 end
def uptoSmall : (H : Type) → List (DataW H) → Bool := fun _ ds => decide (uptoBulkAll ds ≤ 1048576)
def OpenSpec.upto (s : _root_.Go.ChangeSpec) : _root_.Go.OpenSpec := { _root_.Go.OpenSpec.ofChange s with cond := some uptoSmall }

/-- 'laws.FnExactIndexMerge', WHERE WHAT IT READS IS OF BULK AT MOST 1048576: true; the input reads as it did. -/
def fnExactIndexMergeUptoRow : OpenClaim := { program := "ytbaofalpfmfloaa", sum := "1014bfc522a6229dee01841d58cf8aee365e63acb207bf20eab07aec635f9e54", func := "loop.example/depositary/laws.FnExactIndexMerge", spec := "fnExactIndexMerge", recurses := true, apart := false, narrowed := true }
def FnExactIndexMergeUptoSaid : Prop := fnExactIndexMergeUptoRow.holds Try.pinned (OpenSpec.upto fnExactIndexMergeSpec)

/-- 'laws.FnIndexMerge', WHERE WHAT IT READS IS OF BULK AT MOST 1048576: true; the input reads as it did. -/
def fnIndexMergeUptoRow : OpenClaim := { program := "ytbaofalpfmfloaa", sum := "1014bfc522a6229dee01841d58cf8aee365e63acb207bf20eab07aec635f9e54", func := "loop.example/depositary/laws.FnIndexMerge", spec := "fnIndexMerge", recurses := true, apart := false, narrowed := true }
def FnIndexMergeUptoSaid : Prop := fnIndexMergeUptoRow.holds Try.pinned (OpenSpec.upto fnIndexMergeSpec)

/-- 'laws.FnExactIndexOf', WHERE WHAT IT READS IS OF BULK AT MOST 1048576: true; the input reads as it did. -/
def fnExactIndexOfUptoRow : OpenClaim := { program := "ytbaofalpfmfloaa", sum := "1014bfc522a6229dee01841d58cf8aee365e63acb207bf20eab07aec635f9e54", func := "loop.example/depositary/laws.FnExactIndexOf", spec := "fnExactIndexOf", recurses := true, apart := false, narrowed := true }
def FnExactIndexOfUptoSaid : Prop := fnExactIndexOfUptoRow.holds Try.pinned (OpenSpec.upto fnExactIndexOfSpec)

/-- 'laws.FnIndexPacks', WHERE WHAT IT READS IS OF BULK AT MOST 1048576: true; the input reads as it did. -/
def fnIndexPacksUptoRow : OpenClaim := { program := "ytbaofalpfmfloaa", sum := "1014bfc522a6229dee01841d58cf8aee365e63acb207bf20eab07aec635f9e54", func := "loop.example/depositary/laws.FnIndexPacks", spec := "fnIndexPacks", recurses := true, apart := false, narrowed := true }
def FnIndexPacksUptoSaid : Prop := fnIndexPacksUptoRow.holds Try.pinned (OpenSpec.upto fnIndexPacksSpec)

/-- 'laws.FnIndexOf', WHERE WHAT IT READS IS OF BULK AT MOST 1048576: true; the input reads as it did. -/
def fnIndexOfUptoRow : OpenClaim := { program := "ytbaofalpfmfloaa", sum := "1014bfc522a6229dee01841d58cf8aee365e63acb207bf20eab07aec635f9e54", func := "loop.example/depositary/laws.FnIndexOf", spec := "fnIndexOf", recurses := true, apart := false, narrowed := true }
def FnIndexOfUptoSaid : Prop := fnIndexOfUptoRow.holds Try.pinned (OpenSpec.upto fnIndexOfSpec)

/-- 'laws.FnExactStoreMany', WHERE WHAT IT READS IS OF BULK AT MOST 1048576: true; the input reads as it did. -/
def fnExactStoreManyUptoRow : OpenClaim := { program := "ytbaofalpfmfloaa", sum := "1014bfc522a6229dee01841d58cf8aee365e63acb207bf20eab07aec635f9e54", func := "loop.example/depositary/laws.FnExactStoreMany", spec := "fnExactStoreMany", apart := false, narrowed := true }
def FnExactStoreManyUptoSaid : Prop := fnExactStoreManyUptoRow.holds Try.pinned (OpenSpec.upto fnExactStoreManySpec)

/-- 'laws.FnExactSampleDraw', WHERE WHAT IT READS IS OF BULK AT MOST 1048576: true; the input reads as it did. -/
def fnExactSampleDrawUptoRow : OpenClaim := { program := "ytbaofalpfmfloaa", sum := "1014bfc522a6229dee01841d58cf8aee365e63acb207bf20eab07aec635f9e54", func := "loop.example/depositary/laws.FnExactSampleDraw", spec := "fnExactSampleDraw", recurses := true, apart := false, narrowed := true }
def FnExactSampleDrawUptoSaid : Prop := fnExactSampleDrawUptoRow.holds Try.pinned (OpenSpec.upto fnExactSampleDrawSpec)

/-- 'laws.FnSampleDraw', WHERE WHAT IT READS IS OF BULK AT MOST 1048576: true; the input reads as it did. -/
def fnSampleDrawUptoRow : OpenClaim := { program := "ytbaofalpfmfloaa", sum := "1014bfc522a6229dee01841d58cf8aee365e63acb207bf20eab07aec635f9e54", func := "loop.example/depositary/laws.FnSampleDraw", spec := "fnSampleDraw", recurses := true, apart := false, narrowed := true }
def FnSampleDrawUptoSaid : Prop := fnSampleDrawUptoRow.holds Try.pinned (OpenSpec.upto fnSampleDrawSpec)

/-- 'laws.FnSampleMore', WHERE WHAT IT READS IS OF BULK AT MOST 1048576: true; the input reads as it did. -/
def fnSampleMoreUptoRow : OpenClaim := { program := "ytbaofalpfmfloaa", sum := "1014bfc522a6229dee01841d58cf8aee365e63acb207bf20eab07aec635f9e54", func := "loop.example/depositary/laws.FnSampleMore", spec := "fnSampleMore", recurses := true, apart := false, narrowed := true }
def FnSampleMoreUptoSaid : Prop := fnSampleMoreUptoRow.holds Try.pinned (OpenSpec.upto fnSampleMoreSpec)

/-- 'laws.FnSampleSure', WHERE WHAT IT READS IS OF BULK AT MOST 1048576: true; the input reads as it did. -/
def fnSampleSureUptoRow : OpenClaim := { program := "ytbaofalpfmfloaa", sum := "1014bfc522a6229dee01841d58cf8aee365e63acb207bf20eab07aec635f9e54", func := "loop.example/depositary/laws.FnSampleSure", spec := "fnSampleSure", unfollowed := true, recurses := true, apart := false, narrowed := true }
def FnSampleSureUptoSaid : Prop := fnSampleSureUptoRow.holds Try.pinned (OpenSpec.upto fnSampleSureSpec)

end Rows
end Go.Proofs.Ytbaofalpfmfloaa
