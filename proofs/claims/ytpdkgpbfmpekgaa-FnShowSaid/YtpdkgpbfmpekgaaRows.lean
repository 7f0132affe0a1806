/-
  No cell of these rows narrows 'for every input' (looked for: loops, veiled, ifaces, maps, wideKeys, modest, calm, conditions, laid).
  DERIVED. THE GIVEN ROWS OF THIS SEAT. 2 by the template 'for every input the law returns true; each argument reads behind the call as it read before'; 0 by the template 'total and deterministic' (their statements: YtpdkgpbfmpekgaaTotals.lean).
  GIVEN WITH THE SEED: the statements are not yours to turn. If you find one false, say at which input.
  Laid BY PROGRAM, IN A SANDBOX (cutbox-rows.mjs): the forced cells as the released guide's own fill.sh prints them over the translation 2ba45dd14653a24d… (all of the seat's roots in one cut). By AI agents, Wed Nov 11 2026. No macro, syntax, notation, axiom, sorry.
-/
import Derived.Test.YtpdkgpbfmpekgaaChecked
import GoSem.Claim
import GoSem.ClaimJoined
import GoSem.ClaimMapViews
import Derived.JoinedTies
import Derived.KernelRfl
namespace Go.Proofs.Ytpdkgpbfmpekgaa
/- THE CELL 'sum', in the pinned program and in every row, IS THE sha256 OF THE DUMP (.gsa) THAT YtpdkgpbfmpekgaaProg.lean LOADS. Nothing in Lean hashes anything: it is a label: what it is worth is what the hold of that sum in a sandbox is worth. -/
noncomputable def Try.pinned : Pinned := { name := "ytpdkgpbfmpekgaa", sum := "2ba45dd14653a24d54c0fedf78e50c1fed38c3741efa859d818e84ef9c8313ff", checked := Try.checked }
namespace Rows
def none {H : Type} : Left H := { results := [], args := [] }

/-- 'laws.FnShowTwice': WHATEVER THE INPUT: true; the input reads as it did. -/
def fnShowTwiceSpec : ChangeSpec := { name := "fnShowTwice", fn := fun _ => fun
  | [d] => { results := [.lit (.bool true)], args := [d] }
  | _ => none }
def fnShowTwiceRow : OpenClaim := { program := "ytpdkgpbfmpekgaa", sum := "2ba45dd14653a24d54c0fedf78e50c1fed38c3741efa859d818e84ef9c8313ff", func := "loop.example/depositary/laws.FnShowTwice", spec := "fnShowTwice", unfollowed := true, recurses := true, apart := false }
def FnShowTwiceSaid : Prop := fnShowTwiceRow.holds Try.pinned (OpenSpec.ofChange fnShowTwiceSpec)

/-- ITS FALSE NEIGHBOUR: 'it returns false'. Refute it at one input. -/
def fnShowTwiceWrong : ChangeSpec := { name := "fnShowTwice", fn := fun _ => fun
  | [d] => { results := [.lit (.bool false)], args := [d] }
  | _ => none }
def FnShowTwiceWrongFalsely : Prop := fnShowTwiceRow.holds Try.pinned (OpenSpec.ofChange fnShowTwiceWrong)

/-- 'laws.FnShow': WHATEVER THE INPUT: true; the input reads as it did. -/
def fnShowSpec : ChangeSpec := { name := "fnShow", fn := fun _ => fun
  | [d] => { results := [.lit (.bool true)], args := [d] }
  | _ => none }
def fnShowRow : OpenClaim := { program := "ytpdkgpbfmpekgaa", sum := "2ba45dd14653a24d54c0fedf78e50c1fed38c3741efa859d818e84ef9c8313ff", func := "loop.example/depositary/laws.FnShow", spec := "fnShow", unfollowed := true, recurses := true, apart := false }
def FnShowSaid : Prop := fnShowRow.holds Try.pinned (OpenSpec.ofChange fnShowSpec)

/-- ITS FALSE NEIGHBOUR: 'it returns false'. Refute it at one input. -/
def fnShowWrong : ChangeSpec := { name := "fnShow", fn := fun _ => fun
  | [d] => { results := [.lit (.bool false)], args := [d] }
  | _ => none }
def FnShowWrongFalsely : Prop := fnShowRow.holds Try.pinned (OpenSpec.ofChange fnShowWrong)

/- THE SECOND FORM. 'bulk': how many values and letters a reading holds, each counted each time it is reached (what is shared counts as often as it is met; a slice's spare places count too). A statement '..UptoSaid' is the law's where the arguments, and the package variables that the reading takes, are together of bulk at most 1048576: NARROWER than '..Said'. Prove '..Said' where nothing that the law and all that it calls make is longer than what came in: it says more and counts as full. Else prove '..UptoSaid'. A law counts once. -/
mutual
def uptoBulk {H : Type} : DataW H → Nat
  | .lit (.string bytes) => bytes.length + 1
  | .lit _ => 1
  | .nil => 1
  | .ptr d => uptoBulk d + 1
  | .slice elems spare => uptoBulkAll elems + uptoBulkAll spare + 1
  | .agg parts => uptoBulkAll parts + 1
  | .iface _ d => uptoBulk d + 1
  | .map entries => uptoBulkEntries entries + 1
  | .held _ => 1
def uptoBulkAll {H : Type} : List (DataW H) → Nat
  | [] => 0
  | d :: r => uptoBulk d + uptoBulkAll r
def uptoBulkEntries {H : Type} : List (Lit × DataW H) → Nat
  | [] => 0
  | x :: r => uptoBulkEntry x + uptoBulkEntries r
def uptoBulkEntry {H : Type} : Lit × DataW H → Nat
  | (.string bytes, d) => bytes.length + uptoBulk d + 1
  | (_, d) => uptoBulk d + 1
 end
def uptoSmall : (H : Type) → List (DataW H) → Bool := fun _ ds => decide (uptoBulkAll ds ≤ 1048576)
def OpenSpec.upto (s : _root_.Go.ChangeSpec) : _root_.Go.OpenSpec := { _root_.Go.OpenSpec.ofChange s with cond := some uptoSmall }

/-- 'laws.FnShowTwice', WHERE WHAT IT READS IS OF BULK AT MOST 1048576: true; the input reads as it did. -/
def fnShowTwiceUptoRow : OpenClaim := { program := "ytpdkgpbfmpekgaa", sum := "2ba45dd14653a24d54c0fedf78e50c1fed38c3741efa859d818e84ef9c8313ff", func := "loop.example/depositary/laws.FnShowTwice", spec := "fnShowTwice", unfollowed := true, recurses := true, apart := false, narrowed := true }
def FnShowTwiceUptoSaid : Prop := fnShowTwiceUptoRow.holds Try.pinned (OpenSpec.upto fnShowTwiceSpec)

/-- 'laws.FnShow', WHERE WHAT IT READS IS OF BULK AT MOST 1048576: true; the input reads as it did. -/
def fnShowUptoRow : OpenClaim := { program := "ytpdkgpbfmpekgaa", sum := "2ba45dd14653a24d54c0fedf78e50c1fed38c3741efa859d818e84ef9c8313ff", func := "loop.example/depositary/laws.FnShow", spec := "fnShow", unfollowed := true, recurses := true, apart := false, narrowed := true }
def FnShowUptoSaid : Prop := fnShowUptoRow.holds Try.pinned (OpenSpec.upto fnShowSpec)

end Rows
end Go.Proofs.Ytpdkgpbfmpekgaa
