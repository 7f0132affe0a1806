/-
  No cell of these rows narrows 'for every input' (looked for: loops, veiled, ifaces, maps, wideKeys, modest, calm, conditions, laid).
  DERIVED. THE GIVEN ROWS OF THIS SEAT. 7 by the template 'for every input the law returns true; each argument reads behind the call as it read before'; 0 by the template 'total and deterministic' (their statements: YtanppokbjladfaaTotals.lean).
  GIVEN WITH THE SEED: the statements are not yours to turn. If you find one false, say at which input.
  Laid BY PROGRAM, IN A SANDBOX (cutbox-rows.mjs): the forced cells as the released guide's own fill.sh prints them over the translation 29b146a54d2d178e… (all of the seat's roots in one cut). By AI agents, Wed Nov 11 2026. No macro, syntax, notation, axiom, sorry.
-/
import Derived.Test.YtanppokbjladfaaChecked
import GoSem.Claim
import GoSem.ClaimJoined
import GoSem.ClaimMapViews
import Derived.JoinedTies
import Derived.KernelRfl
namespace Go.Proofs.Ytanppokbjladfaa
/- THE CELL 'sum', in the pinned program and in every row, IS THE sha256 OF THE DUMP (.gsa) THAT YtanppokbjladfaaProg.lean LOADS. Nothing in Lean hashes anything: it is a label: what it is worth is what the hold of that sum in a sandbox is worth. -/
noncomputable def Try.pinned : Pinned := { name := "ytanppokbjladfaa", sum := "29b146a54d2d178e8374f88733821738a4218c3fee9bd2abcf1402ec7d765bdb", checked := Try.checked }
namespace Rows
def none {H : Type} : Left H := { results := [], args := [] }

/-- 'laws.FnExactIndexOf': WHATEVER THE INPUT: true; the input reads as it did. -/
def fnExactIndexOfSpec : ChangeSpec := { name := "fnExactIndexOf", fn := fun _ => fun
  | [d] => { results := [.lit (.bool true)], args := [d] }
  | _ => none }
def fnExactIndexOfRow : OpenClaim := { program := "ytanppokbjladfaa", sum := "29b146a54d2d178e8374f88733821738a4218c3fee9bd2abcf1402ec7d765bdb", func := "loop.example/depositary/laws.FnExactIndexOf", spec := "fnExactIndexOf", recurses := true, apart := false }
def FnExactIndexOfSaid : Prop := fnExactIndexOfRow.holds Try.pinned (OpenSpec.ofChange fnExactIndexOfSpec)

/-- ITS FALSE NEIGHBOUR: 'it returns false'. Refute it at one input. -/
def fnExactIndexOfWrong : ChangeSpec := { name := "fnExactIndexOf", fn := fun _ => fun
  | [d] => { results := [.lit (.bool false)], args := [d] }
  | _ => none }
def FnExactIndexOfWrongFalsely : Prop := fnExactIndexOfRow.holds Try.pinned (OpenSpec.ofChange fnExactIndexOfWrong)

/-- 'laws.FnIndexPacks': WHATEVER THE INPUT: true; the input reads as it did. -/
def fnIndexPacksSpec : ChangeSpec := { name := "fnIndexPacks", fn := fun _ => fun
  | [d1, d2] => { results := [.lit (.bool true)], args := [d1, d2] }
  | _ => none }
def fnIndexPacksRow : OpenClaim := { program := "ytanppokbjladfaa", sum := "29b146a54d2d178e8374f88733821738a4218c3fee9bd2abcf1402ec7d765bdb", func := "loop.example/depositary/laws.FnIndexPacks", spec := "fnIndexPacks", recurses := true, apart := false }
def FnIndexPacksSaid : Prop := fnIndexPacksRow.holds Try.pinned (OpenSpec.ofChange fnIndexPacksSpec)

/-- ITS FALSE NEIGHBOUR: 'it returns false'. Refute it at one input. -/
def fnIndexPacksWrong : ChangeSpec := { name := "fnIndexPacks", fn := fun _ => fun
  | [d1, d2] => { results := [.lit (.bool false)], args := [d1, d2] }
  | _ => none }
def FnIndexPacksWrongFalsely : Prop := fnIndexPacksRow.holds Try.pinned (OpenSpec.ofChange fnIndexPacksWrong)

/-- 'laws.FnIndexOf': WHATEVER THE INPUT: true; the input reads as it did. -/
def fnIndexOfSpec : ChangeSpec := { name := "fnIndexOf", fn := fun _ => fun
  | [d] => { results := [.lit (.bool true)], args := [d] }
  | _ => none }
def fnIndexOfRow : OpenClaim := { program := "ytanppokbjladfaa", sum := "29b146a54d2d178e8374f88733821738a4218c3fee9bd2abcf1402ec7d765bdb", func := "loop.example/depositary/laws.FnIndexOf", spec := "fnIndexOf", recurses := true, apart := false }
def FnIndexOfSaid : Prop := fnIndexOfRow.holds Try.pinned (OpenSpec.ofChange fnIndexOfSpec)

/-- ITS FALSE NEIGHBOUR: 'it returns false'. Refute it at one input. -/
def fnIndexOfWrong : ChangeSpec := { name := "fnIndexOf", fn := fun _ => fun
  | [d] => { results := [.lit (.bool false)], args := [d] }
  | _ => none }
def FnIndexOfWrongFalsely : Prop := fnIndexOfRow.holds Try.pinned (OpenSpec.ofChange fnIndexOfWrong)

/-- 'laws.FnExactStoreMany': WHATEVER THE INPUT: true; the input reads as it did. -/
def fnExactStoreManySpec : ChangeSpec := { name := "fnExactStoreMany", fn := fun _ => fun
  | [d] => { results := [.lit (.bool true)], args := [d] }
  | _ => none }
def fnExactStoreManyRow : OpenClaim := { program := "ytanppokbjladfaa", sum := "29b146a54d2d178e8374f88733821738a4218c3fee9bd2abcf1402ec7d765bdb", func := "loop.example/depositary/laws.FnExactStoreMany", spec := "fnExactStoreMany", apart := false }
def FnExactStoreManySaid : Prop := fnExactStoreManyRow.holds Try.pinned (OpenSpec.ofChange fnExactStoreManySpec)

/-- ITS FALSE NEIGHBOUR: 'it returns false'. Refute it at one input. -/
def fnExactStoreManyWrong : ChangeSpec := { name := "fnExactStoreMany", fn := fun _ => fun
  | [d] => { results := [.lit (.bool false)], args := [d] }
  | _ => none }
def FnExactStoreManyWrongFalsely : Prop := fnExactStoreManyRow.holds Try.pinned (OpenSpec.ofChange fnExactStoreManyWrong)

/-- 'laws.FnShowTwice': WHATEVER THE INPUT: true; the input reads as it did. -/
def fnShowTwiceSpec : ChangeSpec := { name := "fnShowTwice", fn := fun _ => fun
  | [d] => { results := [.lit (.bool true)], args := [d] }
  | _ => none }
def fnShowTwiceRow : OpenClaim := { program := "ytanppokbjladfaa", sum := "29b146a54d2d178e8374f88733821738a4218c3fee9bd2abcf1402ec7d765bdb", func := "loop.example/depositary/laws.FnShowTwice", spec := "fnShowTwice", unfollowed := true, recurses := true, apart := false }
def FnShowTwiceSaid : Prop := fnShowTwiceRow.holds Try.pinned (OpenSpec.ofChange fnShowTwiceSpec)

/-- ITS FALSE NEIGHBOUR: 'it returns false'. Refute it at one input. -/
def fnShowTwiceWrong : ChangeSpec := { name := "fnShowTwice", fn := fun _ => fun
  | [d] => { results := [.lit (.bool false)], args := [d] }
  | _ => none }
def FnShowTwiceWrongFalsely : Prop := fnShowTwiceRow.holds Try.pinned (OpenSpec.ofChange fnShowTwiceWrong)

/-- 'laws.FnShow': WHATEVER THE INPUT: true; the input reads as it did. -/
def fnShowSpec : ChangeSpec := { name := "fnShow", fn := fun _ => fun
  | [d] => { results := [.lit (.bool true)], args := [d] }
  | _ => none }
def fnShowRow : OpenClaim := { program := "ytanppokbjladfaa", sum := "29b146a54d2d178e8374f88733821738a4218c3fee9bd2abcf1402ec7d765bdb", func := "loop.example/depositary/laws.FnShow", spec := "fnShow", unfollowed := true, recurses := true, apart := false }
def FnShowSaid : Prop := fnShowRow.holds Try.pinned (OpenSpec.ofChange fnShowSpec)

/-- ITS FALSE NEIGHBOUR: 'it returns false'. Refute it at one input. -/
def fnShowWrong : ChangeSpec := { name := "fnShow", fn := fun _ => fun
  | [d] => { results := [.lit (.bool false)], args := [d] }
  | _ => none }
def FnShowWrongFalsely : Prop := fnShowRow.holds Try.pinned (OpenSpec.ofChange fnShowWrong)

/-- 'laws.FnExactLieShow': WHATEVER THE INPUT: true; the input reads as it did. -/
def fnExactLieShowSpec : ChangeSpec := { name := "fnExactLieShow", fn := fun _ => fun
  | [d1, d2] => { results := [.lit (.bool true)], args := [d1, d2] }
  | _ => none }
def fnExactLieShowRow : OpenClaim := { program := "ytanppokbjladfaa", sum := "29b146a54d2d178e8374f88733821738a4218c3fee9bd2abcf1402ec7d765bdb", func := "loop.example/depositary/laws.FnExactLieShow", spec := "fnExactLieShow", unfollowed := true, recurses := true, apart := false }
def FnExactLieShowSaid : Prop := fnExactLieShowRow.holds Try.pinned (OpenSpec.ofChange fnExactLieShowSpec)

/-- ITS FALSE NEIGHBOUR: 'it returns false'. Refute it at one input. -/
def fnExactLieShowWrong : ChangeSpec := { name := "fnExactLieShow", fn := fun _ => fun
  | [d1, d2] => { results := [.lit (.bool false)], args := [d1, d2] }
  | _ => none }
def FnExactLieShowWrongFalsely : Prop := fnExactLieShowRow.holds Try.pinned (OpenSpec.ofChange fnExactLieShowWrong)

/- THE SECOND FORM. 'bulk': how many values and letters a reading holds, each counted each time it is reached (what is shared counts as often as it is met; a slice's spare places count too). A statement '..UptoSaid' is the law's where the arguments, and the package variables that the reading takes, are together of bulk at most 1048576: NARROWER than '..Said'. Prove '..Said' where nothing that the law and all that it calls make is longer than what came in: it says more and counts as full. Else prove '..UptoSaid'. A law counts once. -/
mutual
def uptoBulk {H : Type} : DataW H → Nat
  | .lit (.string bytes) => bytes.length + 1
  | .lit _ => 1
  | .nil => 1
  | .ptr d => uptoBulk d + 1
  | .slice elems spare => uptoBulkAll elems + uptoBulkAll spare + 1
  | .agg parts => uptoBulkAll parts + 1
  | .iface _ d => uptoBulk d + 1
  | .map entries => uptoBulkEntries entries + 1
  | .held _ => 1
def uptoBulkAll {H : Type} : List (DataW H) → Nat
  | [] => 0
  | d :: r => uptoBulk d + uptoBulkAll r
def uptoBulkEntries {H : Type} : List (Lit × DataW H) → Nat
  | [] => 0
  | x :: r => uptoBulkEntry x + uptoBulkEntries r
def uptoBulkEntry {H : Type} : Lit × DataW H → Nat
  | (.string bytes, d) => bytes.length + uptoBulk d + 1
  | (_, d) => uptoBulk d + 1
 end
def uptoSmall : (H : Type) → List (DataW H) → Bool := fun _ ds => decide (uptoBulkAll ds ≤ 1048576)
def OpenSpec.upto (s : _root_.Go.ChangeSpec) : _root_.Go.OpenSpec := { _root_.Go.OpenSpec.ofChange s with cond := some uptoSmall }

/-- 'laws.FnExactIndexOf', WHERE WHAT IT READS IS OF BULK AT MOST 1048576: true; the input reads as it did. -/
def fnExactIndexOfUptoRow : OpenClaim := { program := "ytanppokbjladfaa", sum := "29b146a54d2d178e8374f88733821738a4218c3fee9bd2abcf1402ec7d765bdb", func := "loop.example/depositary/laws.FnExactIndexOf", spec := "fnExactIndexOf", recurses := true, apart := false, narrowed := true }
def FnExactIndexOfUptoSaid : Prop := fnExactIndexOfUptoRow.holds Try.pinned (OpenSpec.upto fnExactIndexOfSpec)

/-- 'laws.FnIndexPacks', WHERE WHAT IT READS IS OF BULK AT MOST 1048576: true; the input reads as it did. -/
def fnIndexPacksUptoRow : OpenClaim := { program := "ytanppokbjladfaa", sum := "29b146a54d2d178e8374f88733821738a4218c3fee9bd2abcf1402ec7d765bdb", func := "loop.example/depositary/laws.FnIndexPacks", spec := "fnIndexPacks", recurses := true, apart := false, narrowed := true }
def FnIndexPacksUptoSaid : Prop := fnIndexPacksUptoRow.holds Try.pinned (OpenSpec.upto fnIndexPacksSpec)

/-- 'laws.FnIndexOf', WHERE WHAT IT READS IS OF BULK AT MOST 1048576: true; the input reads as it did. -/
def fnIndexOfUptoRow : OpenClaim := { program := "ytanppokbjladfaa", sum := "29b146a54d2d178e8374f88733821738a4218c3fee9bd2abcf1402ec7d765bdb", func := "loop.example/depositary/laws.FnIndexOf", spec := "fnIndexOf", recurses := true, apart := false, narrowed := true }
def FnIndexOfUptoSaid : Prop := fnIndexOfUptoRow.holds Try.pinned (OpenSpec.upto fnIndexOfSpec)

/-- 'laws.FnExactStoreMany', WHERE WHAT IT READS IS OF BULK AT MOST 1048576: true; the input reads as it did. -/
def fnExactStoreManyUptoRow : OpenClaim := { program := "ytanppokbjladfaa", sum := "29b146a54d2d178e8374f88733821738a4218c3fee9bd2abcf1402ec7d765bdb", func := "loop.example/depositary/laws.FnExactStoreMany", spec := "fnExactStoreMany", apart := false, narrowed := true }
def FnExactStoreManyUptoSaid : Prop := fnExactStoreManyUptoRow.holds Try.pinned (OpenSpec.upto fnExactStoreManySpec)

/-- 'laws.FnShowTwice', WHERE WHAT IT READS IS OF BULK AT MOST 1048576: true; the input reads as it did. -/
def fnShowTwiceUptoRow : OpenClaim := { program := "ytanppokbjladfaa", sum := "29b146a54d2d178e8374f88733821738a4218c3fee9bd2abcf1402ec7d765bdb", func := "loop.example/depositary/laws.FnShowTwice", spec := "fnShowTwice", unfollowed := true, recurses := true, apart := false, narrowed := true }
def FnShowTwiceUptoSaid : Prop := fnShowTwiceUptoRow.holds Try.pinned (OpenSpec.upto fnShowTwiceSpec)

/-- 'laws.FnShow', WHERE WHAT IT READS IS OF BULK AT MOST 1048576: true; the input reads as it did. -/
def fnShowUptoRow : OpenClaim := { program := "ytanppokbjladfaa", sum := "29b146a54d2d178e8374f88733821738a4218c3fee9bd2abcf1402ec7d765bdb", func := "loop.example/depositary/laws.FnShow", spec := "fnShow", unfollowed := true, recurses := true, apart := false, narrowed := true }
def FnShowUptoSaid : Prop := fnShowUptoRow.holds Try.pinned (OpenSpec.upto fnShowSpec)

/-- 'laws.FnExactLieShow', WHERE WHAT IT READS IS OF BULK AT MOST 1048576: true; the input reads as it did. -/
def fnExactLieShowUptoRow : OpenClaim := { program := "ytanppokbjladfaa", sum := "29b146a54d2d178e8374f88733821738a4218c3fee9bd2abcf1402ec7d765bdb", func := "loop.example/depositary/laws.FnExactLieShow", spec := "fnExactLieShow", unfollowed := true, recurses := true, apart := false, narrowed := true }
def FnExactLieShowUptoSaid : Prop := fnExactLieShowUptoRow.holds Try.pinned (OpenSpec.upto fnExactLieShowSpec)

end Rows
end Go.Proofs.Ytanppokbjladfaa
