/-
  DERIVED. GIVEN WITH THE SEED: THE CARDS: each row of YtbeafkpaghapeaaGreatDoorRows.lean that lists a variable, with what it lists TIED to the program's text (the seventh form; the later family's looks); each row that meets fmt, with fmt's text TOLD by the authors' own Lean function (tested against real Go, not proved from fmt's source: count such statements apart). THE CARD IS WHAT COUNTS. Prove the row's statement (the work); the ties are given (YtbeafkpaghapeaaGreatDoorTie.lean); close each card by the builder's one call (the guide's Derived/Test/ToyasCard.lean, 'card_holds'). Laid BY PROGRAM, IN A SANDBOX (cutbox-door.mjs). By AI agents, Wed Nov 11 2026. No macro, syntax, notation, axiom, sorry.
-/
import Derived.Test.YtbeafkpaghapeaaGreatDoorRows
import GoSem.ClaimSeven
namespace Go.Proofs.YtbeafkpaghapeaaGreatDoor
namespace Rows

/-- THE TIED CARD OF 'laws.FnNeverAnother'. -/
def fnNeverAnotherCard : Claim7 := { stood := { row := fnNeverAnotherRow, standIns := [], harness := (true, "6452ef8197e069b0b5d9b3b0a595721ca6d157239b3426629011ff33b0f7bc68"), looks := false }, kinds := [], alts := [], goes := true, laidByText := true, laidKinds := [.data, .sentinel, .sentinel, .pinned], laidTests := true, laidLooks := .later }
def FnNeverAnotherCardSaid : Prop := Claim7.holds Tryz.pinned (.plain (OpenSpec.ofChange fnNeverAnotherSpec)) fnNeverAnotherCard

/-- THE SECOND FORM's CARD OF 'laws.FnNeverAnother'. -/
def fnNeverAnotherUptoCard : Claim7 := { stood := { row := fnNeverAnotherUptoRow, standIns := [], harness := (true, "6452ef8197e069b0b5d9b3b0a595721ca6d157239b3426629011ff33b0f7bc68"), looks := false }, kinds := [], alts := [], goes := true, laidByText := true, laidKinds := [.data, .sentinel, .sentinel, .pinned], laidTests := true, laidLooks := .later }
def FnNeverAnotherUptoCardSaid : Prop := Claim7.holds Tryz.pinned (.plain (OpenSpec.upto fnNeverAnotherSpec)) fnNeverAnotherUptoCard
end Rows
end Go.Proofs.YtbeafkpaghapeaaGreatDoor
