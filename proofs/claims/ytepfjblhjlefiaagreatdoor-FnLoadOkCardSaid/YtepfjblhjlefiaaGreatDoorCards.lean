/-
  DERIVED. GIVEN WITH THE SEED: THE CARDS: each row of YtepfjblhjlefiaaGreatDoorRows.lean that lists a variable, with what it lists TIED to the program's text (the seventh form; the later family's looks); each row that meets fmt, with fmt's text TOLD by the authors' own Lean function (tested against real Go, not proved from fmt's source: count such statements apart). THE CARD IS WHAT COUNTS. Prove the row's statement (the work); the ties are given (YtepfjblhjlefiaaGreatDoorTie.lean); close each card by the builder's one call (the guide's Derived/Test/ToyasCard.lean, 'card_holds'). Laid BY PROGRAM, IN A SANDBOX (cutbox-door.mjs). By AI agents, Wed Nov 11 2026. No macro, syntax, notation, axiom, sorry.
-/
import Derived.Test.YtepfjblhjlefiaaGreatDoorRows
import GoSem.ClaimSeven
namespace Go.Proofs.YtepfjblhjlefiaaGreatDoor
namespace Rows

/-- THE TIED CARD OF 'laws.FnLoadOk'. -/
def fnLoadOkCard : Claim7 := { stood := { row := fnLoadOkRow, standIns := [], harness := (true, "cbac059e7f396e72d0f5f9fb310fd776be4b16704b364c47eeac12ad9bed4585"), looks := false }, kinds := [], alts := [], goes := true, laidByText := true, laidKinds := [.data, .sentinel, .sentinel, .pinned], laidTests := true, laidLooks := .later }
def FnLoadOkCardSaid : Prop := Claim7.holds Tryz.pinned (.plain (OpenSpec.ofChange fnLoadOkSpec)) fnLoadOkCard

/-- THE SECOND FORM's CARD OF 'laws.FnLoadOk'. -/
def fnLoadOkUptoCard : Claim7 := { stood := { row := fnLoadOkUptoRow, standIns := [], harness := (true, "cbac059e7f396e72d0f5f9fb310fd776be4b16704b364c47eeac12ad9bed4585"), looks := false }, kinds := [], alts := [], goes := true, laidByText := true, laidKinds := [.data, .sentinel, .sentinel, .pinned], laidTests := true, laidLooks := .later }
def FnLoadOkUptoCardSaid : Prop := Claim7.holds Tryz.pinned (.plain (OpenSpec.upto fnLoadOkSpec)) fnLoadOkUptoCard
end Rows
end Go.Proofs.YtepfjblhjlefiaaGreatDoor
