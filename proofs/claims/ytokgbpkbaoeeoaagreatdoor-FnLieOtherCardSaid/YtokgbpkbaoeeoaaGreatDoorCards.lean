/-
  DERIVED. GIVEN WITH THE SEED: THE CARDS: each row of YtokgbpkbaoeeoaaGreatDoorRows.lean that lists a variable, with what it lists TIED to the program's text (the seventh form; the later family's looks); each row that meets fmt, with fmt's text TOLD by the authors' own Lean function (tested against real Go, not proved from fmt's source: count such statements apart). THE CARD IS WHAT COUNTS. Prove the row's statement (the work); the ties are given (YtokgbpkbaoeeoaaGreatDoorTie.lean); close each card by the builder's one call (the guide's Derived/Test/ToyasCard.lean, 'card_holds'). Laid BY PROGRAM, IN A SANDBOX (cutbox-door.mjs). By AI agents, Wed Nov 11 2026. No macro, syntax, notation, axiom, sorry.
-/
import Derived.Test.YtokgbpkbaoeeoaaGreatDoorRows
import GoSem.ClaimSeven
namespace Go.Proofs.YtokgbpkbaoeeoaaGreatDoor
namespace Rows

/-- THE TIED CARD OF 'laws.FnLieOther'. -/
def fnLieOtherCard : Claim7 := { stood := { row := fnLieOtherRow, standIns := [], harness := (true, "6fd9bce905e188d4ecec166b82026233179ea897e70883651107d0e060ad50b0"), looks := false }, kinds := [], alts := [], goes := true, laidByText := true, laidKinds := [.data, .sentinel, .sentinel, .pinned], laidTests := true, laidLooks := .later }
def FnLieOtherCardSaid : Prop := Claim7.holds Tryz.pinned (.plain (OpenSpec.ofChange fnLieOtherSpec)) fnLieOtherCard

/-- THE SECOND FORM's CARD OF 'laws.FnLieOther'. -/
def fnLieOtherUptoCard : Claim7 := { stood := { row := fnLieOtherUptoRow, standIns := [], harness := (true, "6fd9bce905e188d4ecec166b82026233179ea897e70883651107d0e060ad50b0"), looks := false }, kinds := [], alts := [], goes := true, laidByText := true, laidKinds := [.data, .sentinel, .sentinel, .pinned], laidTests := true, laidLooks := .later }
def FnLieOtherUptoCardSaid : Prop := Claim7.holds Tryz.pinned (.plain (OpenSpec.upto fnLieOtherSpec)) fnLieOtherUptoCard
end Rows
end Go.Proofs.YtokgbpkbaoeeoaaGreatDoor
