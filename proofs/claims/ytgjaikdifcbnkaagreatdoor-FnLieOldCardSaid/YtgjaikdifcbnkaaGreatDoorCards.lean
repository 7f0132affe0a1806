/-
  DERIVED. GIVEN WITH THE SEED: THE CARDS: each row of YtgjaikdifcbnkaaGreatDoorRows.lean that lists a variable, with what it lists TIED to the program's text (the seventh form; the later family's looks); each row that meets fmt, with fmt's text TOLD by the authors' own Lean function (tested against real Go, not proved from fmt's source: count such statements apart). THE CARD IS WHAT COUNTS. Prove the row's statement (the work); the ties are given (YtgjaikdifcbnkaaGreatDoorTie.lean); close each card by the builder's one call (the guide's Derived/Test/ToyasCard.lean, 'card_holds'). Laid BY PROGRAM, IN A SANDBOX (cutbox-door.mjs). By AI agents, Wed Nov 11 2026. No macro, syntax, notation, axiom, sorry.
-/
import Derived.Test.YtgjaikdifcbnkaaGreatDoorRows
import GoSem.ClaimSeven
namespace Go.Proofs.YtgjaikdifcbnkaaGreatDoor
namespace Rows

/-- THE TIED CARD OF 'laws.FnLieOld'. -/
def fnLieOldCard : Claim7 := { stood := { row := fnLieOldRow, standIns := [], harness := (true, "018d95dc14c83536c9197d5c61edfbb9e22256eae11c6c5dc05e41fa2968ac1d"), looks := false }, kinds := [], alts := [], goes := true, laidByText := true, laidKinds := [.data, .sentinel, .sentinel, .pinned], laidTests := true, laidLooks := .later }
def FnLieOldCardSaid : Prop := Claim7.holds Tryz.pinned (.plain (OpenSpec.ofChange fnLieOldSpec)) fnLieOldCard

/-- THE SECOND FORM's CARD OF 'laws.FnLieOld'. -/
def fnLieOldUptoCard : Claim7 := { stood := { row := fnLieOldUptoRow, standIns := [], harness := (true, "018d95dc14c83536c9197d5c61edfbb9e22256eae11c6c5dc05e41fa2968ac1d"), looks := false }, kinds := [], alts := [], goes := true, laidByText := true, laidKinds := [.data, .sentinel, .sentinel, .pinned], laidTests := true, laidLooks := .later }
def FnLieOldUptoCardSaid : Prop := Claim7.holds Tryz.pinned (.plain (OpenSpec.upto fnLieOldSpec)) fnLieOldUptoCard
end Rows
end Go.Proofs.YtgjaikdifcbnkaaGreatDoor
