/-
  DERIVED. GIVEN WITH THE SEED: THE CARDS: each row of YtpbbcfocomejmaaGreatDoorRows.lean that lists a variable, with what it lists TIED to the program's text (the seventh form; the later family's looks); each row that meets fmt, with fmt's text TOLD by the authors' own Lean function (tested against real Go, not proved from fmt's source: count such statements apart). THE CARD IS WHAT COUNTS. Prove the row's statement (the work); the ties are given (YtpbbcfocomejmaaGreatDoorTie.lean); close each card by the builder's one call (the guide's Derived/Test/ToyasCard.lean, 'card_holds'). Laid BY PROGRAM, IN A SANDBOX (cutbox-door.mjs). By AI agents, Wed Nov 11 2026. No macro, syntax, notation, axiom, sorry.
-/
import Derived.Test.YtpbbcfocomejmaaGreatDoorRows
import GoSem.ClaimSeven
namespace Go.Proofs.YtpbbcfocomejmaaGreatDoor
namespace Rows

/-- THE TIED CARD OF 'laws.FnLieBad'. -/
def fnLieBadCard : Claim7 := { stood := { row := fnLieBadRow, standIns := [], harness := (true, "9948cdd48a885527938386b37bc83bf9d0b7220a6b8b8b60a8e089eebec73924"), looks := false }, kinds := [], alts := [], goes := true, laidByText := true, laidKinds := [.data, .sentinel, .sentinel, .pinned], laidTests := true, laidLooks := .later }
def FnLieBadCardSaid : Prop := Claim7.holds Tryz.pinned (.plain (OpenSpec.ofChange fnLieBadSpec)) fnLieBadCard

/-- THE SECOND FORM's CARD OF 'laws.FnLieBad'. -/
def fnLieBadUptoCard : Claim7 := { stood := { row := fnLieBadUptoRow, standIns := [], harness := (true, "9948cdd48a885527938386b37bc83bf9d0b7220a6b8b8b60a8e089eebec73924"), looks := false }, kinds := [], alts := [], goes := true, laidByText := true, laidKinds := [.data, .sentinel, .sentinel, .pinned], laidTests := true, laidLooks := .later }
def FnLieBadUptoCardSaid : Prop := Claim7.holds Tryz.pinned (.plain (OpenSpec.upto fnLieBadSpec)) fnLieBadUptoCard
end Rows
end Go.Proofs.YtpbbcfocomejmaaGreatDoor
