/-
  DERIVED. GIVEN WITH THE SEED: THE CARDS: each row of YtlaobkmopohmnaaGreatDoorRows.lean that lists a variable, with what it lists TIED to the program's text (the seventh form; the later family's looks); each row that meets fmt, with fmt's text TOLD by the authors' own Lean function (tested against real Go, not proved from fmt's source: count such statements apart). THE CARD IS WHAT COUNTS. Prove the row's statement (the work); the ties are given (YtlaobkmopohmnaaGreatDoorTie.lean); close each card by the builder's one call (the guide's Derived/Test/ToyasCard.lean, 'card_holds'). Laid BY PROGRAM, IN A SANDBOX (cutbox-door.mjs). By AI agents, Wed Nov 11 2026. No macro, syntax, notation, axiom, sorry.
-/
import Derived.Test.YtlaobkmopohmnaaGreatDoorRows
import GoSem.ClaimSeven
namespace Go.Proofs.YtlaobkmopohmnaaGreatDoor
namespace Rows

/-- THE TIED CARD OF 'laws.FnLieFound'. -/
def fnLieFoundCard : Claim7 := { stood := { row := fnLieFoundRow, standIns := [], harness := (true, "3d49434dbe5988dcf1f782f582580644844f3be87dffe57ce9c4feaf5463cfd1"), looks := false }, kinds := [], alts := [], goes := true, laidByText := true, laidKinds := [.data, .sentinel, .sentinel, .pinned], laidTests := true, laidLooks := .later }
def FnLieFoundCardSaid : Prop := Claim7.holds Tryz.pinned (.plain (OpenSpec.ofChange fnLieFoundSpec)) fnLieFoundCard

/-- THE SECOND FORM's CARD OF 'laws.FnLieFound'. -/
def fnLieFoundUptoCard : Claim7 := { stood := { row := fnLieFoundUptoRow, standIns := [], harness := (true, "3d49434dbe5988dcf1f782f582580644844f3be87dffe57ce9c4feaf5463cfd1"), looks := false }, kinds := [], alts := [], goes := true, laidByText := true, laidKinds := [.data, .sentinel, .sentinel, .pinned], laidTests := true, laidLooks := .later }
def FnLieFoundUptoCardSaid : Prop := Claim7.holds Tryz.pinned (.plain (OpenSpec.upto fnLieFoundSpec)) fnLieFoundUptoCard
end Rows
end Go.Proofs.YtlaobkmopohmnaaGreatDoor
