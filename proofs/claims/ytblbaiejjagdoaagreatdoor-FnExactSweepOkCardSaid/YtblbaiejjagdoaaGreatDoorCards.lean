/-
  DERIVED. GIVEN WITH THE SEED: THE CARDS: each row of YtblbaiejjagdoaaGreatDoorRows.lean that lists a variable, with what it lists TIED to the program's text (the seventh form; the later family's looks); each row that meets fmt, with fmt's text TOLD by the authors' own Lean function (tested against real Go, not proved from fmt's source: count such statements apart). THE CARD IS WHAT COUNTS. Prove the row's statement (the work); the ties are given (YtblbaiejjagdoaaGreatDoorTie.lean); close each card by the builder's one call (the guide's Derived/Test/ToyasCard.lean, 'card_holds'). Laid BY PROGRAM, IN A SANDBOX (cutbox-door.mjs). By AI agents, Wed Nov 11 2026. No macro, syntax, notation, axiom, sorry.
-/
import Derived.Test.YtblbaiejjagdoaaGreatDoorRows
import GoSem.ClaimSeven
namespace Go.Proofs.YtblbaiejjagdoaaGreatDoor
namespace Rows

/-- THE TIED CARD OF 'laws.FnExactSweepOk'. -/
def fnExactSweepOkCard : Claim7 := { stood := { row := fnExactSweepOkRow, standIns := [], harness := (true, "8720c8034a1f78e76f1a60cca0f6fbcbfb914b9970f33341c2d8743d42a0a2ef"), looks := false }, kinds := [], alts := [], goes := true, laidByText := true, laidKinds := [.data, .sentinel, .sentinel, .pinned], laidTests := true, laidLooks := .later }
def FnExactSweepOkCardSaid : Prop := Claim7.holds Tryz.pinned (.plain (OpenSpec.ofChange fnExactSweepOkSpec)) fnExactSweepOkCard

/-- THE TIED CARD OF 'laws.FnSweepForm'. -/
def fnSweepFormCard : Claim7 := { stood := { row := fnSweepFormRow, standIns := [], harness := (true, "8720c8034a1f78e76f1a60cca0f6fbcbfb914b9970f33341c2d8743d42a0a2ef"), looks := false }, kinds := [], alts := [], goes := true, laidByText := true, laidKinds := [.data, .sentinel, .sentinel, .pinned], laidTests := true, laidLooks := .later }
def FnSweepFormCardSaid : Prop := Claim7.holds Tryz.pinned (.plain (OpenSpec.ofChange fnSweepFormSpec)) fnSweepFormCard

/-- THE SECOND FORM's CARD OF 'laws.FnExactSweepOk'. -/
def fnExactSweepOkUptoCard : Claim7 := { stood := { row := fnExactSweepOkUptoRow, standIns := [], harness := (true, "8720c8034a1f78e76f1a60cca0f6fbcbfb914b9970f33341c2d8743d42a0a2ef"), looks := false }, kinds := [], alts := [], goes := true, laidByText := true, laidKinds := [.data, .sentinel, .sentinel, .pinned], laidTests := true, laidLooks := .later }
def FnExactSweepOkUptoCardSaid : Prop := Claim7.holds Tryz.pinned (.plain (OpenSpec.upto fnExactSweepOkSpec)) fnExactSweepOkUptoCard

/-- THE SECOND FORM's CARD OF 'laws.FnSweepForm'. -/
def fnSweepFormUptoCard : Claim7 := { stood := { row := fnSweepFormUptoRow, standIns := [], harness := (true, "8720c8034a1f78e76f1a60cca0f6fbcbfb914b9970f33341c2d8743d42a0a2ef"), looks := false }, kinds := [], alts := [], goes := true, laidByText := true, laidKinds := [.data, .sentinel, .sentinel, .pinned], laidTests := true, laidLooks := .later }
def FnSweepFormUptoCardSaid : Prop := Claim7.holds Tryz.pinned (.plain (OpenSpec.upto fnSweepFormSpec)) fnSweepFormUptoCard
end Rows
end Go.Proofs.YtblbaiejjagdoaaGreatDoor
