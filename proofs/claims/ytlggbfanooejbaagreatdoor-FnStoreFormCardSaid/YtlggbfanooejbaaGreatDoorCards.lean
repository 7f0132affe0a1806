/-
  DERIVED. GIVEN WITH THE SEED: THE CARDS: each row of YtlggbfanooejbaaGreatDoorRows.lean that lists a variable, with what it lists TIED to the program's text (the seventh form; the later family's looks); each row that meets fmt, with fmt's text TOLD by the authors' own Lean function (tested against real Go, not proved from fmt's source: count such statements apart). THE CARD IS WHAT COUNTS. Prove the row's statement (the work); the ties are given (YtlggbfanooejbaaGreatDoorTie.lean); close each card by the builder's one call (the guide's Derived/Test/ToyasCard.lean, 'card_holds'). Laid BY PROGRAM, IN A SANDBOX (cutbox-door.mjs). By AI agents, Wed Nov 11 2026. No macro, syntax, notation, axiom, sorry.
-/
import Derived.Test.YtlggbfanooejbaaGreatDoorRows
import GoSem.ClaimSeven
namespace Go.Proofs.YtlggbfanooejbaaGreatDoor
namespace Rows

/-- THE TIED CARD OF 'laws.FnStoreForm'. -/
def fnStoreFormCard : Claim7 := { stood := { row := fnStoreFormRow, standIns := [], harness := (true, "4b07ddab0e2aa06f1e07655ecf29eb2407f2fb79b122da1f2d08244689efd3a4"), looks := false }, kinds := [], alts := [], goes := true, laidByText := true, laidKinds := [.data, .sentinel, .sentinel, .pinned], laidTests := true, laidLooks := .later }
def FnStoreFormCardSaid : Prop := Claim7.holds Tryz.pinned (.plain (OpenSpec.ofChange fnStoreFormSpec)) fnStoreFormCard

/-- THE TIED CARD OF 'laws.FnExactStoreOk'. -/
def fnExactStoreOkCard : Claim7 := { stood := { row := fnExactStoreOkRow, standIns := [], harness := (true, "4b07ddab0e2aa06f1e07655ecf29eb2407f2fb79b122da1f2d08244689efd3a4"), looks := false }, kinds := [], alts := [], goes := true, laidByText := true, laidKinds := [.data, .sentinel, .sentinel, .pinned], laidTests := true, laidLooks := .later }
def FnExactStoreOkCardSaid : Prop := Claim7.holds Tryz.pinned (.plain (OpenSpec.ofChange fnExactStoreOkSpec)) fnExactStoreOkCard

/-- THE SECOND FORM's CARD OF 'laws.FnStoreForm'. -/
def fnStoreFormUptoCard : Claim7 := { stood := { row := fnStoreFormUptoRow, standIns := [], harness := (true, "4b07ddab0e2aa06f1e07655ecf29eb2407f2fb79b122da1f2d08244689efd3a4"), looks := false }, kinds := [], alts := [], goes := true, laidByText := true, laidKinds := [.data, .sentinel, .sentinel, .pinned], laidTests := true, laidLooks := .later }
def FnStoreFormUptoCardSaid : Prop := Claim7.holds Tryz.pinned (.plain (OpenSpec.upto fnStoreFormSpec)) fnStoreFormUptoCard

/-- THE SECOND FORM's CARD OF 'laws.FnExactStoreOk'. -/
def fnExactStoreOkUptoCard : Claim7 := { stood := { row := fnExactStoreOkUptoRow, standIns := [], harness := (true, "4b07ddab0e2aa06f1e07655ecf29eb2407f2fb79b122da1f2d08244689efd3a4"), looks := false }, kinds := [], alts := [], goes := true, laidByText := true, laidKinds := [.data, .sentinel, .sentinel, .pinned], laidTests := true, laidLooks := .later }
def FnExactStoreOkUptoCardSaid : Prop := Claim7.holds Tryz.pinned (.plain (OpenSpec.upto fnExactStoreOkSpec)) fnExactStoreOkUptoCard
end Rows
end Go.Proofs.YtlggbfanooejbaaGreatDoor
