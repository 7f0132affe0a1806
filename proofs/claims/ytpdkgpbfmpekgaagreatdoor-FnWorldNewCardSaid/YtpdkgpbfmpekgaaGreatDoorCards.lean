/-
  DERIVED. GIVEN WITH THE SEED: THE CARDS: each row of YtpdkgpbfmpekgaaGreatDoorRows.lean that lists a variable, with what it lists TIED to the program's text (the seventh form; the later family's looks); each row that meets fmt, with fmt's text TOLD by the authors' own Lean function (tested against real Go, not proved from fmt's source: count such statements apart). THE CARD IS WHAT COUNTS. Prove the row's statement (the work); the ties are given (YtpdkgpbfmpekgaaGreatDoorTie.lean); close each card by the builder's one call (the guide's Derived/Test/ToyasCard.lean, 'card_holds'). Laid BY PROGRAM, IN A SANDBOX (cutbox-door.mjs). By AI agents, Wed Nov 11 2026. No macro, syntax, notation, axiom, sorry.
-/
import Derived.Test.YtpdkgpbfmpekgaaGreatDoorRows
import GoSem.ClaimSeven
namespace Go.Proofs.YtpdkgpbfmpekgaaGreatDoor
namespace Rows

/-- THE TIED CARD OF 'laws.FnStoreForm'. -/
def fnStoreFormCard : Claim7 := { stood := { row := fnStoreFormRow, standIns := [], harness := (true, "87ac4b0deda0295dfa6c42f248ef01efaeb7b5edce4acd3048f11378fe746a0d"), looks := false }, kinds := [], alts := [], goes := true, laidByText := true, laidKinds := [.data, .sentinel, .sentinel, .pinned], laidTests := true, laidLooks := .later }
def FnStoreFormCardSaid : Prop := Claim7.holds Tryz.pinned (.plain (OpenSpec.ofChange fnStoreFormSpec)) fnStoreFormCard

/-- THE TIED CARD OF 'laws.FnExactSweepOk'. -/
def fnExactSweepOkCard : Claim7 := { stood := { row := fnExactSweepOkRow, standIns := [], harness := (true, "87ac4b0deda0295dfa6c42f248ef01efaeb7b5edce4acd3048f11378fe746a0d"), looks := false }, kinds := [], alts := [], goes := true, laidByText := true, laidKinds := [.data, .sentinel, .sentinel, .pinned], laidTests := true, laidLooks := .later }
def FnExactSweepOkCardSaid : Prop := Claim7.holds Tryz.pinned (.plain (OpenSpec.ofChange fnExactSweepOkSpec)) fnExactSweepOkCard

/-- THE TIED CARD OF 'laws.FnSweepForm'. -/
def fnSweepFormCard : Claim7 := { stood := { row := fnSweepFormRow, standIns := [], harness := (true, "87ac4b0deda0295dfa6c42f248ef01efaeb7b5edce4acd3048f11378fe746a0d"), looks := false }, kinds := [], alts := [], goes := true, laidByText := true, laidKinds := [.data, .sentinel, .sentinel, .pinned], laidTests := true, laidLooks := .later }
def FnSweepFormCardSaid : Prop := Claim7.holds Tryz.pinned (.plain (OpenSpec.ofChange fnSweepFormSpec)) fnSweepFormCard

/-- THE TIED CARD OF 'laws.FnNeverAnother'. -/
def fnNeverAnotherCard : Claim7 := { stood := { row := fnNeverAnotherRow, standIns := [], harness := (true, "87ac4b0deda0295dfa6c42f248ef01efaeb7b5edce4acd3048f11378fe746a0d"), looks := false }, kinds := [], alts := [], goes := true, laidByText := true, laidKinds := [.data, .sentinel, .sentinel, .pinned], laidTests := true, laidLooks := .later }
def FnNeverAnotherCardSaid : Prop := Claim7.holds Tryz.pinned (.plain (OpenSpec.ofChange fnNeverAnotherSpec)) fnNeverAnotherCard

/-- THE TIED CARD OF 'laws.FnLieFound'. -/
def fnLieFoundCard : Claim7 := { stood := { row := fnLieFoundRow, standIns := [], harness := (true, "87ac4b0deda0295dfa6c42f248ef01efaeb7b5edce4acd3048f11378fe746a0d"), looks := false }, kinds := [], alts := [], goes := true, laidByText := true, laidKinds := [.data, .sentinel, .sentinel, .pinned], laidTests := true, laidLooks := .later }
def FnLieFoundCardSaid : Prop := Claim7.holds Tryz.pinned (.plain (OpenSpec.ofChange fnLieFoundSpec)) fnLieFoundCard

/-- THE TIED CARD OF 'laws.FnLieOld'. -/
def fnLieOldCard : Claim7 := { stood := { row := fnLieOldRow, standIns := [], harness := (true, "87ac4b0deda0295dfa6c42f248ef01efaeb7b5edce4acd3048f11378fe746a0d"), looks := false }, kinds := [], alts := [], goes := true, laidByText := true, laidKinds := [.data, .sentinel, .sentinel, .pinned], laidTests := true, laidLooks := .later }
def FnLieOldCardSaid : Prop := Claim7.holds Tryz.pinned (.plain (OpenSpec.ofChange fnLieOldSpec)) fnLieOldCard

/-- THE TIED CARD OF 'laws.FnWorldNew'. -/
def fnWorldNewCard : Claim7 := { stood := { row := fnWorldNewRow, standIns := [], harness := (true, "87ac4b0deda0295dfa6c42f248ef01efaeb7b5edce4acd3048f11378fe746a0d"), looks := false }, kinds := [], alts := [], goes := true, laidByText := true, laidKinds := [.data, .sentinel, .sentinel, .pinned], laidTests := true, laidLooks := .later }
def FnWorldNewCardSaid : Prop := Claim7.holds Tryz.pinned (.plain (OpenSpec.ofChange fnWorldNewSpec)) fnWorldNewCard

/-- THE TIED CARD OF 'laws.FnStoreMany'. -/
def fnStoreManyCard : Claim7 := { stood := { row := fnStoreManyRow, standIns := [], harness := (true, "87ac4b0deda0295dfa6c42f248ef01efaeb7b5edce4acd3048f11378fe746a0d"), looks := false }, kinds := [], alts := [], goes := true, laidByText := true, laidKinds := [.data, .sentinel, .sentinel, .pinned], laidTests := true, laidLooks := .later }
def FnStoreManyCardSaid : Prop := Claim7.holds Tryz.pinned (.plain (OpenSpec.ofChange fnStoreManySpec)) fnStoreManyCard

/-- THE TIED CARD OF 'laws.FnLieBad'. -/
def fnLieBadCard : Claim7 := { stood := { row := fnLieBadRow, standIns := [], harness := (true, "87ac4b0deda0295dfa6c42f248ef01efaeb7b5edce4acd3048f11378fe746a0d"), looks := false }, kinds := [], alts := [], goes := true, laidByText := true, laidKinds := [.data, .sentinel, .sentinel, .pinned], laidTests := true, laidLooks := .later }
def FnLieBadCardSaid : Prop := Claim7.holds Tryz.pinned (.plain (OpenSpec.ofChange fnLieBadSpec)) fnLieBadCard

/-- THE TIED CARD OF 'laws.FnLoadOk'. -/
def fnLoadOkCard : Claim7 := { stood := { row := fnLoadOkRow, standIns := [], harness := (true, "87ac4b0deda0295dfa6c42f248ef01efaeb7b5edce4acd3048f11378fe746a0d"), looks := false }, kinds := [], alts := [], goes := true, laidByText := true, laidKinds := [.data, .sentinel, .sentinel, .pinned], laidTests := true, laidLooks := .later }
def FnLoadOkCardSaid : Prop := Claim7.holds Tryz.pinned (.plain (OpenSpec.ofChange fnLoadOkSpec)) fnLoadOkCard

/-- THE TIED CARD OF 'laws.FnLieOther'. -/
def fnLieOtherCard : Claim7 := { stood := { row := fnLieOtherRow, standIns := [], harness := (true, "87ac4b0deda0295dfa6c42f248ef01efaeb7b5edce4acd3048f11378fe746a0d"), looks := false }, kinds := [], alts := [], goes := true, laidByText := true, laidKinds := [.data, .sentinel, .sentinel, .pinned], laidTests := true, laidLooks := .later }
def FnLieOtherCardSaid : Prop := Claim7.holds Tryz.pinned (.plain (OpenSpec.ofChange fnLieOtherSpec)) fnLieOtherCard

/-- THE TIED CARD OF 'laws.FnExactStoreOk'. -/
def fnExactStoreOkCard : Claim7 := { stood := { row := fnExactStoreOkRow, standIns := [], harness := (true, "87ac4b0deda0295dfa6c42f248ef01efaeb7b5edce4acd3048f11378fe746a0d"), looks := false }, kinds := [], alts := [], goes := true, laidByText := true, laidKinds := [.data, .sentinel, .sentinel, .pinned], laidTests := true, laidLooks := .later }
def FnExactStoreOkCardSaid : Prop := Claim7.holds Tryz.pinned (.plain (OpenSpec.ofChange fnExactStoreOkSpec)) fnExactStoreOkCard

/-- THE SECOND FORM's CARD OF 'laws.FnStoreForm'. -/
def fnStoreFormUptoCard : Claim7 := { stood := { row := fnStoreFormUptoRow, standIns := [], harness := (true, "87ac4b0deda0295dfa6c42f248ef01efaeb7b5edce4acd3048f11378fe746a0d"), looks := false }, kinds := [], alts := [], goes := true, laidByText := true, laidKinds := [.data, .sentinel, .sentinel, .pinned], laidTests := true, laidLooks := .later }
def FnStoreFormUptoCardSaid : Prop := Claim7.holds Tryz.pinned (.plain (OpenSpec.upto fnStoreFormSpec)) fnStoreFormUptoCard

/-- THE SECOND FORM's CARD OF 'laws.FnExactSweepOk'. -/
def fnExactSweepOkUptoCard : Claim7 := { stood := { row := fnExactSweepOkUptoRow, standIns := [], harness := (true, "87ac4b0deda0295dfa6c42f248ef01efaeb7b5edce4acd3048f11378fe746a0d"), looks := false }, kinds := [], alts := [], goes := true, laidByText := true, laidKinds := [.data, .sentinel, .sentinel, .pinned], laidTests := true, laidLooks := .later }
def FnExactSweepOkUptoCardSaid : Prop := Claim7.holds Tryz.pinned (.plain (OpenSpec.upto fnExactSweepOkSpec)) fnExactSweepOkUptoCard

/-- THE SECOND FORM's CARD OF 'laws.FnSweepForm'. -/
def fnSweepFormUptoCard : Claim7 := { stood := { row := fnSweepFormUptoRow, standIns := [], harness := (true, "87ac4b0deda0295dfa6c42f248ef01efaeb7b5edce4acd3048f11378fe746a0d"), looks := false }, kinds := [], alts := [], goes := true, laidByText := true, laidKinds := [.data, .sentinel, .sentinel, .pinned], laidTests := true, laidLooks := .later }
def FnSweepFormUptoCardSaid : Prop := Claim7.holds Tryz.pinned (.plain (OpenSpec.upto fnSweepFormSpec)) fnSweepFormUptoCard

/-- THE SECOND FORM's CARD OF 'laws.FnNeverAnother'. -/
def fnNeverAnotherUptoCard : Claim7 := { stood := { row := fnNeverAnotherUptoRow, standIns := [], harness := (true, "87ac4b0deda0295dfa6c42f248ef01efaeb7b5edce4acd3048f11378fe746a0d"), looks := false }, kinds := [], alts := [], goes := true, laidByText := true, laidKinds := [.data, .sentinel, .sentinel, .pinned], laidTests := true, laidLooks := .later }
def FnNeverAnotherUptoCardSaid : Prop := Claim7.holds Tryz.pinned (.plain (OpenSpec.upto fnNeverAnotherSpec)) fnNeverAnotherUptoCard

/-- THE SECOND FORM's CARD OF 'laws.FnLieFound'. -/
def fnLieFoundUptoCard : Claim7 := { stood := { row := fnLieFoundUptoRow, standIns := [], harness := (true, "87ac4b0deda0295dfa6c42f248ef01efaeb7b5edce4acd3048f11378fe746a0d"), looks := false }, kinds := [], alts := [], goes := true, laidByText := true, laidKinds := [.data, .sentinel, .sentinel, .pinned], laidTests := true, laidLooks := .later }
def FnLieFoundUptoCardSaid : Prop := Claim7.holds Tryz.pinned (.plain (OpenSpec.upto fnLieFoundSpec)) fnLieFoundUptoCard

/-- THE SECOND FORM's CARD OF 'laws.FnLieOld'. -/
def fnLieOldUptoCard : Claim7 := { stood := { row := fnLieOldUptoRow, standIns := [], harness := (true, "87ac4b0deda0295dfa6c42f248ef01efaeb7b5edce4acd3048f11378fe746a0d"), looks := false }, kinds := [], alts := [], goes := true, laidByText := true, laidKinds := [.data, .sentinel, .sentinel, .pinned], laidTests := true, laidLooks := .later }
def FnLieOldUptoCardSaid : Prop := Claim7.holds Tryz.pinned (.plain (OpenSpec.upto fnLieOldSpec)) fnLieOldUptoCard

/-- THE SECOND FORM's CARD OF 'laws.FnWorldNew'. -/
def fnWorldNewUptoCard : Claim7 := { stood := { row := fnWorldNewUptoRow, standIns := [], harness := (true, "87ac4b0deda0295dfa6c42f248ef01efaeb7b5edce4acd3048f11378fe746a0d"), looks := false }, kinds := [], alts := [], goes := true, laidByText := true, laidKinds := [.data, .sentinel, .sentinel, .pinned], laidTests := true, laidLooks := .later }
def FnWorldNewUptoCardSaid : Prop := Claim7.holds Tryz.pinned (.plain (OpenSpec.upto fnWorldNewSpec)) fnWorldNewUptoCard

/-- THE SECOND FORM's CARD OF 'laws.FnStoreMany'. -/
def fnStoreManyUptoCard : Claim7 := { stood := { row := fnStoreManyUptoRow, standIns := [], harness := (true, "87ac4b0deda0295dfa6c42f248ef01efaeb7b5edce4acd3048f11378fe746a0d"), looks := false }, kinds := [], alts := [], goes := true, laidByText := true, laidKinds := [.data, .sentinel, .sentinel, .pinned], laidTests := true, laidLooks := .later }
def FnStoreManyUptoCardSaid : Prop := Claim7.holds Tryz.pinned (.plain (OpenSpec.upto fnStoreManySpec)) fnStoreManyUptoCard

/-- THE SECOND FORM's CARD OF 'laws.FnLieBad'. -/
def fnLieBadUptoCard : Claim7 := { stood := { row := fnLieBadUptoRow, standIns := [], harness := (true, "87ac4b0deda0295dfa6c42f248ef01efaeb7b5edce4acd3048f11378fe746a0d"), looks := false }, kinds := [], alts := [], goes := true, laidByText := true, laidKinds := [.data, .sentinel, .sentinel, .pinned], laidTests := true, laidLooks := .later }
def FnLieBadUptoCardSaid : Prop := Claim7.holds Tryz.pinned (.plain (OpenSpec.upto fnLieBadSpec)) fnLieBadUptoCard

/-- THE SECOND FORM's CARD OF 'laws.FnLoadOk'. -/
def fnLoadOkUptoCard : Claim7 := { stood := { row := fnLoadOkUptoRow, standIns := [], harness := (true, "87ac4b0deda0295dfa6c42f248ef01efaeb7b5edce4acd3048f11378fe746a0d"), looks := false }, kinds := [], alts := [], goes := true, laidByText := true, laidKinds := [.data, .sentinel, .sentinel, .pinned], laidTests := true, laidLooks := .later }
def FnLoadOkUptoCardSaid : Prop := Claim7.holds Tryz.pinned (.plain (OpenSpec.upto fnLoadOkSpec)) fnLoadOkUptoCard

/-- THE SECOND FORM's CARD OF 'laws.FnLieOther'. -/
def fnLieOtherUptoCard : Claim7 := { stood := { row := fnLieOtherUptoRow, standIns := [], harness := (true, "87ac4b0deda0295dfa6c42f248ef01efaeb7b5edce4acd3048f11378fe746a0d"), looks := false }, kinds := [], alts := [], goes := true, laidByText := true, laidKinds := [.data, .sentinel, .sentinel, .pinned], laidTests := true, laidLooks := .later }
def FnLieOtherUptoCardSaid : Prop := Claim7.holds Tryz.pinned (.plain (OpenSpec.upto fnLieOtherSpec)) fnLieOtherUptoCard

/-- THE SECOND FORM's CARD OF 'laws.FnExactStoreOk'. -/
def fnExactStoreOkUptoCard : Claim7 := { stood := { row := fnExactStoreOkUptoRow, standIns := [], harness := (true, "87ac4b0deda0295dfa6c42f248ef01efaeb7b5edce4acd3048f11378fe746a0d"), looks := false }, kinds := [], alts := [], goes := true, laidByText := true, laidKinds := [.data, .sentinel, .sentinel, .pinned], laidTests := true, laidLooks := .later }
def FnExactStoreOkUptoCardSaid : Prop := Claim7.holds Tryz.pinned (.plain (OpenSpec.upto fnExactStoreOkSpec)) fnExactStoreOkUptoCard
end Rows
end Go.Proofs.YtpdkgpbfmpekgaaGreatDoor
