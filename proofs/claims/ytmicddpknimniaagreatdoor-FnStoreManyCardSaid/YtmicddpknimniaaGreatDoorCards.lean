/-
  DERIVED. GIVEN WITH THE SEED: THE CARDS: each row of YtmicddpknimniaaGreatDoorRows.lean that lists a variable, with what it lists TIED to the program's text (the seventh form; the later family's looks); each row that meets fmt, with fmt's text TOLD by the authors' own Lean function (tested against real Go, not proved from fmt's source: count such statements apart). THE CARD IS WHAT COUNTS. Prove the row's statement (the work); the ties are given (YtmicddpknimniaaGreatDoorTie.lean); close each card by the builder's one call (the guide's Derived/Test/ToyasCard.lean, 'card_holds'). Laid BY PROGRAM, IN A SANDBOX (cutbox-door.mjs). By AI agents, Wed Nov 11 2026. No macro, syntax, notation, axiom, sorry.
-/
import Derived.Test.YtmicddpknimniaaGreatDoorRows
import GoSem.ClaimSeven
namespace Go.Proofs.YtmicddpknimniaaGreatDoor
namespace Rows

/-- THE TIED CARD OF 'laws.FnStoreMany'. -/
def fnStoreManyCard : Claim7 := { stood := { row := fnStoreManyRow, standIns := [], harness := (true, "2f4f2545fb31d20a29604584e32919d0b0735e157c6ee9f4b8aba4c115a8dc53"), looks := false }, kinds := [], alts := [], goes := true, laidByText := true, laidKinds := [.data, .sentinel, .sentinel, .pinned], laidTests := true, laidLooks := .later }
def FnStoreManyCardSaid : Prop := Claim7.holds Tryz.pinned (.plain (OpenSpec.ofChange fnStoreManySpec)) fnStoreManyCard

/-- THE SECOND FORM's CARD OF 'laws.FnStoreMany'. -/
def fnStoreManyUptoCard : Claim7 := { stood := { row := fnStoreManyUptoRow, standIns := [], harness := (true, "2f4f2545fb31d20a29604584e32919d0b0735e157c6ee9f4b8aba4c115a8dc53"), looks := false }, kinds := [], alts := [], goes := true, laidByText := true, laidKinds := [.data, .sentinel, .sentinel, .pinned], laidTests := true, laidLooks := .later }
def FnStoreManyUptoCardSaid : Prop := Claim7.holds Tryz.pinned (.plain (OpenSpec.upto fnStoreManySpec)) fnStoreManyUptoCard
end Rows
end Go.Proofs.YtmicddpknimniaaGreatDoor
