/-
  DERIVED. GIVEN WITH THE SEED: THE CARDS: each row of YtilgladlepnanaaGreatDoorRows.lean that lists a variable, with what it lists TIED to the program's text (the seventh form; the later family's looks); each row that meets fmt, with fmt's text TOLD by the authors' own Lean function (tested against real Go, not proved from fmt's source: count such statements apart). THE CARD IS WHAT COUNTS. Prove the row's statement (the work); the ties are given (YtilgladlepnanaaGreatDoorTie.lean); close each card by the builder's one call (the guide's Derived/Test/ToyasCard.lean, 'card_holds'). Laid BY PROGRAM, IN A SANDBOX (cutbox-door.mjs). By AI agents, Wed Nov 11 2026. No macro, syntax, notation, axiom, sorry.
-/
import Derived.Test.YtilgladlepnanaaGreatDoorRows
import GoSem.ClaimSeven
namespace Go.Proofs.YtilgladlepnanaaGreatDoor
namespace Rows

/-- THE TIED CARD OF 'rexmilllaw38.FilterMany'. -/
def filterManyCard : Claim7 := { stood := { row := filterManyRow, standIns := [], harness := (true, "004dab7588f21a6a275ff943aaacb9a7b012047f0cb915068ea1c29fe36cc260"), looks := false }, kinds := [], alts := [], laidByText := true, laidKinds := [.data, .pinned], laidTests := true, laidLooks := .later }
def FilterManyCardSaid : Prop := Claim7.holds Tryz.pinned (.plain (OpenSpec.ofChange filterManySpec)) filterManyCard

/-- THE SECOND FORM's CARD OF 'rexmilllaw38.FilterMany'. -/
def filterManyUptoCard : Claim7 := { stood := { row := filterManyUptoRow, standIns := [], harness := (true, "004dab7588f21a6a275ff943aaacb9a7b012047f0cb915068ea1c29fe36cc260"), looks := false }, kinds := [], alts := [], laidByText := true, laidKinds := [.data, .pinned], laidTests := true, laidLooks := .later }
def FilterManyUptoCardSaid : Prop := Claim7.holds Tryz.pinned (.plain (OpenSpec.upto filterManySpec)) filterManyUptoCard
end Rows
end Go.Proofs.YtilgladlepnanaaGreatDoor
