/-
  DERIVED. GIVEN WITH THE SEED: THE CARDS: each row of YtahmcjdddcbhnaaGreatDoorRows.lean that lists a variable, with what it lists TIED to the program's text (the seventh form; the later family's looks); each row that meets fmt, with fmt's text TOLD by the authors' own Lean function (tested against real Go, not proved from fmt's source: count such statements apart). THE CARD IS WHAT COUNTS. Prove the row's statement (the work); the ties are given (YtahmcjdddcbhnaaGreatDoorTie.lean); close each card by the builder's one call (the guide's Derived/Test/ToyasCard.lean, 'card_holds'). Laid BY PROGRAM, IN A SANDBOX (cutbox-door.mjs). By AI agents, Wed Nov 11 2026. No macro, syntax, notation, axiom, sorry.
-/
import Derived.Test.YtahmcjdddcbhnaaGreatDoorRows
import GoSem.ClaimSeven
namespace Go.Proofs.YtahmcjdddcbhnaaGreatDoor
namespace Rows

/-- THE TIED CARD OF 'rexmilllaw38.FilterRunes'. -/
def filterRunesCard : Claim7 := { stood := { row := filterRunesRow, standIns := [], harness := (true, "e47e29ce8173fc47745258b131e26a52e34d77ba0bfc1bd2d76bb26b40e4e489"), looks := false }, kinds := [], alts := [], laidByText := true, laidKinds := [.data, .data, .pinned], laidTests := true, laidLooks := .later }
def FilterRunesCardSaid : Prop := Claim7.holds Tryz.pinned (.plain (OpenSpec.ofChange filterRunesSpec)) filterRunesCard

/-- THE TIED CARD OF 'rexmilllaw38.FilterErrors'. -/
def filterErrorsCard : Claim7 := { stood := { row := filterErrorsRow, standIns := [], harness := (true, "e47e29ce8173fc47745258b131e26a52e34d77ba0bfc1bd2d76bb26b40e4e489"), looks := false }, kinds := [], alts := [], laidByText := true, laidKinds := [.data, .pinned], laidTests := true, laidLooks := .later }
def FilterErrorsCardSaid : Prop := Claim7.holds Tryz.pinned (.plain (OpenSpec.ofChange filterErrorsSpec)) filterErrorsCard

/-- THE SECOND FORM's CARD OF 'rexmilllaw38.FilterRunes'. -/
def filterRunesUptoCard : Claim7 := { stood := { row := filterRunesUptoRow, standIns := [], harness := (true, "e47e29ce8173fc47745258b131e26a52e34d77ba0bfc1bd2d76bb26b40e4e489"), looks := false }, kinds := [], alts := [], laidByText := true, laidKinds := [.data, .data, .pinned], laidTests := true, laidLooks := .later }
def FilterRunesUptoCardSaid : Prop := Claim7.holds Tryz.pinned (.plain (OpenSpec.upto filterRunesSpec)) filterRunesUptoCard

/-- THE SECOND FORM's CARD OF 'rexmilllaw38.FilterErrors'. -/
def filterErrorsUptoCard : Claim7 := { stood := { row := filterErrorsUptoRow, standIns := [], harness := (true, "e47e29ce8173fc47745258b131e26a52e34d77ba0bfc1bd2d76bb26b40e4e489"), looks := false }, kinds := [], alts := [], laidByText := true, laidKinds := [.data, .pinned], laidTests := true, laidLooks := .later }
def FilterErrorsUptoCardSaid : Prop := Claim7.holds Tryz.pinned (.plain (OpenSpec.upto filterErrorsSpec)) filterErrorsUptoCard
end Rows
end Go.Proofs.YtahmcjdddcbhnaaGreatDoor
