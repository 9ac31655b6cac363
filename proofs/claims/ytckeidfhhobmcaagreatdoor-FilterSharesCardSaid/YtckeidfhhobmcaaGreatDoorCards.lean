/-
  DERIVED. GIVEN WITH THE SEED: THE CARDS: each row of YtckeidfhhobmcaaGreatDoorRows.lean that lists a variable, with what it lists TIED to the program's text (the seventh form; the later family's looks); each row that meets fmt, with fmt's text TOLD by the authors' own Lean function (tested against real Go, not proved from fmt's source: count such statements apart). THE CARD IS WHAT COUNTS. Prove the row's statement (the work); the ties are given (YtckeidfhhobmcaaGreatDoorTie.lean); close each card by the builder's one call (the guide's Derived/Test/ToyasCard.lean, 'card_holds'). Laid BY PROGRAM, IN A SANDBOX (cutbox-door.mjs). By AI agents, Wed Nov 11 2026. No macro, syntax, notation, axiom, sorry.
-/
import Derived.Test.YtckeidfhhobmcaaGreatDoorRows
import GoSem.ClaimSeven
namespace Go.Proofs.YtckeidfhhobmcaaGreatDoor
namespace Rows

/-- THE TIED CARD OF 'rexmilllaw38.FilterShares'. -/
def filterSharesCard : Claim7 := { stood := { row := filterSharesRow, standIns := [], harness := (true, "5fb2835eeee418eb414584765a0bc1ae9fcf2d3b4eb2390fb27f20d1070e760f"), looks := false }, kinds := [], alts := [], laidByText := true, laidKinds := [.data, .pinned], laidTests := true, laidLooks := .later }
def FilterSharesCardSaid : Prop := Claim7.holds Tryz.pinned (.plain (OpenSpec.ofChange filterSharesSpec)) filterSharesCard

/-- THE SECOND FORM's CARD OF 'rexmilllaw38.FilterShares'. -/
def filterSharesUptoCard : Claim7 := { stood := { row := filterSharesUptoRow, standIns := [], harness := (true, "5fb2835eeee418eb414584765a0bc1ae9fcf2d3b4eb2390fb27f20d1070e760f"), looks := false }, kinds := [], alts := [], laidByText := true, laidKinds := [.data, .pinned], laidTests := true, laidLooks := .later }
def FilterSharesUptoCardSaid : Prop := Claim7.holds Tryz.pinned (.plain (OpenSpec.upto filterSharesSpec)) filterSharesUptoCard
end Rows
end Go.Proofs.YtckeidfhhobmcaaGreatDoor
