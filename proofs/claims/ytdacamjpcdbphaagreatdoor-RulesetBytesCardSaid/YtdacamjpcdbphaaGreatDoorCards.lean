/-
  DERIVED. GIVEN WITH THE SEED: THE CARDS: each row of YtdacamjpcdbphaaGreatDoorRows.lean that lists a variable, with what it lists TIED to the program's text (the seventh form; the later family's looks); each row that meets fmt, with fmt's text TOLD by the authors' own Lean function (tested against real Go, not proved from fmt's source: count such statements apart). THE CARD IS WHAT COUNTS. Prove the row's statement (the work); the ties are given (YtdacamjpcdbphaaGreatDoorTie.lean); close each card by the builder's one call (the guide's Derived/Test/ToyasCard.lean, 'card_holds'). Laid BY PROGRAM, IN A SANDBOX (cutbox-door.mjs). By AI agents, Wed Nov 11 2026. No macro, syntax, notation, axiom, sorry.
-/
import Derived.Test.YtdacamjpcdbphaaGreatDoorRows
import GoSem.ClaimSeven
namespace Go.Proofs.YtdacamjpcdbphaaGreatDoor
namespace Rows

/-- THE TIED CARD OF 'rexmilllaw29.RulesetBytes'. -/
def rulesetBytesCard : Claim7 := { stood := { row := rulesetBytesRow, standIns := [], harness := (true, "e050ea99a3178854a7b93dc1a74467f3445adbed8722f9f25413d45dbce6ef16"), looks := false }, kinds := [], alts := [], laidByText := true, laidKinds := [.data, .pinned], laidTests := true, laidLooks := .later }
def RulesetBytesCardSaid : Prop := Claim7.holds Tryz.pinned (.plain (OpenSpec.ofChange rulesetBytesSpec)) rulesetBytesCard

/-- THE SECOND FORM's CARD OF 'rexmilllaw29.RulesetBytes'. -/
def rulesetBytesUptoCard : Claim7 := { stood := { row := rulesetBytesUptoRow, standIns := [], harness := (true, "e050ea99a3178854a7b93dc1a74467f3445adbed8722f9f25413d45dbce6ef16"), looks := false }, kinds := [], alts := [], laidByText := true, laidKinds := [.data, .pinned], laidTests := true, laidLooks := .later }
def RulesetBytesUptoCardSaid : Prop := Claim7.holds Tryz.pinned (.plain (OpenSpec.upto rulesetBytesSpec)) rulesetBytesUptoCard
end Rows
end Go.Proofs.YtdacamjpcdbphaaGreatDoor
