/-
  DERIVED. GIVEN WITH THE SEED: THE CARDS: each row of YtldbmeifhklhkaaGreatDoorRows.lean that lists a variable, with what it lists TIED to the program's text (the seventh form; the later family's looks); each row that meets fmt, with fmt's text TOLD by the authors' own Lean function (tested against real Go, not proved from fmt's source: count such statements apart). THE CARD IS WHAT COUNTS. Prove the row's statement (the work); the ties are given (YtldbmeifhklhkaaGreatDoorTie.lean); close each card by the builder's one call (the guide's Derived/Test/ToyasCard.lean, 'card_holds'). Laid BY PROGRAM, IN A SANDBOX (cutbox-door.mjs). By AI agents, Wed Nov 11 2026. No macro, syntax, notation, axiom, sorry.
-/
import Derived.Test.YtldbmeifhklhkaaGreatDoorRows
import GoSem.ClaimSeven
namespace Go.Proofs.YtldbmeifhklhkaaGreatDoor
namespace Rows

/-- THE TIED CARD OF 'rexmilllaw35.WorkerNew'. -/
def workerNewCard : Claim7 := { stood := { row := workerNewRow, standIns := [], harness := (true, "5cd5d3b5bcc780a671416fe574083c086f26b92a592aaec9c656b12d6fa69718"), looks := false }, kinds := [], alts := [], laidByText := true, laidKinds := [.data, .pinned], laidTests := true, laidLooks := .later }
def WorkerNewCardSaid : Prop := Claim7.holds Tryz.pinned (.plain (OpenSpec.ofChange workerNewSpec)) workerNewCard

/-- THE SECOND FORM's CARD OF 'rexmilllaw35.WorkerNew'. -/
def workerNewUptoCard : Claim7 := { stood := { row := workerNewUptoRow, standIns := [], harness := (true, "5cd5d3b5bcc780a671416fe574083c086f26b92a592aaec9c656b12d6fa69718"), looks := false }, kinds := [], alts := [], laidByText := true, laidKinds := [.data, .pinned], laidTests := true, laidLooks := .later }
def WorkerNewUptoCardSaid : Prop := Claim7.holds Tryz.pinned (.plain (OpenSpec.upto workerNewSpec)) workerNewUptoCard
end Rows
end Go.Proofs.YtldbmeifhklhkaaGreatDoor
