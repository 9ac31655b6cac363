/-
  DERIVED. GIVEN WITH THE SEED: THE CARDS: each row of YtopicmcaoeameaaGreatDoorRows.lean that lists a variable, with what it lists TIED to the program's text (the seventh form; the later family's looks); each row that meets fmt, with fmt's text TOLD by the authors' own Lean function (tested against real Go, not proved from fmt's source: count such statements apart). THE CARD IS WHAT COUNTS. Prove the row's statement (the work); the ties are given (YtopicmcaoeameaaGreatDoorTie.lean); close each card by the builder's one call (the guide's Derived/Test/ToyasCard.lean, 'card_holds'). Laid BY PROGRAM, IN A SANDBOX (cutbox-door.mjs). By AI agents, Wed Nov 11 2026. No macro, syntax, notation, axiom, sorry.
-/
import Derived.Test.YtopicmcaoeameaaGreatDoorRows
import GoSem.ClaimSeven
namespace Go.Proofs.YtopicmcaoeameaaGreatDoor
namespace Rows

/-- THE TIED CARD OF 'rexmilllaw36.CanaryApart'. -/
def canaryApartCard : Claim7 := { stood := { row := canaryApartRow, standIns := [], harness := (true, "5a737fc6aeb7492879598fa0d79aab91712b91f2d7a03e3979b7688f336dcf13"), looks := true }, kinds := [], alts := [], laidByText := true, laidKinds := [.data, .pinned], laidTests := true, laidLooks := .later }
def CanaryApartCardSaid : Prop := Claim7.holds Tryz.pinned (.plain (OpenSpec.ofChange canaryApartSpec)) canaryApartCard

/-- THE TIED CARD OF 'rexmilllaw36.CanaryArguments'. -/
def canaryArgumentsCard : Claim7 := { stood := { row := canaryArgumentsRow, standIns := [], harness := (true, "5a737fc6aeb7492879598fa0d79aab91712b91f2d7a03e3979b7688f336dcf13"), looks := true }, kinds := [], alts := [], laidByText := true, laidKinds := [.data, .pinned], laidTests := true, laidLooks := .later }
def CanaryArgumentsCardSaid : Prop := Claim7.holds Tryz.pinned (.plain (OpenSpec.ofChange canaryArgumentsSpec)) canaryArgumentsCard

/-- THE TIED CARD OF 'rexmilllaw36.CanarySame'. -/
def canarySameCard : Claim7 := { stood := { row := canarySameRow, standIns := [], harness := (true, "5a737fc6aeb7492879598fa0d79aab91712b91f2d7a03e3979b7688f336dcf13"), looks := true }, kinds := [], alts := [], laidByText := true, laidKinds := [.data, .pinned], laidTests := true, laidLooks := .later }
def CanarySameCardSaid : Prop := Claim7.holds Tryz.pinned (.plain (OpenSpec.ofChange canarySameSpec)) canarySameCard

/-- THE TIED CARD OF 'rexmilllaw36.CanarySides'. -/
def canarySidesCard : Claim7 := { stood := { row := canarySidesRow, standIns := [], harness := (true, "5a737fc6aeb7492879598fa0d79aab91712b91f2d7a03e3979b7688f336dcf13"), looks := true }, kinds := [], alts := [], laidByText := true, laidKinds := [.data, .pinned], laidTests := true, laidLooks := .later }
def CanarySidesCardSaid : Prop := Claim7.holds Tryz.pinned (.plain (OpenSpec.ofChange canarySidesSpec)) canarySidesCard

/-- THE SECOND FORM's CARD OF 'rexmilllaw36.CanaryApart'. -/
def canaryApartUptoCard : Claim7 := { stood := { row := canaryApartUptoRow, standIns := [], harness := (true, "5a737fc6aeb7492879598fa0d79aab91712b91f2d7a03e3979b7688f336dcf13"), looks := true }, kinds := [], alts := [], laidByText := true, laidKinds := [.data, .pinned], laidTests := true, laidLooks := .later }
def CanaryApartUptoCardSaid : Prop := Claim7.holds Tryz.pinned (.plain (OpenSpec.upto canaryApartSpec)) canaryApartUptoCard

/-- THE SECOND FORM's CARD OF 'rexmilllaw36.CanaryArguments'. -/
def canaryArgumentsUptoCard : Claim7 := { stood := { row := canaryArgumentsUptoRow, standIns := [], harness := (true, "5a737fc6aeb7492879598fa0d79aab91712b91f2d7a03e3979b7688f336dcf13"), looks := true }, kinds := [], alts := [], laidByText := true, laidKinds := [.data, .pinned], laidTests := true, laidLooks := .later }
def CanaryArgumentsUptoCardSaid : Prop := Claim7.holds Tryz.pinned (.plain (OpenSpec.upto canaryArgumentsSpec)) canaryArgumentsUptoCard

/-- THE SECOND FORM's CARD OF 'rexmilllaw36.CanarySame'. -/
def canarySameUptoCard : Claim7 := { stood := { row := canarySameUptoRow, standIns := [], harness := (true, "5a737fc6aeb7492879598fa0d79aab91712b91f2d7a03e3979b7688f336dcf13"), looks := true }, kinds := [], alts := [], laidByText := true, laidKinds := [.data, .pinned], laidTests := true, laidLooks := .later }
def CanarySameUptoCardSaid : Prop := Claim7.holds Tryz.pinned (.plain (OpenSpec.upto canarySameSpec)) canarySameUptoCard

/-- THE SECOND FORM's CARD OF 'rexmilllaw36.CanarySides'. -/
def canarySidesUptoCard : Claim7 := { stood := { row := canarySidesUptoRow, standIns := [], harness := (true, "5a737fc6aeb7492879598fa0d79aab91712b91f2d7a03e3979b7688f336dcf13"), looks := true }, kinds := [], alts := [], laidByText := true, laidKinds := [.data, .pinned], laidTests := true, laidLooks := .later }
def CanarySidesUptoCardSaid : Prop := Claim7.holds Tryz.pinned (.plain (OpenSpec.upto canarySidesSpec)) canarySidesUptoCard
end Rows
end Go.Proofs.YtopicmcaoeameaaGreatDoor
