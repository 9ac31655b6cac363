/-
  DERIVED. GIVEN WITH THE SEED: THE CARDS: each row of YtkndgmjlphppdaaGreatDoorRows.lean that lists a variable, with what it lists TIED to the program's text (the seventh form; the later family's looks); each row that meets fmt, with fmt's text TOLD by the authors' own Lean function (tested against real Go, not proved from fmt's source: count such statements apart). THE CARD IS WHAT COUNTS. Prove the row's statement (the work); the ties are given (YtkndgmjlphppdaaGreatDoorTie.lean); close each card by the builder's one call (the guide's Derived/Test/ToyasCard.lean, 'card_holds'). Laid BY PROGRAM, IN A SANDBOX (cutbox-door.mjs). By AI agents, Wed Nov 11 2026. No macro, syntax, notation, axiom, sorry.
-/
import Derived.Test.YtkndgmjlphppdaaGreatDoorRows
import GoSem.ClaimSeven
namespace Go.Proofs.YtkndgmjlphppdaaGreatDoor
namespace Rows

/-- THE TIED CARD OF 'rexmilllaw32.StoreApart'. -/
def storeApartCard : Claim7 := { stood := { row := storeApartRow, standIns := [], harness := (true, "05ce25d4a49f505f1a028e2f2bdf5a5062a380ea27cb72896714b2a2490c3df4"), looks := false }, kinds := [], alts := [], laidByText := true, laidKinds := [.data, .pinned], laidTests := true, laidLooks := .later }
def StoreApartCardSaid : Prop := Claim7.holds Tryz.pinned (.plain (OpenSpec.ofChange storeApartSpec)) storeApartCard

/-- THE TIED CARD OF 'rexmilllaw32.StoreAltered'. -/
def storeAlteredCard : Claim7 := { stood := { row := storeAlteredRow, standIns := [], harness := (true, "05ce25d4a49f505f1a028e2f2bdf5a5062a380ea27cb72896714b2a2490c3df4"), looks := false }, kinds := [], alts := [], laidByText := true, laidKinds := [.data, .pinned], laidTests := true, laidLooks := .later }
def StoreAlteredCardSaid : Prop := Claim7.holds Tryz.pinned (.plain (OpenSpec.ofChange storeAlteredSpec)) storeAlteredCard

/-- THE TIED CARD OF 'rexmilllaw32.StoreDurable'. -/
def storeDurableCard : Claim7 := { stood := { row := storeDurableRow, standIns := [], harness := (true, "05ce25d4a49f505f1a028e2f2bdf5a5062a380ea27cb72896714b2a2490c3df4"), looks := false }, kinds := [], alts := [], laidByText := true, laidKinds := [.data, .pinned], laidTests := true, laidLooks := .later }
def StoreDurableCardSaid : Prop := Claim7.holds Tryz.pinned (.plain (OpenSpec.ofChange storeDurableSpec)) storeDurableCard

/-- THE SECOND FORM's CARD OF 'rexmilllaw32.StoreApart'. -/
def storeApartUptoCard : Claim7 := { stood := { row := storeApartUptoRow, standIns := [], harness := (true, "05ce25d4a49f505f1a028e2f2bdf5a5062a380ea27cb72896714b2a2490c3df4"), looks := false }, kinds := [], alts := [], laidByText := true, laidKinds := [.data, .pinned], laidTests := true, laidLooks := .later }
def StoreApartUptoCardSaid : Prop := Claim7.holds Tryz.pinned (.plain (OpenSpec.upto storeApartSpec)) storeApartUptoCard

/-- THE SECOND FORM's CARD OF 'rexmilllaw32.StoreAltered'. -/
def storeAlteredUptoCard : Claim7 := { stood := { row := storeAlteredUptoRow, standIns := [], harness := (true, "05ce25d4a49f505f1a028e2f2bdf5a5062a380ea27cb72896714b2a2490c3df4"), looks := false }, kinds := [], alts := [], laidByText := true, laidKinds := [.data, .pinned], laidTests := true, laidLooks := .later }
def StoreAlteredUptoCardSaid : Prop := Claim7.holds Tryz.pinned (.plain (OpenSpec.upto storeAlteredSpec)) storeAlteredUptoCard

/-- THE SECOND FORM's CARD OF 'rexmilllaw32.StoreDurable'. -/
def storeDurableUptoCard : Claim7 := { stood := { row := storeDurableUptoRow, standIns := [], harness := (true, "05ce25d4a49f505f1a028e2f2bdf5a5062a380ea27cb72896714b2a2490c3df4"), looks := false }, kinds := [], alts := [], laidByText := true, laidKinds := [.data, .pinned], laidTests := true, laidLooks := .later }
def StoreDurableUptoCardSaid : Prop := Claim7.holds Tryz.pinned (.plain (OpenSpec.upto storeDurableSpec)) storeDurableUptoCard
end Rows
end Go.Proofs.YtkndgmjlphppdaaGreatDoor
