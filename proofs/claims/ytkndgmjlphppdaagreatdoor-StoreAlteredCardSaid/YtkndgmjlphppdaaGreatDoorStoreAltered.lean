/-
  For all arguments, the law StoreAltered returns true, and its arguments read behind the call as before; conditions: the two listed tables of package utf8 hold what the program's text lays in them (the card ties that); nothing else.
  How: walks of the functions that the law reaches through (disk, wire, journal, ruleset, store), over contracts of Parse, plan.New and Diff that a verified evaluator of the model's code (the texts EvA to EvD), run by the kernel, gives for the eight texts of rules.
-/
import Derived.Test.YtkndgmjlphppdaaGreatDoorRows
import Derived.Test.YtkndgmjlphppdaaGreatDoorTie
import Derived.Test.YtkndgmjlphppdaaGreatDoorCards
import Derived.Test.YtkndgmjlphppdaaGreatDoorAltRowW
import Derived.Test.YtkndgmjlphppdaaGreatDoorAltFactGW
import Derived.Test.YtkndgmjlphppdaaGreatDoorAltFactHW
import Derived.SevenTiedAt
namespace Go.Proofs.YtkndgmjlphppdaaGreatDoor
open Go Go.ChangeShapes Go.WideShapes Go.ChangeAt Go.RowKit

/-! ### The tied card -/
theorem storeAltered_holds : Rows.StoreAlteredCardSaid :=
  Claim7.holds_tied_plain_at .later [] [.data, .pinned] true (true, "05ce25d4a49f505f1a028e2f2bdf5a5062a380ea27cb72896714b2a2490c3df4") false
    row_holds (fun _ h => by cases h) (by kernel_rfl) (fun _ h => by cases h) storeAltered_row_tie rfl ⟨rfl, rfl⟩ (by kernel_rfl) rfl
    (fun f fn hf hfn => by
      obtain rfl : f = 4 := Option.some.inj (factI.symm.trans hf) |>.symm
      obtain rfl : fn = Tryz.f4 := (Option.some.inj (Tryz.func4.symm.trans hfn)).symm
      exact ⟨factH, fun j t ht => by
        rw [Tryz.params4] at ht
        have h3 : t = 3 ∨ t = 22 := by
          rcases j with _ | _ | j
          · right; simpa using ht.symm
          · left; simpa using ht.symm
          · simp at ht
        rcases h3 with rfl | rfl
        · exact (show Tryz.prog.wantsStandIn 3 = false by kernel_rfl)
        · exact (show Tryz.prog.wantsStandIn 22 = false by kernel_rfl)⟩)
    factG
#print axioms storeAltered_holds
end Go.Proofs.YtkndgmjlphppdaaGreatDoor
