/-
  For all pieces, shares and waits, the law FilterShares returns true, and its arguments read behind the call as before; conditions: the two listed tables of package utf8 hold what the program's text lays in them (the card ties that); nothing else.
  How: a verified evaluator of the model's code (the texts EvA to EvD), run by the kernel once for each piece of the law's code, from one symbolic state to another one; the law's loop by induction.
-/
import Derived.Test.YtckeidfhhobmcaaGreatDoorRows
import Derived.Test.YtckeidfhhobmcaaGreatDoorTie
import Derived.Test.YtckeidfhhobmcaaGreatDoorCards
import Derived.Test.YtckeidfhhobmcaaGreatDoorRow
import Derived.Test.YtckeidfhhobmcaaGreatDoorFactG
import Derived.Test.YtckeidfhhobmcaaGreatDoorFactH
import Derived.SevenTiedAt
namespace Go.Proofs.YtckeidfhhobmcaaGreatDoor
open Go Go.ChangeShapes Go.WideShapes Go.ChangeAt Go.RowKit

/-! ### The tied card -/
theorem filterShares_holds : Rows.FilterSharesCardSaid :=
  Claim7.holds_tied_plain_at .later [] [.data, .pinned] true (true, "5fb2835eeee418eb414584765a0bc1ae9fcf2d3b4eb2390fb27f20d1070e760f") false
    row_holds (fun _ h => by cases h) (by kernel_rfl) (fun _ h => by cases h) filterShares_row_tie rfl ⟨rfl, rfl⟩ (by kernel_rfl) rfl
    (fun f fn hf hfn => by
      obtain rfl : f = 3 := Option.some.inj (factI.symm.trans hf) |>.symm
      obtain rfl : fn = Tryz.f3 := (Option.some.inj (Tryz.func3.symm.trans hfn)).symm
      exact ⟨factH, fun j t ht => by
        rw [Tryz.params3] at ht
        have h3 : t = 3 ∨ t = 22 := by
          rcases j with _ | _ | _ | j
          · right; simpa using ht.symm
          · left; simpa using ht.symm
          · right; simpa using ht.symm
          · simp at ht
        rcases h3 with rfl | rfl
        · exact (show Tryz.prog.wantsStandIn 3 = false by kernel_rfl)
        · exact (show Tryz.prog.wantsStandIn 22 = false by kernel_rfl)⟩)
    factG
#print axioms filterShares_holds
end Go.Proofs.YtckeidfhhobmcaaGreatDoor
