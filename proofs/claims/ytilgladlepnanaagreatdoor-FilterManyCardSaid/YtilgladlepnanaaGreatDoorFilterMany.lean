/-
  For every number and every tick, the law FilterMany returns true, and its arguments read behind the call as before; conditions: the two listed tables of package utf8 hold what the program's text lays in them (the card ties that); nothing else.
  How: a verified evaluator of the model's code (the texts Ev1 to Ev40), run by the kernel once for the law, with the two numbers as symbols; newRule and watch by summaries that the kernel evaluated, Around and Remove by walks, the sorted keys by the library's contracts, the documented example (lives) by an evaluation of its own.
-/
import Derived.Test.YtilgladlepnanaaGreatDoorRows
import Derived.Test.YtilgladlepnanaaGreatDoorTie
import Derived.Test.YtilgladlepnanaaGreatDoorCards
import Derived.Test.YtilgladlepnanaaGreatDoorRow
import Derived.Test.YtilgladlepnanaaGreatDoorFactG
import Derived.Test.YtilgladlepnanaaGreatDoorFactH
import Derived.SevenTiedAt
namespace Go.Proofs.YtilgladlepnanaaGreatDoor
open Go Go.ChangeShapes Go.WideShapes Go.ChangeAt Go.RowKit

/-! ### The tied card -/
theorem filterMany_holds : Rows.FilterManyCardSaid :=
  Claim7.holds_tied_plain_at .later [] [.data, .pinned] true (true, "004dab7588f21a6a275ff943aaacb9a7b012047f0cb915068ea1c29fe36cc260") false
    row_holds (fun _ h => by cases h) (by kernel_rfl) (fun _ h => by cases h) filterMany_row_tie rfl ⟨rfl, rfl⟩ (by kernel_rfl) rfl
    (fun f fn hf hfn => by
      obtain rfl : f = 3 := Option.some.inj (factI.symm.trans hf) |>.symm
      obtain rfl : fn = Tryz.f3 := (Option.some.inj (Tryz.func3.symm.trans hfn)).symm
      exact ⟨factH, fun j t ht => by
        rw [Tryz.params3] at ht
        have h3 : t = 3 := by
          rcases j with _ | _ | j
          · simpa using ht.symm
          · simpa using ht.symm
          · simp at ht
        subst h3
        exact (show Tryz.prog.wantsStandIn 3 = false by kernel_rfl)⟩)
    factG
#print axioms filterMany_holds
end Go.Proofs.YtilgladlepnanaaGreatDoor
