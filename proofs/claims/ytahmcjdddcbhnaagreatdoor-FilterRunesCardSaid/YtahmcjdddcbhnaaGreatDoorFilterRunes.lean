/-
  For all arguments, the law FilterRunes returns true, and its arguments read behind the call as before; conditions: the listed tables of packages text and utf8 hold what the program's text lays in them (the card ties that); nothing else.
  How: walks of the functions that the law reaches through (the filter, its meter and streams, decoding, the backtracker), over contracts that a verified evaluator of the model's code (the texts EvA to EvD), run by the kernel, gives for the rule of one symbol.
-/
import Derived.Test.YtahmcjdddcbhnaaGreatDoorRows
import Derived.Test.YtahmcjdddcbhnaaGreatDoorTie
import Derived.Test.YtahmcjdddcbhnaaGreatDoorCards
import Derived.Test.YtahmcjdddcbhnaaGreatDoorRunRowW
import Derived.Test.YtahmcjdddcbhnaaGreatDoorRunFactGW
import Derived.Test.YtahmcjdddcbhnaaGreatDoorRunFactHW
import Derived.SevenTiedAt
namespace Go.Proofs.YtahmcjdddcbhnaaGreatDoor
open Go Go.ChangeShapes Go.WideShapes Go.ChangeAt Go.RowKit

/-! ### The tied card -/
theorem filterRunes_holds : Rows.FilterRunesCardSaid :=
  Claim7.holds_tied_plain_at .later [] [.data, .data, .pinned] true (true, "e47e29ce8173fc47745258b131e26a52e34d77ba0bfc1bd2d76bb26b40e4e489") false
    row_holds (fun _ h => by cases h) (by kernel_rfl) (fun _ h => by cases h) filterRunes_row_tie rfl ⟨rfl, rfl⟩ (by kernel_rfl) rfl
    (fun f fn hf hfn => by
      obtain rfl : f = 3 := Option.some.inj (factI.symm.trans hf) |>.symm
      obtain rfl : fn = Tryz.f3 := (Option.some.inj (Tryz.func3.symm.trans hfn)).symm
      exact ⟨factH, fun j t ht => by
        rw [Tryz.params3] at ht
        have h3 : t = 22 ∨ t = 23 ∨ t = 4 := by
          rcases j with _ | _ | _ | _ | j
          · left; simpa using ht.symm
          · left; simpa using ht.symm
          · right; left; simpa using ht.symm
          · right; right; simpa using ht.symm
          · simp at ht
        rcases h3 with rfl | rfl | rfl
        · exact (show Tryz.prog.wantsStandIn 22 = false by kernel_rfl)
        · exact (show Tryz.prog.wantsStandIn 23 = false by kernel_rfl)
        · exact (show Tryz.prog.wantsStandIn 4 = false by kernel_rfl)⟩)
    factG
#print axioms filterRunes_holds
end Go.Proofs.YtahmcjdddcbhnaaGreatDoor
