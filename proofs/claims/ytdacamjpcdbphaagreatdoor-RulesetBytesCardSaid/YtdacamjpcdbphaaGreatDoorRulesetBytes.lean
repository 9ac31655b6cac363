/-
  For all arguments, the law RulesetBytes returns true, and its arguments read behind the call as before; conditions: the two listed tables of package utf8 hold what the program's text lays in them (the card ties that); nothing else.
  How: walks of the functions that the law reaches through (the reference's generator and printer of patterns, the encoders, the decoder), over a documented example that a verified evaluator of the model's code (the texts EvA to EvD), run by the kernel, gives.
-/
import Derived.Test.YtdacamjpcdbphaaGreatDoorRows
import Derived.Test.YtdacamjpcdbphaaGreatDoorTie
import Derived.Test.YtdacamjpcdbphaaGreatDoorCards
import Derived.Test.YtdacamjpcdbphaaGreatDoorBytRowW
import Derived.Test.YtdacamjpcdbphaaGreatDoorBytFactGW
import Derived.Test.YtdacamjpcdbphaaGreatDoorBytFactHW
import Derived.SevenTiedAt
namespace Go.Proofs.YtdacamjpcdbphaaGreatDoor
open Go Go.ChangeShapes Go.WideShapes Go.ChangeAt Go.RowKit

/-! ### The tied card -/
theorem rulesetBytes_holds : Rows.RulesetBytesCardSaid :=
  Claim7.holds_tied_plain_at .later [] [.data, .pinned] true (true, "e050ea99a3178854a7b93dc1a74467f3445adbed8722f9f25413d45dbce6ef16") false
    row_holds (fun _ h => by cases h) (by kernel_rfl) (fun _ h => by cases h) rulesetBytes_row_tie rfl ⟨rfl, rfl⟩ (by kernel_rfl) rfl
    (fun f fn hf hfn => by
      obtain rfl : f = 3 := Option.some.inj (factI.symm.trans hf) |>.symm
      obtain rfl : fn = Tryz.f3 := (Option.some.inj (Tryz.func3.symm.trans hfn)).symm
      exact ⟨factH, fun j t ht => by
        rw [Tryz.params3] at ht
        have h3 : t = 23 ∨ t = 3 ∨ t = 22 ∨ t = 9 ∨ t = 5 := by
          rcases j with _ | _ | _ | _ | _ | _ | j
          · right; right; left; simpa using ht.symm
          · right; left; simpa using ht.symm
          · right; left; simpa using ht.symm
          · right; right; right; left; simpa using ht.symm
          · left; simpa using ht.symm
          · right; right; right; right; simpa using ht.symm
          · simp at ht
        rcases h3 with rfl | rfl | rfl | rfl | rfl
        · exact (show Tryz.prog.wantsStandIn 23 = false by kernel_rfl)
        · exact (show Tryz.prog.wantsStandIn 3 = false by kernel_rfl)
        · exact (show Tryz.prog.wantsStandIn 22 = false by kernel_rfl)
        · exact (show Tryz.prog.wantsStandIn 9 = false by kernel_rfl)
        · exact (show Tryz.prog.wantsStandIn 5 = false by kernel_rfl)⟩)
    factG
#print axioms rulesetBytes_holds
end Go.Proofs.YtdacamjpcdbphaaGreatDoor
