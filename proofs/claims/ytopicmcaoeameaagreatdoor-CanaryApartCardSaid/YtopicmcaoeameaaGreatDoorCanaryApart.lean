/-
  For all numbers, the law CanaryApart returns true, and its arguments read behind the call as before; conditions: the two listed tables of package utf8 hold what the program's text lays in them (the card ties that); nothing else.
  How: walks of the functions that the law reaches through (sides, rule, own, Compile, New, See ..), over contracts of Parse, plan.New and First that a verified evaluator of the model's code (the texts EvA to EvD), run by the kernel, gives for the twelve texts of rules, by classes of the symbols that are read; See as a step of a plain state.
-/
import Derived.Test.YtopicmcaoeameaaGreatDoorRows
import Derived.Test.YtopicmcaoeameaaGreatDoorTie
import Derived.Test.YtopicmcaoeameaaGreatDoorCards
import Derived.Test.YtopicmcaoeameaaGreatDoorApartRowX
import Derived.Test.YtopicmcaoeameaaGreatDoorApartFactGX
import Derived.Test.YtopicmcaoeameaaGreatDoorApartFactHX
import Derived.SevenTiedAt
namespace Go.Proofs.YtopicmcaoeameaaGreatDoor
open Go Go.ChangeShapes Go.WideShapes Go.ChangeAt Go.RowKit

/-! ### The tied card -/
theorem canaryApart_holds : Rows.CanaryApartCardSaid :=
  Claim7.holds_tied_plain_at .later [] [.data, .pinned] true (true, "5a737fc6aeb7492879598fa0d79aab91712b91f2d7a03e3979b7688f336dcf13") true
    row_holds (fun _ h => by cases h) (by kernel_rfl) (fun _ h => by cases h) canaryApart_row_tie rfl ⟨rfl, rfl⟩ (by kernel_rfl) rfl
    (fun f fn hf hfn => by
      obtain rfl : f = 3 := Option.some.inj (factI.symm.trans hf) |>.symm
      obtain rfl : fn = Tryz.f3 := (Option.some.inj (Tryz.func3.symm.trans hfn)).symm
      exact ⟨factH, fun j t ht => by
        rw [Tryz.params3] at ht
        have h3 : t = 3 ∨ t = 22 := by
          rcases j with _ | _ | _ | j
          · right; simpa using ht.symm
          · right; simpa using ht.symm
          · left; simpa using ht.symm
          · simp at ht
        rcases h3 with rfl | rfl
        · exact (show Tryz.prog.wantsStandIn 3 = false by kernel_rfl)
        · exact (show Tryz.prog.wantsStandIn 22 = false by kernel_rfl)⟩)
    factG
#print axioms canaryApart_holds
end Go.Proofs.YtopicmcaoeameaaGreatDoor
