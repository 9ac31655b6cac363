/-
  Parse and plan.New, evaluated by the kernel at the texts of rules 0 to 5.
-/
import Derived.Test.YtopicmcaoeameaaGreatDoorApartG0a
namespace Go.Proofs.YtopicmcaoeameaaGreatDoor
set_option maxRecDepth 1000000
theorem new0 : chkNew 0 = true := by decide +kernel
theorem new1 : chkNew 1 = true := by decide +kernel
theorem new2 : chkNew 2 = true := by decide +kernel
theorem new3 : chkNew 3 = true := by decide +kernel
theorem new4 : chkNew 4 = true := by decide +kernel
theorem new5 : chkNew 5 = true := by decide +kernel
end Go.Proofs.YtopicmcaoeameaaGreatDoor
