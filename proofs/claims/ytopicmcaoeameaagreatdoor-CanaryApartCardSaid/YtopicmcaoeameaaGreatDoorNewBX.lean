/-
  Parse and plan.New, evaluated by the kernel at the texts of rules 6 to 11.
-/
import Derived.Test.YtopicmcaoeameaaGreatDoorApartG0a
namespace Go.Proofs.YtopicmcaoeameaaGreatDoor
set_option maxRecDepth 1000000
theorem new6 : chkNew 6 = true := by decide +kernel
theorem new7 : chkNew 7 = true := by decide +kernel
theorem new8 : chkNew 8 = true := by decide +kernel
theorem new9 : chkNew 9 = true := by decide +kernel
theorem new10 : chkNew 10 = true := by decide +kernel
theorem new11 : chkNew 11 = true := by decide +kernel
end Go.Proofs.YtopicmcaoeameaaGreatDoor
