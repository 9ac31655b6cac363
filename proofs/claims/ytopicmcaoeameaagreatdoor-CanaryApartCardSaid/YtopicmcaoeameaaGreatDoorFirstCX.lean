/-
  First at the text [97, x], evaluated by the kernel at the texts of rules 4 and 5.
-/
import Derived.Test.YtopicmcaoeameaaGreatDoorApartG0b
namespace Go.Proofs.YtopicmcaoeameaaGreatDoor
set_option maxRecDepth 1000000
theorem first40 : chkFs 4 0 = true := by decide +kernel
theorem first41 : chkFs 4 1 = true := by decide +kernel
theorem first42 : chkFs 4 2 = true := by decide +kernel
theorem first50 : chkFs 5 0 = true := by decide +kernel
theorem first51 : chkFs 5 1 = true := by decide +kernel
theorem first52 : chkFs 5 2 = true := by decide +kernel
end Go.Proofs.YtopicmcaoeameaaGreatDoor
