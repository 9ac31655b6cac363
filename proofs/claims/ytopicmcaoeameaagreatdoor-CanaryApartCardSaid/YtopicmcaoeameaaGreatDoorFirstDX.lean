/-
  First at the text [97, x], evaluated by the kernel at the texts of rules 6 and 7.
-/
import Derived.Test.YtopicmcaoeameaaGreatDoorApartG0b
namespace Go.Proofs.YtopicmcaoeameaaGreatDoor
set_option maxRecDepth 1000000
theorem first60 : chkFs 6 0 = true := by decide +kernel
theorem first61 : chkFs 6 1 = true := by decide +kernel
theorem first62 : chkFs 6 2 = true := by decide +kernel
theorem first70 : chkFs 7 0 = true := by decide +kernel
theorem first71 : chkFs 7 1 = true := by decide +kernel
theorem first72 : chkFs 7 2 = true := by decide +kernel
end Go.Proofs.YtopicmcaoeameaaGreatDoor
