/-
  First at the text [97, x], evaluated by the kernel at the texts of rules 0 and 1.
-/
import Derived.Test.YtopicmcaoeameaaGreatDoorApartG0b
namespace Go.Proofs.YtopicmcaoeameaaGreatDoor
set_option maxRecDepth 1000000
theorem first00 : chkFs 0 0 = true := by decide +kernel
theorem first01 : chkFs 0 1 = true := by decide +kernel
theorem first02 : chkFs 0 2 = true := by decide +kernel
theorem first10 : chkFs 1 0 = true := by decide +kernel
theorem first11 : chkFs 1 1 = true := by decide +kernel
theorem first12 : chkFs 1 2 = true := by decide +kernel
end Go.Proofs.YtopicmcaoeameaaGreatDoor
