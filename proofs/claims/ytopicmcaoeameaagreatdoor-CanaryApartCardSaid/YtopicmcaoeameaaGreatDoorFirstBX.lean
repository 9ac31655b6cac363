/-
  First at the text [97, x], evaluated by the kernel at the texts of rules 2 and 3.
-/
import Derived.Test.YtopicmcaoeameaaGreatDoorApartG0b
namespace Go.Proofs.YtopicmcaoeameaaGreatDoor
set_option maxRecDepth 1000000
theorem first20 : chkFs 2 0 = true := by decide +kernel
theorem first21 : chkFs 2 1 = true := by decide +kernel
theorem first22 : chkFs 2 2 = true := by decide +kernel
theorem first30 : chkFs 3 0 = true := by decide +kernel
theorem first31 : chkFs 3 1 = true := by decide +kernel
theorem first32 : chkFs 3 2 = true := by decide +kernel
end Go.Proofs.YtopicmcaoeameaaGreatDoor
