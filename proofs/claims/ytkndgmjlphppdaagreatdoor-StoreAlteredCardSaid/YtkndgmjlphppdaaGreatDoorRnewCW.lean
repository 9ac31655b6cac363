/-
  Parse and plan.New, evaluated by the kernel at texts of rules.
-/
import Derived.Test.YtkndgmjlphppdaaGreatDoorDurG0a
namespace Go.Proofs.YtkndgmjlphppdaaGreatDoor
set_option maxRecDepth 1000000
theorem new6f : chkNew 6 false = true := by decide +kernel
theorem new6t : chkNew 6 true = true := by decide +kernel
theorem new7f : chkNew 7 false = true := by decide +kernel
theorem new7t : chkNew 7 true = true := by decide +kernel
theorem new8f : chkNew 8 false = true := by decide +kernel
theorem new8t : chkNew 8 true = true := by decide +kernel
end Go.Proofs.YtkndgmjlphppdaaGreatDoor
