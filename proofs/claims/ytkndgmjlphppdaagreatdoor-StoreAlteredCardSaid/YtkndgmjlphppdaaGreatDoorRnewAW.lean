/-
  Parse and plan.New, evaluated by the kernel at texts of rules.
-/
import Derived.Test.YtkndgmjlphppdaaGreatDoorDurG0a
namespace Go.Proofs.YtkndgmjlphppdaaGreatDoor
set_option maxRecDepth 1000000
theorem new0f : chkNew 0 false = true := by decide +kernel
theorem new0t : chkNew 0 true = true := by decide +kernel
theorem new1f : chkNew 1 false = true := by decide +kernel
theorem new1t : chkNew 1 true = true := by decide +kernel
theorem new2f : chkNew 2 false = true := by decide +kernel
theorem new2t : chkNew 2 true = true := by decide +kernel
end Go.Proofs.YtkndgmjlphppdaaGreatDoor
