/-
  Parse and plan.New, evaluated by the kernel at texts of rules.
-/
import Derived.Test.YtkndgmjlphppdaaGreatDoorDurG0a
namespace Go.Proofs.YtkndgmjlphppdaaGreatDoor
set_option maxRecDepth 1000000
theorem new3f : chkNew 3 false = true := by decide +kernel
theorem new3t : chkNew 3 true = true := by decide +kernel
theorem new4f : chkNew 4 false = true := by decide +kernel
theorem new4t : chkNew 4 true = true := by decide +kernel
theorem new5f : chkNew 5 false = true := by decide +kernel
theorem new5t : chkNew 5 true = true := by decide +kernel
end Go.Proofs.YtkndgmjlphppdaaGreatDoor
