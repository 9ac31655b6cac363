/-
  The stream of the rule \u{e4}: its steps with the symbol, run by the kernel.
-/
import Derived.Test.YtahmcjdddcbhnaaGreatDoorRunG1a
namespace Go.Proofs.YtahmcjdddcbhnaaGreatDoor
open Go Go.Ev Go.RowKit

theorem run_stepK12 : stepK 12 = true := by decide +kernel
theorem run_stepK13 : stepK 13 = true := by decide +kernel
theorem run_stepK14 : stepK 14 = true := by decide +kernel
theorem run_stepK15 : stepK 15 = true := by decide +kernel
theorem run_stepK16 : stepK 16 = true := by decide +kernel
theorem run_stepK17 : stepK 17 = true := by decide +kernel
theorem run_stepK18 : stepK 18 = true := by decide +kernel
theorem run_stepK19 : stepK 19 = true := by decide +kernel
theorem run_stepK20 : stepK 20 = true := by decide +kernel
theorem run_stepK21 : stepK 21 = true := by decide +kernel
theorem run_stepK22 : stepK 22 = true := by decide +kernel
theorem run_stepK23 : stepK 23 = true := by decide +kernel
end Go.Proofs.YtahmcjdddcbhnaaGreatDoor
