/-
  The stream of the rule \u{e4}: its steps with the symbol, run by the kernel.
-/
import Derived.Test.YtahmcjdddcbhnaaGreatDoorRunG1a
namespace Go.Proofs.YtahmcjdddcbhnaaGreatDoor
open Go Go.Ev Go.RowKit

theorem run_stepK0 : stepK 0 = true := by decide +kernel
theorem run_stepK1 : stepK 1 = true := by decide +kernel
theorem run_stepK2 : stepK 2 = true := by decide +kernel
theorem run_stepK3 : stepK 3 = true := by decide +kernel
theorem run_stepK4 : stepK 4 = true := by decide +kernel
theorem run_stepK5 : stepK 5 = true := by decide +kernel
theorem run_stepK6 : stepK 6 = true := by decide +kernel
theorem run_stepK7 : stepK 7 = true := by decide +kernel
theorem run_stepK8 : stepK 8 = true := by decide +kernel
theorem run_stepK9 : stepK 9 = true := by decide +kernel
theorem run_stepK10 : stepK 10 = true := by decide +kernel
theorem run_stepK11 : stepK 11 = true := by decide +kernel
end Go.Proofs.YtahmcjdddcbhnaaGreatDoor
