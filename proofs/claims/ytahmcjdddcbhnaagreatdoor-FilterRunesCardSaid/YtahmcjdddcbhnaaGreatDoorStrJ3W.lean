/-
  The stream of the rule \u{e4}: its steps with other symbols, run by the kernel.
-/
import Derived.Test.YtahmcjdddcbhnaaGreatDoorRunG1a
namespace Go.Proofs.YtahmcjdddcbhnaaGreatDoor
open Go Go.Ev Go.RowKit

theorem run_stepJ3_0 : stepJ 3 0 = true := by decide +kernel
theorem run_stepJ3_1 : stepJ 3 1 = true := by decide +kernel
theorem run_stepJ3_2 : stepJ 3 2 = true := by decide +kernel
theorem run_stepJ3_3 : stepJ 3 3 = true := by decide +kernel
theorem run_stepJ3_4 : stepJ 3 4 = true := by decide +kernel
theorem run_stepJ3_5 : stepJ 3 5 = true := by decide +kernel
theorem run_stepJ3_6 : stepJ 3 6 = true := by decide +kernel
theorem run_stepJ3_7 : stepJ 3 7 = true := by decide +kernel
theorem run_stepJ3_8 : stepJ 3 8 = true := by decide +kernel
theorem run_stepJ3_9 : stepJ 3 9 = true := by decide +kernel
theorem run_stepJ3_10 : stepJ 3 10 = true := by decide +kernel
theorem run_stepJ3_11 : stepJ 3 11 = true := by decide +kernel
theorem run_stepJ3_12 : stepJ 3 12 = true := by decide +kernel
theorem run_stepJ3_13 : stepJ 3 13 = true := by decide +kernel
theorem run_stepJ3_14 : stepJ 3 14 = true := by decide +kernel
theorem run_stepJ3_15 : stepJ 3 15 = true := by decide +kernel
theorem run_stepJ3_16 : stepJ 3 16 = true := by decide +kernel
theorem run_stepJ3_17 : stepJ 3 17 = true := by decide +kernel
theorem run_stepJ3_18 : stepJ 3 18 = true := by decide +kernel
theorem run_stepJ3_19 : stepJ 3 19 = true := by decide +kernel
theorem run_stepJ3_20 : stepJ 3 20 = true := by decide +kernel
theorem run_stepJ3_21 : stepJ 3 21 = true := by decide +kernel
theorem run_stepJ3_22 : stepJ 3 22 = true := by decide +kernel
theorem run_stepJ3_23 : stepJ 3 23 = true := by decide +kernel
end Go.Proofs.YtahmcjdddcbhnaaGreatDoor
