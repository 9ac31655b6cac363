/-
  The stream of the rule \u{e4}: its steps with other symbols, run by the kernel.
-/
import Derived.Test.YtahmcjdddcbhnaaGreatDoorRunG1a
namespace Go.Proofs.YtahmcjdddcbhnaaGreatDoor
open Go Go.Ev Go.RowKit

theorem run_stepJ2_0 : stepJ 2 0 = true := by decide +kernel
theorem run_stepJ2_1 : stepJ 2 1 = true := by decide +kernel
theorem run_stepJ2_2 : stepJ 2 2 = true := by decide +kernel
theorem run_stepJ2_3 : stepJ 2 3 = true := by decide +kernel
theorem run_stepJ2_4 : stepJ 2 4 = true := by decide +kernel
theorem run_stepJ2_5 : stepJ 2 5 = true := by decide +kernel
theorem run_stepJ2_6 : stepJ 2 6 = true := by decide +kernel
theorem run_stepJ2_7 : stepJ 2 7 = true := by decide +kernel
theorem run_stepJ2_8 : stepJ 2 8 = true := by decide +kernel
theorem run_stepJ2_9 : stepJ 2 9 = true := by decide +kernel
theorem run_stepJ2_10 : stepJ 2 10 = true := by decide +kernel
theorem run_stepJ2_11 : stepJ 2 11 = true := by decide +kernel
theorem run_stepJ2_12 : stepJ 2 12 = true := by decide +kernel
theorem run_stepJ2_13 : stepJ 2 13 = true := by decide +kernel
theorem run_stepJ2_14 : stepJ 2 14 = true := by decide +kernel
theorem run_stepJ2_15 : stepJ 2 15 = true := by decide +kernel
theorem run_stepJ2_16 : stepJ 2 16 = true := by decide +kernel
theorem run_stepJ2_17 : stepJ 2 17 = true := by decide +kernel
theorem run_stepJ2_18 : stepJ 2 18 = true := by decide +kernel
theorem run_stepJ2_19 : stepJ 2 19 = true := by decide +kernel
theorem run_stepJ2_20 : stepJ 2 20 = true := by decide +kernel
theorem run_stepJ2_21 : stepJ 2 21 = true := by decide +kernel
theorem run_stepJ2_22 : stepJ 2 22 = true := by decide +kernel
theorem run_stepJ2_23 : stepJ 2 23 = true := by decide +kernel
end Go.Proofs.YtahmcjdddcbhnaaGreatDoor
