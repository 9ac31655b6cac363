/-
  The stream of the rule \u{e4}: its steps with other symbols, run by the kernel.
-/
import Derived.Test.YtahmcjdddcbhnaaGreatDoorRunG1a
namespace Go.Proofs.YtahmcjdddcbhnaaGreatDoor
open Go Go.Ev Go.RowKit

theorem run_stepJ0_0 : stepJ 0 0 = true := by decide +kernel
theorem run_stepJ0_1 : stepJ 0 1 = true := by decide +kernel
theorem run_stepJ0_2 : stepJ 0 2 = true := by decide +kernel
theorem run_stepJ0_3 : stepJ 0 3 = true := by decide +kernel
theorem run_stepJ0_4 : stepJ 0 4 = true := by decide +kernel
theorem run_stepJ0_5 : stepJ 0 5 = true := by decide +kernel
theorem run_stepJ0_6 : stepJ 0 6 = true := by decide +kernel
theorem run_stepJ0_7 : stepJ 0 7 = true := by decide +kernel
theorem run_stepJ0_8 : stepJ 0 8 = true := by decide +kernel
theorem run_stepJ0_9 : stepJ 0 9 = true := by decide +kernel
theorem run_stepJ0_10 : stepJ 0 10 = true := by decide +kernel
theorem run_stepJ0_11 : stepJ 0 11 = true := by decide +kernel
theorem run_stepJ0_12 : stepJ 0 12 = true := by decide +kernel
theorem run_stepJ0_13 : stepJ 0 13 = true := by decide +kernel
theorem run_stepJ0_14 : stepJ 0 14 = true := by decide +kernel
theorem run_stepJ0_15 : stepJ 0 15 = true := by decide +kernel
theorem run_stepJ0_16 : stepJ 0 16 = true := by decide +kernel
theorem run_stepJ0_17 : stepJ 0 17 = true := by decide +kernel
theorem run_stepJ0_18 : stepJ 0 18 = true := by decide +kernel
theorem run_stepJ0_19 : stepJ 0 19 = true := by decide +kernel
theorem run_stepJ0_20 : stepJ 0 20 = true := by decide +kernel
theorem run_stepJ0_21 : stepJ 0 21 = true := by decide +kernel
theorem run_stepJ0_22 : stepJ 0 22 = true := by decide +kernel
theorem run_stepJ0_23 : stepJ 0 23 = true := by decide +kernel
end Go.Proofs.YtahmcjdddcbhnaaGreatDoor
