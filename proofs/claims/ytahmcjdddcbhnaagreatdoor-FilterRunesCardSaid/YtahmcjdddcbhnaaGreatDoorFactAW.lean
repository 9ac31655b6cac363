/-
  A closed fact of the program that the row asks for, by the kernel (its types are laid out).
-/
import Derived.Test.YtahmcjdddcbhnaaGreatDoorRows
import Derived.ProofKit
namespace Go.Proofs.YtahmcjdddcbhnaaGreatDoor
open Go
set_option maxRecDepth 100000 in
theorem factA : laidOutB Tryz.pinned.checked.prog = true := by kernel_rfl
end Go.Proofs.YtahmcjdddcbhnaaGreatDoor
