/-
  A closed fact of the program that the row asks for, by the kernel (whether it recurses).
-/
import Derived.Test.YtahmcjdddcbhnaaGreatDoorRows
import Derived.ProofKit
namespace Go.Proofs.YtahmcjdddcbhnaaGreatDoor
open Go
set_option maxRecDepth 100000 in
theorem factE : (Rows.filterRunesRow.recurses == Tryz.pinned.checked.prog.recurses 3) = true := by kernel_rfl
end Go.Proofs.YtahmcjdddcbhnaaGreatDoor
