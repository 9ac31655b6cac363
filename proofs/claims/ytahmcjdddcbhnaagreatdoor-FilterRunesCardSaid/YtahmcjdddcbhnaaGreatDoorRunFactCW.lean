/-
  A closed fact of the program that the row asks for, by the kernel (what is entered in place).
-/
import Derived.Test.YtahmcjdddcbhnaaGreatDoorRows
import Derived.ProofKit
namespace Go.Proofs.YtahmcjdddcbhnaaGreatDoor
open Go
set_option maxRecDepth 100000 in
theorem factC : (Rows.filterRunesRow.inPlace == Tryz.pinned.checked.prog.inPlace 3) = true := by kernel_rfl
end Go.Proofs.YtahmcjdddcbhnaaGreatDoor
