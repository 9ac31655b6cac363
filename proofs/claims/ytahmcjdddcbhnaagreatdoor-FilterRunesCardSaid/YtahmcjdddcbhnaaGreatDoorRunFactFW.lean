/-
  A closed fact of the program that the row asks for, by the kernel (which variables it names).
-/
import Derived.Test.YtahmcjdddcbhnaaGreatDoorRows
import Derived.ProofKit
namespace Go.Proofs.YtahmcjdddcbhnaaGreatDoor
open Go
set_option maxRecDepth 100000 in
theorem factF : (Rows.filterRunesRow.named == Tryz.pinned.checked.prog.varsNamed 3) = true := by kernel_rfl
end Go.Proofs.YtahmcjdddcbhnaaGreatDoor
