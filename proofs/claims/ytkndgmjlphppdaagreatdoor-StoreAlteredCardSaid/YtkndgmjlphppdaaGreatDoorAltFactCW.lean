/-
  A closed fact of the program that the row asks for, by the kernel (what is entered in place).
-/
import Derived.Test.YtkndgmjlphppdaaGreatDoorRows
import Derived.ProofKit
namespace Go.Proofs.YtkndgmjlphppdaaGreatDoor
open Go
set_option maxRecDepth 100000 in
theorem factC : (Rows.storeAlteredRow.inPlace == Tryz.pinned.checked.prog.inPlace 4) = true := by kernel_rfl
end Go.Proofs.YtkndgmjlphppdaaGreatDoor
