/-
  A closed fact of the program that the card asks for, by the kernel (what it goes by).
-/
import Derived.Test.YtahmcjdddcbhnaaGreatDoorRows
import Derived.ProofKit
import GoSem.ClaimSeven
namespace Go.Proofs.YtahmcjdddcbhnaaGreatDoor
open Go
set_option maxRecDepth 100000 in
theorem factG : false = Rows.filterRunesRow.goesBy Tryz.pinned.checked.prog := by kernel_rfl
end Go.Proofs.YtahmcjdddcbhnaaGreatDoor
