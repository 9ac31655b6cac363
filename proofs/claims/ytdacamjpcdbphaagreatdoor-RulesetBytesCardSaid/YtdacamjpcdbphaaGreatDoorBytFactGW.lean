/-
  A closed fact of the program that the card asks for, by the kernel (what it goes by).
-/
import Derived.Test.YtdacamjpcdbphaaGreatDoorRows
import Derived.ProofKit
import GoSem.ClaimSeven
namespace Go.Proofs.YtdacamjpcdbphaaGreatDoor
open Go
set_option maxRecDepth 100000 in
theorem factG : false = Rows.rulesetBytesRow.goesBy Tryz.pinned.checked.prog := by kernel_rfl
end Go.Proofs.YtdacamjpcdbphaaGreatDoor
