/-
  A closed fact of the program that the card asks for, by the kernel (what it looks at; the law's number).
-/
import Derived.Test.YtahmcjdddcbhnaaGreatDoorRows
import Derived.ProofKit
import GoSem.ClaimSeven
namespace Go.Proofs.YtahmcjdddcbhnaaGreatDoor
open Go
set_option maxRecDepth 100000 in
theorem factH : false = Tryz.pinned.checked.prog.looks [] := by kernel_rfl
set_option maxRecDepth 100000 in
theorem factI : Tryz.pinned.checked.prog.funcNamed Rows.filterRunesRow.func = some 3 := by kernel_rfl
end Go.Proofs.YtahmcjdddcbhnaaGreatDoor
