/-
  A closed fact of the program that the card asks for, by the kernel (what it looks at; the law's number).
-/
import Derived.Test.YtopicmcaoeameaaGreatDoorRows
import Derived.ProofKit
import GoSem.ClaimSeven
namespace Go.Proofs.YtopicmcaoeameaaGreatDoor
open Go
set_option maxRecDepth 100000 in
theorem factH : true = Tryz.pinned.checked.prog.looks [] := by kernel_rfl
set_option maxRecDepth 100000 in
theorem factI : Tryz.pinned.checked.prog.funcNamed Rows.canaryApartRow.func = some 3 := by kernel_rfl
end Go.Proofs.YtopicmcaoeameaaGreatDoor
