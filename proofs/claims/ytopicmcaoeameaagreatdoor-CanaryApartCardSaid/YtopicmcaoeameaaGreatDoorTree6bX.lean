/-
  Kernel runs: what First gives at the plan of the oracle, by which symbols are 97.
-/
import Derived.Test.YtopicmcaoeameaaGreatDoorApartG1c
namespace Go.Proofs.YtopicmcaoeameaaGreatDoor
open Go Go.Ev

set_option maxRecDepth 1000000 in
theorem treeB_40 : treeB 4 0 = true := by decide +kernel
set_option maxRecDepth 1000000 in
theorem treeB_41 : treeB 4 1 = true := by decide +kernel
end Go.Proofs.YtopicmcaoeameaaGreatDoor
