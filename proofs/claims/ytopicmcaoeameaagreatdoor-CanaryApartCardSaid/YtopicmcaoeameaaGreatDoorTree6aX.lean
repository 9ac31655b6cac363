/-
  Kernel runs: what First gives at the plan of the oracle, by which symbols are 97.
-/
import Derived.Test.YtopicmcaoeameaaGreatDoorApartG1c
namespace Go.Proofs.YtopicmcaoeameaaGreatDoor
open Go Go.Ev

set_option maxRecDepth 1000000 in
theorem treeB_1 : (List.range 2).all (fun f => treeB 1 f) = true := by decide +kernel
set_option maxRecDepth 1000000 in
theorem treeB_2 : (List.range 3).all (fun f => treeB 2 f) = true := by decide +kernel
set_option maxRecDepth 1000000 in
theorem treeB_3 : (List.range 4).all (fun f => treeB 3 f) = true := by decide +kernel
end Go.Proofs.YtopicmcaoeameaaGreatDoor
