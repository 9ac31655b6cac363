/-
  Kernel runs: what the runs of the plan with a machine give at each position of a text, by classes.
-/
import Derived.Test.YtopicmcaoeameaaGreatDoorApartG1c
namespace Go.Proofs.YtopicmcaoeameaaGreatDoor
open Go Go.Ev

set_option maxRecDepth 1000000 in
theorem tree_3_1 : (List.range 2).all (fun a => treeM 1 a) = true := by decide +kernel
set_option maxRecDepth 1000000 in
theorem tree_3_2 : (List.range 3).all (fun a => treeM 2 a) = true := by decide +kernel
end Go.Proofs.YtopicmcaoeameaaGreatDoor
