/-
  Kernel runs: what the runs give at each position of a text, by classes.
-/
import Derived.Test.YtopicmcaoeameaaGreatDoorApartG0b
namespace Go.Proofs.YtopicmcaoeameaaGreatDoor
open Go Go.Ev

set_option maxRecDepth 1000000 in
theorem tree_2_1 : (List.range 2).all (fun a => tree 2 1 a) = true := by decide +kernel
set_option maxRecDepth 1000000 in
theorem tree_2_2 : (List.range 3).all (fun a => tree 2 2 a) = true := by decide +kernel
set_option maxRecDepth 1000000 in
theorem tree_2_3 : (List.range 4).all (fun a => tree 2 3 a) = true := by decide +kernel
end Go.Proofs.YtopicmcaoeameaaGreatDoor
