/-
  Kernel runs: what the runs give at each position of a text, by classes.
-/
import Derived.Test.YtopicmcaoeameaaGreatDoorApartG0b
namespace Go.Proofs.YtopicmcaoeameaaGreatDoor
open Go Go.Ev

set_option maxRecDepth 1000000 in
theorem tree_1_1 : (List.range 2).all (fun a => tree 1 1 a) = true := by decide +kernel
set_option maxRecDepth 1000000 in
theorem tree_1_2 : (List.range 3).all (fun a => tree 1 2 a) = true := by decide +kernel
set_option maxRecDepth 1000000 in
theorem tree_1_3 : (List.range 4).all (fun a => tree 1 3 a) = true := by decide +kernel
set_option maxRecDepth 1000000 in
theorem tree_1_4 : (List.range 5).all (fun a => tree 1 4 a) = true := by decide +kernel
set_option maxRecDepth 1000000 in
theorem tree_1_5 : (List.range 6).all (fun a => tree 1 5 a) = true := by decide +kernel
end Go.Proofs.YtopicmcaoeameaaGreatDoor
