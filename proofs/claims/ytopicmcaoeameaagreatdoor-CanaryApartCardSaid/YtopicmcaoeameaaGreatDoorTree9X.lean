/-
  Kernel runs: what the runs give at each position of a text, by classes.
-/
import Derived.Test.YtopicmcaoeameaaGreatDoorApartG0b
namespace Go.Proofs.YtopicmcaoeameaaGreatDoor
open Go Go.Ev

set_option maxRecDepth 1000000 in
theorem tree_9_1 : (List.range 2).all (fun a => tree 9 1 a) = true := by decide +kernel
set_option maxRecDepth 1000000 in
theorem tree_9_2 : (List.range 3).all (fun a => tree 9 2 a) = true := by decide +kernel
set_option maxRecDepth 1000000 in
theorem tree_9_3 : (List.range 4).all (fun a => tree 9 3 a) = true := by decide +kernel
set_option maxRecDepth 1000000 in
theorem tree_9_4 : (List.range 5).all (fun a => tree 9 4 a) = true := by decide +kernel
set_option maxRecDepth 1000000 in
theorem tree_9_5 : (List.range 6).all (fun a => tree 9 5 a) = true := by decide +kernel
end Go.Proofs.YtopicmcaoeameaaGreatDoor
