/-
  Kernel runs: what the runs give at each position of a text, by classes.
-/
import Derived.Test.YtopicmcaoeameaaGreatDoorApartG0b
namespace Go.Proofs.YtopicmcaoeameaaGreatDoor
open Go Go.Ev

set_option maxRecDepth 1000000 in
theorem tree_2_4 : (List.range 5).all (fun a => tree 2 4 a) = true := by decide +kernel
end Go.Proofs.YtopicmcaoeameaaGreatDoor
