/-
  Kernel runs: what the runs give at each position of a text, by classes.
-/
import Derived.Test.YtopicmcaoeameaaGreatDoorApartG0b
namespace Go.Proofs.YtopicmcaoeameaaGreatDoor
open Go Go.Ev

set_option maxRecDepth 1000000 in
theorem tree_2_5 : (List.range 6).all (fun a => tree 2 5 a) = true := by decide +kernel
end Go.Proofs.YtopicmcaoeameaaGreatDoor
