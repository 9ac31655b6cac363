/-
  The law's beginning and its end, evaluated by the kernel.
-/
import Derived.Test.YtckeidfhhobmcaaGreatDoorLight
namespace Go.Proofs.YtckeidfhhobmcaaGreatDoor
open Go Go.Ev

set_option maxRecDepth 10000000 in
theorem run_pre : chk .nrm G0 asg0 pre [(0, inL), (1, sShare), (2, inY)] frame0 [] (fullS 0 0) [] [] = true := by decide +kernel
set_option maxRecDepth 10000000 in
theorem run_fin1 : each2 (fun a b => chk .ret (Gfin true) ids [ending] frL [(6, .bool true)] (cmn ++ (outB (isOut a) (isOut b) ++ conn 0 a)) [] (conn 1 b) []) = true := by decide +kernel
set_option maxRecDepth 10000000 in
theorem run_fin0 : each2 (fun a b => chk .ret (Gfin false) ids [ending] frL [(6, .bool true)] (cmn ++ (outB (isOut a) (isOut b) ++ conn 0 a)) [] (conn 1 b) []) = true := by decide +kernel
end Go.Proofs.YtckeidfhhobmcaaGreatDoor
