/-
  The piece that sends, for the connection 1, evaluated by the kernel at all its states, lengths, periods and shares.
-/
import Derived.Test.YtckeidfhhobmcaaGreatDoorSend
namespace Go.Proofs.YtckeidfhhobmcaaGreatDoor
open Go Go.Ev

set_option maxRecDepth 10000000 in
theorem send1_0_1 : nine (fun m => both4 1 0 m 1) = true := by decide +kernel
set_option maxRecDepth 10000000 in
theorem send1_0_2 : nine (fun m => both4 1 0 m 2) = true := by decide +kernel
set_option maxRecDepth 10000000 in
theorem send1_1_1 : nine (fun m => both4 1 1 m 1) = true := by decide +kernel
set_option maxRecDepth 10000000 in
theorem send1_1_2 : nine (fun m => both4 1 1 m 2) = true := by decide +kernel
set_option maxRecDepth 10000000 in
theorem send1_2_1 : nine (fun m => both4 1 2 m 1) = true := by decide +kernel
set_option maxRecDepth 10000000 in
theorem send1_2_2 : nine (fun m => both4 1 2 m 2) = true := by decide +kernel
set_option maxRecDepth 10000000 in
theorem send1_3_1 : nine (fun m => both4 1 3 m 1) = true := by decide +kernel
set_option maxRecDepth 10000000 in
theorem send1_3_2 : nine (fun m => both4 1 3 m 2) = true := by decide +kernel
set_option maxRecDepth 10000000 in
theorem send1_4 : nine (fun m => run4 1 4 m 0 true) = true := by decide +kernel
end Go.Proofs.YtckeidfhhobmcaaGreatDoor
