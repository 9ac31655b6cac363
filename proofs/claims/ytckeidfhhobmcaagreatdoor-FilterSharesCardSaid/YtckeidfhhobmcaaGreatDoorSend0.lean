/-
  The piece that sends, for the connection 0, evaluated by the kernel at all its states, lengths, periods and shares.
-/
import Derived.Test.YtckeidfhhobmcaaGreatDoorSend
namespace Go.Proofs.YtckeidfhhobmcaaGreatDoor
open Go Go.Ev

set_option maxRecDepth 10000000 in
theorem send0_0_1 : nine (fun m => both4 0 0 m 1) = true := by decide +kernel
set_option maxRecDepth 10000000 in
theorem send0_0_2 : nine (fun m => both4 0 0 m 2) = true := by decide +kernel
set_option maxRecDepth 10000000 in
theorem send0_1_1 : nine (fun m => both4 0 1 m 1) = true := by decide +kernel
set_option maxRecDepth 10000000 in
theorem send0_1_2 : nine (fun m => both4 0 1 m 2) = true := by decide +kernel
set_option maxRecDepth 10000000 in
theorem send0_2_1 : nine (fun m => both4 0 2 m 1) = true := by decide +kernel
set_option maxRecDepth 10000000 in
theorem send0_2_2 : nine (fun m => both4 0 2 m 2) = true := by decide +kernel
set_option maxRecDepth 10000000 in
theorem send0_3_1 : nine (fun m => both4 0 3 m 1) = true := by decide +kernel
set_option maxRecDepth 10000000 in
theorem send0_3_2 : nine (fun m => both4 0 3 m 2) = true := by decide +kernel
set_option maxRecDepth 10000000 in
theorem send0_4 : nine (fun m => run4 0 4 m 0 true) = true := by decide +kernel
end Go.Proofs.YtckeidfhhobmcaaGreatDoor
