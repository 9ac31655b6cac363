/-
  Run, as the rule that waits asks for it.
-/
import Derived.Test.YtahmcjdddcbhnaaGreatDoorBackRW
import Derived.Test.YtahmcjdddcbhnaaGreatDoorRunG3a
namespace Go.Proofs.YtahmcjdddcbhnaaGreatDoor
open Go Go.Ev Go.RowKit Go.Imap
theorem run_ok : RunOk := fun _ _ _ _ _ _ _ hM hx hcp hS ha hxl hfu => run_walk hM hx hcp hS ha hxl hfu
end Go.Proofs.YtahmcjdddcbhnaaGreatDoor
