/-
  The documented example of package filter, which the law FilterMany ends in, evaluated by the kernel with the verified evaluator.
-/
import Derived.Test.YtilgladlepnanaaGreatDoorSums
namespace Go.Proofs.YtilgladlepnanaaGreatDoor
open Go Go.Ev
set_option maxRecDepth 10000000 in
theorem lives_true : okTrue (cal.fn 12 [] .nil .e) = true := by decide +kernel
end Go.Proofs.YtilgladlepnanaaGreatDoor
