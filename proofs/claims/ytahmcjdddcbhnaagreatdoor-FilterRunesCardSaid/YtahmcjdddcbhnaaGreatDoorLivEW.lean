/-
  The documented example, run by the kernel.
-/
import Derived.Test.YtahmcjdddcbhnaaGreatDoorRunG0b
namespace Go.Proofs.YtahmcjdddcbhnaaGreatDoor
open Go Go.Ev Go.RowKit

set_option maxRecDepth 10000000 in
theorem lives_true : (match cal0.fn 11 [] .nil (toPth 100) with | .ok (.bool true) _ _ => true | _ => false) = true := by decide +kernel
theorem lives_walk (w : World) : Calls Tryz.prog 11 #[] w fun e w' => e = .returned (.bool true) ∧ Below w.heap.size w w' := by
  have h := lives_true
  split at h
  · rename_i H n hc
    refine (call1 cal0_ok hc (fun _ => 0) w #[] rels_nil).mono ?_
    rintro e w' ⟨x, ι, rfl, hx, -, hb, -⟩
    simp only [V.rel] at hx
    subst hx
    exact ⟨rfl, hb⟩
  · cases h
end Go.Proofs.YtahmcjdddcbhnaaGreatDoor
