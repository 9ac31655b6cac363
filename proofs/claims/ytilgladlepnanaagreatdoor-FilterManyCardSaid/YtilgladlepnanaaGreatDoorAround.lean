/-
  Around, walked: n, or -(n + 1) where n is negative, modulo a number above 0.
-/
import Derived.Test.YtilgladlepnanaaGreatDoorSums
import Derived.Tactics
import Derived.Tactics2
import Derived.StillTactics
import Derived.WalkKit
namespace Go.Proofs.YtilgladlepnanaaGreatDoor
open Go Go.Ev

set_option maxRecDepth 1000000 in
theorem around_walk (z : Int) (m : Nat) (w : World) (hm : 0 < m) (h1 : IntKind.i64.min ≤ z) (h2 : z ≤ IntKind.i64.max) (h3 : (m : Int) ≤ IntKind.i64.max) :
    Calls Tryz.prog 6 #[.int .i64 z, .int .i64 (m : Int)] w fun e w' => e = .returned (.int .i64 (arnd z m)) ∧ w' = w := by
  go_enter Tryz.func6, Tryz.ntmps6
  go_wp2
  · rename_i hn
    have l1 : -9223372036854775808 ≤ z := h1
    have l2 : z ≤ 9223372036854775807 := h2
    go_ret
    refine ⟨?_, rfl⟩
    have e1 : RowKit.wrap64 (z + 1) = z + 1 := by unfold RowKit.wrap64; omega
    have e2 : RowKit.wrap64 (-(z + 1)) = -(z + 1) := by unfold RowKit.wrap64; omega
    rw [e1, e2]
    unfold arnd
    rw [if_pos hn, Int.tmod_eq_emod_of_nonneg (by omega)]; rfl
  · rename_i hn
    go_ret
    refine ⟨?_, rfl⟩
    unfold arnd
    rw [if_neg (by omega)]; rfl
end Go.Proofs.YtilgladlepnanaaGreatDoor
