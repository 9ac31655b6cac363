/-
  The canary's Verdict and Counts, walked.
-/
import Derived.Test.YtopicmcaoeameaaGreatDoorBase
import Derived.Tactics
import Derived.Tactics2
import Derived.StillTactics
import Derived.WalkKit
namespace Go.Proofs.YtopicmcaoeameaaGreatDoor
open Go Go.Ev Go.RowKit

/-- the canary's verdict -/
def verdict (most enough compared unlike : Int) : Int := if most < unlike then 2 else if enough ≤ compared then 1 else 0
set_option maxRecDepth 1000000 in
theorem verdict_walk {cb : Nat} {w : World} {m e c u : Int} (k3 : w.cell? ⟨cb, 3, none⟩ = some (.int .i64 m)) (k4 : w.cell? ⟨cb, 4, none⟩ = some (.int .i64 e)) (k6 : w.cell? ⟨cb, 6, none⟩ = some (.int .i64 c)) (k7 : w.cell? ⟨cb, 7, none⟩ = some (.int .i64 u)) :
    Calls Tryz.prog 19 #[.pointer (some ⟨cb, 0, none⟩)] w fun ed w' => ed = .returned (.int .i64 (verdict m e c u)) ∧ Below w.heap.size w w' := by
  obtain ⟨X, hX⟩ : ∃ X, verdict m e c u = X := ⟨_, rfl⟩
  rw [hX]
  have HX : Hid (verdict m e c u = X) := hX
  clear hX
  go_enter Tryz.func19, Tryz.ntmps19
  by_cases h1 : m < u
  · have hx : X = 2 := by rw [← HX.out, verdict, if_pos h1]
    subst hx
    go_wp2_with fail
    go_region
    all_goals (try go_wp2)
    all_goals (go_ret; exact ⟨rfl, (Below.refl _ _).drew⟩)
  · by_cases h2 : e ≤ c
    · have hx : X = 1 := by rw [← HX.out, verdict, if_neg h1, if_pos h2]
      subst hx
      go_wp2_with fail
      go_region
      all_goals (try go_wp2)
      all_goals (try go_region)
      all_goals (try go_wp2)
      all_goals (go_ret; exact ⟨rfl, (Below.refl _ _).drew.drew⟩)
    · have hx : X = 0 := by rw [← HX.out, verdict, if_neg h1, if_neg h2]
      subst hx
      go_wp2_with fail
      go_region
      all_goals (try go_wp2)
      all_goals (try go_region)
      all_goals (try go_wp2)
      all_goals (go_ret; exact ⟨rfl, (Below.refl _ _).drew.drew⟩)
set_option maxRecDepth 1000000 in
theorem counts_walk {cb : Nat} {w : World} {s c u : Int} (k5 : w.cell? ⟨cb, 5, none⟩ = some (.int .i64 s)) (k6 : w.cell? ⟨cb, 6, none⟩ = some (.int .i64 c)) (k7 : w.cell? ⟨cb, 7, none⟩ = some (.int .i64 u)) :
    Calls Tryz.prog 17 #[.pointer (some ⟨cb, 0, none⟩)] w fun ed w' => ed = .returned (.tuple #[.int .i64 s, .int .i64 c, .int .i64 u]) ∧ Below w.heap.size w w' := by
  go_enter Tryz.func17, Tryz.ntmps17
  go_wp2_with fail
  go_region
  all_goals (try go_wp2)
  all_goals (go_ret3; exact ⟨rfl, (Below.refl _ _).drew⟩)
end Go.Proofs.YtopicmcaoeameaaGreatDoor
