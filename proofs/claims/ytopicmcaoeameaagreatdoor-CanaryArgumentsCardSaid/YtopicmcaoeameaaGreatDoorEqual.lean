/-
  slices.Equal of two slices of pairs, walked.
-/
import Derived.Test.YtopicmcaoeameaaGreatDoorCollect
namespace Go.Proofs.YtopicmcaoeameaaGreatDoor
open Go Go.Ev Go.RowKit Go.Smap

theorem eq112 (x1 y1 x2 y2 : Int) (w : World) : (Op.equalIn 10000 112 (.agg #[.int .i64 x1, .int .i64 y1]) (.agg #[.int .i64 x2, .int .i64 y2])).run Tryz.prog w = .ok (x1 == x2 && y1 == y2) w := by
  have h3 : ∀ d (a b : Int), (Op.equalIn (d + 1) 3 (.int .i64 a) (.int .i64 b)).run Tryz.prog w = .ok (a == b) w := fun d a b => by
    unfold Op.equalIn
    simp [run_underlying Tryz.underlying3, Result.andThen]
  unfold Op.equalIn
  simp [run_underlying Tryz.underlying112, Result.andThen]
  have hp : ∀ (a b : Int), (part 3 #[Value.int .i64 a, Value.int .i64 b] 0).run Tryz.prog w = .ok (.int .i64 a) w := fun a b => by kernel_rfl
  have hq : ∀ (a b : Int), (part 3 #[Value.int .i64 a, Value.int .i64 b] 1).run Tryz.prog w = .ok (.int .i64 b) w := fun a b => by kernel_rfl
  have e : List.range' 0 2 = [0, 1] := rfl
  rw [e]
  simp only [List.forIn_cons, List.forIn_nil, Sem.run_bind, hp, Result.andThen, h3 9998]
  by_cases hx : x1 = x2
  · by_cases hy : y1 = y2
    · simp [hx, hy, Sem.run_bind, hq, h3 9998, Result.andThen]
    · simp [hx, hy, Sem.run_bind, hq, h3 9998, Result.andThen]
  · simp [hx]
set_option maxRecDepth 1000000 in
theorem equal_walk {w : World} {b1 b2 : Nat} {v1 v2 : Value} {l1 l2 : List (Int × Int)} (h1 : w.ownsRow b1 112 2 v1 l1.length (l1.flatMap pcells)) (h2 : w.ownsRow b2 112 2 v2 l2.length (l2.flatMap pcells)) (hl1 : l1.length ≤ 1000000) (hl2 : l2.length ≤ 1000000) :
    Calls Tryz.prog 43 #[v1, v2] w fun e w' => e = .returned (.bool (decide (l1 = l2))) ∧ Below w.heap.size w w' := by
  obtain ⟨a1, c1, rfl, ha1⟩ := owns_shape h1
  obtain ⟨a2, c2, rfl, ha2⟩ := owns_shape h2
  obtain ⟨X, hX⟩ : ∃ X, decide (l1 = l2) = X := ⟨_, rfl⟩
  rw [hX]
  have HX : Hid (decide (l1 = l2) = X) := hX
  clear hX
  by_cases hne : l1.length = l2.length
  · go_enter Tryz.func43, Tryz.ntmps43
    go_wp2_with fail
    go_loopw [13] (fun i wr => ∃ j : Nat, j ≤ l1.length ∧ i = .int .i64 j ∧ Below w.heap.size w wr ∧ Hid (l1.take j = l2.take j)) (fun i _ => l1.length - (intOf i).toNat)
    case atStart => exact ⟨0, Nat.zero_le _, rfl, Below.refl _ _, rfl⟩
    case round =>
      obtain ⟨j, hj, rfl, hbel, htk⟩ := hrel
      by_cases hjl : j < l1.length
      · have hjl2 : j < l2.length := by omega
        obtain ⟨g1, rfl⟩ := ha1 (by omega)
        obtain ⟨g2, rfl⟩ := ha2 (by omega)
        have e1 : ∀ i, i < 2 → wr.cell? ⟨g1, j * 2 + i, none⟩ = (pcells l1[j])[i]? := fun i hi => by
          rw [(owns_below h1 hbel).cellAt _ (by have := Nat.mul_le_mul_right 2 (Nat.succ_le_of_lt hjl); omega), flat_at pcells 2 (fun _ => rfl) l1 j hjl i hi]
        have e2 : ∀ i, i < 2 → wr.cell? ⟨g2, j * 2 + i, none⟩ = (pcells l2[j])[i]? := fun i hi => by
          rw [(owns_below h2 hbel).cellAt _ (by have := Nat.mul_le_mul_right 2 (Nat.succ_le_of_lt hjl2); omega), flat_at pcells 2 (fun _ => rfl) l2 j hjl2 i hi]
        obtain ⟨p1, hp1⟩ : ∃ p, l1[j] = p := ⟨_, rfl⟩
        obtain ⟨p2, hp2⟩ : ∃ p, l2[j] = p := ⟨_, rfl⟩
        rw [hp1] at e1
        rw [hp2] at e2
        obtain ⟨x1, y1⟩ := p1
        obtain ⟨x2, y2⟩ := p2
        have c0 : wr.cell? ⟨g1, j * 2, none⟩ = some (.int .i64 x1) := e1 0 (by omega)
        have c1 : wr.cell? ⟨g1, j * 2 + 1, none⟩ = some (.int .i64 y1) := e1 1 (by omega)
        have d0 : wr.cell? ⟨g2, j * 2, none⟩ = some (.int .i64 x2) := e2 0 (by omega)
        have d1 : wr.cell? ⟨g2, j * 2 + 1, none⟩ = some (.int .i64 y2) := e2 1 (by omega)
        have HP1 : Hid (l1[j] = (x1, y1)) := hp1
        have HP2 : Hid (l2[j] = (x2, y2)) := hp2
        clear hp1 hp2 e1 e2
        by_cases hpp : x1 = x2 ∧ y1 = y2
        · obtain ⟨rfl, rfl⟩ := hpp
          have heq : ∀ w : World, (Op.equalIn 10000 112 (.agg #[.int .i64 x1, .int .i64 y1]) (.agg #[.int .i64 x1, .int .i64 y1])).run Tryz.prog w = .ok true w := fun w => by rw [eq112]; simp
          go_wp2_with fail
          go_region
          all_goals (try go_wp2)
          go_roundw
          case rel =>
            refine ⟨j + 1, hjl, by go_num, hbel.drew, ?_⟩
            show l1.take (j + 1) = l2.take (j + 1)
            rw [List.take_succ_eq_append_getElem hjl, List.take_succ_eq_append_getElem hjl2, htk.out, HP1.out, HP2.out]
          case measure => simp [intOf]; omega
        · have heq : ∀ w : World, (Op.equalIn 10000 112 (.agg #[.int .i64 x1, .int .i64 y1]) (.agg #[.int .i64 x2, .int .i64 y2])).run Tryz.prog w = .ok false w := fun w => by
            rw [eq112]
            congr 1
            simpa using hpp
          have hx : X = false := by
            rw [← HX.out]
            simp only [decide_eq_false_iff_not]
            intro e
            subst e
            have := HP1.out.symm.trans HP2.out
            exact hpp ⟨congrArg Prod.fst this, congrArg Prod.snd this⟩
          subst hx
          clear hpp
          go_wp2_with fail
          go_region
          all_goals (try go_wp2)
          go_ret
          exact ⟨rfl, hbel.drew⟩
      · have hje : j = l1.length := by omega
        have hx : X = true := by
          rw [← HX.out]
          have := htk.out
          rw [hje, List.take_length, hne, List.take_length] at this
          simpa using this
        subst hje
        subst hx
        go_wp2_with fail
        go_ret
        exact ⟨rfl, hbel⟩
  · have hx : X = false := by rw [← HX.out]; simp; intro e; exact hne (by rw [e])
    subst hx
    have hne' : ¬ ((l1.length : Int) = (l2.length : Int)) := by omega
    go_enter Tryz.func43, Tryz.ntmps43
    go_wp2_with fail
    go_ret
    exact ⟨rfl, Below.refl _ _⟩
end Go.Proofs.YtopicmcaoeameaaGreatDoor
