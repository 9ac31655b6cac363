/-
  The printer of trees, walked: quantified.
-/
import Derived.Test.YtdacamjpcdbphaaGreatDoorBytG1a
namespace Go.Proofs.YtdacamjpcdbphaaGreatDoor
open Go Go.RowKit

/-- a kid's cells, the row's address known -/
theorem SeesT.cells {w wr : World} {b o cp : Nat} {ts : List VT} (h : SeesT w (.slice (some ⟨b, o, none⟩) ts.length cp) ts) (hB : Below w.heap.size w wr) {j : Nat} (hj : j < ts.length) {i : Nat} (hi : i = o + j * 8) :
    wr.cell? ⟨b, i, none⟩ = some (.int .i64 ts[j].op) ∧ wr.cell? ⟨b, i + 1, none⟩ = some ts[j].set ∧ wr.cell? ⟨b, i + 2, none⟩ = some ts[j].kidv ∧ wr.cell? ⟨b, i + 3, none⟩ = some (.int .i64 ts[j].mn) ∧
    wr.cell? ⟨b, i + 4, none⟩ = some (.int .i64 ts[j].mx) ∧ wr.cell? ⟨b, i + 5, none⟩ = some (.int .i64 ts[j].mo) ∧ wr.cell? ⟨b, i + 6, none⟩ = some (.int .i64 ts[j].n) ∧ wr.cell? ⟨b, i + 7, none⟩ = some (.bool ts[j].neg) := by
  obtain ⟨b', o', hA, h1⟩ := h.load hB hj
  cases hA
  rw [hi]
  exact h1
set_option maxHeartbeats 16000000 in
set_option maxRecDepth 1000000 in
theorem quant_walk {w : World} {B : Nat → Prop} {t : VT} {N : Nat} (hT : TreeAt w B t) (h4 : t.op = 4) (hN : N ≤ 1000000) (hp : ∀ k ∈ t.kids, Prints w 40 k.val N) :
    Calls Tryz.prog 64 #[t.val] w (SomeStr w (N + 32)) := by
  have hnode := hT.node
  obtain ⟨op, set, kidv, mn, mx, mo, n, neg, spans, kids⟩ := t
  have h4' : op = 4 := h4
  have hp' : ∀ k ∈ kids, Prints w 40 k.val N := hp
  subst h4'
  clear h4 hp
  have hmx : (mx = -1 ∨ mx = 1 ∨ mx = 2 ∨ mx = 3) ∧ (mn = 0 ∨ mn = 1 ∨ mn = 2) ∧ (mo = 0 ∨ mo = 1 ∨ mo = 2) ∧ kids.length = 1 := by
    have h : Shape 4 mn mx mo n neg spans kids.length := hnode
    generalize kids.length = m at h ⊢
    cases h <;> omega
  clear hnode
  obtain ⟨hmx, hmn, hmo, hk1⟩ := hmx
  have hx0 : mx = -1 ∨ 0 ≤ mx := by omega
  obtain ⟨k, rfl⟩ : ∃ k, kids = [k] := List.length_eq_one_iff.1 hk1
  have hK : SeesT w kidv [k] := hT.kids
  obtain ⟨A, cp, rfl, hcp, _⟩ := hK.shape
  have hpk := hp' k (by simp)
  clear hp' hT hk1
  have hK : SeesT w (.slice A 1 cp) [k] := hK
  have hdm : ∀ (w' : World), Calls Tryz.prog 43 #[.int .i64 mn, .int .i64 10] w' fun e w2 => ∃ s : ByteArray, e = .returned (.string s) ∧ s.size ≤ 3 ∧ w2 = w' := by
    intro w'
    have h1 := digits_same w' mn.toNat 10 (by omega) (.inl rfl)
    rw [show ((mn.toNat : Nat) : Int) = mn by omega] at h1
    exact h1
  have hdx' : ∀ (w' : World), 0 ≤ mx → Calls Tryz.prog 43 #[.int .i64 mx, .int .i64 10] w' fun e w2 => ∃ s : ByteArray, e = .returned (.string s) ∧ s.size ≤ 3 ∧ w2 = w' := by
    intro w' h
    have h1 := digits_same w' mx.toNat 10 (by omega) (.inl rfl)
    rw [show ((mx.toNat : Nat) : Int) = mx by omega] at h1
    exact h1
  obtain ⟨b, o, rfl, q0, q1, q2, q3, q4, q5, q6, q7⟩ := hK.load (Below.refl _ w) (show 0 < [k].length by simp)
  have hbox := fun (w' : World) (hb : Below (w.heap.size + 1) (w.alloc (.cells #[.int .i64 4, set, .slice (some ⟨b, o, none⟩) 1 cp, .int .i64 mn, .int .i64 mx, .int .i64 mo, .int .i64 n, .bool neg] 51)) w') =>
    (Blk.made w 51 #[.int .i64 4, set, .slice (some ⟨b, o, none⟩) 1 cp, .int .i64 mn, .int .i64 mx, .int .i64 mo, .int .i64 n, .bool neg]).bel hb (by omega)
  clear q0 q1 q2 q3 q4 q5 q6 q7
  have hld := fun (w' : World) (hb : Below w.heap.size w w') => SeesT.cells hK (wr := w') hb (show 0 < [k].length by simp) (i := o) (by omega)
  have hB0 := (Below.refl _ w).alloc (Nat.le_refl _) (.cells #[.int .i64 4, set, .slice (some ⟨b, o, none⟩) 1 cp, .int .i64 mn, .int .i64 mx, .int .i64 mo, .int .i64 n, .bool neg] 51)
  have hb0 := hbox _ (Below.refl _ _)
  have hs0 : (w.alloc (.cells #[.int .i64 4, set, .slice (some ⟨b, o, none⟩) 1 cp, .int .i64 mn, .int .i64 mx, .int .i64 mo, .int .i64 n, .bool neg] 51)).heap.size = w.heap.size + 1 := by simp
  obtain ⟨W0, hW0⟩ : ∃ x, w.alloc (.cells #[.int .i64 4, set, .slice (some ⟨b, o, none⟩) 1 cp, .int .i64 mn, .int .i64 mx, .int .i64 mo, .int .i64 n, .bool neg] 51) = x := ⟨_, rfl⟩
  rw [hW0] at hB0 hb0 hs0 hbox
  obtain ⟨z0, z1, z2, z3, z4, z5, z6, z7⟩ := hb0.eight
  obtain ⟨q0, q1, q2, q3, q4, q5, q6, q7⟩ := hld W0 hB0
  have hitem := asItem_walk (w := W0) (op := k.op) (set := k.set) (kidv := k.kidv) (mn := k.mn) (mx := k.mx) (mo := k.mo) (n := k.n) (neg := k.neg) hN (fun w' hb => hpk w' (hB0.trans (hb.mono hB0.size)))
  show Calls Tryz.prog 64 #[.agg #[.int .i64 4, set, .slice (some ⟨b, o, none⟩) 1 cp, .int .i64 mn, .int .i64 mx, .int .i64 mo, .int .i64 n, .bool neg]] w _
  clear hpk hK
  go_enter Tryz.func64, Tryz.ntmps64
  go_wp2_with fail
  refine hitem.mono ?_
  clear hitem
  rintro _ w1 ⟨s, rfl, hs, hB1⟩
  have hB := hB0.trans (hB1.mono hB0.size)
  rw [hs0] at hB1
  have hb1 := hbox _ hB1
  clear z0 z1 z2 z3 z4 z5 z6 z7 q0 q1 q2 q3 q4 q5 q6 q7
  obtain ⟨z0, z1, z2, z3, z4, z5, z6, z7⟩ := hb1.eight
  obtain ⟨q0, q1, q2, q3, q4, q5, q6, q7⟩ := hld w1 hB
  by_cases hk4 : k.op = 4
  · have hk4d : (k.op == 4) = true := by simpa using hk4
    have k2 : 3 + s.size + 1 ≤ 9223372036854775807 := by omega
    have k3 : 3 + s.size ≤ 9223372036854775807 := by omega
    have j1 : 3 + s.size + 1 + 1 ≤ 9223372036854775807 := by omega
    have j2 : 3 + s.size + 1 + 1 + 1 ≤ 9223372036854775807 := by omega
    by_cases hm1 : mx = -1
    · subst hm1
      rcases hmn with rfl | rfl | rfl
      · clear hdm hdx'
        rcases hmo with rfl | rfl | rfl
        all_goals
          go_wp2_with fail
          go_ret
          exact ⟨_, rfl, by simp [ByteArray.size_append', ByteArray.size_mk']; omega, hB⟩
      · clear hdm hdx'
        rcases hmo with rfl | rfl | rfl
        all_goals
          go_wp2_with fail
          go_ret
          exact ⟨_, rfl, by simp [ByteArray.size_append', ByteArray.size_mk']; omega, hB⟩
      · skip
        clear hdx'
        go_wp2_with fail
        with_reducible refine (hdm _).mono ?_
        rintro _ w2 ⟨s2, rfl, hs2, rfl⟩
        have i1 : 3 + s.size + 1 + 1 + s2.size ≤ 9223372036854775807 := by omega
        have i2 : 3 + s.size + 1 + 1 + s2.size + 1 ≤ 9223372036854775807 := by omega
        have i3 : 3 + s.size + 1 + 1 + s2.size + 2 ≤ 9223372036854775807 := by omega
        have i4 : 3 + s.size + 1 + 1 + s2.size + 1 + 1 ≤ 9223372036854775807 := by omega
        have i5 : 3 + s.size + 1 + 1 + s2.size + 2 + 1 ≤ 9223372036854775807 := by omega
        rcases hmo with rfl | rfl | rfl
        all_goals
          go_wp2_with fail
          go_ret
          exact ⟨_, rfl, by simp [ByteArray.size_append', ByteArray.size_mk']; omega, hB⟩
    have d1 : (mx == -1) = false := beq_eq_false_iff_ne.2 hm1
    by_cases hm2 : mx = 1
    · subst hm2
      rcases hmn with rfl | rfl | rfl
      · clear hdm hdx'
        rcases hmo with rfl | rfl | rfl
        all_goals
          go_wp2_with fail
          go_ret
          exact ⟨_, rfl, by simp [ByteArray.size_append', ByteArray.size_mk']; omega, hB⟩
      · skip
        clear hdx'
        go_wp2_with fail
        with_reducible refine (hdm _).mono ?_
        rintro _ w2 ⟨s2, rfl, hs2, rfl⟩
        have i1 : 3 + s.size + 1 + 1 + s2.size ≤ 9223372036854775807 := by omega
        have i2 : 3 + s.size + 1 + 1 + s2.size + 1 ≤ 9223372036854775807 := by omega
        have i3 : 3 + s.size + 1 + 1 + s2.size + 2 ≤ 9223372036854775807 := by omega
        have i4 : 3 + s.size + 1 + 1 + s2.size + 1 + 1 ≤ 9223372036854775807 := by omega
        have i5 : 3 + s.size + 1 + 1 + s2.size + 2 + 1 ≤ 9223372036854775807 := by omega
        rcases hmo with rfl | rfl | rfl
        all_goals
          go_wp2_with fail
          go_ret
          exact ⟨_, rfl, by simp [ByteArray.size_append', ByteArray.size_mk']; omega, hB⟩
      · skip
        have hdx2 := fun w' => hdx' w' (hx0.resolve_left hm1)
        clear hdx'
        have j3 : ¬ 9223372036854775807 < 3 + s.size + 1 + 1 := (by omega)
        go_wp2_with fail
        go_region_law
          (first
            | (go_simp; go_at_call 43; with_reducible refine (hdm _).mono ?_; rintro _ w2 ⟨s2, rfl, hs2, rfl⟩; have i1 : ¬ 9223372036854775807 < 3 + s.size + 1 + 1 + s2.size := (by omega); have i2 : ¬ 9223372036854775807 < 3 + s.size + 1 + 1 + s2.size + 1 := (by omega))
            | (go_simp; go_at_call 43; with_reducible refine (hdx2 _).mono ?_; rintro _ w3 ⟨s3, rfl, hs3, rfl⟩; have i3 : ¬ 9223372036854775807 < 3 + s.size + 1 + 1 + s2.size + 1 + s3.size := (by omega); have i4 : ¬ 9223372036854775807 < 3 + s.size + 1 + 1 + s2.size + 1 + s3.size + 1 := (by omega); have i5 : ¬ 9223372036854775807 < 3 + s.size + 1 + 1 + s2.size + 1 + s3.size + 1 + 1 := (by omega)))
        all_goals
          rcases hmo with rfl | rfl | rfl
          all_goals
            go_wp2_with fail
            go_ret
            exact ⟨_, rfl, by simp [ByteArray.size_append', ByteArray.size_mk']; omega, hB.drew⟩
    have d2 : (mx == 1) = false := beq_eq_false_iff_ne.2 hm2
    by_cases hm3 : mx = mn
    · subst hm3
      clear hdx'
      go_wp2_with fail
      with_reducible refine (hdm _).mono ?_
      rintro _ w2 ⟨s2, rfl, hs2, rfl⟩
      have i1 : 3 + s.size + 1 + 1 + s2.size ≤ 9223372036854775807 := by omega
      have i2 : 3 + s.size + 1 + 1 + s2.size + 1 ≤ 9223372036854775807 := by omega
      have i3 : 3 + s.size + 1 + 1 + s2.size + 2 ≤ 9223372036854775807 := by omega
      have i4 : 3 + s.size + 1 + 1 + s2.size + 1 + 1 ≤ 9223372036854775807 := by omega
      have i5 : 3 + s.size + 1 + 1 + s2.size + 2 + 1 ≤ 9223372036854775807 := by omega
      rcases hmo with rfl | rfl | rfl
      all_goals
        go_wp2_with fail
        go_ret
        exact ⟨_, rfl, by simp [ByteArray.size_append', ByteArray.size_mk']; omega, hB⟩
    have d3 : (mx == mn) = false := beq_eq_false_iff_ne.2 hm3
    have hdx2 := fun w' => hdx' w' (hx0.resolve_left hm1)
    clear hdx'
    have j3 : ¬ 9223372036854775807 < 3 + s.size + 1 + 1 := (by omega)
    go_wp2_with fail
    go_region_law
      (first
        | (go_simp; go_at_call 43; with_reducible refine (hdm _).mono ?_; rintro _ w2 ⟨s2, rfl, hs2, rfl⟩; have i1 : ¬ 9223372036854775807 < 3 + s.size + 1 + 1 + s2.size := (by omega); have i2 : ¬ 9223372036854775807 < 3 + s.size + 1 + 1 + s2.size + 1 := (by omega))
        | (go_simp; go_at_call 43; with_reducible refine (hdx2 _).mono ?_; rintro _ w3 ⟨s3, rfl, hs3, rfl⟩; have i3 : ¬ 9223372036854775807 < 3 + s.size + 1 + 1 + s2.size + 1 + s3.size := (by omega); have i4 : ¬ 9223372036854775807 < 3 + s.size + 1 + 1 + s2.size + 1 + s3.size + 1 := (by omega); have i5 : ¬ 9223372036854775807 < 3 + s.size + 1 + 1 + s2.size + 1 + s3.size + 1 + 1 := (by omega)))
    all_goals
      rcases hmo with rfl | rfl | rfl
      all_goals
        go_wp2_with fail
        go_ret
        exact ⟨_, rfl, by simp [ByteArray.size_append', ByteArray.size_mk']; omega, hB.drew⟩
  · have hk4d : (k.op == 4) = false := beq_eq_false_iff_ne.2 hk4
    have j1 : s.size + 1 ≤ 9223372036854775807 := by omega
    have j2 : s.size + 1 + 1 ≤ 9223372036854775807 := by omega
    by_cases hm1 : mx = -1
    · subst hm1
      rcases hmn with rfl | rfl | rfl
      · clear hdm hdx'
        rcases hmo with rfl | rfl | rfl
        all_goals
          go_wp2_with fail
          go_ret
          exact ⟨_, rfl, by simp [ByteArray.size_append', ByteArray.size_mk']; omega, hB⟩
      · clear hdm hdx'
        rcases hmo with rfl | rfl | rfl
        all_goals
          go_wp2_with fail
          go_ret
          exact ⟨_, rfl, by simp [ByteArray.size_append', ByteArray.size_mk']; omega, hB⟩
      · skip
        clear hdx'
        go_wp2_with fail
        with_reducible refine (hdm _).mono ?_
        rintro _ w2 ⟨s2, rfl, hs2, rfl⟩
        have i1 : s.size + 1 + s2.size ≤ 9223372036854775807 := by omega
        have i2 : s.size + 1 + s2.size + 1 ≤ 9223372036854775807 := by omega
        have i3 : s.size + 1 + s2.size + 2 ≤ 9223372036854775807 := by omega
        have i4 : s.size + 1 + s2.size + 1 + 1 ≤ 9223372036854775807 := by omega
        have i5 : s.size + 1 + s2.size + 2 + 1 ≤ 9223372036854775807 := by omega
        rcases hmo with rfl | rfl | rfl
        all_goals
          go_wp2_with fail
          go_ret
          exact ⟨_, rfl, by simp [ByteArray.size_append', ByteArray.size_mk']; omega, hB⟩
    have d1 : (mx == -1) = false := beq_eq_false_iff_ne.2 hm1
    by_cases hm2 : mx = 1
    · subst hm2
      rcases hmn with rfl | rfl | rfl
      · clear hdm hdx'
        rcases hmo with rfl | rfl | rfl
        all_goals
          go_wp2_with fail
          go_ret
          exact ⟨_, rfl, by simp [ByteArray.size_append', ByteArray.size_mk']; omega, hB⟩
      · skip
        clear hdx'
        go_wp2_with fail
        with_reducible refine (hdm _).mono ?_
        rintro _ w2 ⟨s2, rfl, hs2, rfl⟩
        have i1 : s.size + 1 + s2.size ≤ 9223372036854775807 := by omega
        have i2 : s.size + 1 + s2.size + 1 ≤ 9223372036854775807 := by omega
        have i3 : s.size + 1 + s2.size + 2 ≤ 9223372036854775807 := by omega
        have i4 : s.size + 1 + s2.size + 1 + 1 ≤ 9223372036854775807 := by omega
        have i5 : s.size + 1 + s2.size + 2 + 1 ≤ 9223372036854775807 := by omega
        rcases hmo with rfl | rfl | rfl
        all_goals
          go_wp2_with fail
          go_ret
          exact ⟨_, rfl, by simp [ByteArray.size_append', ByteArray.size_mk']; omega, hB⟩
      · skip
        have hdx2 := fun w' => hdx' w' (hx0.resolve_left hm1)
        clear hdx'
        have j3 : ¬ 9223372036854775807 < s.size + 1 := (by omega)
        go_wp2_with fail
        go_region_law
          (first
            | (go_simp; go_at_call 43; with_reducible refine (hdm _).mono ?_; rintro _ w2 ⟨s2, rfl, hs2, rfl⟩; have i1 : ¬ 9223372036854775807 < s.size + 1 + s2.size := (by omega); have i2 : ¬ 9223372036854775807 < s.size + 1 + s2.size + 1 := (by omega))
            | (go_simp; go_at_call 43; with_reducible refine (hdx2 _).mono ?_; rintro _ w3 ⟨s3, rfl, hs3, rfl⟩; have i3 : ¬ 9223372036854775807 < s.size + 1 + s2.size + 1 + s3.size := (by omega); have i4 : ¬ 9223372036854775807 < s.size + 1 + s2.size + 1 + s3.size + 1 := (by omega); have i5 : ¬ 9223372036854775807 < s.size + 1 + s2.size + 1 + s3.size + 1 + 1 := (by omega)))
        all_goals
          rcases hmo with rfl | rfl | rfl
          all_goals
            go_wp2_with fail
            go_ret
            exact ⟨_, rfl, by simp [ByteArray.size_append', ByteArray.size_mk']; omega, hB.drew⟩
    have d2 : (mx == 1) = false := beq_eq_false_iff_ne.2 hm2
    by_cases hm3 : mx = mn
    · subst hm3
      clear hdx'
      go_wp2_with fail
      with_reducible refine (hdm _).mono ?_
      rintro _ w2 ⟨s2, rfl, hs2, rfl⟩
      have i1 : s.size + 1 + s2.size ≤ 9223372036854775807 := by omega
      have i2 : s.size + 1 + s2.size + 1 ≤ 9223372036854775807 := by omega
      have i3 : s.size + 1 + s2.size + 2 ≤ 9223372036854775807 := by omega
      have i4 : s.size + 1 + s2.size + 1 + 1 ≤ 9223372036854775807 := by omega
      have i5 : s.size + 1 + s2.size + 2 + 1 ≤ 9223372036854775807 := by omega
      rcases hmo with rfl | rfl | rfl
      all_goals
        go_wp2_with fail
        go_ret
        exact ⟨_, rfl, by simp [ByteArray.size_append', ByteArray.size_mk']; omega, hB⟩
    have d3 : (mx == mn) = false := beq_eq_false_iff_ne.2 hm3
    have hdx2 := fun w' => hdx' w' (hx0.resolve_left hm1)
    clear hdx'
    have j3 : ¬ 9223372036854775807 < s.size + 1 := (by omega)
    go_wp2_with fail
    go_region_law
      (first
        | (go_simp; go_at_call 43; with_reducible refine (hdm _).mono ?_; rintro _ w2 ⟨s2, rfl, hs2, rfl⟩; have i1 : ¬ 9223372036854775807 < s.size + 1 + s2.size := (by omega); have i2 : ¬ 9223372036854775807 < s.size + 1 + s2.size + 1 := (by omega))
        | (go_simp; go_at_call 43; with_reducible refine (hdx2 _).mono ?_; rintro _ w3 ⟨s3, rfl, hs3, rfl⟩; have i3 : ¬ 9223372036854775807 < s.size + 1 + s2.size + 1 + s3.size := (by omega); have i4 : ¬ 9223372036854775807 < s.size + 1 + s2.size + 1 + s3.size + 1 := (by omega); have i5 : ¬ 9223372036854775807 < s.size + 1 + s2.size + 1 + s3.size + 1 + 1 := (by omega)))
    all_goals
      rcases hmo with rfl | rfl | rfl
      all_goals
        go_wp2_with fail
        go_ret
        exact ⟨_, rfl, by simp [ByteArray.size_append', ByteArray.size_mk']; omega, hB.drew⟩
end Go.Proofs.YtdacamjpcdbphaaGreatDoor
