/-
  rules, walked: up to three rules over bytes, of the list's texts, with names that differ.
-/
import Derived.Test.YtopicmcaoeameaaGreatDoorFews
namespace Go.Proofs.YtopicmcaoeameaaGreatDoor
open Go Go.Ev Go.RowKit Go.Smap

theorem good_of {rs : List Rl} (hl : rs.length ≤ 3) (h : ∀ i r, rs[i]? = some r → FewAt i r) : Good rs ∧ ∀ r ∈ rs, r.k < 8 := by
  have hmem : ∀ r ∈ rs, ∃ i, FewAt i r ∧ i < 3 := fun r hr => by
    obtain ⟨i, hi⟩ := List.mem_iff_getElem?.1 hr
    have := (List.getElem?_eq_some_iff.1 hi).1
    exact ⟨i, h i r hi, by omega⟩
  refine ⟨⟨by omega, ?_, fun r hr => ?_⟩, fun r hr => ?_⟩
  · rw [List.nodup_iff_pairwise_ne, List.pairwise_iff_getElem]
    intro i j hi hj hij e
    simp only [List.length_map] at hi hj
    simp only [List.getElem_map] at e
    obtain ⟨_, _, p, hp, h1⟩ := h i rs[i] (List.getElem?_eq_getElem hi)
    obtain ⟨_, _, q, hq, h2⟩ := h j rs[j] (List.getElem?_eq_getElem hj)
    rw [e] at h1
    unfold Bytes at h1 h2
    rw [h1] at h2
    simp at h2
    omega
  · obtain ⟨i, ⟨hk, ht, p, hp, hb⟩, hi⟩ := hmem r hr
    refine ⟨by omega, ht, isName_of (j := 3 * i + p) (by omega) hb, ?_⟩
    rw [bytes_size hb]
    unfold maxLen
    simp
  · obtain ⟨i, ⟨hk, _⟩, _⟩ := hmem r hr
    exact hk
set_option maxHeartbeats 8000000 in
set_option maxRecDepth 1000000 in
theorem made_walk {w : World} {v : Value} {l : List Int} (h : SlArg w v l) (at' : Nat) (hat : at' ≤ 100) :
    Calls Tryz.prog 14 #[v, .int .i64 (at' : Int)] w fun e w' => ∃ (v' : Value) (rs : List Rl), e = .returned v' ∧ w'.ownsRow w.heap.size 27 3 v' rs.length (rs.flatMap Rl.cells) ∧ Good rs ∧ (∀ r ∈ rs, r.k < 8) ∧ Below w.heap.size w w' := by
  have hf := few_walk h at' hat
  clear h
  go_enter Tryz.func14, Tryz.ntmps14
  go_wp2_with (first
    | (go_at_call 29; refine hf.mono ?_; rintro _ w1 ⟨v1, fs, rfl, hown, hl, hfew, hb1⟩)
    | go_in)
  have hg := good_of (rs := fs.map (·.1)) (by simpa using hl) (fun i r hi => by
    rw [List.getElem?_map] at hi
    cases hfi : fs[i]? with
    | none => rw [hfi] at hi; cases hi
    | some f => rw [hfi] at hi; cases hi; exact hfew i f hfi)
  have HG : Hid (Good (fs.map (·.1)) ∧ ∀ r ∈ fs.map (·.1), r.k < 8) := hg
  clear hg hfew
  obtain ⟨a1, c1, rfl, ha1⟩ := owns_shape hown
  have hlt := World.ownsRow.lt hown
  rcases fs with _ | ⟨a, _ | ⟨b, _ | ⟨c, _ | ⟨d, t⟩⟩⟩⟩
  · refine wp_loop_rounds 1 ?_
    rw [rounds_succ]
    go_wp2
    go_ret
    exact ⟨_, rfl, [], by simpa using hown, HG.out.1, HG.out.2, hb1⟩
  · obtain ⟨g, rfl⟩ := ha1 (by simp)
    have hg := hlt g rfl
    have s1 := hown.stored 2 (.bool false)
    have f1 := hown.frozenAt 2
    have k1 := hown.cellAt 2 (by simp)
    simp [fcell] at s1 k1
    try simp at f1
    refine wp_loop_rounds 2 ?_
    rw [rounds_succ]
    go_wp2
    rw [rounds_succ]
    go_wp2
    go_ret
    exact ⟨_, [a.1], rfl, by simpa [Rl.cells] using s1.1, HG.out.1, HG.out.2, hb1.setCell (by show w.heap.size ≤ g; omega) _⟩
  · obtain ⟨g, rfl⟩ := ha1 (by simp)
    have hg := hlt g rfl
    have s1 := hown.stored 2 (.bool false)
    have s2 := s1.1.stored 5 (.bool false)
    have f1 := hown.frozenAt 2
    have k1 := hown.cellAt 2 (by simp)
    have f2 := s1.1.frozenAt 5
    have k2 := s1.1.cellAt 5 (by simp)
    simp [fcell] at s2 k1 k2
    try simp at f1 f2
    refine wp_loop_rounds 3 ?_
    rw [rounds_succ]
    go_wp2
    rw [rounds_succ]
    go_wp2
    rw [rounds_succ]
    go_wp2
    go_ret
    exact ⟨_, [a.1, b.1], rfl, by simpa [Rl.cells] using s2.1, HG.out.1, HG.out.2, (hb1.setCell (by show w.heap.size ≤ g; omega) _).setCell (by show w.heap.size ≤ g; omega) _⟩
  · obtain ⟨g, rfl⟩ := ha1 (by simp)
    have hg := hlt g rfl
    have s1 := hown.stored 2 (.bool false)
    have s2 := s1.1.stored 5 (.bool false)
    have s3 := s2.1.stored 8 (.bool false)
    have f1 := hown.frozenAt 2
    have k1 := hown.cellAt 2 (by simp)
    have f2 := s1.1.frozenAt 5
    have k2 := s1.1.cellAt 5 (by simp)
    have f3 := s2.1.frozenAt 8
    have k3 := s2.1.cellAt 8 (by simp)
    simp [fcell] at k1 k2 k3
    try simp at f1 f2 f3
    simp [fcell] at s3
    refine wp_loop_rounds 4 ?_
    rw [rounds_succ]
    go_wp2
    rw [rounds_succ]
    go_wp2
    rw [rounds_succ]
    go_wp2
    rw [rounds_succ]
    go_wp2
    go_ret
    exact ⟨_, [a.1, b.1, c.1], rfl, by simpa [Rl.cells] using s3.1, HG.out.1, HG.out.2, ((hb1.setCell (by show w.heap.size ≤ g; omega) _).setCell (by show w.heap.size ≤ g; omega) _).setCell (by show w.heap.size ≤ g; omega) _⟩
  · simp at hl
end Go.Proofs.YtopicmcaoeameaaGreatDoor
