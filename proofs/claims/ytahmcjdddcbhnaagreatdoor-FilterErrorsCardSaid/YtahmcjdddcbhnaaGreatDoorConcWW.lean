/-
  slices.Concat and slices.Clone of bytes, walked (slices.Grow by the library's contract).
-/
import Derived.Test.YtahmcjdddcbhnaaGreatDoorErrG0a
import Derived.Shelf.Spec.SlicesGrow
import Derived.Laws.OwnMore
namespace Go.Proofs
open Go.RowKit Go.Shelf

def YtahmcjdddcbhnaaGreatDoor.growA_ren : Go.Shelf.Ren := ⟨fun | 4 => 370 | n => n, fun | 22 => 23 | 25 => 5 | 3 => 3 | 4 => 4 | 9 => 9 | 20 => 20 | 0 => 0 | n => n, fun | n => n⟩
theorem YtahmcjdddcbhnaaGreatDoor.growA : Go.Proofs.Lays8.n4 Tryz.prog YtahmcjdddcbhnaaGreatDoor.growA_ren :=
  { mixed := by kernel_rfl
    f4 := ⟨Tryz.f370.name, by decide, Tryz.func370.trans (congrArg some (by kernel_rfl))⟩
    t0 := Tryz.underlying0
    a0 := Tryz.isAgg0
    z0 := Tryz.sizeOf0
    v0 := Tryz.zeroValue0
    t3 := Tryz.underlying3
    a3 := Tryz.isAgg3
    z3 := Tryz.sizeOf3
    v3 := Tryz.zeroValue3
    t4 := Tryz.underlying4
    a4 := Tryz.isAgg4
    z4 := Tryz.sizeOf4
    v4 := Tryz.zeroValue4
    t9 := Tryz.underlying9
    a9 := Tryz.isAgg9
    z9 := Tryz.sizeOf9
    v9 := Tryz.zeroValue9
    t20 := Tryz.underlying20
    a20 := Tryz.isAgg20
    z20 := Tryz.sizeOf20
    v20 := Tryz.zeroValue20
    t22 := Tryz.underlying23
    a22 := Tryz.isAgg23
    z22 := Tryz.sizeOf23
    v22 := Tryz.zeroValue23 }
namespace YtahmcjdddcbhnaaGreatDoor
open Go Go.RowKit

theorem infoU8 : (Tryz.prog.info? 5).map (fun i => (i.zero, i.size, i.bytes)) = some (some (.int .u8 0), 1, 1) := by kernel_rfl
set_option maxHeartbeats 4000000 in
set_option maxRecDepth 1000000 in
theorem grow_walk (n : Nat) (hn : n ≤ 1000000) (w : World) : Calls Tryz.prog 370 #[.slice none 0 0, .int .i64 (n : Int)] w fun e w' => ∃ v, e = .returned v ∧ w'.ownsRow w.heap.size 5 1 v 0 [] ∧ Below w.heap.size w w' := by
  obtain ⟨i0, hi0, hz0, hz1, hz2⟩ := info_parts' infoU8
  by_cases h0 : n = 0
  · subst h0
    refine Calls.mono (Any8.slices_Grow_room (ρ := YtahmcjdddcbhnaaGreatDoor.growA_ren) YtahmcjdddcbhnaaGreatDoor.growA none 0 0 0 w (Nat.le_refl _) (by omega) (by omega) (by omega)) ?_
    rintro e w' ⟨rfl, rfl⟩
    exact ⟨_, rfl, World.ownsRow_nil _ _ _ _, Below.refl _ _⟩
  · refine Calls.mono (Any8.slices_Grow_grow (ρ := YtahmcjdddcbhnaaGreatDoor.growA_ren) YtahmcjdddcbhnaaGreatDoor.growA i0 _ hi0 hz0 (by omega) none 0 0 n [] w (Nat.le_refl _) (by omega) (by rw [hz2]; omega) (by omega) (by simp) (fun _ => rfl) (fun a h => by cases h)) ?_
    rintro e w' ⟨rfl, rfl⟩
    have hge := grownCap_ge w (0 + n) 0 5
    refine ⟨_, rfl, ⟨by simp, .inr ⟨w.heap.size, grownCap w (0 + n) 0 5, _, rfl, Nat.le_refl _, heap_alloc_new w.drew _, Nat.zero_le _, grownCap_le_maxLen _ _ _ _ (by unfold maxLen; omega), ?_, by simp⟩⟩, ((Below.refl _ _).drew).alloc (Nat.le_refl _) _⟩
    show _ = grownCap w (0 + n) 0 5 * 1
    simp only [Array.size_append, size_zeroCells]
    have hs3 : (Value.cells (.int .u8 0)).size = 1 := rfl
    rw [hs3]
    have e25 : YtahmcjdddcbhnaaGreatDoor.growA_ren.t 25 = 5 := rfl
    rw [e25]
    simp only [List.size_toArray, List.length_nil]
    omega
theorem bv_one' (l : List UInt8) : ∀ u ∈ bv l, u.oneCell' = true := bv_one l
set_option maxHeartbeats 8000000 in
set_option maxRecDepth 1000000 in
/-- slices.Concat of two slices of bytes -/
theorem concat_walk {w : World} {vb : Nat} {v1 v2 : Value} {x y : List UInt8} (h1 : Sees w 1 v1 (bv x)) (h2 : Sees w 1 v2 (bv y)) (hn1 : x.length ≤ 100000) (hn2 : y.length ≤ 100000)
    (c0 : w.cell? ⟨vb, 0, none⟩ = some v1) (c1 : w.cell? ⟨vb, 1, none⟩ = some v2) (hvb : vb < w.heap.size) :
    Calls Tryz.prog 358 #[.slice (some ⟨vb, 0, none⟩) 2 2] w fun e w' => ∃ v, e = .returned v ∧ w'.ownsRow w.heap.size 5 1 v (x ++ y).length (bv (x ++ y)) ∧ Below w.heap.size w w' := by
  obtain ⟨i0, hi0, hz0, hz1, hz2⟩ := info_parts' infoU8
  have H1 := h1
  have H2 := h2
  obtain ⟨a1, n1, k1, rfl, e1, -, -⟩ := h1
  obtain ⟨a2, n2, k2, rfl, e2, -, -⟩ := h2
  have hx : x.length = n1 := by rw [bv_len] at e1; omega
  have hy : y.length = n2 := by rw [bv_len] at e2; omega
  have hg := grow_walk (n1 + n2) (by omega)
  have hw1 : IntKind.i64.wrap (n1 : Int) = (n1 : Int) := wrapS (by omega) (by omega)
  have hw2 : IntKind.i64.wrap ((n1 : Int) + (n2 : Int)) = ((n1 + n2 : Nat) : Int) := by rw [wrapS (by omega) (by omega)]; omega
  have hp1 : ¬ (n1 : Int) < 0 := by omega
  have hp2 : ¬ ((n1 + n2 : Nat) : Int) < 0 := by omega
  have s1 := fun (w1 : World) (hb : Below w.heap.size w w1) => H1.bel hb
  have s2 := fun (w1 : World) (hb : Below w.heap.size w w1) => H2.bel hb
  clear H1 H2
  go_enter Tryz.func358, Tryz.ntmps358
  go_wp2
  refine wp_loop_rounds 3 ?_
  rw [rounds_succ]
  go_wp2
  rw [rounds_succ]
  go_wp2
  rw [rounds_succ]
  go_wp2_with (first
    | (go_at_call 370; refine (hg _).mono ?_; rintro _ w1 ⟨v0, rfl, hown, hb1⟩; have d0 := (hb1.cell (p := ⟨vb, 0, none⟩) hvb).trans c0; have d1 := (hb1.cell (p := ⟨vb, 1, none⟩) hvb).trans c1)
    | go_in)
  refine wp_loop_rounds 3 ?_
  rw [rounds_succ]
  have hsz := hb1.size
  have hby1 : (0 + n1) * 1 ≤ 140737488355328 := by omega
  have h631 : 0 + n1 ≤ maxLen := by unfold maxLen; omega
  have hby2 : (n1 + n2) * 1 ≤ 140737488355328 := by omega
  have h632 : n1 + n2 ≤ maxLen := by unfold maxLen; omega
  have t1 := s1 w1 hb1
  go_wp2_with (first
    | (at_builtin; refine wpList_append_sees rfl _ _ 23 rfl i0 _ 1 Tryz.underlying23 hi0 hz0 hz1 hz2 rfl (by decide) v0 0 [] rfl hown _ n1 _ rfl t1 e1 (bv_one x) h631 hby1 hsz ?_; intro u2 w2 hown2 hgrow2 hat2; rw [Nat.zero_add, List.nil_append] at hown2; have e0 := (hgrow2.cell_far ⟨vb, 0, none⟩ (by { show vb < w1.heap.size; omega }) (fun e => by { have := (World.ownsRow.lt hown _ e.symm).1; simp at this; omega })).trans d0; have e1' := (hgrow2.cell_far ⟨vb, 1, none⟩ (by { show vb < w1.heap.size; omega }) (fun e => by { have := (World.ownsRow.lt hown _ e.symm).1; simp at this; omega })).trans d1)
    | go_in)
  rw [rounds_succ]
  have hsz2 := hgrow2.size
  have hb2 : Below w.heap.size w w2 := hb1.grown hgrow2 hsz fun k hk => (World.ownsRow.lt hown k hk).1
  have t2 := s2 w2 hb2
  go_wp2_with (first
    | (at_builtin; refine wpList_append_sees rfl _ _ 23 rfl i0 _ 1 Tryz.underlying23 hi0 hz0 hz1 hz2 rfl (by decide) u2 n1 _ rfl hown2 _ n2 _ rfl t2 e2 (bv_one y) h632 hby2 (by omega) ?_; intro u3 w3 hown3 hgrow3 hat3)
    | go_in)
  rw [rounds_succ]
  go_wp2_with fail
  go_ret
  refine ⟨_, rfl, ?_, hb2.grown hgrow3 (by omega) fun k hk => (World.ownsRow.lt hown2 k hk).1⟩
  rw [List.length_append, hx, hy, bv_app]
  exact hown3
end YtahmcjdddcbhnaaGreatDoor
end Go.Proofs
