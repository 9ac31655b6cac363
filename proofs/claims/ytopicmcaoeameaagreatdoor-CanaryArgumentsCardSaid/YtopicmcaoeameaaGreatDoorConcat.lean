/-
  slices.Concat at two slices of rules, walked (slices.Grow by the library's contract).
-/
import Derived.Test.YtopicmcaoeameaaGreatDoorOwn
import Derived.Shelf.Spec.SlicesGrow
import Derived.Laws.OwnMore
namespace Go.Proofs
open Go.RowKit Go.Maps Go.Shelf

def YtopicmcaoeameaaGreatDoor.growA_ren : Go.Shelf.Ren := ⟨fun | 4 => 34 | n => n, fun | 22 => 60 | 25 => 62 | 3 => 3 | 4 => 4 | 9 => 9 | 20 => 20 | 0 => 0 | n => n, fun | n => n⟩
theorem YtopicmcaoeameaaGreatDoor.growA : Go.Proofs.Lays8.n4 Tryz.prog YtopicmcaoeameaaGreatDoor.growA_ren :=
  { mixed := by kernel_rfl
    f4 := ⟨Tryz.f34.name, by decide, Tryz.func34.trans (congrArg some (by kernel_rfl))⟩
    t0 := Tryz.underlying0
    a0 := Tryz.isAgg0
    z0 := Tryz.sizeOf0
    v0 := Tryz.zeroValue0
    t3 := Tryz.underlying3
    a3 := Tryz.isAgg3
    z3 := Tryz.sizeOf3
    v3 := Tryz.zeroValue3
    t4 := Tryz.underlying4
    a4 := Tryz.isAgg4
    z4 := Tryz.sizeOf4
    v4 := Tryz.zeroValue4
    t9 := Tryz.underlying9
    a9 := Tryz.isAgg9
    z9 := Tryz.sizeOf9
    v9 := Tryz.zeroValue9
    t20 := Tryz.underlying20
    a20 := Tryz.isAgg20
    z20 := Tryz.sizeOf20
    v20 := Tryz.zeroValue20
    t22 := Tryz.underlying60
    a22 := Tryz.isAgg60
    z22 := Tryz.sizeOf60
    v22 := Tryz.zeroValue60 }
namespace YtopicmcaoeameaaGreatDoor
open Go Go.Ev Go.RowKit

section
variable {P : Program} {w : World} {base base2 : Nat} {e : TypeId} {size : Nat}
/-- append of a whole row, that may be nil -/
theorem wpList_append_row {ops : Array Oper} {rest : List Oper} {o : Oper} {a : Act} {Q : Exit → Act → World → Prop} (hgd : o.guard = none) (s x : Operand) (t : TypeId)
    (ho : o.op = .call { callee := .builtin .append, args := #[s, x], argTypes := #[t, t] })
    (i : TypeInfo) (z : Value) (bytes : Nat) (ht : P.underlying t = some (.slice e)) (hi : P.info? e = some i) (hz : i.zero = some z)
    (hsize : i.size = size) (hby : i.bytes = bytes) (hzs : z.cells.size = size) (hsz : 0 < size)
    (v : Value) (n : Nat) (xs : List Value) (hs : a.eval s = v) (hown : w.ownsRow base e size v n xs)
    (u : Value) (m : Nat) (news : List Value) (hx : a.eval x = u) (hrow : w.ownsRow base2 e size u m news) (h1 : ∀ u ∈ news, u.oneCell' = true)
    (h63 : n + m ≤ maxLen) (hbytes : (n + m) * bytes ≤ 140737488355328) (hbase : base ≤ w.heap.size)
    (h : ∀ v' w', w'.ownsRow base e size v' (n + m) (xs ++ news) → w.grownBy w' v.ownBlock → wpList P ops Q rest (a.put o.dst v') w') :
    wpList P ops Q (o :: rest) a w := by
  have key : ∃ v' w', (Builtin.append_ #[t, t] o.type #[v, u]).run P w = .ok v' w' ∧ w'.ownsRow base e size v' (n + m) (xs ++ news) ∧ w.grownBy w' v.ownBlock := by
    rcases hrow.2 with ⟨rfl, rfl⟩ | ⟨g, cap, cur, rfl, _⟩
    · have hn : news = [] := List.length_eq_zero_iff.1 (by simpa using hrow.1)
      subst hn
      exact ⟨v, w, run_append_owned_none w base t o.type e i size ht hi v n xs hown, by simpa using hown, ⟨rfl, rfl, rfl, Nat.le_refl _, fun _ _ _ => rfl⟩⟩
    · obtain ⟨v', w', h2, h3, h4, _⟩ := run_append_own w base t o.type e i z size bytes ht hi hz hsize hby hzs hsz v n xs hown ⟨g, 0, none⟩ m cap news hrow.1 (hrow.cells rfl) h1 h63 hbytes hbase
      exact ⟨v', w', h2, h3, h4⟩
  obtain ⟨v', w', hr, h3, h4⟩ := key
  refine wpList_plain hgd fun K hK => ?_
  unfold Oper.wp execOp
  simp only [ho, resolve, invoke, builtin, Sem.run_bind, Sem.run_pure, Result.andThen_ok, List.map_toArray, List.map_cons, List.map_nil, hs, hx, hr]
  exact hK _ _ (h v' w' h3 h4)
end
set_option maxHeartbeats 4000000 in
set_option maxRecDepth 1000000 in
theorem grow_walk (n : Nat) (hn : n ≤ 1000) (w : World) : Calls Tryz.prog 34 #[.slice none 0 0, .int .i64 (n : Int)] w fun e w' => ∃ v, e = .returned v ∧ w'.ownsRow w.heap.size 62 3 v 0 [] ∧ Below w.heap.size w w' := by
  obtain ⟨i0, hi0, hz0, hz1, hz2⟩ := info_parts info62
  by_cases h0 : n = 0
  · subst h0
    refine Calls.mono (Any8.slices_Grow_room (ρ := YtopicmcaoeameaaGreatDoor.growA_ren) YtopicmcaoeameaaGreatDoor.growA none 0 0 0 w (Nat.le_refl _) (by omega) (by omega) (by omega)) ?_
    rintro e w' ⟨rfl, rfl⟩
    exact ⟨_, rfl, World.ownsRow_nil _ _ _ _, Below.refl _ _⟩
  · refine Calls.mono (Any8.slices_Grow_grow (ρ := YtopicmcaoeameaaGreatDoor.growA_ren) YtopicmcaoeameaaGreatDoor.growA i0 _ hi0 hz0 (by omega) none 0 0 n [] w (Nat.le_refl _) (by omega) (by rw [hz2]; omega) (by omega) (by simp) (fun _ => rfl) (fun a h => by cases h)) ?_
    rintro e w' ⟨rfl, rfl⟩
    have hge := grownCap_ge w (0 + n) 0 62
    refine ⟨_, rfl, ⟨by simp, .inr ⟨w.heap.size, grownCap w (0 + n) 0 62, _, rfl, Nat.le_refl _, heap_alloc_new w.drew _, Nat.zero_le _, grownCap_le_maxLen _ _ _ _ (by unfold maxLen; omega), ?_, by simp⟩⟩, ((Below.refl _ _).drew).alloc (Nat.le_refl _) _⟩
    show _ = grownCap w (0 + n) 0 62 * 3
    simp only [Array.size_append, size_zeroCells]
    have hs3 : (Value.cells (.agg #[.string ByteArray.empty, .string ByteArray.empty, .bool false])).size = 3 := rfl
    rw [hs3]
    have e25 : YtopicmcaoeameaaGreatDoor.growA_ren.t 25 = 62 := rfl
    rw [e25]
    simp only [List.size_toArray, List.length_nil]
    omega
set_option maxHeartbeats 8000000 in
set_option maxRecDepth 1000000 in
/-- slices.Concat of two slices of rules -/
theorem concat_walk {w : World} {B1 B2 vb : Nat} {v1 v2 : Value} {rs1 rs2 : List Rl} (h1 : w.ownsRow B1 62 3 v1 rs1.length (rs1.flatMap Rl.cells)) (h2 : w.ownsRow B2 62 3 v2 rs2.length (rs2.flatMap Rl.cells)) (hn1 : rs1.length ≤ 100) (hn2 : rs2.length ≤ 100)
    (c0 : w.cell? ⟨vb, 0, none⟩ = some v1) (c1 : w.cell? ⟨vb, 1, none⟩ = some v2) (hvb : vb < w.heap.size) :
    Calls Tryz.prog 22 #[.slice (some ⟨vb, 0, none⟩) 2 2] w fun e w' => ∃ v, e = .returned v ∧ w'.ownsRow w.heap.size 62 3 v (rs1 ++ rs2).length ((rs1 ++ rs2).flatMap Rl.cells) ∧ Below w.heap.size w w' := by
  obtain ⟨i0, hi0, hz0, hz1, hz2⟩ := info_parts info62
  obtain ⟨a1, k1, rfl, _⟩ := owns_shape h1
  obtain ⟨a2, k2, rfl, _⟩ := owns_shape h2
  have hg := grow_walk (rs1.length + rs2.length) (by omega)
  have hone : ∀ rs : List Rl, ∀ u ∈ rs.flatMap Rl.cells, u.oneCell' = true := fun rs u hu => by
    obtain ⟨r, _, hr⟩ := List.mem_flatMap.1 hu
    simp only [Rl.cells, List.mem_cons, List.not_mem_nil, or_false] at hr
    rcases hr with rfl | rfl | rfl <;> rfl
  go_enter Tryz.func22, Tryz.ntmps22
  go_wp2
  refine wp_loop_rounds 3 ?_
  rw [rounds_succ]
  go_wp2
  rw [rounds_succ]
  go_wp2
  rw [rounds_succ]
  go_wp2_with (first
    | (go_at_call 34; refine (hg _).mono ?_; rintro _ w1 ⟨v0, rfl, hown, hb1⟩; have d0 := (hb1.cell (p := ⟨vb, 0, none⟩) hvb).trans c0; have d1 := (hb1.cell (p := ⟨vb, 1, none⟩) hvb).trans c1)
    | go_in)
  refine wp_loop_rounds 3 ?_
  rw [rounds_succ]
  have hsz := hb1.size
  have hn12 : (rs1.length + rs2.length) * 40 ≤ 140737488355328 := by omega
  have hn63 : rs1.length + rs2.length ≤ maxLen := by unfold maxLen; omega
  go_wp2_with (first
    | (at_builtin; refine wpList_append_row rfl _ _ 60 rfl i0 _ 40 Tryz.underlying60 hi0 hz0 hz1 hz2 rfl (by decide) _ _ _ rfl hown _ _ _ rfl (owns_below h1 hb1) (hone rs1) (by omega) (by omega) hsz ?_; intro v1 w2 hown2 hgrow2; have e0 := (hgrow2.cell_far ⟨vb, 0, none⟩ (by show vb < w1.heap.size; omega) (fun e => by have := (World.ownsRow.lt hown _ e.symm).1; simp at this; omega)).trans d0; have e1 := (hgrow2.cell_far ⟨vb, 1, none⟩ (by show vb < w1.heap.size; omega) (fun e => by have := (World.ownsRow.lt hown _ e.symm).1; simp at this; omega)).trans d1)
    | go_in)
  rw [rounds_succ]
  have hsz2 := hgrow2.size
  have hb2 : Below w.heap.size w w2 := hb1.grown hgrow2 hsz fun k hk => (World.ownsRow.lt hown k hk).1
  go_wp2_with (first
    | (at_builtin; refine wpList_append_row rfl _ _ 60 rfl i0 _ 40 Tryz.underlying60 hi0 hz0 hz1 hz2 rfl (by decide) _ _ _ rfl hown2 _ _ _ rfl (owns_below h2 hb2) (hone rs2) (by omega) (by omega) (by omega) ?_; intro v2 w3 hown3 hgrow3)
    | go_in)
  rw [rounds_succ]
  go_wp2_with fail
  go_ret
  refine ⟨_, rfl, ?_, hb2.grown hgrow3 (by omega) fun k hk => (World.ownsRow.lt hown2 k hk).1⟩
  simpa [List.flatMap_append] using hown3
end YtopicmcaoeameaaGreatDoor
end Go.Proofs
