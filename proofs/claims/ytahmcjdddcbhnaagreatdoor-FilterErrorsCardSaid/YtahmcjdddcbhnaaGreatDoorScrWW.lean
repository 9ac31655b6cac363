/-
  The reference's Script, walked: a list of operations, each as it may be.
-/
import Derived.Test.YtahmcjdddcbhnaaGreatDoorErrG0b
namespace Go.Proofs.YtahmcjdddcbhnaaGreatDoor
open Go Go.RowKit

theorem around_in {z : Int} (h1 : IntKind.i64.min ≤ z) (h2 : z ≤ IntKind.i64.max) (w : World) :
    Calls Tryz.prog 25 #[.int .i64 z, .int .i64 1048576] w fun e w' => ∃ r : Int, (0 ≤ r ∧ r < 1048576) ∧ e = .returned (.int .i64 r) ∧ w' = w := by
  have l1 : -9223372036854775808 ≤ z := h1
  have l2 : z ≤ 9223372036854775807 := h2
  clear h1 h2
  go_enter Tryz.func25, Tryz.ntmps25
  go_wp2
  · go_ret
    refine ⟨_, ?_, rfl, rfl⟩
    rw [← Int.neg_tmod, Int.tmod_eq_emod_of_nonneg (by omega)]
    omega
  · go_ret
    refine ⟨_, ?_, rfl, rfl⟩
    omega
theorem infoOp : (Tryz.prog.info? 55).map (fun i => (i.zero, i.size, i.bytes)) = some (some (.agg #[.int .i64 0, .int .i64 0, .int .i64 0, .int .i64 0]), 4, 32) := by kernel_rfl
/-- the kinds that are drawn from -/
def kindsL : Array Value := #[.int .i64 0, .int .i64 1, .int .i64 2, .int .i64 3, .int .i64 3, .int .i64 3, .int .i64 4, .int .i64 4, .int .i64 4, .int .i64 5]
theorem kindsL_at (k : Nat) (hk : k < 10) : ∃ d : Int, (0 ≤ d ∧ d ≤ 5) ∧ kindsL[k]? = some (.int .i64 d) := by
  unfold kindsL
  rcases k with _ | _ | _ | _ | _ | _ | _ | _ | _ | _ | k
  all_goals first
    | exact ⟨_, by decide, rfl⟩
    | exact ⟨0, by decide, rfl⟩
    | exact ⟨1, by decide, rfl⟩
    | exact ⟨2, by decide, rfl⟩
    | exact ⟨3, by decide, rfl⟩
    | exact ⟨4, by decide, rfl⟩
    | exact ⟨5, by decide, rfl⟩
    | omega
theorem row_op {W : World} {B : Nat} {v : Value} {ops : List ROp} {k n t m : Int} (h : W.ownsRow B 55 4 v (ops.length + 1) (ops.flatMap ROp.cells ++ (#[.int .i64 k, .int .i64 n, .int .i64 t, .int .i64 m] : Array Value).toList)) :
    W.ownsRow B 55 4 v (ops ++ [(⟨k, n, t, m⟩ : ROp)]).length ((ops ++ [(⟨k, n, t, m⟩ : ROp)]).flatMap ROp.cells) := by
  rw [List.length_append, List.flatMap_append, List.flatMap_singleton]
  exact h
theorem sees_oneN (w : World) (e : TypeId) (cs : Array Value) {size N : Nat} (hs : cs.size = size) (hN : w.heap.size = N) : Sees (w.alloc (.cells cs e)) size (.slice (some ⟨N, 0, none⟩) 1 1) cs.toList := by
  subst hN
  exact sees_one w e cs hs
theorem ops_one (k n t m : Int) : ∀ u ∈ (#[.int .i64 k, .int .i64 n, .int .i64 t, .int .i64 m] : Array Value).toList, u.oneCell' = true := by
  intro u hu
  simp at hu
  rcases hu with rfl | rfl | rfl | rfl <;> rfl
theorem ops_ok {ops : List ROp} {o : ROp} (h : ∀ x ∈ ops, x.Ok) (ho : o.Ok) : ∀ x ∈ ops ++ [o], x.Ok := fun x hx => by
  rw [List.mem_append, List.mem_singleton] at hx
  rcases hx with hx | rfl
  · exact h x hx
  · exact ho
def first2 : List ROp := [⟨0, 1, 0, 0⟩, ⟨1, 1, 0, 0⟩]
set_option maxHeartbeats 8000000 in
set_option maxRecDepth 1000000 in
theorem script_walk {w : World} {v : Value} {l : List Int} (h : Sees w 1 v (ints l)) (hl : l.length ≤ 9223372036854775807) (hz : ∀ z ∈ l, IntKind.i64.min ≤ z ∧ z ≤ IntKind.i64.max) :
    Calls Tryz.prog 15 #[v, .int .i64 40] w fun e w' => ∃ (u : Value) (ops : List ROp), e = .returned u ∧ w'.ownsRow w.heap.size 55 4 u ops.length (ops.flatMap ROp.cells) ∧ (∀ o ∈ ops, o.Ok) ∧ ops.length ≤ 40 ∧ Below w.heap.size w w' := by
  obtain ⟨i0, hi0, hz0, hz1, hz2⟩ := info_parts' infoOp
  obtain ⟨A, n, cp, rfl, h1, h2, h3⟩ := h
  have hn : n = l.length := by rw [ints_len] at h1; omega
  subst hn
  clear h1
  obtain ⟨W0, hW0⟩ : ∃ x, w.alloc (.cells #[.int .i64 0, .int .i64 1, .int .i64 0, .int .i64 0, .int .i64 1, .int .i64 1, .int .i64 0, .int .i64 0] 55) = x := ⟨_, rfl⟩
  have hB0 : Below w.heap.size w W0 := by rw [← hW0]; exact (Below.refl _ _).alloc (Nat.le_refl _) _
  have hrow0 : W0.ownsRow w.heap.size 55 4 (.slice (some ⟨w.heap.size, 0, none⟩) 2 2) 2 (first2.flatMap ROp.cells) := by
    rw [← hW0]
    exact World.ownsRow_lit (base := w.heap.size) (e := 55) (size := 4) w _ 2 (Nat.le_refl _) (by unfold maxLen; omega) rfl
  go_enter Tryz.func15, Tryz.ntmps15
  go_wp2_with fail
  go_loopw [5, 6, 7] (fun ov tv iv wr => ∃ (ops : List ROp) (tk : Int) (i : Nat), (i ≤ l.length ∧ i ≤ 2 * ops.length) ∧ tv = .int .i64 tk ∧ iv = .int .i64 i ∧ Hid (∀ o ∈ ops, o.Ok) ∧ ops.length ≤ 40 ∧ (0 ≤ tk ∧ tk ≤ 3 * (ops.length : Int)) ∧ Below w.heap.size w wr ∧ wr.ownsRow w.heap.size 55 4 ov ops.length (ops.flatMap ROp.cells)) (fun _ _ iv _ => l.length + 2 - (intOf iv).toNat)
  case atStart => exact ⟨first2, 0, 0, ⟨Nat.zero_le _, Nat.zero_le _⟩, rfl, rfl, Lib.hid fun o ho => by
    unfold first2 at ho
    simp at ho
    rcases ho with rfl | rfl <;> exact ⟨by decide, by decide, by decide, by decide⟩, by decide, by decide, hB0, hrow0⟩
  case round =>
    obtain ⟨ops, tk, i, ⟨hi, hi2⟩, rfl, rfl, hok, h40, htk, hbel, hrow⟩ := hrel
    obtain ⟨Ao, co, rfl, _⟩ := row_form hrow
    have hii : (0 : Int) ≤ (i : Int) := Int.natCast_nonneg _
    by_cases c1 : i + 1 < l.length
    case neg =>
      have c1' : ¬ (i : Int) + 1 < (l.length : Int) := by omega
      clear h3 hW0 hB0 hrow0
      go_wp2_with fail
      go_ret
      exact ⟨_, rfl, ops, hrow, hok.out, h40, hbel⟩
    have c1' : (i : Int) + 1 < (l.length : Int) := by omega
    by_cases c2 : ops.length < 40
    case neg =>
      have c2' : ¬ (ops.length : Int) < 40 := by omega
      clear h3 hW0 hB0 hrow0
      go_wp2_with fail
      go_ret
      exact ⟨_, rfl, ops, hrow, hok.out, h40, hbel⟩
    have c2' : (ops.length : Int) < 40 := by omega
    obtain ⟨b0, off, rfl, hb0, hcc⟩ := h3 (by omega)
    have d0 := (hbel.cell (p := ⟨b0, off + i, none⟩) hb0).trans (hcc i (.int .i64 l[i]) (by unfold ints; rw [List.getElem?_map, List.getElem?_eq_getElem (by omega)]; rfl))
    have d1 := (hbel.cell (p := ⟨b0, off + (i + 1), none⟩) hb0).trans (hcc (i + 1) (.int .i64 l[i + 1]) (by unfold ints; rw [List.getElem?_map, List.getElem?_eq_getElem (by omega)]; rfl))
    have ha := around_in (hz l[i] (List.getElem_mem _)).1 (hz l[i] (List.getElem_mem _)).2 wr
    have hb := around_in (hz l[i + 1] (List.getElem_mem _)).1 (hz l[i + 1] (List.getElem_mem _)).2 wr
    obtain ⟨x, hx⟩ : ∃ x, l[i] = x := ⟨_, rfl⟩
    obtain ⟨y, hy⟩ : ∃ y, l[i + 1] = y := ⟨_, rfl⟩
    rw [hx] at d0 ha
    rw [hy] at d1 hb
    clear h3 hcc hW0 hB0 hrow0 hx hy
    go_wp2_with (first
      | (go_at_call 25; refine ha.mono ?_; clear ha; rintro _ w1 ⟨a, ha', rfl, rfl⟩)
      | (go_at_call 25; refine hb.mono ?_; clear hb; rintro _ w1 ⟨b, hb', rfl, rfl⟩
         obtain ⟨kd, hkd, hkc⟩ := kindsL_at (a % 10).toNat (by omega)
         obtain ⟨W1, hW1⟩ : ∃ x, w1.alloc (.cells kindsL 3) = x := ⟨_, rfl⟩
         have hBK : Below w.heap.size w W1 := by rw [← hW1]; exact hbel.alloc hbel.size _
         have hkcell : W1.cell? ⟨w1.heap.size, (a % 10).toNat, none⟩ = some (.int .i64 kd) := by rw [← hW1]; exact ((Blk.made w1 _ _).at' _).trans hkc
         have hrow1 : W1.ownsRow w.heap.size 55 4 (.slice Ao ops.length co) ops.length (ops.flatMap ROp.cells) := by rw [← hW1]; exact hrow.alloc _
         have hne1 : ∀ k, (Value.slice Ao ops.length co).ownBlock ≠ some (⟨W1.heap.size, k, none⟩ : Addr).block := fun k e => Nat.lt_irrefl _ (World.ownsRow.lt hrow1 _ e).2
         have hsz1 : w.heap.size ≤ W1.heap.size := hBK.size
         unfold kindsL at hW1
         clear hkc hrow d0 d1)
      | (at_builtin; refine wpList_append_sees (base := w.heap.size) rfl _ _ 52 rfl i0 _ 32 Tryz.underlying52 hi0 hz0 hz1 hz2 rfl (by decide) (.slice Ao ops.length co) ops.length (ops.flatMap ROp.cells) rfl (by first | exact (hrow1.alloc _).alloc _ | exact (row_set (hrow1.alloc _) (hne1 _) _).alloc _ | exact (row_set (row_set (hrow1.alloc _) (hne1 _) _) (hne1 _) _).alloc _) _ 1 _ rfl (sees_oneN _ _ _ rfl (by simp)) rfl (ops_one _ _ _ _) (by unfold maxLen; omega) (by omega) (by first | (simp [World.setCell]; omega) | (simp; omega) | omega) ?_; intro v3 w3 hrow3 hgrow3 hown3
         have hB3 : Below w.heap.size w w3 := by
           first
             | exact grown_bel0 ((hBK.alloc hBK.size _).alloc (by simp; omega) _) ((hrow1.alloc _).alloc _) (by simp; omega) hgrow3
             | exact grown_bel0 (((hBK.alloc hBK.size _).setCell hsz1 _).alloc (by simp [World.setCell]; omega) _) ((row_set (hrow1.alloc _) (hne1 _) _).alloc _) (by simp [World.setCell]; omega) hgrow3
             | exact grown_bel0 ((((hBK.alloc hBK.size _).setCell hsz1 _).setCell hsz1 _).alloc (by simp [World.setCell]; omega) _) ((row_set (row_set (hrow1.alloc _) (hne1 _) _) (hne1 _) _).alloc _) (by simp [World.setCell]; omega) hgrow3
         have hR3 := row_op hrow3
         clear hrow3 hgrow3 hown3 hrow1 hkcell)
      | fail)
    all_goals
      go_roundw
      case rel =>
        have hbt : 0 ≤ (if b / 4 % 9 / 8 < tk + b % 4 then tk + b % 4 - b / 4 % 9 / 8 else 0) ∧ (if b / 4 % 9 / 8 < tk + b % 4 then tk + b % 4 - b / 4 % 9 / 8 else 0) ≤ 3 * (ops.length : Int) + 3 := by split <;> omega
        refine ⟨_, _, i + 2, ⟨by omega, by rw [List.length_append, List.length_singleton]; omega⟩, rfl, by go_num, Lib.hid (ops_ok hok.out ⟨hkd, by simp only; omega, ⟨hbt.1, by have := hbt.2; simp only; omega⟩, by simp only; omega⟩), by simp; omega, ⟨hbt.1, ?_⟩, hB3, hR3⟩
        rw [List.length_append]
        simp only [List.length_singleton, Int.natCast_add]
        have := hbt.2
        omega
      case measure => simp [intOf]; omega
end Go.Proofs.YtahmcjdddcbhnaaGreatDoor
