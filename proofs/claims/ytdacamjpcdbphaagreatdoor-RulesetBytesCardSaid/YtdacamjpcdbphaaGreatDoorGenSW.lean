/-
  The generator of trees, walked: tree, one step down.
-/
import Derived.Test.YtdacamjpcdbphaaGreatDoorBytG2a
namespace Go.Proofs.YtdacamjpcdbphaaGreatDoor
open Go Go.RowKit

theorem Made.mono {w w' : World} {mb N N' : Nat} {t : VT} (h : Made w mb N t w') (hN : N ≤ N') : Made w mb N' t w' := ⟨h.tree, Nat.le_trans h.num hN, h.maker, h.chg⟩
theorem Shape.refZ {z : Int} (h1 : 1 ≤ z) (h2 : z ≤ 4) : Shape 6 0 0 0 z false [] 0 := by
  obtain ⟨n, rfl⟩ := Int.eq_ofNat_of_zero_le (show 0 ≤ z by omega)
  exact .ref n (by omega) (by omega)
theorem Shape.condZ {z : Int} (h1 : 1 ≤ z) (h2 : z ≤ 4) : Shape 10 0 0 0 z false [] 2 := by
  obtain ⟨n, rfl⟩ := Int.eq_ofNat_of_zero_le (show 0 ≤ z by omega)
  exact .cond n (by omega) (by omega)
/-- a node over two new trees, written into the result's block -/
theorem Made.two {w w4 : World} {mb N : Nat} {t u : VT} {op n : Int} (hlt : mb < w.heap.size) (h : Mid3 w w4 mb) (ht : TreeAt w4 (fun b => w.heap.size < b) t) (hu : TreeAt w4 (fun b => w.heap.size < b) u) (hs : Shape op 0 0 0 n false [] 2) (ht' : t.num ≤ N) (hu' : u.num ≤ N) {cs : Array Value} (hcs : cs = (t.cells ++ u.cells).toArray) :
    Made w mb (2 * N + 1) (.mk op (.slice none 0 0) (.slice (some ⟨w4.heap.size, 0, none⟩) 2 2) 0 0 0 n false [] [t, u])
      (((((((((w4.alloc (.cells cs 51)).setCell ⟨w.heap.size, 0, none⟩ (.int .i64 op)).setCell ⟨w.heap.size, 1, none⟩ (.slice none 0 0)).setCell ⟨w.heap.size, 2, none⟩ (.slice (some ⟨w4.heap.size, 0, none⟩) 2 2)).setCell ⟨w.heap.size, 3, none⟩ (.int .i64 0)).setCell ⟨w.heap.size, 4, none⟩ (.int .i64 0)).setCell ⟨w.heap.size, 5, none⟩ (.int .i64 0)).setCell ⟨w.heap.size, 6, none⟩ (.int .i64 n)).setCell ⟨w.heap.size, 7, none⟩ (.bool false)) := by
  subst hcs
  have s4 := h.size
  have hch := (Chg.refl (fun b => b = w.heap.size) (w4.alloc (.cells (t.cells ++ u.cells).toArray 51))).put8 (R := w.heap.size) (.inr rfl) (.int .i64 op) (.slice none 0 0) (.slice (some ⟨w4.heap.size, 0, none⟩) 2 2) (.int .i64 0) (.int .i64 0) (.int .i64 0) (.int .i64 n) (.bool false)
  have hbt := (Blk.made w4 51 (t.cells ++ u.cells).toArray).chg hch (fun e => by have e' : w4.heap.size = w.heap.size := e; omega)
  have hct := ((Chg.refl (fun b => b = w.heap.size) w4).alloc (.cells (t.cells ++ u.cells).toArray 51)).trans hch fun _ _ h => h
  have hne : ∀ b, w.heap.size < b → ¬ (fun b => b = w.heap.size) b := fun b hb e => by have e' : b = w.heap.size := e; omega
  refine ⟨.mk _ hs (Sees.nil _ 2) (sees_blk hbt (by simp [VT.kids, VT.cells])) (fun b hb => by cases hb) (fun b hb => by cases hb; exact Nat.le_of_lt s4) (fun k hk => ?_), ?_, h.maker.chg hct (fun b hb e => by have e' : b = w.heap.size := e; omega), h.chg.trans hct fun b hb e => by have e' : b = w.heap.size := e; omega⟩
  · have : k = t ∨ k = u := by simpa [VT.kids] using hk
    rcases this with rfl | rfl
    · exact (ht.chg hct hne).low fun b hb => Nat.le_of_lt hb
    · exact (hu.chg hct hne).low fun b hb => Nat.le_of_lt hb
  · rw [VT.num_eq]
    show 1 + VT.sum [t, u] ≤ _
    simp [VT.sum]
    omega
set_option maxHeartbeats 16000000 in
set_option maxRecDepth 1000000 in
theorem tree_succ {d : Nat} (ih : TreeSpec d) (hd : d ≤ 10) : TreeSpec (d + 1) := by
  intro w mb h
  have hlt := h.lt
  have h4d : 0 < 4 ^ d := Nat.pow_pos (by omega)
  have h4s : 4 ^ (d + 1) = 4 * 4 ^ d := by rw [Nat.pow_succ]; omega
  have h0 := Mid3.start h
  obtain ⟨W0, hW0⟩ : ∃ x, w.alloc (.cells #[.int .i64 0, .slice none 0 0, .slice none 0 0, .int .i64 0, .int .i64 0, .int .i64 0, .int .i64 0, .bool false] 51) = x := ⟨_, rfl⟩
  rw [hW0] at h0
  obtain ⟨A, c, l, a1, a2, a3, caps, hb, h4, hput⟩ := h0.maker.nums
  have c3 := hb.at' 3
  have f3 := hb.thaw 3
  have hltb := hb.lt
  simp at c3
  have h1 := h0.step hlt (hput (wrap64 (a3 - 1))) (Chg.only_put _ mb 3 _)
  have hn := next_walk h1.maker 20 (by omega) (by omega)
  have hkd := fun (w : World) (h : MkAt w mb) => kids_walk ih hd h
  have hrp := fun (w : World) (h : MkAt w mb) => rep_walk ih hd h
  have hcp := fun (w : World) (h : MkAt w mb) => capture_walk ih hd h
  show Calls Tryz.prog 38 #[.pointer (some ⟨mb, 0, none⟩), .int .i64 ((d + 1 : Nat) : Int)] w _
  obtain ⟨D, hD⟩ : ∃ D : Int, (d : Int) + 1 = D := ⟨_, rfl⟩
  have hDc : ((d + 1 : Nat) : Int) = D := by omega
  rw [hDc]
  rw [hD] at hkd hrp hcp
  have hdz : (D == 0) = false := by simp; omega
  have hd1 : IntKind.i64.wrap (D - 1) = (d : Int) := by rw [wrapS (by omega) (by omega)]; omega
  clear hDc hD
  go_enter Tryz.func38, Tryz.ntmps38
  go_wp2_with fail
  refine (show Calls Tryz.prog 53 #[.pointer (some ⟨mb, 0, none⟩), .int .i64 20] _ _ from hn).mono ?_
  clear hn
  rintro _ w1 ⟨k, hk, rfl, hM1, hC1⟩
  have h2 := h1.step hlt hM1 hC1
  clear h1 hC1 c3 f3 hput hb hltb
  obtain ⟨B, cB, lB, b1, b2, b3, capB, hbB, hcap4, -⟩ := hM1.nums
  have q0 := hbB.at' 0
  have q1 := hbB.at' 1
  have q3 := hbB.at' 3
  have hltq := hbB.lt
  simp at q0 q1 q3
  clear hbB
  go_wp2_with fail
  by_cases hleft : b3 < 3
  · have hleftd : decide (b3 < 3) = true := decide_eq_true hleft
    refine wp_region_quiet_lit (by kernel_rfl) (by kernel_rfl) ?_
    repeat (with_reducible refine wpQuiet_step (fun K hK => ?_); go_simp; with_reducible refine hK _ ?_; clear hK K)
    with_reducible refine wpQuiet_nil ?_
    rintro _ ⟨nq, rfl⟩
    have h3 : Mid3 w (w1.drewN nq) mb := h2.step hlt (hM1.bel ((Below.refl _ w1).drewN nq)) (Chg.of_below ((Below.refl _ w1).drewN nq))
    obtain ⟨w3, hw3⟩ : ∃ x, w1.drewN nq = x := ⟨_, rfl⟩
    rw [hw3] at h3
    clear q0 q1 q3
    obtain ⟨z0, z1, z2, z3, z4, z5, z6, z7⟩ := h3.res.eight
    obtain ⟨y0, y1, y2, y3, y4, y5, y6, y7⟩ := h3.res.thaw8
    have hRl := h3.res.lt
    by_cases hk0 : k = 0
    · have hkd : ((k : Int) == 0) = true := by simpa using hk0
      go_wp2
      refine bodyPost_ret (results_re rfl _ _ w.heap.size rfl (h3.res.put8 _ _ _ _ _ _ _ _)) rfl ?_
      exact ⟨_, rfl, (Made.leaf hlt h3 Shape.empty).mono (by omega)⟩
    · have hkd : ((k : Int) == 0) = false := by simpa using hk0
      have hst := set_walk h3.maker
      go_wp2_with fail
      refine (hst).mono ?_
      rintro _ w4 ⟨t, rfl, hMs⟩
      obtain ⟨As, cs, hset, -⟩ := hMs.tree.set.shape
      obtain ⟨Ak, ck, hkv, -⟩ := hMs.tree.kids.shape
      have hval : t.val = .agg #[.int .i64 t.op, .slice As t.spans.length cs, .slice Ak t.kids.length ck, .int .i64 t.mn, .int .i64 t.mx, .int .i64 t.mo, .int .i64 t.n, .bool t.neg] := by unfold VT.val; rw [hset, hkv]
      rw [hval]
      have h5 := h3.step hlt hMs.maker hMs.chg
      obtain ⟨z0, z1, z2, z3, z4, z5, z6, z7⟩ := h5.res.eight
      obtain ⟨y0, y1, y2, y3, y4, y5, y6, y7⟩ := h5.res.thaw8
      have hRl := h5.res.lt
      go_wp2
      refine bodyPost_ret (results_re rfl _ _ w.heap.size rfl (h5.res.put8 _ _ _ _ _ _ _ _)) rfl ?_
      exact ⟨t, by rw [hval], (Made.copy hlt h3 hMs hset hkv).mono (by omega)⟩
  have hleftd : decide (b3 < 3) = false := decide_eq_false hleft
  by_cases hat : (lB.length : Int) < b1
  · have hatd : decide ((lB.length : Int) < b1) = true := decide_eq_true hat
    refine wp_region_quiet_lit (by kernel_rfl) (by kernel_rfl) ?_
    repeat (with_reducible refine wpQuiet_step (fun K hK => ?_); go_simp; with_reducible refine hK _ ?_; clear hK K)
    with_reducible refine wpQuiet_nil ?_
    rintro _ ⟨nq, rfl⟩
    have h3 : Mid3 w (w1.drewN nq) mb := h2.step hlt (hM1.bel ((Below.refl _ w1).drewN nq)) (Chg.of_below ((Below.refl _ w1).drewN nq))
    obtain ⟨w3, hw3⟩ : ∃ x, w1.drewN nq = x := ⟨_, rfl⟩
    rw [hw3] at h3
    clear q0 q1 q3
    obtain ⟨z0, z1, z2, z3, z4, z5, z6, z7⟩ := h3.res.eight
    obtain ⟨y0, y1, y2, y3, y4, y5, y6, y7⟩ := h3.res.thaw8
    have hRl := h3.res.lt
    by_cases hk0 : k = 0
    · have hkd : ((k : Int) == 0) = true := by simpa using hk0
      go_wp2
      refine bodyPost_ret (results_re rfl _ _ w.heap.size rfl (h3.res.put8 _ _ _ _ _ _ _ _)) rfl ?_
      exact ⟨_, rfl, (Made.leaf hlt h3 Shape.empty).mono (by omega)⟩
    · have hkd : ((k : Int) == 0) = false := by simpa using hk0
      have hst := set_walk h3.maker
      go_wp2_with fail
      refine (hst).mono ?_
      rintro _ w4 ⟨t, rfl, hMs⟩
      obtain ⟨As, cs, hset, -⟩ := hMs.tree.set.shape
      obtain ⟨Ak, ck, hkv, -⟩ := hMs.tree.kids.shape
      have hval : t.val = .agg #[.int .i64 t.op, .slice As t.spans.length cs, .slice Ak t.kids.length ck, .int .i64 t.mn, .int .i64 t.mx, .int .i64 t.mo, .int .i64 t.n, .bool t.neg] := by unfold VT.val; rw [hset, hkv]
      rw [hval]
      have h5 := h3.step hlt hMs.maker hMs.chg
      obtain ⟨z0, z1, z2, z3, z4, z5, z6, z7⟩ := h5.res.eight
      obtain ⟨y0, y1, y2, y3, y4, y5, y6, y7⟩ := h5.res.thaw8
      have hRl := h5.res.lt
      go_wp2
      refine bodyPost_ret (results_re rfl _ _ w.heap.size rfl (h5.res.put8 _ _ _ _ _ _ _ _)) rfl ?_
      exact ⟨t, by rw [hval], (Made.copy hlt h3 hMs hset hkv).mono (by omega)⟩
  have hatd : decide ((lB.length : Int) < b1) = false := decide_eq_false hat
  refine wp_region_quiet_lit (by kernel_rfl) (by kernel_rfl) ?_
  repeat (with_reducible refine wpQuiet_step (fun K hK => ?_); go_simp; with_reducible refine hK _ ?_; clear hK K)
  with_reducible refine wpQuiet_nil ?_
  rintro _ ⟨nq, rfl⟩
  have h3 : Mid3 w (w1.drewN nq) mb := h2.step hlt (hM1.bel ((Below.refl _ w1).drewN nq)) (Chg.of_below ((Below.refl _ w1).drewN nq))
  obtain ⟨w3, hw3⟩ : ∃ x, w1.drewN nq = x := ⟨_, rfl⟩
  rw [hw3] at h3
  clear q0 q1 q3
  by_cases h5 : k < 5
  · have h5' : (k : Int) < 5 := by omega
    go_wp2_with fail
    refine (show Calls Tryz.prog 55 #[.pointer (some ⟨mb, 0, none⟩), .int .i64 D] _ _ from hkd _ h3.maker).mono ?_
    rintro _ w4 ⟨v, ts, rfl, hT, hl2, hl3⟩
    have hTr := hT.row
    obtain ⟨Av, cv, rfl, _⟩ := row_form hT.row
    have h5 := h3.step hlt hT.maker hT.chg
    obtain ⟨z0, z1, z2, z3, z4, z5, z6, z7⟩ := h5.res.eight
    obtain ⟨y0, y1, y2, y3, y4, y5, y6, y7⟩ := h5.res.thaw8
    have hRl := h5.res.lt
    go_wp2
    refine bodyPost_ret (results_re rfl _ _ w.heap.size rfl (h5.res.put8 _ _ _ _ _ _ _ _)) rfl ?_
    exact ⟨_, rfl, (Made.many hlt h3 hT (Shape.cat _ hl2 hl3) hl3).mono (by omega)⟩
  have h5' : ¬ (k : Int) < 5 := by omega
  by_cases h8 : k < 8
  · have h8' : (k : Int) < 8 := by omega
    go_wp2_with fail
    refine (show Calls Tryz.prog 55 #[.pointer (some ⟨mb, 0, none⟩), .int .i64 D] _ _ from hkd _ h3.maker).mono ?_
    rintro _ w4 ⟨v, ts, rfl, hT, hl2, hl3⟩
    have hTr := hT.row
    obtain ⟨Av, cv, rfl, _⟩ := row_form hT.row
    have h5 := h3.step hlt hT.maker hT.chg
    obtain ⟨z0, z1, z2, z3, z4, z5, z6, z7⟩ := h5.res.eight
    obtain ⟨y0, y1, y2, y3, y4, y5, y6, y7⟩ := h5.res.thaw8
    have hRl := h5.res.lt
    go_wp2
    refine bodyPost_ret (results_re rfl _ _ w.heap.size rfl (h5.res.put8 _ _ _ _ _ _ _ _)) rfl ?_
    exact ⟨_, rfl, (Made.many hlt h3 hT (Shape.alt _ hl2 hl3) hl3).mono (by omega)⟩
  have h8' : ¬ (k : Int) < 8 := by omega
  by_cases h12 : k < 12
  · have h12' : (k : Int) < 12 := by omega
    have hst := hrp _ h3.maker
    go_wp2_with fail
    refine (hst).mono ?_
    rintro _ w4 ⟨t, rfl, hMs⟩
    obtain ⟨As, cs, hset, -⟩ := hMs.tree.set.shape
    obtain ⟨Ak, ck, hkv, -⟩ := hMs.tree.kids.shape
    have hval : t.val = .agg #[.int .i64 t.op, .slice As t.spans.length cs, .slice Ak t.kids.length ck, .int .i64 t.mn, .int .i64 t.mx, .int .i64 t.mo, .int .i64 t.n, .bool t.neg] := by unfold VT.val; rw [hset, hkv]
    rw [hval]
    have h5 := h3.step hlt hMs.maker hMs.chg
    obtain ⟨z0, z1, z2, z3, z4, z5, z6, z7⟩ := h5.res.eight
    obtain ⟨y0, y1, y2, y3, y4, y5, y6, y7⟩ := h5.res.thaw8
    have hRl := h5.res.lt
    go_wp2
    refine bodyPost_ret (results_re rfl _ _ w.heap.size rfl (h5.res.put8 _ _ _ _ _ _ _ _)) rfl ?_
    exact ⟨t, by rw [hval], (Made.copy hlt h3 hMs hset hkv).mono (by omega)⟩
  clear hkd hrp
  have h5' : ¬ (k : Int) < 5 := by omega
  have h8' : ¬ (k : Int) < 8 := by omega
  have h12' : ¬ (k : Int) < 12 := by omega
  obtain ⟨B2, cB2, lB2, m1, uses, m3, capz, hbU, hcz4, -⟩ := h3.maker.nums
  have u2 := hbU.at' 2
  have u4 := hbU.at' 4
  have hltu := hbU.lt
  simp at u2 u4
  clear hbU
  by_cases e : k = 12
  · have e' : (k : Int) = 12 := by omega
    have e2 : ((k : Int) == 12) = true := by simpa using e'
    by_cases hg : 0 < bits .and .i64 uses 64
    · have hst := hcp _ h3.maker
      go_wp2_with fail
      refine (hst).mono ?_
      rintro _ w4 ⟨t, rfl, hMs⟩
      obtain ⟨As, cs, hset, -⟩ := hMs.tree.set.shape
      obtain ⟨Ak, ck, hkv, -⟩ := hMs.tree.kids.shape
      have hval : t.val = .agg #[.int .i64 t.op, .slice As t.spans.length cs, .slice Ak t.kids.length ck, .int .i64 t.mn, .int .i64 t.mx, .int .i64 t.mo, .int .i64 t.n, .bool t.neg] := by unfold VT.val; rw [hset, hkv]
      rw [hval]
      have h5 := h3.step hlt hMs.maker hMs.chg
      obtain ⟨z0, z1, z2, z3, z4, z5, z6, z7⟩ := h5.res.eight
      obtain ⟨y0, y1, y2, y3, y4, y5, y6, y7⟩ := h5.res.thaw8
      have hRl := h5.res.lt
      go_wp2
      refine bodyPost_ret (results_re rfl _ _ w.heap.size rfl (h5.res.put8 _ _ _ _ _ _ _ _)) rfl ?_
      exact ⟨t, by rw [hval], (Made.copy hlt h3 hMs hset hkv).mono (by omega)⟩
    · have hst := set_walk h3.maker
      go_wp2_with fail
      refine (hst).mono ?_
      rintro _ w4 ⟨t, rfl, hMs⟩
      obtain ⟨As, cs, hset, -⟩ := hMs.tree.set.shape
      obtain ⟨Ak, ck, hkv, -⟩ := hMs.tree.kids.shape
      have hval : t.val = .agg #[.int .i64 t.op, .slice As t.spans.length cs, .slice Ak t.kids.length ck, .int .i64 t.mn, .int .i64 t.mx, .int .i64 t.mo, .int .i64 t.n, .bool t.neg] := by unfold VT.val; rw [hset, hkv]
      rw [hval]
      have h5 := h3.step hlt hMs.maker hMs.chg
      obtain ⟨z0, z1, z2, z3, z4, z5, z6, z7⟩ := h5.res.eight
      obtain ⟨y0, y1, y2, y3, y4, y5, y6, y7⟩ := h5.res.thaw8
      have hRl := h5.res.lt
      go_wp2
      refine bodyPost_ret (results_re rfl _ _ w.heap.size rfl (h5.res.put8 _ _ _ _ _ _ _ _)) rfl ?_
      exact ⟨t, by rw [hval], (Made.copy hlt h3 hMs hset hkv).mono (by omega)⟩
  have e12 : ((k : Int) == 12) = false := beq_eq_false_iff_ne.2 (by omega)
  by_cases e : k = 13
  · have e' : (k : Int) = 13 := by omega
    have e2 : ((k : Int) == 13) = true := by simpa using e'
    by_cases hg : 0 < bits .and .i64 uses 64
    · have hst := hcp _ h3.maker
      go_wp2_with fail
      refine (hst).mono ?_
      rintro _ w4 ⟨t, rfl, hMs⟩
      obtain ⟨As, cs, hset, -⟩ := hMs.tree.set.shape
      obtain ⟨Ak, ck, hkv, -⟩ := hMs.tree.kids.shape
      have hval : t.val = .agg #[.int .i64 t.op, .slice As t.spans.length cs, .slice Ak t.kids.length ck, .int .i64 t.mn, .int .i64 t.mx, .int .i64 t.mo, .int .i64 t.n, .bool t.neg] := by unfold VT.val; rw [hset, hkv]
      rw [hval]
      have h5 := h3.step hlt hMs.maker hMs.chg
      obtain ⟨z0, z1, z2, z3, z4, z5, z6, z7⟩ := h5.res.eight
      obtain ⟨y0, y1, y2, y3, y4, y5, y6, y7⟩ := h5.res.thaw8
      have hRl := h5.res.lt
      go_wp2
      refine bodyPost_ret (results_re rfl _ _ w.heap.size rfl (h5.res.put8 _ _ _ _ _ _ _ _)) rfl ?_
      exact ⟨t, by rw [hval], (Made.copy hlt h3 hMs hset hkv).mono (by omega)⟩
    · have hst := set_walk h3.maker
      go_wp2_with fail
      refine (hst).mono ?_
      rintro _ w4 ⟨t, rfl, hMs⟩
      obtain ⟨As, cs, hset, -⟩ := hMs.tree.set.shape
      obtain ⟨Ak, ck, hkv, -⟩ := hMs.tree.kids.shape
      have hval : t.val = .agg #[.int .i64 t.op, .slice As t.spans.length cs, .slice Ak t.kids.length ck, .int .i64 t.mn, .int .i64 t.mx, .int .i64 t.mo, .int .i64 t.n, .bool t.neg] := by unfold VT.val; rw [hset, hkv]
      rw [hval]
      have h5 := h3.step hlt hMs.maker hMs.chg
      obtain ⟨z0, z1, z2, z3, z4, z5, z6, z7⟩ := h5.res.eight
      obtain ⟨y0, y1, y2, y3, y4, y5, y6, y7⟩ := h5.res.thaw8
      have hRl := h5.res.lt
      go_wp2
      refine bodyPost_ret (results_re rfl _ _ w.heap.size rfl (h5.res.put8 _ _ _ _ _ _ _ _)) rfl ?_
      exact ⟨t, by rw [hval], (Made.copy hlt h3 hMs hset hkv).mono (by omega)⟩
  have e13 : ((k : Int) == 13) = false := beq_eq_false_iff_ne.2 (by omega)
  by_cases e : k = 14
  · have e' : (k : Int) = 14 := by omega
    have e2 : ((k : Int) == 14) = true := by simpa using e'
    by_cases hg : 0 < bits .and .i64 uses 16
    · have hn := next_walk h3.maker 6 (by omega) (by omega)
      go_wp2_with fail
      refine (show Calls Tryz.prog 53 #[.pointer (some ⟨mb, 0, none⟩), .int .i64 6] _ _ from hn).mono ?_
      clear hn
      rintro _ w4 ⟨n, hn6, rfl, hM4, hC4⟩
      have hq := h3.step hlt hM4 hC4
      obtain ⟨z0, z1, z2, z3, z4, z5, z6, z7⟩ := hq.res.eight
      obtain ⟨y0, y1, y2, y3, y4, y5, y6, y7⟩ := hq.res.thaw8
      have hRl := hq.res.lt
      go_wp2
      refine bodyPost_ret (results_re rfl _ _ w.heap.size rfl (hq.res.put8 _ _ _ _ _ _ _ _)) rfl ?_
      exact ⟨_, rfl, (Made.leaf hlt hq (Shape.assert n (by omega))).mono (by omega)⟩
    · have hst := set_walk h3.maker
      go_wp2_with fail
      refine (hst).mono ?_
      rintro _ w4 ⟨t, rfl, hMs⟩
      obtain ⟨As, cs, hset, -⟩ := hMs.tree.set.shape
      obtain ⟨Ak, ck, hkv, -⟩ := hMs.tree.kids.shape
      have hval : t.val = .agg #[.int .i64 t.op, .slice As t.spans.length cs, .slice Ak t.kids.length ck, .int .i64 t.mn, .int .i64 t.mx, .int .i64 t.mo, .int .i64 t.n, .bool t.neg] := by unfold VT.val; rw [hset, hkv]
      rw [hval]
      have h5 := h3.step hlt hMs.maker hMs.chg
      obtain ⟨z0, z1, z2, z3, z4, z5, z6, z7⟩ := h5.res.eight
      obtain ⟨y0, y1, y2, y3, y4, y5, y6, y7⟩ := h5.res.thaw8
      have hRl := h5.res.lt
      go_wp2
      refine bodyPost_ret (results_re rfl _ _ w.heap.size rfl (h5.res.put8 _ _ _ _ _ _ _ _)) rfl ?_
      exact ⟨t, by rw [hval], (Made.copy hlt h3 hMs hset hkv).mono (by omega)⟩
  have e14 : ((k : Int) == 14) = false := beq_eq_false_iff_ne.2 (by omega)
  by_cases e : k = 15
  · have e' : (k : Int) = 15 := by omega
    have e2 : ((k : Int) == 15) = true := by simpa using e'
    by_cases hg : 0 < bits .and .i64 uses 4
    · have hn := next_walk h3.maker 3 (by omega) (by omega)
      go_wp2_with fail
      refine (show Calls Tryz.prog 53 #[.pointer (some ⟨mb, 0, none⟩), .int .i64 3] _ _ from hn).mono ?_
      clear hn
      rintro _ w4 ⟨n, hn3, rfl, hM4, hC4⟩
      have hq4 := h3.step hlt hM4 hC4
      have hn := next_walk hq4.maker 2 (by omega) (by omega)
      obtain ⟨ng, hng⟩ : ∃ x, ((n : Int) == 0) = x := ⟨_, rfl⟩
      go_wp2_with fail
      refine (show Calls Tryz.prog 53 #[.pointer (some ⟨mb, 0, none⟩), .int .i64 2] _ _ from hn).mono ?_
      clear hn
      rintro _ w5 ⟨n2, hn2, rfl, hM5, hC5⟩
      have hq := hq4.step hlt hM5 hC5
      go_wp2_with fail
      refine (show Calls Tryz.prog 38 #[.pointer (some ⟨mb, 0, none⟩), .int .i64 (d : Int)] _ _ from ih _ mb hq.maker).mono ?_
      rintro _ w4 ⟨t, rfl, hMd⟩
      have h5 := hq.step hlt hMd.maker hMd.chg
      rw [show t.val = .agg #[.int .i64 t.op, t.set, t.kidv, .int .i64 t.mn, .int .i64 t.mx, .int .i64 t.mo, .int .i64 t.n, .bool t.neg] from rfl]
      have hRa := h5.res.alloc (.cells #[.int .i64 t.op, t.set, t.kidv, .int .i64 t.mn, .int .i64 t.mx, .int .i64 t.mo, .int .i64 t.n, .bool t.neg] 51)
      obtain ⟨z0, z1, z2, z3, z4, z5, z6, z7⟩ := hRa.eight
      obtain ⟨y0, y1, y2, y3, y4, y5, y6, y7⟩ := hRa.thaw8
      have hRl := hRa.lt
      go_wp2
      refine bodyPost_ret (results_re rfl _ _ w.heap.size rfl (h5.fin _ _ _ _ _ _ _ _ _)) rfl ?_
      have h01 : n2 = 0 ∨ n2 = 1 := by omega
      rcases h01 with rfl | rfl
      · exact ⟨_, rfl, (Made.close hlt hq hMd (Shape.ahead _)).mono (by omega)⟩
      · exact ⟨_, rfl, (Made.close hlt hq hMd (Shape.behind _)).mono (by omega)⟩
    · have hst := set_walk h3.maker
      go_wp2_with fail
      refine (hst).mono ?_
      rintro _ w4 ⟨t, rfl, hMs⟩
      obtain ⟨As, cs, hset, -⟩ := hMs.tree.set.shape
      obtain ⟨Ak, ck, hkv, -⟩ := hMs.tree.kids.shape
      have hval : t.val = .agg #[.int .i64 t.op, .slice As t.spans.length cs, .slice Ak t.kids.length ck, .int .i64 t.mn, .int .i64 t.mx, .int .i64 t.mo, .int .i64 t.n, .bool t.neg] := by unfold VT.val; rw [hset, hkv]
      rw [hval]
      have h5 := h3.step hlt hMs.maker hMs.chg
      obtain ⟨z0, z1, z2, z3, z4, z5, z6, z7⟩ := h5.res.eight
      obtain ⟨y0, y1, y2, y3, y4, y5, y6, y7⟩ := h5.res.thaw8
      have hRl := h5.res.lt
      go_wp2
      refine bodyPost_ret (results_re rfl _ _ w.heap.size rfl (h5.res.put8 _ _ _ _ _ _ _ _)) rfl ?_
      exact ⟨t, by rw [hval], (Made.copy hlt h3 hMs hset hkv).mono (by omega)⟩
  have e15 : ((k : Int) == 15) = false := beq_eq_false_iff_ne.2 (by omega)
  by_cases e : k = 16
  · have e' : (k : Int) = 16 := by omega
    have e2 : ((k : Int) == 16) = true := by simpa using e'
    by_cases hg : 0 < bits .and .i64 uses 8
    · have hq := h3
      go_wp2_with fail
      refine (show Calls Tryz.prog 38 #[.pointer (some ⟨mb, 0, none⟩), .int .i64 (d : Int)] _ _ from ih _ mb hq.maker).mono ?_
      rintro _ w4 ⟨t, rfl, hMd⟩
      have h5 := hq.step hlt hMd.maker hMd.chg
      rw [show t.val = .agg #[.int .i64 t.op, t.set, t.kidv, .int .i64 t.mn, .int .i64 t.mx, .int .i64 t.mo, .int .i64 t.n, .bool t.neg] from rfl]
      have hRa := h5.res.alloc (.cells #[.int .i64 t.op, t.set, t.kidv, .int .i64 t.mn, .int .i64 t.mx, .int .i64 t.mo, .int .i64 t.n, .bool t.neg] 51)
      obtain ⟨z0, z1, z2, z3, z4, z5, z6, z7⟩ := hRa.eight
      obtain ⟨y0, y1, y2, y3, y4, y5, y6, y7⟩ := hRa.thaw8
      have hRl := hRa.lt
      go_wp2
      refine bodyPost_ret (results_re rfl _ _ w.heap.size rfl (h5.fin _ _ _ _ _ _ _ _ _)) rfl ?_
      exact ⟨_, rfl, (Made.close hlt hq hMd Shape.atom).mono (by omega)⟩
    · have hst := set_walk h3.maker
      go_wp2_with fail
      refine (hst).mono ?_
      rintro _ w4 ⟨t, rfl, hMs⟩
      obtain ⟨As, cs, hset, -⟩ := hMs.tree.set.shape
      obtain ⟨Ak, ck, hkv, -⟩ := hMs.tree.kids.shape
      have hval : t.val = .agg #[.int .i64 t.op, .slice As t.spans.length cs, .slice Ak t.kids.length ck, .int .i64 t.mn, .int .i64 t.mx, .int .i64 t.mo, .int .i64 t.n, .bool t.neg] := by unfold VT.val; rw [hset, hkv]
      rw [hval]
      have h5 := h3.step hlt hMs.maker hMs.chg
      obtain ⟨z0, z1, z2, z3, z4, z5, z6, z7⟩ := h5.res.eight
      obtain ⟨y0, y1, y2, y3, y4, y5, y6, y7⟩ := h5.res.thaw8
      have hRl := h5.res.lt
      go_wp2
      refine bodyPost_ret (results_re rfl _ _ w.heap.size rfl (h5.res.put8 _ _ _ _ _ _ _ _)) rfl ?_
      exact ⟨t, by rw [hval], (Made.copy hlt h3 hMs hset hkv).mono (by omega)⟩
  have e16 : ((k : Int) == 16) = false := beq_eq_false_iff_ne.2 (by omega)
  by_cases e : k = 17
  · have e' : (k : Int) = 17 := by omega
    have e2 : ((k : Int) == 17) = true := by simpa using e'
    by_cases hg : 0 < bits .and .i64 uses 1
    · by_cases hz : 0 < capz
      · have hzI : (0 : Int) < (capz : Int) := by omega
        have hn := next_walk h3.maker capz (by omega) (by omega)
        go_wp2_with fail
        refine (show Calls Tryz.prog 53 #[.pointer (some ⟨mb, 0, none⟩), .int .i64 (capz : Int)] _ _ from hn).mono ?_
        clear hn
        rintro _ w4 ⟨n, hnz, rfl, hM4, hC4⟩
        have hq := h3.step hlt hM4 hC4
        obtain ⟨z0, z1, z2, z3, z4, z5, z6, z7⟩ := hq.res.eight
        obtain ⟨y0, y1, y2, y3, y4, y5, y6, y7⟩ := hq.res.thaw8
        have hRl := hq.res.lt
        go_wp2
        refine bodyPost_ret (results_re rfl _ _ w.heap.size rfl (hq.res.put8 _ _ _ _ _ _ _ _)) rfl ?_
        exact ⟨_, rfl, (Made.leaf hlt hq (Shape.refZ (by omega) (by omega))).mono (by omega)⟩
      · have hzI : ¬ (0 : Int) < (capz : Int) := by omega
        have hst := set_walk h3.maker
        go_wp2_with fail
        refine (hst).mono ?_
        rintro _ w4 ⟨t, rfl, hMs⟩
        obtain ⟨As, cs, hset, -⟩ := hMs.tree.set.shape
        obtain ⟨Ak, ck, hkv, -⟩ := hMs.tree.kids.shape
        have hval : t.val = .agg #[.int .i64 t.op, .slice As t.spans.length cs, .slice Ak t.kids.length ck, .int .i64 t.mn, .int .i64 t.mx, .int .i64 t.mo, .int .i64 t.n, .bool t.neg] := by unfold VT.val; rw [hset, hkv]
        rw [hval]
        have h5 := h3.step hlt hMs.maker hMs.chg
        obtain ⟨z0, z1, z2, z3, z4, z5, z6, z7⟩ := h5.res.eight
        obtain ⟨y0, y1, y2, y3, y4, y5, y6, y7⟩ := h5.res.thaw8
        have hRl := h5.res.lt
        go_wp2
        refine bodyPost_ret (results_re rfl _ _ w.heap.size rfl (h5.res.put8 _ _ _ _ _ _ _ _)) rfl ?_
        exact ⟨t, by rw [hval], (Made.copy hlt h3 hMs hset hkv).mono (by omega)⟩
    · have hst := set_walk h3.maker
      go_wp2_with fail
      refine (hst).mono ?_
      rintro _ w4 ⟨t, rfl, hMs⟩
      obtain ⟨As, cs, hset, -⟩ := hMs.tree.set.shape
      obtain ⟨Ak, ck, hkv, -⟩ := hMs.tree.kids.shape
      have hval : t.val = .agg #[.int .i64 t.op, .slice As t.spans.length cs, .slice Ak t.kids.length ck, .int .i64 t.mn, .int .i64 t.mx, .int .i64 t.mo, .int .i64 t.n, .bool t.neg] := by unfold VT.val; rw [hset, hkv]
      rw [hval]
      have h5 := h3.step hlt hMs.maker hMs.chg
      obtain ⟨z0, z1, z2, z3, z4, z5, z6, z7⟩ := h5.res.eight
      obtain ⟨y0, y1, y2, y3, y4, y5, y6, y7⟩ := h5.res.thaw8
      have hRl := h5.res.lt
      go_wp2
      refine bodyPost_ret (results_re rfl _ _ w.heap.size rfl (h5.res.put8 _ _ _ _ _ _ _ _)) rfl ?_
      exact ⟨t, by rw [hval], (Made.copy hlt h3 hMs hset hkv).mono (by omega)⟩
  have e17 : ((k : Int) == 17) = false := beq_eq_false_iff_ne.2 (by omega)
  by_cases e : k = 18
  · have e' : (k : Int) = 18 := by omega
    have e2 : ((k : Int) == 18) = true := by simpa using e'
    by_cases hg : 0 < bits .and .i64 uses 2
    · by_cases hz : 0 < capz
      · have hzI : (0 : Int) < (capz : Int) := by omega
        have hn := next_walk h3.maker capz (by omega) (by omega)
        go_wp2_with fail
        refine (show Calls Tryz.prog 53 #[.pointer (some ⟨mb, 0, none⟩), .int .i64 (capz : Int)] _ _ from hn).mono ?_
        clear hn
        rintro _ w4 ⟨n, hnz, rfl, hM4, hC4⟩
        have hq := h3.step hlt hM4 hC4
        have s4 := hq.size
        clear hM4 hC4 u2 u4 hltu
        go_wp2_with fail
        refine (show Calls Tryz.prog 38 #[.pointer (some ⟨mb, 0, none⟩), .int .i64 (d : Int)] _ _ from ih _ mb hq.maker).mono ?_
        rintro _ w5 ⟨t, rfl, hMd⟩
        have h5 := hq.step hlt hMd.maker hMd.chg
        have s5 := hMd.chg.size
        obtain ⟨As, cs, hset, -⟩ := hMd.tree.set.shape
        obtain ⟨Ak, ck, hkv, -⟩ := hMd.tree.kids.shape
        have hval : t.val = .agg #[.int .i64 t.op, .slice As t.spans.length cs, .slice Ak t.kids.length ck, .int .i64 t.mn, .int .i64 t.mx, .int .i64 t.mo, .int .i64 t.n, .bool t.neg] := by unfold VT.val; rw [hset, hkv]
        have hcel : t.cells = [.int .i64 t.op, .slice As t.spans.length cs, .slice Ak t.kids.length ck, .int .i64 t.mn, .int .i64 t.mx, .int .i64 t.mo, .int .i64 t.n, .bool t.neg] := by unfold VT.cells; rw [hset, hkv]
        rw [hval]
        have hb5 := Blk.made w5 51 #[.int .i64 0, .slice none 0 0, .slice none 0 0, .int .i64 0, .int .i64 0, .int .i64 0, .int .i64 0, .bool false]
        have hC5 := (Chg.refl (fun _ => False) w5).alloc (.cells #[.int .i64 0, .slice none 0 0, .slice none 0 0, .int .i64 0, .int .i64 0, .int .i64 0, .int .i64 0, .bool false] 51)
        obtain ⟨W6, hW6⟩ : ∃ x, w5.alloc (.cells #[.int .i64 0, .slice none 0 0, .slice none 0 0, .int .i64 0, .int .i64 0, .int .i64 0, .int .i64 0, .bool false] 51) = x := ⟨_, rfl⟩
        rw [hW6] at hb5 hC5
        obtain ⟨z0, z1, z2, z3, z4, z5, z6, z7⟩ := hb5.eight
        obtain ⟨y0, y1, y2, y3, y4, y5, y6, y7⟩ := hb5.thaw8
        have hRl := hb5.lt
        have hC6 := (Chg.refl (fun b => b = w5.heap.size) W6).put8 (R := w5.heap.size) (.inr rfl) (.int .i64 t.op) (.slice As t.spans.length cs) (.slice Ak t.kids.length ck) (.int .i64 t.mn) (.int .i64 t.mx) (.int .i64 t.mo) (.int .i64 t.n) (.bool t.neg)
        have hb6 := hb5.put8 (.int .i64 t.op) (.slice As t.spans.length cs) (.slice Ak t.kids.length ck) (.int .i64 t.mn) (.int .i64 t.mx) (.int .i64 t.mo) (.int .i64 t.n) (.bool t.neg)
        obtain ⟨w6, hw6⟩ : ∃ x, (((((((W6.setCell ⟨w5.heap.size, 0, none⟩ (.int .i64 t.op)).setCell ⟨w5.heap.size, 1, none⟩ (.slice As t.spans.length cs)).setCell ⟨w5.heap.size, 2, none⟩ (.slice Ak t.kids.length ck)).setCell ⟨w5.heap.size, 3, none⟩ (.int .i64 t.mn)).setCell ⟨w5.heap.size, 4, none⟩ (.int .i64 t.mx)).setCell ⟨w5.heap.size, 5, none⟩ (.int .i64 t.mo)).setCell ⟨w5.heap.size, 6, none⟩ (.int .i64 t.n)).setCell ⟨w5.heap.size, 7, none⟩ (.bool t.neg) = x := ⟨_, rfl⟩
        rw [hw6] at hb6 hC6
        have hC : Chg (fun _ => False) w5 w6 := hC5.trans hC6 fun i hi e => by have e' : i = w5.heap.size := e; omega
        have h6 : Mid3 w w6 mb := ⟨h5.maker.chg hC fun _ _ h => h, h5.chg.trans hC fun _ _ h => h.elim, h5.res.chg hC fun h => h⟩
        have ht6 := hMd.tree.chg hC fun _ _ h => h
        have htn := hMd.num
        have hlt6 := h6.size
        go_wp2_with fail
        clear z0 z1 z2 z3 z4 z5 z6 z7 y0 y1 y2 y3 y4 y5 y6 y7 hRl hC6 hC5 hb5 hw6 hW6
        obtain ⟨z0, z1, z2, z3, z4, z5, z6, z7⟩ := hb6.eight
        have s6 := hb6.lt
        have hi2 := ih w6.drew mb (h6.maker.bel (Below.refl _ _).drew)
        have h6d : Mid3 w w6.drew mb := h6.step hlt (h6.maker.bel (Below.refl _ _).drew) (Chg.of_below (Below.refl _ _).drew)
        have hb6d := hb6.bel (Below.refl _ _).drew s6
        have hlt6d := h6d.size
        have ht6d := ht6.bel (Below.refl _ _).drew
        go_region_law
          (first
            | (go_simp; go_at_call 38; refine hi2.mono ?_; rintro _ w7 ⟨u, rfl, hMu⟩; obtain ⟨At, ct, hset2, -⟩ := hMu.tree.set.shape; obtain ⟨Bt, dt, hkv2, -⟩ := hMu.tree.kids.shape; have hvalu : u.val = .agg #[.int .i64 u.op, .slice At u.spans.length ct, .slice Bt u.kids.length dt, .int .i64 u.mn, .int .i64 u.mx, .int .i64 u.mo, .int .i64 u.n, .bool u.neg] := (by unfold VT.val; rw [hset2, hkv2]); have hcelu : u.cells = [.int .i64 u.op, .slice At u.spans.length ct, .slice Bt u.kids.length dt, .int .i64 u.mn, .int .i64 u.mx, .int .i64 u.mo, .int .i64 u.n, .bool u.neg] := (by unfold VT.cells; rw [hset2, hkv2]); rw [hvalu]; have h7 := h6d.step hlt hMu.maker hMu.chg; have hb7 := hb6d.chg hMu.chg (fun e => by have e' : w5.heap.size = mb := e; omega); obtain ⟨x0, x1, x2, x3, x4, x5, x6, x7⟩ := hb7.eight; have hRa := h7.res.alloc (.cells #[.int .i64 t.op, .slice As t.spans.length cs, .slice Ak t.kids.length ck, .int .i64 t.mn, .int .i64 t.mx, .int .i64 t.mo, .int .i64 t.n, .bool t.neg, .int .i64 u.op, .slice At u.spans.length ct, .slice Bt u.kids.length dt, .int .i64 u.mn, .int .i64 u.mx, .int .i64 u.mo, .int .i64 u.n, .bool u.neg] 51); obtain ⟨g0, g1, g2, g3, g4, g5, g6, g7⟩ := hRa.eight; obtain ⟨y0, y1, y2, y3, y4, y5, y6, y7⟩ := hRa.thaw8; have hRl := hRa.lt))
        all_goals
          go_wp2
          refine bodyPost_ret (results_re rfl _ _ w.heap.size rfl (h7.fin _ _ _ _ _ _ _ _ _)) rfl ?_
          exact ⟨_, rfl, (Made.two hlt h7 ((ht6d.chg hMu.chg fun b hb e => by have e' : b = mb := e; omega).low fun b hb => by omega) (hMu.tree.low fun b hb => by omega) (Shape.condZ (by omega) (by omega)) htn hMu.num (by rw [hcel, hcelu]; rfl)).mono (by omega)⟩
      · have hzI : ¬ (0 : Int) < (capz : Int) := by omega
        have hst := set_walk h3.maker
        go_wp2_with fail
        refine (hst).mono ?_
        rintro _ w4 ⟨t, rfl, hMs⟩
        obtain ⟨As, cs, hset, -⟩ := hMs.tree.set.shape
        obtain ⟨Ak, ck, hkv, -⟩ := hMs.tree.kids.shape
        have hval : t.val = .agg #[.int .i64 t.op, .slice As t.spans.length cs, .slice Ak t.kids.length ck, .int .i64 t.mn, .int .i64 t.mx, .int .i64 t.mo, .int .i64 t.n, .bool t.neg] := by unfold VT.val; rw [hset, hkv]
        rw [hval]
        have h5 := h3.step hlt hMs.maker hMs.chg
        obtain ⟨z0, z1, z2, z3, z4, z5, z6, z7⟩ := h5.res.eight
        obtain ⟨y0, y1, y2, y3, y4, y5, y6, y7⟩ := h5.res.thaw8
        have hRl := h5.res.lt
        go_wp2
        refine bodyPost_ret (results_re rfl _ _ w.heap.size rfl (h5.res.put8 _ _ _ _ _ _ _ _)) rfl ?_
        exact ⟨t, by rw [hval], (Made.copy hlt h3 hMs hset hkv).mono (by omega)⟩
    · have hst := set_walk h3.maker
      go_wp2_with fail
      refine (hst).mono ?_
      rintro _ w4 ⟨t, rfl, hMs⟩
      obtain ⟨As, cs, hset, -⟩ := hMs.tree.set.shape
      obtain ⟨Ak, ck, hkv, -⟩ := hMs.tree.kids.shape
      have hval : t.val = .agg #[.int .i64 t.op, .slice As t.spans.length cs, .slice Ak t.kids.length ck, .int .i64 t.mn, .int .i64 t.mx, .int .i64 t.mo, .int .i64 t.n, .bool t.neg] := by unfold VT.val; rw [hset, hkv]
      rw [hval]
      have h5 := h3.step hlt hMs.maker hMs.chg
      obtain ⟨z0, z1, z2, z3, z4, z5, z6, z7⟩ := h5.res.eight
      obtain ⟨y0, y1, y2, y3, y4, y5, y6, y7⟩ := h5.res.thaw8
      have hRl := h5.res.lt
      go_wp2
      refine bodyPost_ret (results_re rfl _ _ w.heap.size rfl (h5.res.put8 _ _ _ _ _ _ _ _)) rfl ?_
      exact ⟨t, by rw [hval], (Made.copy hlt h3 hMs hset hkv).mono (by omega)⟩
  have e18 : ((k : Int) == 18) = false := beq_eq_false_iff_ne.2 (by omega)
  have hst := set_walk h3.maker
  go_wp2_with fail
  refine (hst).mono ?_
  rintro _ w4 ⟨t, rfl, hMs⟩
  obtain ⟨As, cs, hset, -⟩ := hMs.tree.set.shape
  obtain ⟨Ak, ck, hkv, -⟩ := hMs.tree.kids.shape
  have hval : t.val = .agg #[.int .i64 t.op, .slice As t.spans.length cs, .slice Ak t.kids.length ck, .int .i64 t.mn, .int .i64 t.mx, .int .i64 t.mo, .int .i64 t.n, .bool t.neg] := by unfold VT.val; rw [hset, hkv]
  rw [hval]
  have h5 := h3.step hlt hMs.maker hMs.chg
  obtain ⟨z0, z1, z2, z3, z4, z5, z6, z7⟩ := h5.res.eight
  obtain ⟨y0, y1, y2, y3, y4, y5, y6, y7⟩ := h5.res.thaw8
  have hRl := h5.res.lt
  go_wp2
  refine bodyPost_ret (results_re rfl _ _ w.heap.size rfl (h5.res.put8 _ _ _ _ _ _ _ _)) rfl ?_
  exact ⟨t, by rw [hval], (Made.copy hlt h3 hMs hset hkv).mono (by omega)⟩
end Go.Proofs.YtdacamjpcdbphaaGreatDoor
