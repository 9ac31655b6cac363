/-
  The generator of trees, walked: tree.
-/
import Derived.Test.YtdacamjpcdbphaaGreatDoorGenRW
import Derived.Deep.QuietTactic
namespace Go.Proofs.YtdacamjpcdbphaaGreatDoor
open Go Go.RowKit

/-- a node over new trees in a row -/
theorem Made.many {w w3 w4 : World} {mb N : Nat} {v : Value} {ts : List VT} {op : Int} (hlt : mb < w.heap.size) (h2 : Mid3 w w3 mb) (hT : Trees w3 w4 mb N v ts) (hs : Shape op 0 0 0 0 false [] ts.length) (hl : ts.length ≤ 3) :
    Made w mb (3 * N + 1) (.mk op (.slice none 0 0) v 0 0 0 0 false [] ts)
      ((((((((w4.setCell ⟨w.heap.size, 0, none⟩ (.int .i64 op)).setCell ⟨w.heap.size, 1, none⟩ (.slice none 0 0)).setCell ⟨w.heap.size, 2, none⟩ v).setCell ⟨w.heap.size, 3, none⟩ (.int .i64 0)).setCell ⟨w.heap.size, 4, none⟩ (.int .i64 0)).setCell ⟨w.heap.size, 5, none⟩ (.int .i64 0)).setCell ⟨w.heap.size, 6, none⟩ (.int .i64 0)).setCell ⟨w.heap.size, 7, none⟩ (.bool false)) := by
  have h5 := h2.step hlt hT.maker hT.chg
  have s3 := h2.size
  have hch := (Chg.refl (fun b => b = w.heap.size) w4).put8 (R := w.heap.size) (.inr rfl) (.int .i64 op) (.slice none 0 0) v (.int .i64 0) (.int .i64 0) (.int .i64 0) (.int .i64 0) (.bool false)
  have hlo := fun g hg => (World.ownsRow.lt hT.row g hg).1
  have hrow := row_chg hT.row hch fun g hg e => by have e' : g = w.heap.size := e; have := hlo g hg; omega
  refine ⟨.mk _ hs (Sees.nil _ 2) (Sees.row hrow) (fun b hb => by cases hb) (fun b hb => ?_) (fun k hk => ?_), ?_, h5.maker.chg hch (fun b hb e => by have e' : b = w.heap.size := e; omega), h5.chg.trans hch fun b hb e => by have e' : b = w.heap.size := e; omega⟩
  · have : v.ownBlock = some b := by
      obtain ⟨A, c, rfl, _⟩ := row_form hT.row
      cases hq : ts.length with
      | zero => rw [show VT.kidv _ = .slice A ts.length c from rfl, hq] at hb; cases A <;> cases hb
      | succ n =>
        rw [show VT.kidv _ = .slice A ts.length c from rfl, hq] at hb
        cases A with
        | none => cases hb
        | some a => cases hb; rfl
    have := hlo b this
    omega
  · obtain ⟨u1, u2⟩ := hT.each k hk
    exact (u1.chg hch fun b hb e => by have e' : b = w.heap.size := e; have := hb.1; omega).low fun b hb => by have := hb.1; omega
  · rw [VT.num_eq]
    show 1 + VT.sum ts ≤ _
    have : ∀ l : List VT, (∀ t ∈ l, t.num ≤ N) → VT.sum l ≤ l.length * N := by
      intro l
      induction l with
      | nil => intro _; simp [VT.sum]
      | cons a l ih =>
        intro h
        have h1 := h a (List.mem_cons_self ..)
        have h2 := ih fun t ht => h t (List.mem_cons_of_mem _ ht)
        have e : VT.sum (a :: l) = a.num + VT.sum l := by simp [VT.sum]
        rw [e, List.length_cons, Nat.succ_mul]
        omega
    have h1 := this ts fun t ht => (hT.each t ht).2
    have h2 : ts.length * N ≤ 3 * N := Nat.mul_le_mul_right _ hl
    omega
/-- the maker's other numbers -/
theorem MkAt.nums {w : World} {mb : Nat} (h : MkAt w mb) : ∃ (A : Option Addr) (c : Nat) (l : List Int) (a1 a2 a3 : Int) (caps : Nat), Blk w mb 90 #[.slice A l.length c, .int .i64 a1, .int .i64 a2, .int .i64 a3, .int .i64 (caps : Int)] ∧ caps ≤ 4 ∧
    ∀ z : Int, MkAt (w.setCell ⟨mb, 3, none⟩ (.int .i64 z)) mb := by
  obtain ⟨A, c, l, a1, a2, a3, caps, hb, hs, hl, h4⟩ := h
  exact ⟨A, c, l, a1, a2, a3, caps, hb, h4, fun z => MkAt.put (i := 3) (u := .int .i64 z) hb hs hl a1 a2 z caps h4 (by rfl)⟩
theorem Made.leaf {w w1 : World} {mb : Nat} {op n : Int} {b : Bool} (hlt : mb < w.heap.size) (h : Mid3 w w1 mb) (hs : Shape op 0 0 0 n b [] 0) :
    Made w mb 1 (treeOf op n b) ((((((((w1.setCell ⟨w.heap.size, 0, none⟩ (.int .i64 op)).setCell ⟨w.heap.size, 1, none⟩ (.slice none 0 0)).setCell ⟨w.heap.size, 2, none⟩ (.slice none 0 0)).setCell ⟨w.heap.size, 3, none⟩ (.int .i64 0)).setCell ⟨w.heap.size, 4, none⟩ (.int .i64 0)).setCell ⟨w.heap.size, 5, none⟩ (.int .i64 0)).setCell ⟨w.heap.size, 6, none⟩ (.int .i64 n)).setCell ⟨w.heap.size, 7, none⟩ (.bool b)) := by
  have hch := (Chg.refl (fun b => b = w.heap.size) w1).put8 (R := w.heap.size) (.inr rfl) (.int .i64 op) (.slice none 0 0) (.slice none 0 0) (.int .i64 0) (.int .i64 0) (.int .i64 0) (.int .i64 n) (.bool b)
  exact ⟨treeAt_leaf _ _ _ _ _ hs, by rw [num_leaf]; exact Nat.le_refl _, h.maker.chg hch (fun b hb e => by have e' : b = w.heap.size := e; omega), h.chg.trans hch fun b hb e => by have e' : b = w.heap.size := e; omega⟩
/-- a tree of another function, copied into the result's block -/
theorem Made.copy {w w1 w2 : World} {mb N : Nat} {t : VT} (hlt : mb < w.heap.size) (h : Mid3 w w1 mb) (hM : Made w1 mb N t w2) {s1 s2 : Value} (e1 : t.set = s1) (e2 : t.kidv = s2) :
    Made w mb N t ((((((((w2.setCell ⟨w.heap.size, 0, none⟩ (.int .i64 t.op)).setCell ⟨w.heap.size, 1, none⟩ s1).setCell ⟨w.heap.size, 2, none⟩ s2).setCell ⟨w.heap.size, 3, none⟩ (.int .i64 t.mn)).setCell ⟨w.heap.size, 4, none⟩ (.int .i64 t.mx)).setCell ⟨w.heap.size, 5, none⟩ (.int .i64 t.mo)).setCell ⟨w.heap.size, 6, none⟩ (.int .i64 t.n)).setCell ⟨w.heap.size, 7, none⟩ (.bool t.neg)) := by
  have h2 := h.step hlt hM.maker hM.chg
  have s1' := h.size
  have hch := (Chg.refl (fun b => b = w.heap.size) w2).put8 (R := w.heap.size) (.inr rfl) (.int .i64 t.op) s1 s2 (.int .i64 t.mn) (.int .i64 t.mx) (.int .i64 t.mo) (.int .i64 t.n) (.bool t.neg)
  exact ⟨(hM.tree.chg hch fun b hb e => by have e' : b = w.heap.size := e; omega).low fun b hb => by omega, hM.num, h2.maker.chg hch (fun b hb e => by have e' : b = w.heap.size := e; omega), h2.chg.trans hch fun b hb e => by have e' : b = w.heap.size := e; omega⟩
set_option maxHeartbeats 16000000 in
set_option maxRecDepth 1000000 in
theorem tree_zero : TreeSpec 0 := by
  intro w mb h
  have hlt := h.lt
  have h0 := Mid3.start h
  obtain ⟨W0, hW0⟩ : ∃ x, w.alloc (.cells #[.int .i64 0, .slice none 0 0, .slice none 0 0, .int .i64 0, .int .i64 0, .int .i64 0, .int .i64 0, .bool false] 51) = x := ⟨_, rfl⟩
  rw [hW0] at h0
  obtain ⟨A, c, l, a1, a2, a3, caps, hb, h4, hput⟩ := h0.maker.nums
  have c3 := hb.at' 3
  have f3 := hb.thaw 3
  have hltb := hb.lt
  simp at c3
  have h1 := h0.step hlt (hput (wrap64 (a3 - 1))) (Chg.only_put _ mb 3 _)
  have hn := next_walk h1.maker 20 (by omega) (by omega)
  show Calls Tryz.prog 38 #[.pointer (some ⟨mb, 0, none⟩), .int .i64 0] w _
  go_enter Tryz.func38, Tryz.ntmps38
  go_wp2_with fail
  refine (show Calls Tryz.prog 53 #[.pointer (some ⟨mb, 0, none⟩), .int .i64 20] _ _ from hn).mono ?_
  clear hn
  rintro _ w1 ⟨k, hk, rfl, hM1, hC1⟩
  have h2 := h1.step hlt hM1 hC1
  clear h1 hC1 c3 f3 hput hb
  go_wp2_with fail
  refine wp_region_quiet_lit (by kernel_rfl) (by kernel_rfl) ?_
  repeat (with_reducible refine wpQuiet_step (fun K hK => ?_); go_simp; with_reducible refine hK _ ?_; clear hK K)
  with_reducible refine wpQuiet_nil ?_
  rintro _ ⟨nq, rfl⟩
  have h3 : Mid3 w (w1.drewN nq) mb := h2.step hlt (hM1.bel ((Below.refl _ w1).drewN nq)) (Chg.of_below ((Below.refl _ w1).drewN nq))
  obtain ⟨w3, hw3⟩ : ∃ x, w1.drewN nq = x := ⟨_, rfl⟩
  rw [hw3] at h3
  obtain ⟨z0, z1, z2, z3, z4, z5, z6, z7⟩ := h3.res.eight
  obtain ⟨y0, y1, y2, y3, y4, y5, y6, y7⟩ := h3.res.thaw8
  have hRl := h3.res.lt
  by_cases hk0 : k = 0
  · have hkd : ((k : Int) == 0) = true := by simpa using hk0
    go_wp2
    refine bodyPost_ret (results_re rfl _ _ w.heap.size rfl (h3.res.put8 _ _ _ _ _ _ _ _)) rfl ?_
    exact ⟨_, rfl, Made.leaf hlt h3 Shape.empty⟩
  · have hkd : ((k : Int) == 0) = false := by simpa using hk0
    have hst := set_walk h3.maker
    go_wp2_with fail
    refine (hst).mono ?_
    rintro _ w4 ⟨t, rfl, hMs⟩
    obtain ⟨As, cs, hset, -⟩ := hMs.tree.set.shape
    obtain ⟨Ak, ck, hkv, -⟩ := hMs.tree.kids.shape
    have hval : t.val = .agg #[.int .i64 t.op, .slice As t.spans.length cs, .slice Ak t.kids.length ck, .int .i64 t.mn, .int .i64 t.mx, .int .i64 t.mo, .int .i64 t.n, .bool t.neg] := by unfold VT.val; rw [hset, hkv]
    rw [hval]
    have h5 := h3.step hlt hMs.maker hMs.chg
    obtain ⟨z0, z1, z2, z3, z4, z5, z6, z7⟩ := h5.res.eight
    obtain ⟨y0, y1, y2, y3, y4, y5, y6, y7⟩ := h5.res.thaw8
    have hRl := h5.res.lt
    go_wp2
    refine bodyPost_ret (results_re rfl _ _ w.heap.size rfl (h5.res.put8 _ _ _ _ _ _ _ _)) rfl ?_
    exact ⟨t, by rw [hval], Made.copy hlt h3 hMs hset hkv⟩
end Go.Proofs.YtdacamjpcdbphaaGreatDoor
