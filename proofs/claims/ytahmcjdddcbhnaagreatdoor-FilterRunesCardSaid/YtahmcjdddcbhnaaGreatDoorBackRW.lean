/-
  The plain backtracker of the rule that waits, walked: Run.
-/
import Derived.Test.YtahmcjdddcbhnaaGreatDoorRunG3a
namespace Go.Proofs.YtahmcjdddcbhnaaGreatDoor
open Go Go.Ev Go.RowKit

set_option maxHeartbeats 8000000 in
set_option maxRecDepth 1000000 in
theorem run_walk {w : World} {Mb a : Nat} {tx : Value} {fu : Int} {S : List Nat} {ι0 : Emb} (hM : MachAt w Mb ι0) (hx : Sees w 1 tx (natI S)) (hcp : ∀ c ∈ S, Utf.Cp c) (hS : S.length ≤ 60000) (ha : a ≤ S.length) (hxl : ∀ b, Value.leads tx = some b → ¬ MaF Mb ι0 b) (hfu : 1000 ≤ fu ∧ fu ≤ 1099511627776) :
    Calls Tryz.prog 151 #[.pointer (some ⟨Mb, 0, none⟩), tx, .int .i64 (a : Int), .int .i64 fu] w fun e w' =>
      ((S[a]? = some 228 ∧ ∃ d3 c3, e = .returned (.tuple #[.agg #[.int .i64 (a : Int), .int .i64 ((a : Int) + 1), .slice (some d3) 0 c3], .bool true, .int .i64 4, .int .i64 0])) ∨ (S[a]? ≠ some 228 ∧ e = .returned (.tuple #[.agg #[.int .i64 0, .int .i64 0, .slice none 0 0], .bool false, .int .i64 3, .int .i64 0]))) ∧
      ∃ ι2, MachAt w' Mb ι2 ∧ (∀ b, foot ι2 treeM b → foot ι0 treeM b) ∧ Chg (MaF Mb ι0) w w' := by
  obtain ⟨⟨kv, tx0, st, sp, fu0, rd, hC, hT⟩, hMo, hMp⟩ := hM
  have hml := hC.lt
  obtain ⟨tA, tn, tc, rfl, tx1, tx2, tx3⟩ := id hx
  have hn : S.length = tn := by rw [natI_len] at tx1; omega
  obtain ⟨W0, hW0⟩ : ∃ x, w.alloc (.cells #[.int .i64 0, .int .i64 0, .slice none 0 0] 281) = x := ⟨_, rfl⟩
  have hB0 : Below w.heap.size w W0 := by rw [← hW0]; exact (Below.refl _ _).alloc (Nat.le_refl _) _
  have r0 : Blk W0 w.heap.size 281 #[.int .i64 0, .int .i64 0, .slice none 0 0] := by rw [← hW0]; exact Blk.made w _ _
  have hC0 := hC.bel hB0 hml
  obtain ⟨W1, hW1⟩ : ∃ x, W0.setCell ⟨Mb, 18, none⟩ (.bool false) = x := ⟨_, rfl⟩
  have hC1 : Cel W1 Mb (machC kv tx0 st sp fu0 false) := by rw [← hW1]; have := hC0.put 18 (.bool false); simpa [machC] using this
  obtain ⟨W2, hW2⟩ : ∃ x, W1.setCell ⟨Mb, 12, none⟩ (.slice none 0 0) = x := ⟨_, rfl⟩
  have hC2 : Cel W2 Mb (machC kv tx0 st sp fu0 false) := by rw [← hW2]; have := hC1.put 12 (.slice none 0 0); simpa [machC] using this
  have k2 : Chg (fun b => b = Mb) w W2 := by rw [← hW2, ← hW1]; exact Chg.setCell (F := fun b => b = Mb) (Chg.setCell (F := fun b => b = Mb) (Chg.of_below hB0) (p := ⟨Mb, 18, none⟩) (.inr rfl) _) (p := ⟨Mb, 12, none⟩) (.inr rfl) _
  have hx2 := hx.chg k2 fun b hb e => hxl b hb (.inl e)
  obtain ⟨V1, hV1⟩ : ∃ x, W2.setCell ⟨Mb, 10, none⟩ (.slice tA tn tc) = x := ⟨_, rfl⟩
  have hD1 : Cel V1 Mb (machC kv (.slice tA tn tc) st sp fu0 false) := by rw [← hV1]; have := hC2.put 10 (.slice tA tn tc); simpa [machC] using this
  obtain ⟨V2, hV2⟩ : ∃ x, V1.setCell ⟨Mb, 14, none⟩ (.int .i64 (a : Int)) = x := ⟨_, rfl⟩
  have hD2 : Cel V2 Mb (machC kv (.slice tA tn tc) (.int .i64 (a : Int)) sp fu0 false) := by rw [← hV2]; have := hD1.put 14 (.int .i64 (a : Int)); simpa [machC] using this
  obtain ⟨V3, hV3⟩ : ∃ x, V2.setCell ⟨Mb, 15, none⟩ (.int .i64 0) = x := ⟨_, rfl⟩
  have hD3 : Cel V3 Mb (machC kv (.slice tA tn tc) (.int .i64 (a : Int)) (.int .i64 0) fu0 false) := by rw [← hV3]; have := hD2.put 15 (.int .i64 0); simpa [machC] using this
  obtain ⟨V4, hV4⟩ : ∃ x, V3.setCell ⟨Mb, 16, none⟩ (.int .i64 fu) = x := ⟨_, rfl⟩
  have hD4 : Cel V4 Mb (machC kv (.slice tA tn tc) (.int .i64 (a : Int)) (.int .i64 0) (.int .i64 fu) false) := by rw [← hV4]; have := hD3.put 16 (.int .i64 fu); simpa [machC] using this
  obtain ⟨V5, hV5⟩ : ∃ x, V4.setCell ⟨Mb, 17, none⟩ (.bool false) = x := ⟨_, rfl⟩
  have hD5 : Cel V5 Mb (machC kv (.slice tA tn tc) (.int .i64 (a : Int)) (.int .i64 0) (.int .i64 fu) false) := by rw [← hV5]; have := hD4.put 17 (.bool false); simpa [machC] using this
  have k5 : Chg (fun b => b = Mb) w V5 := by rw [← hV5, ← hV4, ← hV3, ← hV2, ← hV1]; exact ((((k2.setCell (p := ⟨Mb, 10, none⟩) (.inr rfl) _).setCell (p := ⟨Mb, 14, none⟩) (.inr rfl) _).setCell (p := ⟨Mb, 15, none⟩) (.inr rfl) _).setCell (p := ⟨Mb, 16, none⟩) (.inr rfl) _).setCell (p := ⟨Mb, 17, none⟩) (.inr rfl) _
  have hck := check_walk (w := W2) (Mb := Mb) (a := (a : Int)) (fuel := fu) (by have := hC2.at' 9 (by simp [machC]); simpa [machC] using this) hx2 hcp hS ⟨by omega, by omega⟩ (by omega)
  have e18 := hC0.at' 18 (by simp [machC])
  have f18 := hC0.thaw 18 (by simp [machC])
  have e12 := hC1.at' 12 (by simp [machC])
  have f12 := hC1.thaw 12 (by simp [machC])
  have e10 := hC2.at' 10 (by simp [machC])
  have f10 := hC2.thaw 10 (by simp [machC])
  have e14 := hD1.at' 14 (by simp [machC])
  have f14 := hD1.thaw 14 (by simp [machC])
  have e15 := hD2.at' 15 (by simp [machC])
  have f15 := hD2.thaw 15 (by simp [machC])
  have e16 := hD3.at' 16 (by simp [machC])
  have f16 := hD3.thaw 16 (by simp [machC])
  have e17 := hD4.at' 17 (by simp [machC])
  have f17 := hD4.thaw 17 (by simp [machC])
  have e8 := hD5.at' 8 (by simp [machC])
  simp [machC] at e18 e12 e10 e14 e15 e16 e17 e8
  have hT5 := hT.chg k5 fun b hb e => hMo (by rw [← e]; exact hb)
  have hx5 := hx.chg k5 fun b hb e => hxl b hb (.inl e)
  have r5 : Blk V5 w.heap.size 281 #[.int .i64 0, .int .i64 0, .slice none 0 0] := by
    rw [← hV5, ← hV4, ← hV3, ← hV2, ← hV1, ← hW2, ← hW1]
    have hne : w.heap.size ≠ Mb := by omega
    exact ((((((r0.away (p := ⟨Mb, 18, none⟩) hne _).away (p := ⟨Mb, 12, none⟩) hne _).away (p := ⟨Mb, 10, none⟩) hne _).away (p := ⟨Mb, 14, none⟩) hne _).away (p := ⟨Mb, 15, none⟩) hne _).away (p := ⟨Mb, 16, none⟩) hne _).away (p := ⟨Mb, 17, none⟩) hne _
  obtain ⟨V6, hV6⟩ : ∃ x, V5.alloc (.cells #[] 65) = x := ⟨_, rfl⟩
  have hmk : (Instr.makeSlice 63 (.int .i64 0) (.int .i64 0)).run Tryz.prog V5 = .ok (.slice (some ⟨V5.heap.size, 0, none⟩) 0 0) V6 := by rw [← hV6]; kernel_rfl
  have hB6 : Below V5.heap.size V5 V6 := by rw [← hV6]; exact (Below.refl _ _).alloc (Nat.le_refl _) _
  have hmt := match_walk (w := V6) (rp := .pointer (some ⟨Mb, 0, none⟩)) (nx := .pointer none) ⟨_, rfl⟩ ⟨_, rfl⟩
  have hfw : ∀ b, foot ι0 treeM b → b < w.heap.size := fun b hb => hT.lies.lt hb
  have HH := Lib.hid (And.intro hD5 (And.intro hT5 (And.intro hx5 (And.intro r5 (And.intro k5 (And.intro hxl (And.intro hcp hB6)))))))
  clear hC hT hx hC0 hC1 hC2 hD1 hD2 hD3 hD4 hD5 hT5 hx5 r5 hx2 hB0 r0 k2 k5 hxl hcp tx3 tx1 hB6
  go_enter Tryz.func151, Tryz.ntmps151
  go_wp2_with (first | (go_at_call 173; refine hck.mono ?_; clear hck; rintro _ w1 ⟨rfl, rfl⟩) | fail)
  refine wp_loop_rounds 1 ?_
  rw [rounds_succ]
  go_wp2_with (first | (go_at_call 176; refine hmt.mono ?_; clear hmt; rintro _ w7 ⟨rfl, hg7, hb7⟩) | fail)
  obtain ⟨q1, q2, q3, q4, q5, q6, q7, q8⟩ := HH.out
  have b67 : Below V5.heap.size V5 w7 := q8.trans (hb7.mono q8.size)
  have c67 : Chg (fun _ => False) V5 w7 := Chg.of_below b67
  have hM7 := q1.bel b67 q1.lt
  have hT7 := q2.chg c67 fun _ _ h => h
  have hx7 := q3.bel b67
  have hg7' := Cel.of_blk hg7
  have z6 := q8.size
  have z7 := hb7.size
  have zm := q1.lt
  have hfl : ∀ b, foot ι0 treeM b → b < V5.heap.size := fun b hb => q2.lies.lt hb
  have hsr := search_walk (ca := ⟨V5.heap.size, 0, none⟩) hM7 hg7' hT7 hMo (fun h => by have := hfl _ h; omega) (by omega) hMp (by omega) hx7 q7 hS ha (fun b hb => ⟨fun e => q6 b hb (.inl e), fun e => by have := leads_sees q3 hb; omega, fun e => q6 b hb (.inr e)⟩) hfu
  have hno : ∀ b, foot ι0 treeM b ∨ b = Mb → b < V5.heap.size := fun b hb => hb.elim (hfl b) fun e => by rw [e]; exact zm
  have r7 : Blk w7 w.heap.size 281 #[.int .i64 0, .int .i64 0, .slice none 0 0] := q4.bel b67 q4.lt
  have HQ := Lib.hid (And.intro q4 (And.intro q5 (And.intro c67 (And.intro hfl (And.intro r7 hno)))))
  have ha6 : a ≤ 60000 := by omega
  have zq := q4.lt
  have hC8z := b67.size
  clear q1 q2 q3 q4 q5 q6 q7 q8 c67 hM7 hT7 hx7 hg7' hno r7 hg7
  go_wp2_with (first
    | (go_at_call 175; refine hsr.mono ?_; clear hsr; rintro _ w8 hq; rcases hq with ⟨h228, ⟨ca2, rfl⟩, kv8, tx8, fu8, ι8, hM8, hT8, hMo8, hf8, hC8⟩ | ⟨h228, rfl, kv8, tx8, fu8, ι8, hM8, hT8, hMo8, hf8, hC8⟩)
    | fail)
  · have hrp := rep_hit (ca := ca2) hM8 hT8 hMo8 ha6
    have r8 : Blk w8 w.heap.size 281 #[.int .i64 0, .int .i64 0, .slice none 0 0] := HQ.out.2.2.2.2.1.chg hC8 fun e => by
      rcases e with e | e | e
      · omega
      · omega
      · exact absurd (hfw _ e) (Nat.lt_irrefl _)
    have z8 := hC8.size
    go_wp2_with (first | (go_at_call 174; refine hrp.mono ?_; clear hrp; rintro _ w9 ⟨⟨d3, c3, rfl⟩, kv9, tx9, fu9, ι9, hM9, hT9, hMo9, hf9, hC9⟩) | fail)
    have r9 : Blk w9 w.heap.size 281 #[.int .i64 0, .int .i64 0, .slice none 0 0] := r8.chg hC9 fun e => by
      rcases e with e | e
      · omega
      · exact absurd (hfw _ (hf8 _ e)) (Nat.lt_irrefl _)
    obtain ⟨W10, hW10⟩ : ∃ x, w9.alloc (.cells #[.int .i64 (a : Int), .int .i64 ((a : Int) + 1), .slice (some d3) 0 c3, .bool true, .int .i64 4, .int .i64 0] 310) = x := ⟨_, rfl⟩
    rw [hW10]
    have B10 : Below w9.heap.size w9 W10 := by rw [← hW10]; exact (Below.refl _ _).alloc (Nat.le_refl _) _
    have t10 : Blk W10 w9.heap.size 310 #[.int .i64 (a : Int), .int .i64 ((a : Int) + 1), .slice (some d3) 0 c3, .bool true, .int .i64 4, .int .i64 0] := by rw [← hW10]; exact Blk.made w9 _ _
    have z9 := hC9.size
    have hl9 : ∀ b, foot ι9 treeM b → b < w9.heap.size := fun b hb => hT9.lies.lt hb
    have hm9 := hM9.lt
    have hkp := keep_hit (hM9.bel B10 hM9.lt) (hT9.chg (F := fun _ => False) (Chg.of_below B10) fun _ _ h => h) hMo9 ha6
    clear hM9 hT9 hM8 hT8
    go_wp2_with (first | (go_at_call 177; refine hkp.mono ?_; clear hkp; rintro _ w11 ⟨rfl, kv11, tx11, fu11, ι11, hM11, hT11, hMo11, hf11, hC11⟩) | fail)
    have t11 : Blk w11 w9.heap.size 310 #[.int .i64 (a : Int), .int .i64 ((a : Int) + 1), .slice (some d3) 0 c3, .bool true, .int .i64 4, .int .i64 0] := t10.chg hC11 fun e => by
      rcases e with e | e
      · omega
      · exact absurd (hl9 _ e) (Nat.lt_irrefl _)
    have r11 : Blk w11 w.heap.size 281 #[.int .i64 0, .int .i64 0, .slice none 0 0] := (r9.bel B10 r9.lt).chg hC11 fun e => by
      rcases e with e | e
      · omega
      · exact absurd (hfw _ (hf8 _ (hf9 _ e))) (Nat.lt_irrefl _)
    have x0 := t11.at' 0
    have x1 := t11.at' 1
    have x2 := t11.at' 2
    have x3 := t11.at' 3
    have x4 := t11.at' 4
    have x5 := t11.at' 5
    have y0 := r11.at' 0
    have y1 := r11.at' 1
    have y2 := r11.at' 2
    have g0 := r11.thaw 0
    have g1 := r11.thaw 1
    have g2 := r11.thaw 2
    simp at x0 x1 x2 x3 x4 x5 y0 y1 y2
    obtain ⟨W12, hW12⟩ : ∃ x, ((w11.setCell ⟨w.heap.size, 0, none⟩ (.int .i64 (a : Int))).setCell ⟨w.heap.size, 1, none⟩ (.int .i64 ((a : Int) + 1))).setCell ⟨w.heap.size, 2, none⟩ (.slice (some d3) 0 c3) = x := ⟨_, rfl⟩
    have r12 : Blk W12 w.heap.size 281 #[.int .i64 (a : Int), .int .i64 ((a : Int) + 1), .slice (some d3) 0 c3] := by
      rw [← hW12]
      have := ((r11.put 0 (.int .i64 (a : Int))).put 1 (.int .i64 ((a : Int) + 1))).put 2 (.slice (some d3) 0 c3)
      simpa using this
    have k12 : Chg (fun b => b = w.heap.size) w11 W12 := by rw [← hW12]; exact Chg.setCell (F := fun b => b = w.heap.size) (Chg.setCell (F := fun b => b = w.heap.size) (Chg.setCell (F := fun b => b = w.heap.size) (Chg.refl _ w11) (p := ⟨w.heap.size, 0, none⟩) (.inr rfl) _) (p := ⟨w.heap.size, 1, none⟩) (.inr rfl) _) (p := ⟨w.heap.size, 2, none⟩) (.inr rfl) _
    have t12 := t11.chg k12 (by omega)
    have u0 := t12.at' 0
    have u1 := t12.at' 1
    have u2 := t12.at' 2
    have u3 := t12.at' 3
    have u4 := t12.at' 4
    have u5 := t12.at' 5
    simp at u0 u1 u2 u3 u4 u5
    have hPost : ∃ ι2, MachAt W12 Mb ι2 ∧ (∀ b, foot ι2 treeM b → foot ι0 treeM b) ∧ Chg (MaF Mb ι0) w W12 := by
      obtain ⟨q4, q5, c67, hfl, r7, hno⟩ := HQ.out
      have hff : ∀ b, foot ι11 treeM b → foot ι0 treeM b := fun b hb => hf8 b (hf9 b (hf11 b hb))
      refine ⟨ι11, ⟨⟨kv11, tx11, _, _, fu11, _, hM11.chg k12 (by omega), hT11.chg k12 fun b hb e => by have := hfw b (hff b hb); omega⟩, hMo11, hMp⟩, hff, ?_⟩
      have j7 : Chg (MaF Mb ι0) w w7 := (q5.more fun _ _ e => .inl e).trans c67 fun _ _ h => h.elim
      have j8 : Chg (MaF Mb ι0) w w8 := j7.trans hC8 fun i hi e => by
        rcases e with e | e | e
        · exact .inl e
        · omega
        · exact .inr e
      have j9 : Chg (MaF Mb ι0) w w9 := j8.trans hC9 fun i hi e => e.elim .inl fun e => .inr (hf8 i e)
      have j11 : Chg (MaF Mb ι0) w w11 := (j9.trans (Chg.of_below (F := fun _ => False) B10) fun _ _ h => h.elim).trans hC11 fun i hi e => e.elim .inl fun e => .inr (hf8 i (hf9 i e))
      exact j11.trans k12 fun i hi e => by omega
    have hPost2 : ∃ ι2, MachAt W12.drew Mb ι2 ∧ (∀ b, foot ι2 treeM b → foot ι0 treeM b) ∧ Chg (MaF Mb ι0) w W12.drew := by
      obtain ⟨ι2, g1, g2, g3⟩ := hPost
      exact ⟨ι2, g1.chg (F := fun _ => False) (Chg.refl _ W12).drew fun _ _ h => h, g2, g3.drew⟩
    have HFin := Lib.hid (And.intro h228 (And.intro hPost hPost2))
    clear hPost hPost2 k12 hT11 hM11 hC11 hf11 t10 r9 r8 hC9 hC8 B10 hl9
    go_region_law (fail)
    all_goals go_wp2_with fail
    all_goals
      (try simp only [Exit.inBlock, Exit.then])
      refine bodyPost_ret (results_match (by rfl) _ _ w.heap.size (by rfl) (by first | exact r12 | (rw [hW12]; exact r12)) (by rfl) (by rfl) (by rfl)) rfl ?_
      exact ⟨.inl ⟨HFin.out.1, _, _, rfl⟩, by first | exact HFin.out.2.2 | exact HFin.out.2.1 | (rw [hW12]; exact HFin.out.2.2) | (rw [hW12]; exact HFin.out.2.1)⟩
  · have hrp := rep_miss hM8 hT8 hMo8 ha6
    have r8 : Blk w8 w.heap.size 281 #[.int .i64 0, .int .i64 0, .slice none 0 0] := HQ.out.2.2.2.2.1.chg hC8 fun e => by
      rcases e with e | e | e
      · omega
      · omega
      · exact absurd (hfw _ e) (Nat.lt_irrefl _)
    have z8 := hC8.size
    go_wp2_with (first | (go_at_call 174; refine hrp.mono ?_; clear hrp; rintro _ w9 ⟨rfl, kv9, tx9, fu9, ι9, hM9, hT9, hMo9, hf9, hC9⟩) | fail)
    have r9 : Blk w9 w.heap.size 281 #[.int .i64 0, .int .i64 0, .slice none 0 0] := r8.chg hC9 fun e => by
      rcases e with e | e
      · omega
      · exact absurd (hfw _ (hf8 _ e)) (Nat.lt_irrefl _)
    obtain ⟨W10, hW10⟩ : ∃ x, w9.alloc (.cells #[.int .i64 0, .int .i64 0, .slice none 0 0, .bool false, .int .i64 3, .int .i64 0] 310) = x := ⟨_, rfl⟩
    rw [hW10]
    have B10 : Below w9.heap.size w9 W10 := by rw [← hW10]; exact (Below.refl _ _).alloc (Nat.le_refl _) _
    have t10 : Blk W10 w9.heap.size 310 #[.int .i64 0, .int .i64 0, .slice none 0 0, .bool false, .int .i64 3, .int .i64 0] := by rw [← hW10]; exact Blk.made w9 _ _
    have z9 := hC9.size
    have hl9 : ∀ b, foot ι9 treeM b → b < w9.heap.size := fun b hb => hT9.lies.lt hb
    have hm9 := hM9.lt
    have hkp := keep_miss (hM9.bel B10 hM9.lt) (hT9.chg (F := fun _ => False) (Chg.of_below B10) fun _ _ h => h) hMo9 ha6
    clear hM9 hT9 hM8 hT8
    go_wp2_with (first | (go_at_call 177; refine hkp.mono ?_; clear hkp; rintro _ w11 ⟨rfl, kv11, tx11, fu11, ι11, hM11, hT11, hMo11, hf11, hC11⟩) | fail)
    have t11 : Blk w11 w9.heap.size 310 #[.int .i64 0, .int .i64 0, .slice none 0 0, .bool false, .int .i64 3, .int .i64 0] := t10.chg hC11 fun e => by
      rcases e with e | e
      · omega
      · exact absurd (hl9 _ e) (Nat.lt_irrefl _)
    have r11 : Blk w11 w.heap.size 281 #[.int .i64 0, .int .i64 0, .slice none 0 0] := (r9.bel B10 r9.lt).chg hC11 fun e => by
      rcases e with e | e
      · omega
      · exact absurd (hfw _ (hf8 _ (hf9 _ e))) (Nat.lt_irrefl _)
    have x0 := t11.at' 0
    have x1 := t11.at' 1
    have x2 := t11.at' 2
    have x3 := t11.at' 3
    have x4 := t11.at' 4
    have x5 := t11.at' 5
    have y0 := r11.at' 0
    have y1 := r11.at' 1
    have y2 := r11.at' 2
    have g0 := r11.thaw 0
    have g1 := r11.thaw 1
    have g2 := r11.thaw 2
    simp at x0 x1 x2 x3 x4 x5 y0 y1 y2
    obtain ⟨W12, hW12⟩ : ∃ x, ((w11.setCell ⟨w.heap.size, 0, none⟩ (.int .i64 0)).setCell ⟨w.heap.size, 1, none⟩ (.int .i64 0)).setCell ⟨w.heap.size, 2, none⟩ (.slice none 0 0) = x := ⟨_, rfl⟩
    have r12 : Blk W12 w.heap.size 281 #[.int .i64 0, .int .i64 0, .slice none 0 0] := by
      rw [← hW12]
      have := ((r11.put 0 (.int .i64 0)).put 1 (.int .i64 0)).put 2 (.slice none 0 0)
      simpa using this
    have k12 : Chg (fun b => b = w.heap.size) w11 W12 := by rw [← hW12]; exact Chg.setCell (F := fun b => b = w.heap.size) (Chg.setCell (F := fun b => b = w.heap.size) (Chg.setCell (F := fun b => b = w.heap.size) (Chg.refl _ w11) (p := ⟨w.heap.size, 0, none⟩) (.inr rfl) _) (p := ⟨w.heap.size, 1, none⟩) (.inr rfl) _) (p := ⟨w.heap.size, 2, none⟩) (.inr rfl) _
    have t12 := t11.chg k12 (by omega)
    have u0 := t12.at' 0
    have u1 := t12.at' 1
    have u2 := t12.at' 2
    have u3 := t12.at' 3
    have u4 := t12.at' 4
    have u5 := t12.at' 5
    simp at u0 u1 u2 u3 u4 u5
    have hPost : ∃ ι2, MachAt W12 Mb ι2 ∧ (∀ b, foot ι2 treeM b → foot ι0 treeM b) ∧ Chg (MaF Mb ι0) w W12 := by
      obtain ⟨q4, q5, c67, hfl, r7, hno⟩ := HQ.out
      have hff : ∀ b, foot ι11 treeM b → foot ι0 treeM b := fun b hb => hf8 b (hf9 b (hf11 b hb))
      refine ⟨ι11, ⟨⟨kv11, tx11, _, _, fu11, _, hM11.chg k12 (by omega), hT11.chg k12 fun b hb e => by have := hfw b (hff b hb); omega⟩, hMo11, hMp⟩, hff, ?_⟩
      have j7 : Chg (MaF Mb ι0) w w7 := (q5.more fun _ _ e => .inl e).trans c67 fun _ _ h => h.elim
      have j8 : Chg (MaF Mb ι0) w w8 := j7.trans hC8 fun i hi e => by
        rcases e with e | e | e
        · exact .inl e
        · omega
        · exact .inr e
      have j9 : Chg (MaF Mb ι0) w w9 := j8.trans hC9 fun i hi e => e.elim .inl fun e => .inr (hf8 i e)
      have j11 : Chg (MaF Mb ι0) w w11 := (j9.trans (Chg.of_below (F := fun _ => False) B10) fun _ _ h => h.elim).trans hC11 fun i hi e => e.elim .inl fun e => .inr (hf8 i (hf9 i e))
      exact j11.trans k12 fun i hi e => by omega
    have hPost2 : ∃ ι2, MachAt W12.drew Mb ι2 ∧ (∀ b, foot ι2 treeM b → foot ι0 treeM b) ∧ Chg (MaF Mb ι0) w W12.drew := by
      obtain ⟨ι2, g1, g2, g3⟩ := hPost
      exact ⟨ι2, g1.chg (F := fun _ => False) (Chg.refl _ W12).drew fun _ _ h => h, g2, g3.drew⟩
    have HFin := Lib.hid (And.intro h228 (And.intro hPost hPost2))
    clear hPost hPost2 k12 hT11 hM11 hC11 hf11 t10 r9 r8 hC9 hC8 B10 hl9
    go_region_law (fail)
    all_goals go_wp2_with fail
    all_goals
      (try simp only [Exit.inBlock, Exit.then])
      refine bodyPost_ret (results_match (by rfl) _ _ w.heap.size (by rfl) (by first | exact r12 | (rw [hW12]; exact r12)) (by rfl) (by rfl) (by rfl)) rfl ?_
      exact ⟨.inr ⟨HFin.out.1, rfl⟩, by first | exact HFin.out.2.2 | exact HFin.out.2.1 | (rw [hW12]; exact HFin.out.2.2) | (rw [hW12]; exact HFin.out.2.1)⟩
end Go.Proofs.YtahmcjdddcbhnaaGreatDoor
