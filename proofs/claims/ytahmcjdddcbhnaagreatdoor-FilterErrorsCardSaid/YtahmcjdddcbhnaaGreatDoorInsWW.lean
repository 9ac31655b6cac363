/-
  The filter, walked: Install.
-/
import Derived.Test.YtahmcjdddcbhnaaGreatDoorSetWW
import Derived.Test.YtahmcjdddcbhnaaGreatDoorErrG1a
import Derived.Test.YtahmcjdddcbhnaaGreatDoorErrG0b
namespace Go.Proofs.YtahmcjdddcbhnaaGreatDoor
open Go Go.Ev Go.RowKit Go.Imap

section
variable {w : World} {g vm sb rb : Nat} {sh pe tk cu : Int} {m2 : Value} {f : Nat → Option Value}
set_option maxHeartbeats 4000000 in
set_option maxRecDepth 1000000 in
theorem qinst_neg {n : Int} (hn : n < 0) {s : Value} :
    Calls Tryz.prog 17 #[.pointer (some ⟨g, 0, none⟩), .int .i64 n, s] w fun e w' => e = .returned (.int .i64 1) ∧ w' = w := by
  go_enter Tryz.func17, Tryz.ntmps17
  go_wp2_with fail
  go_ret
  exact ⟨rfl, rfl⟩
set_option maxHeartbeats 4000000 in
set_option maxRecDepth 1000000 in
theorem qinst_nil {n : Int} :
    Calls Tryz.prog 17 #[.pointer (some ⟨g, 0, none⟩), .int .i64 n, .pointer none] w fun e w' => e = .returned (.int .i64 1) ∧ w' = w := by
  by_cases h1 : n < 0
  · exact qinst_neg h1
  by_cases h2 : 1024 < n
  · go_enter Tryz.func17, Tryz.ntmps17
    go_wp2_with fail
    go_ret
    exact ⟨rfl, rfl⟩
  · go_enter Tryz.func17, Tryz.ntmps17
    go_wp2_with fail
    go_ret
    exact ⟨rfl, rfl⟩
set_option maxHeartbeats 4000000 in
set_option maxRecDepth 1000000 in
theorem qinst_twice (h : Blk w g 80 #[.int .i64 sh, .int .i64 pe, .int .i64 tk, .int .i64 cu, .map (some vm), m2]) (hm : IMap w vm f) {n : Int} (hn : 0 ≤ n ∧ n < 64) {b : Nat} (hf : atI f n = some (.pointer (some ⟨b, 0, none⟩))) {s o : Nat} :
    Calls Tryz.prog 17 #[.pointer (some ⟨g, 0, none⟩), .int .i64 n, .pointer (some ⟨s, o, none⟩)] w fun e w' => e = .returned (.int .i64 8) ∧ w' = w := by
  have c4 := h.at' 4
  simp at c4
  have hlk := hm.lookup2 Tryz.underlying77 Tryz.underlying3 (zeroVer w) (x := n) (by omega)
  rw [hf] at hlk
  simp only [Option.getD_some, Option.isSome_some] at hlk
  have hn1 : ¬ (1024 : Int) < n := by omega
  have hn0 : ¬ n < 0 := by omega
  clear h hm hf hn
  go_enter Tryz.func17, Tryz.ntmps17
  go_wp2_with fail
  go_ret
  exact ⟨rfl, rfl⟩
theorem infoFrule : (Tryz.prog.info? 104).map (fun i => (i.zero, i.size, i.bytes)) = some (some (.agg #[.int .i64 0, .slice none 0 0, .slice none 0 0, .int .i64 0, .int .i64 0, .int .i64 0, .int .i64 0, .bool false, .int .i64 0, .bool false, .slice none 0 0, .int .i64 0, .bool false, .bool false]), 14, 160) := by kernel_rfl
theorem rule_one (a2 : Option Addr) (c2 ib pc : Nat) : ∀ u ∈ (#[.int .i64 2, .slice none 0 0, .slice a2 2 c2, .int .i64 0, .int .i64 0, .int .i64 0, .int .i64 0, .bool false, .int .i64 0, .bool false, .slice (some ⟨ib, 0, none⟩) 3 pc, .int .i64 0, .bool false, .bool true] : Array Value).toList, u.oneCell' = true := by
  intro u hu
  simp at hu
  rcases hu with rfl | rfl | rfl | rfl | rfl | rfl | rfl | rfl | rfl | rfl | rfl <;> rfl
/-- what an install that is taken leaves -/
structure Inst (w : World) (g vm : Nat) (sh pe tk cu : Int) (m2 : Value) (f : Nat → Option Value) (n : Nat) (w' : World) : Prop where
  ex : ∃ vb mb ub rb rc lo hi, Blk w' g 80 #[.int .i64 sh, .int .i64 pe, .int .i64 tk, .int .i64 cu, .map (some vm), m2] ∧ IMap w' vm (fun u => if u = n then some (.pointer (some ⟨vb, 0, none⟩)) else f u) ∧
    Blk w' vb 92 #[.pointer (some ⟨mb, 0, none⟩), .slice (some ⟨rb, 0, none⟩) 1 rc] ∧ MtAt w' mb ub sh pe 0 0 ∧ RuleAt w' rb rc lo hi ∧ w.heap.size ≤ vb ∧ vb < lo ∧ lo ≤ hi ∧ hi ≤ rb ∧ rb < mb ∧ rb < ub
  chg : Chg (fun b => b = vm) w w'
set_option maxHeartbeats 16000000 in
set_option maxRecDepth 1000000 in
theorem qinst_ok (h : Blk w g 80 #[.int .i64 sh, .int .i64 pe, .int .i64 tk, .int .i64 cu, .map (some vm), m2]) (hm : IMap w vm f) (hS : SetZ w sb rb) {n : Nat} (hn : n < 4) (hf : f n = none) (hfew : ∀ s, f s ≠ none → s < 4) (hsh : 0 ≤ sh ∧ sh ≤ 1099511627776) (hpe : 1 ≤ pe ∧ pe ≤ 1099511627776) :
    Calls Tryz.prog 17 #[.pointer (some ⟨g, 0, none⟩), .int .i64 (n : Int), .pointer (some ⟨sb, 0, none⟩)] w fun e w' => e = .returned (.int .i64 0) ∧ Inst w g vm sh pe tk cu m2 f n w' := by
  obtain ⟨i0, hi0, hz0, hz1, hz2⟩ := info_parts' infoFrule
  have c0 := h.at' 0
  have c1 := h.at' 1
  have c4 := h.at' 4
  simp at c0 c1 c4
  have hgl := h.lt
  have hvl := hm.lt
  have hlk := hm.lookup2 Tryz.underlying77 Tryz.underlying3 (zeroVer w) (x := (n : Int)) (by omega)
  have hat : atI f (n : Int) = none := by unfold atI; rw [if_neg (by omega), Int.toNat_natCast]; exact hf
  rw [hat] at hlk
  simp only [Option.getD_none, Option.isSome_none] at hlk
  obtain ⟨len, hlen, hrl⟩ := hm.len hfew (by omega) Tryz.underlying77
  have hl64 : ¬ (64 : Int) ≤ (len : Int) := by omega
  have hn1 : ¬ (1024 : Int) < (n : Int) := by omega
  have hn0 : ¬ (n : Int) < 0 := by omega
  obtain ⟨W0, hW0⟩ : ∃ x, w.alloc (.cells #[.pointer none, .slice none 0 0] 92) = x := ⟨_, rfl⟩
  have hB0 : Below w.heap.size w W0 := by rw [← hW0]; exact (Below.refl _ _).alloc (Nat.le_refl _) _
  have hz : W0.heap.size = w.heap.size + 1 := by rw [← hW0]; simp
  have vb0 : Blk W0 w.heap.size 92 #[.pointer none, .slice none 0 0] := by rw [← hW0]; exact Blk.made w _ _
  have hru := rules_walk (hS.bel hB0)
  have HN : ∀ W, ∃ o, W.heap[vm]? = w.heap[vm]? → (Instr.mapUpdate 77 (.map (some vm)) (.int .i64 (n : Int)) (.pointer (some ⟨w.heap.size, 0, none⟩))).run Tryz.prog W = .ok () (ChangeMaps.setBlock W vm o) ∧ IMap (ChangeMaps.setBlock W vm o) vm fun u => if u = n then some (.pointer (some ⟨w.heap.size, 0, none⟩)) else f u := fun W => by
    by_cases hW : W.heap[vm]? = w.heap[vm]?
    · obtain ⟨o, h1, h2⟩ := (hm.same hW).update Tryz.underlying77 Tryz.underlying3 (s := n) (by omega) (.pointer (some ⟨w.heap.size, 0, none⟩))
      exact ⟨o, fun _ => ⟨h1, h2⟩⟩
    · exact ⟨.map #[] 0, fun h => absurd h hW⟩
  have HNH := Lib.hid HN
  have hnr := fun W => newRule_walk W
  unfold ruleX at hnr
  have HB0 := Lib.hid hB0
  have HZ := Lib.hid hz
  have HV := Lib.hid vb0
  have HG := Lib.hid h
  have HM := Lib.hid hm
  obtain ⟨N, hN⟩ : ∃ x, (n : Int) = x := ⟨_, rfl⟩
  rw [hN] at hlk hn1 hn0 ⊢
  have HNN := Lib.hid hN
  clear h hm hS hn hf hfew hat hlen hB0 hz vb0 HN hN
  go_enter Tryz.func17, Tryz.ntmps17
  go_wp2_with (first
    | (go_at_call 33; refine hru.mono ?_; clear hru; rintro _ w1 ⟨v1, rfl, hrow1, hB1⟩; obtain ⟨A1, k1, rfl, hk1⟩ := row_form hrow1)
    | fail)
  have hB1w := HB0.out.trans (hB1.mono HB0.out.size)
  obtain ⟨A', n', k', e1, e2, e3, e4⟩ := Sees.row hrow1
  cases e1
  obtain ⟨rb1, off, e5, hlt1, hcc⟩ := e4 (by omega)
  subst e5
  have r0 := hcc 0 _ rfl
  have r1 := hcc 1 _ rfl
  have r2 := hcc 2 _ rfl
  rw [Nat.add_zero] at r0
  have hv1 := HV.out.bel hB1 HV.out.lt
  have x1 := hv1.at' 1
  simp at x1
  obtain ⟨W3, hW3⟩ : ∃ x, w1.alloc (.cells #[.string ⟨#[97]⟩, .string ⟨#[122, 122]⟩, .bool false] 82) = x := ⟨_, rfl⟩
  have qa : Blk W3 w1.heap.size 82 #[.string ⟨#[97]⟩, .string ⟨#[122, 122]⟩, .bool false] := by rw [← hW3]; exact Blk.made w1 _ _
  have y2 := qa.at' 2
  have z2 := qa.thaw 2
  simp at y2
  obtain ⟨W2, hW2⟩ : ∃ x, W3.setCell ⟨w1.heap.size, 2, none⟩ (.bool false) = x := ⟨_, rfl⟩
  have hB2 : Below w1.heap.size w1 W2 := by rw [← hW2, ← hW3]; exact ((Below.refl _ _).alloc (Nat.le_refl _) _).setCell (Nat.le_refl _) _
  have hv2 := hv1.bel hB2 hv1.lt
  have qb : Blk W2 w1.heap.size 82 #[.string ⟨#[97]⟩, .string ⟨#[122, 122]⟩, .bool false] := by
    rw [← hW2]
    have := qa.put 2 (.bool false)
    simpa using this
  have q0 := qb.at' 0
  have q1 := qb.at' 1
  have q2 := qb.at' 2
  have x2 := hv2.at' 1
  simp at q0 q1 q2 x2
  have hvl2 : w.heap.size < W2.heap.size := hv2.lt
  have HQ := Lib.hid (And.intro hB1w (And.intro hB2 (And.intro hv2 hlt1)))
  clear hrow1 e2 e3 e4 hcc hv1 hv2 qa qb hW0 hB1 hB1w hB2 hlt1
  refine wp_loop_rounds 2 ?_
  rw [rounds_succ]
  go_wp2_with fail
  have hone := rule_one
  have hmt := fun W => mtnew_walk (w := W) hsh hpe
  have HMT := Lib.hid hmt
  clear hmt hsh hpe
  go_region_law (first
    | (go_simp; go_at_call 34; refine (hnr _).mono ?_; rintro _ w3 ⟨a2, c2, ib, pc, rfl, hP3, hB3⟩; have hv3 : Blk w3 w.heap.size 92 #[.pointer none, .slice none 0 0] := (hB3.block w.heap.size hvl2).trans (show W2.heap[w.heap.size]? = _ from HQ.out.2.2.1); have x3 := hv3.at' 1; simp at x3; have x3a : ∀ o, (w3.alloc o).cell? ⟨w.heap.size, 1, none⟩ = some (.slice none 0 0) := fun o => by { have := (hv3.alloc o).at' 1; simpa using this })
    | (refine step_append_lies _ (by rfl) _ _ _ (by rfl) W2.heap.size 104 i0 _ 14 160 Tryz.underlying90 hi0 hz0 hz1 hz2 rfl (by omega) (.slice none 0 0) 0 [] (by rfl) (World.ownsRow_nil _ _ _ _) ⟨w3.heap.size, 0, none⟩ 1 1 _ (by rfl) (by rfl) (World.news_of_block (heap_alloc_new w3 _)) (hone _ _ _ _) (by omega) (by unfold maxLen; omega) (by omega) (by have := hB3.size; simp at this ⊢; omega) (w3.heap.size + 1) (by simp) ?_; intro gg cap w4 hown4 hgrow4 hat4 hlt4
       have hC4 : Chg (fun _ => False) w3 w4 := by first | exact ((Chg.refl _ w3).alloc _).grown hgrow4 fun k hk => by cases hk
       have hv4 := hv3.chg hC4 (fun h => h)
       have x4 := hv4.at' 1
       have f4 := hv4.thaw 1
       simp at x4))
  all_goals
    obtain ⟨W5, hW5⟩ : ∃ x, w4.setCell ⟨w.heap.size, 1, none⟩ (.slice (some ⟨gg, 0, none⟩) 1 cap) = x := ⟨_, rfl⟩
    have hv5 : Blk W5 w.heap.size 92 #[.pointer none, .slice (some ⟨gg, 0, none⟩) 1 cap] := by
      rw [← hW5]
      have := hv4.put 1 (.slice (some ⟨gg, 0, none⟩) 1 cap)
      simpa using this
    obtain ⟨b1, b2, b3, b4⟩ := HQ.out
    have hb2w : Below w.heap.size w W2 := b1.trans (b2.mono b1.size)
    have hb3w : Below w.heap.size w w3 := by have := hb2w.size; first | exact hb2w.drew.trans (hB3.mono this) | exact hb2w.trans (hB3.mono this)
    have hb5 : Below w.heap.size w W5 := by
      rw [← hW5]
      exact ((Chg.of_below (F := fun _ => False) hb3w).trans hC4 (fun _ _ h => h)).to_below (Nat.le_refl _) (fun _ _ h => h.elim) |>.setCell (Nat.le_refl _) _
    have hg5 := HG.out.bel hb5 hgl
    have k0 := hg5.at' 0
    have k1' := hg5.at' 1
    have k4 := hg5.at' 4
    have y1 := hv5.at' 1
    simp at k0 k1' k4 y1
    rw [hW5]
    have hW5' := hW5
    clear hW5 x4 f4 hv3 x3 x3a hnr hone hrl hlk q0 q1 q2 z2 y2 r0 r1 r2 c0 c1 c4 x1 x2
    go_wp2_with fail
    rw [rounds_succ]
    go_wp2_with fail
    have hmt := HMT.out W5.drew
    have hS : ∀ w1, Below W5.drew.heap.size W5.drew w1 → ((w1.cell? ⟨g, 0, none⟩ = some (.int .i64 sh) ∧ w1.cell? ⟨g, 1, none⟩ = some (.int .i64 pe)) ∧ w1.cell? ⟨w.heap.size, 1, none⟩ = some (.slice (some ⟨gg, 0, none⟩) 1 cap)) := fun w1 hC => ⟨⟨(hC.cell (p := ⟨g, 0, none⟩) hg5.lt).trans k0, (hC.cell (p := ⟨g, 1, none⟩) hg5.lt).trans k1'⟩, (hC.cell (p := ⟨w.heap.size, 1, none⟩) hv5.lt).trans y1⟩
    have HS := Lib.hid hS
    have hS0 := hS _ (Below.refl _ _)
    clear hS
    go_region_held3 (fun w' => ((w'.cell? ⟨g, 0, none⟩ = some (.int .i64 sh) ∧ w'.cell? ⟨g, 1, none⟩ = some (.int .i64 pe)) ∧ w'.cell? ⟨w.heap.size, 1, none⟩ = some (.slice (some ⟨gg, 0, none⟩) 1 cap)))
      (first | exact hS0 | exact HS.out _ hB6 | go_keep)
      (first
        | (go_simp; go_at_call 35; refine hmt.mono ?_; clear hmt; rintro _ w6 ⟨rfl, hM6, hB6⟩))
    have hs5 : W5.drew.heap.size = W5.heap.size := rfl
    have hb6 : Below w.heap.size w w6 := hb5.drew.trans (hB6.mono hb5.size)
    have hv6 := Blk.bel (w := W5.drew) hv5 hB6 hv5.lt
    have hg6 := Blk.bel (w := W5.drew) hg5 hB6 hg5.lt
    have u0 := hv6.at' 0
    have u0f := hv6.thaw 0
    simp at u0
    obtain ⟨W7, hW7⟩ : ∃ x, w6.setCell ⟨w.heap.size, 0, none⟩ (.pointer (some ⟨W5.drew.heap.size + 1, 0, none⟩)) = x := ⟨_, rfl⟩
    have hb7 : Below w.heap.size w W7 := by rw [← hW7]; exact hb6.setCell (Nat.le_refl _) _
    have hg7 := HG.out.bel hb7 hgl
    have hv7 : Blk W7 w.heap.size 92 #[.pointer (some ⟨W5.drew.heap.size + 1, 0, none⟩), .slice (some ⟨gg, 0, none⟩) 1 cap] := by
      rw [← hW7]
      have := hv6.put 0 (.pointer (some ⟨W5.drew.heap.size + 1, 0, none⟩))
      simpa using this
    have k7 := hg7.at' 4
    simp at k7
    obtain ⟨o, hup⟩ := HNH.out W7
    obtain ⟨hrun, hmap⟩ := hup (hb7.block vm hvl)
    obtain ⟨W8, hW8⟩ : ∃ x, ChangeMaps.setBlock W7 vm o = x := ⟨_, rfl⟩
    rw [hW8] at hrun hmap
    rw [HNN.out] at hrun
    have hC8 : Chg (fun b => b = vm) W7 W8 := by rw [← hW8]; exact chg_setBlock' _ _ _
    have hFin : Hid (Inst w g vm sh pe tk cu m2 f n W8) := by
      have hvw : w.heap.size ≠ vm := fun e => by omega
      have hge : gg = w3.heap.size + 1 := by rcases hat4 with e | e; cases e; exact e
      have z1 := hB3.size
      have z2 := hC4.size
      have z3 := hB6.size
      have z4 := hb7.size
      have z5 : W5.heap.size = w4.heap.size := by rw [← hW5']; simp [World.setCell]
      have z6 : W7.heap.size = w6.heap.size := by rw [← hW7]; simp [World.setCell]
      have zd : W2.drew.heap.size = W2.heap.size := rfl
      have c45 : Chg (fun b => b = w.heap.size) w4 W5 := by rw [← hW5']; exact Chg.setCell (F := fun b => b = w.heap.size) (Chg.refl _ w4) (p := ⟨w.heap.size, 1, none⟩) (.inr rfl) _
      have c67 : Chg (fun b => b = w.heap.size) w6 W7 := by rw [← hW7]; exact Chg.setCell (F := fun b => b = w.heap.size) (Chg.refl _ w6) (p := ⟨w.heap.size, 0, none⟩) (.inr rfl) _
      have c56 : Chg (fun b => b = w.heap.size) W5 w6 := (Chg.refl _ W5).drew.trans (Chg.of_below (F := fun _ => False) hB6) fun _ _ h => h.elim
      have c48 : Chg (fun b => b = w.heap.size ∨ b = vm) w4 W8 := (((c45.trans c56 fun _ _ h => h).trans c67 fun _ _ h => h).more fun _ _ h => .inl h).trans hC8 fun _ _ h => .inr h
      have hP8 := (hP3.chg hC4 fun _ _ _ h => h).chg c48 fun b k1 k2 h => by
        have := hvl2
        simp only [zd] at k1
        omega
      have hse := Sees.row hown4
      have hse8 := hse.chg c48 fun b hb h => by
        have e : b = gg := by cases hb; rfl
        omega
      have hM8 := (hM6.chg c67 (fun e => by omega) (fun e => by omega)).chg hC8 (fun e => by omega) (fun e => by omega)
      exact Lib.hid ⟨⟨w.heap.size, _, _, gg, cap, _, _, hg7.chg hC8 (map_not_blk HM.out HG.out), hmap, hv7.chg hC8 hvw, hM8, ⟨a2, c2, ib, pc, hP8, by simpa [ruleC] using hse8⟩, Nat.le_refl _, by first | exact hvl2 | (simp only [zd]; exact hvl2), hB3.size, by omega, by omega, by omega⟩, (Chg.of_below (F := fun b => b = vm) hb7).trans hC8 fun _ _ h => h⟩
    rw [hs5] at hW7
    clear hup hW8 hP3 hB3 hown4 hgrow4 hat4 hlt4 hv4 hv5 hb2w hb3w hb5 hg5 k0 k1' k4 y1 hM6 hB6 hC8 hg7 hv7 hg6 hv6 hb6 hmap
    go_wp2_with fail
    go_ret
    exact ⟨rfl, hFin.out⟩
end
end Go.Proofs.YtahmcjdddcbhnaaGreatDoor
