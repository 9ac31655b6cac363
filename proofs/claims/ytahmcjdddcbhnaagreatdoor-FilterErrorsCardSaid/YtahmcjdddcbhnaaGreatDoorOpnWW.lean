/-
  The filter, walked: Open where it is taken.
-/
import Derived.Test.YtahmcjdddcbhnaaGreatDoorInsWW
import Derived.Test.YtahmcjdddcbhnaaGreatDoorErrG1a
import Derived.Deep.DeepCutAuto
import Derived.Deep.CutBlock
namespace Go.Proofs.YtahmcjdddcbhnaaGreatDoor
open Go Go.Ev Go.RowKit Go.Imap

theorem infoWatch : (Tryz.prog.info? 114).map (fun i => (i.zero, i.size, i.bytes)) = some (some .nilIface, 1, 16) := by kernel_rfl
/-- what an Open that is taken leaves -/
structure Opnd (w : World) (g cm vb : Nat) (sh pe t cu : Int) (m1 : Value) (f : Nat → Option Value) (n : Nat) (w' : World) : Prop where
  ex : ∃ cb wb wc bb sb ι lo hi, Blk w' g 80 #[.int .i64 sh, .int .i64 pe, .int .i64 t, .int .i64 cu, m1, .map (some cm)] ∧ IMap w' cm (fun u => if u = n then some (.pointer (some ⟨cb, 0, none⟩)) else f u) ∧
    Blk w' cb 111 #[.int .i64 cu, .pointer (some ⟨vb, 0, none⟩), .slice none 0 0, .slice (some ⟨wb, 0, none⟩) 1 wc] ∧ Sees w' 1 (.slice (some ⟨wb, 0, none⟩) 1 wc) [flowV bb] ∧ BytAt w' bb sb 0 0 ι none 0 ∧ (∀ b, BFt bb 0 ι b → lo ≤ b ∧ b < hi) ∧ w.heap.size ≤ cb ∧ cb < lo ∧ hi ≤ wb ∧ lo ≤ hi
  chg : Chg (fun b => b = g ∨ b = cm) w w'
section
variable {w : World} {g vm cm : Nat} {sh pe tk : Int} {f fv : Nat → Option Value}
set_option maxHeartbeats 16000000 in
set_option maxRecDepth 1000000 in
theorem qopen_ok {cv vb rb rc lo hi n : Nat} {x0 : Value} {t : Int} (h : Blk w g 80 #[.int .i64 sh, .int .i64 pe, .int .i64 tk, .int .i64 (cv : Int), .map (some vm), .map (some cm)]) (hm : IMap w cm f) (hv : IMap w vm fv) (hn : n < 4) (hf : f n = none) (hfew : ∀ s, f s ≠ none → s < 4) (ht : lateE tk t = 0)
    (hcv : cv < 64) (hfv : fv cv = some (.pointer (some ⟨vb, 0, none⟩))) (hvb : Blk w vb 92 #[x0, .slice (some ⟨rb, 0, none⟩) 1 rc]) (hr : RuleAt w rb rc lo hi) :
    Calls Tryz.prog 20 #[.pointer (some ⟨g, 0, none⟩), .int .i64 (n : Int), .int .i64 t] w fun e w' => e = .returned (.int .i64 0) ∧ Opnd w g cm vb sh pe t cv (.map (some vm)) f n w' := by
  obtain ⟨i0, hi0, hz0, hz1, hz2⟩ := info_parts' infoWatch
  have hla := qlate_walk h t
  rw [ht] at hla
  have c5 := h.at' 5
  have c3 := fun k => (h.bel (belowN w k) h.lt).at' 3
  have c4 := fun k => (h.bel (belowN w k) h.lt).at' 4
  have c5k := fun k => (h.bel (belowN w k) h.lt).at' 5
  simp at c5 c3 c4 c5k
  have hgl := h.lt
  have hcl := hm.lt
  have hlk := hm.lookup2 Tryz.underlying78 Tryz.underlying3 (zeroConn w) (x := (n : Int)) (by omega)
  have hat : atI f (n : Int) = none := by unfold atI; rw [if_neg (by omega), Int.toNat_natCast]; exact hf
  rw [hat] at hlk
  simp only [Option.getD_none, Option.isSome_none] at hlk
  have hatv : atI fv (cv : Int) = some (.pointer (some ⟨vb, 0, none⟩)) := by unfold atI; rw [if_neg (by omega), Int.toNat_natCast]; exact hfv
  have hl2 : ∀ k, (Instr.lookup 77 (.map (some vm)) (.int .i64 (cv : Int)) true).run Tryz.prog (w.drewN k) = .ok (.tuple #[.pointer (some ⟨vb, 0, none⟩), .bool true]) (w.drewN k) := fun k => by
    have := (hv.same ((belowN w k).block _ hv.lt)).lookup2 Tryz.underlying77 Tryz.underlying3 (zeroVer _) (x := (cv : Int)) (by omega)
    rw [hatv] at this
    simpa only [Option.getD_some, Option.isSome_some] using this
  have hlen : ∀ k, ∃ len : Nat, len ≤ 4 ∧ ∀ ty, (Builtin.len_ #[78] ty #[.map (some cm)]).run Tryz.prog (w.drewN k) = .ok (.int .i64 (len : Int)) (w.drewN k) := fun k => (hm.same ((belowN w k).block _ hm.lt)).len hfew (by omega) Tryz.underlying78
  have HN : ∀ W : World, ∃ o, W.heap[cm]? = w.heap[cm]? → ∀ cb : Nat, cb = w.heap.size → (Instr.mapUpdate 78 (.map (some cm)) (.int .i64 (n : Int)) (.pointer (some ⟨cb, 0, none⟩))).run Tryz.prog W = .ok () (ChangeMaps.setBlock W cm o) ∧ IMap (ChangeMaps.setBlock W cm o) cm fun u => if u = n then some (.pointer (some ⟨cb, 0, none⟩)) else f u := fun W => by
    by_cases hW : W.heap[cm]? = w.heap[cm]?
    · obtain ⟨o, h1, h2⟩ := (hm.same hW).update Tryz.underlying78 Tryz.underlying3 (s := n) (by omega) (.pointer (some ⟨w.heap.size, 0, none⟩))
      exact ⟨o, fun _ cb hcb => by subst hcb; exact ⟨h1, h2⟩⟩
    · exact ⟨.map #[] 0, fun h => absurd h hW⟩
  have HNH := Lib.hid HN
  have HG := Lib.hid h
  have HM := Lib.hid hm
  have HR := Lib.hid (And.intro hr hvb)
  have HL := Lib.hid hlen
  obtain ⟨N, hN⟩ : ∃ x, (n : Int) = x := ⟨_, rfl⟩
  have hn1 : ¬ (1099511627776 : Int) < (n : Int) := by omega
  have hn0 : ¬ (n : Int) < 0 := by omega
  rw [hN] at hlk hn1 hn0 ⊢
  have HNN := Lib.hid hN
  obtain ⟨CV, hCV⟩ : ∃ x, (cv : Int) = x := ⟨_, rfl⟩
  simp only [hCV] at c3 hl2 HG ⊢
  clear h hm hv hn hf hfew hat hatv hfv hcv HN hN ht hr hvb hlen hCV
  go_enter Tryz.func20, Tryz.ntmps20
  go_wp2_with (first | (go_at_call 36; refine hla.mono ?_; clear hla; rintro _ w1 ⟨rfl, rfl⟩) | fail)
  go_quiet (fail)
  obtain ⟨len, hlen, hrl⟩ := HL.out nq
  have hl64 : ¬ (64 : Int) ≤ (len : Int) := by omega
  go_upto_region 14 with fail
  obtain ⟨Wq, hWq⟩ : ∃ x, w1.drewN nq = x := ⟨_, rfl⟩
  have hBq : Below w1.heap.size w1 Wq := by rw [← hWq]; exact belowN w1 nq
  have hsq : Hid (Wq.heap.size = w1.heap.size) := Lib.hid (by rw [← hWq]; rfl)
  rw [hWq] at hrl ⊢
  clear c3 c4 c5 c5k hl2 hlk hWq
  have gq := HG.out.bel hBq hgl
  have k3 := gq.at' 3
  have k5 := gq.at' 5
  simp at k3 k5
  have hvq := HR.out.2.bel hBq HR.out.2.lt
  obtain ⟨W0, hW0⟩ : ∃ x, Wq.alloc (.cells #[.int .i64 CV, .pointer (some ⟨vb, 0, none⟩), .slice none 0 0, .slice none 0 0] 111) = x := ⟨_, rfl⟩
  have hBq0 : Below Wq.heap.size Wq W0 := by rw [← hW0]; exact (Below.refl _ _).alloc (Nat.le_refl _) _
  have hB0 : Below w1.heap.size w1 W0 := hBq.trans (hBq0.mono hBq.size)
  have hc0 : Blk W0 Wq.heap.size 111 #[.int .i64 CV, .pointer (some ⟨vb, 0, none⟩), .slice none 0 0, .slice none 0 0] := by rw [← hW0]; exact Blk.made Wq _ _
  have hvl0 := hvq.lt
  have v1 := (hvq.bel hBq0 hvl0).at' 1
  have x3 := hc0.at' 3
  simp at v1 x3
  obtain ⟨a2, c2, ib, pc, hP, hSe⟩ := HR.out.1.chg (F := fun _ => False) (Chg.of_below hB0) (fun _ _ h => h)
  obtain ⟨A', n', k', e1, e2, e3, e4⟩ := id hSe
  cases e1
  obtain ⟨rb', off, e5, hlt1, hcc⟩ := e4 (by omega)
  cases e5
  have fact : ∀ i u, (ruleC a2 c2 ib pc)[i]? = some u → W0.cell? ⟨rb, i, none⟩ = some u := fun i u hu => by have := hcc i u hu; rwa [Nat.zero_add] at this
  have r0 := fact 0 _ rfl
  have r1 := fact 1 _ rfl
  have r2 := fact 2 _ rfl
  have r3 := fact 3 _ rfl
  have r4 := fact 4 _ rfl
  have r5 := fact 5 _ rfl
  have r6 := fact 6 _ rfl
  have r7 := fact 7 _ rfl
  have r8 := fact 8 _ rfl
  have r9 := fact 9 _ rfl
  have r10 := fact 10 _ rfl
  have r11 := fact 11 _ rfl
  have r12 := fact 12 _ rfl
  have r13 := fact 13 _ rfl
  obtain ⟨W3, hW3⟩ : ∃ x, W0.alloc (.cells #[.int .i64 2, .slice none 0 0, .slice a2 2 c2, .int .i64 0, .int .i64 0, .int .i64 0, .int .i64 0, .bool false, .int .i64 0, .bool false, .slice (some ⟨ib, 0, none⟩) 3 pc, .int .i64 0, .bool false, .bool true] 104) = x := ⟨_, rfl⟩
  have hB3 : Below W0.heap.size W0 W3 := by rw [← hW3]; exact (Below.refl _ _).alloc (Nat.le_refl _) _
  have qb : Blk W3 W0.heap.size 104 #[.int .i64 2, .slice none 0 0, .slice a2 2 c2, .int .i64 0, .int .i64 0, .int .i64 0, .int .i64 0, .bool false, .int .i64 0, .bool false, .slice (some ⟨ib, 0, none⟩) 3 pc, .int .i64 0, .bool false, .bool true] := by rw [← hW3]; exact Blk.made W0 _ _
  have q0 := qb.at' 0
  have q1 := qb.at' 1
  have q2 := qb.at' 2
  have q3 := qb.at' 3
  have q4 := qb.at' 4
  have q5 := qb.at' 5
  have q6 := qb.at' 6
  have q7 := qb.at' 7
  have q8 := qb.at' 8
  have q9 := qb.at' 9
  have q10 := qb.at' 10
  have q11 := qb.at' 11
  have q12 := qb.at' 12
  have q13 := qb.at' 13
  simp at q0 q1 q2 q3 q4 q5 q6 q7 q8 q9 q10 q11 q12 q13
  have hc3 := hc0.bel hB3 hc0.lt
  have x33 := hc3.at' 3
  simp at x33
  have hcl3 := hc3.lt
  have hwt : ∀ W, Below W3.heap.size W3 W → Calls Tryz.prog 37 #[ruleX a2 c2 ib pc] W fun e w' => ∃ bb sb ι, e = .returned (flowV bb) ∧ BytAt w' bb sb 0 0 ι none 0 ∧ (∀ b, BFt bb 0 ι b → W.heap.size ≤ b) ∧ Below W.heap.size W w' := fun W hW => watch_walk ((hP.bel hB3).bel hW)
  unfold ruleX at hwt
  unfold flowV at hwt
  have HQ := Lib.hid (And.intro hB0 (And.intro hB3 (And.intro hc3 (And.intro hBq hBq0))))
  clear hSe e2 e3 e4 hcc fact hc0 hc3 qb hB3 hP hvq gq hBq0 hB0 hBq
  go_wp2_with fail
  refine wp_loop_rounds 2 ?_
  rw [rounds_succ]
  go_wp2_with fail
  go_region_law (first
    | (go_simp; go_at_call 37; refine (hwt _ (by first | exact Below.refl _ _ | exact (Below.refl _ _).drew | exact (Below.refl _ _).drew.drew)).mono ?_; rintro _ w4 ⟨bb, sb, ι, rfl, hBt, hF4, hB4⟩; have hc4 : Blk w4 Wq.heap.size 111 #[.int .i64 CV, .pointer (some ⟨vb, 0, none⟩), .slice none 0 0, .slice none 0 0] := (hB4.block Wq.heap.size hcl3).trans (show W3.heap[Wq.heap.size]? = _ from HQ.out.2.2.1); have x4 := hc4.at' 3; simp at x4; have x4a : ∀ o, (w4.alloc o).cell? ⟨Wq.heap.size, 3, none⟩ = some (.slice none 0 0) := fun o => by { have := (hc4.alloc o).at' 3; simpa using this })
    | (refine step_append_lies _ (by rfl) _ _ _ (by rfl) W3.heap.size 114 i0 _ 1 16 Tryz.underlying109 hi0 hz0 hz1 hz2 rfl (by omega) (.slice none 0 0) 0 [] (by rfl) (World.ownsRow_nil _ _ _ _) ⟨w4.heap.size, 0, none⟩ 1 1 _ (by rfl) (by rfl) (World.news_of_block (heap_alloc_new w4 _)) (by simp [Value.oneCell']) (by omega) (by unfold maxLen; omega) (by omega) (by have := hB4.size; simp at this ⊢; omega) (w4.heap.size + 1) (by simp) ?_; intro gg cap w5 hown5 hgrow5 hat5 hlt5
       have hC5 : Chg (fun _ => False) w4 w5 := by first | exact ((Chg.refl _ w4).alloc _).grown hgrow5 fun k hk => by cases hk
       have hc5 := hc4.chg hC5 (fun h => h)
       have x5 := hc5.at' 3
       have f5 := hc5.thaw 3
       simp at x5))
  all_goals
    obtain ⟨W6, hW6⟩ : ∃ x, w5.setCell ⟨Wq.heap.size, 3, none⟩ (.slice (some ⟨gg, 0, none⟩) 1 cap) = x := ⟨_, rfl⟩
    have hc6 : Blk W6 Wq.heap.size 111 #[.int .i64 CV, .pointer (some ⟨vb, 0, none⟩), .slice none 0 0, .slice (some ⟨gg, 0, none⟩) 1 cap] := by
      rw [← hW6]
      have := hc5.put 3 (.slice (some ⟨gg, 0, none⟩) 1 cap)
      simpa using this
    obtain ⟨b1, b2, b3, b4, b5⟩ := HQ.out
    have hqs := b4.size
    have hqe : Wq.heap.size = w1.heap.size := hsq.out
    have hb3w : Below w1.heap.size w1 W3 := b1.trans (b2.mono b1.size)
    have hb4w : Below w1.heap.size w1 w4 := by have := hb3w.size; first | exact hb3w.drew.trans (hB4.mono this) | exact hb3w.trans (hB4.mono this)
    have hb6 : Below w1.heap.size w1 W6 := by
      rw [← hW6]
      exact ((Chg.of_below (F := fun _ => False) hb4w).trans hC5 (fun _ _ h => h)).to_below (Nat.le_refl _) (fun _ _ h => h.elim) |>.setCell (by show w1.heap.size ≤ Wq.heap.size; omega) _
    have hg6 := HG.out.bel hb6 hgl
    have k56 := hg6.at' 5
    simp at k56
    obtain ⟨o, hup⟩ := HNH.out W6
    obtain ⟨hrun, hmap⟩ := hup (hb6.block cm hcl) Wq.heap.size hqe
    obtain ⟨W7, hW7⟩ : ∃ x, ChangeMaps.setBlock W6 cm o = x := ⟨_, rfl⟩
    rw [hW7] at hrun hmap
    rw [HNN.out] at hrun
    have hC7 : Chg (fun b => b = cm) W6 W7 := by rw [← hW7]; exact chg_setBlock' _ _ _
    have hgc : g ≠ cm := map_not_blk HM.out HG.out
    have hg7 := hg6.chg hC7 hgc
    have k72 := hg7.at' 2
    have f72 := hg7.thaw 2
    simp at k72
    obtain ⟨W8, hW8⟩ : ∃ x, W7.setCell ⟨g, 2, none⟩ (.int .i64 t) = x := ⟨_, rfl⟩
    have hFin : Hid (Opnd w1 g cm vb sh pe t CV (.map (some vm)) f n W8) := by
      have hge : gg = w4.heap.size + 1 := by rcases hat5 with e | e; cases e; exact e
      have z1 := hB4.size
      have z2 := hC5.size
      have z5 : W6.heap.size = w5.heap.size := by rw [← hW6]; simp [World.setCell]
      have zd : W3.drew.heap.size = W3.heap.size := rfl
      have c56 : Chg (fun b => b = Wq.heap.size) w5 W6 := by rw [← hW6]; exact Chg.setCell (F := fun b => b = Wq.heap.size) (Chg.refl _ w5) (p := ⟨Wq.heap.size, 3, none⟩) (.inr rfl) _
      have c78 : Chg (fun b => b = g) W7 W8 := by rw [← hW8]; exact Chg.setCell (F := fun b => b = g) (Chg.refl _ W7) (p := ⟨g, 2, none⟩) (.inr rfl) _
      have c68 : Chg (fun b => b = cm ∨ b = g) W6 W8 := (hC7.more fun _ _ e => .inl e).trans c78 fun _ _ e => .inr e
      have c58 : Chg (fun b => b = Wq.heap.size ∨ b = cm ∨ b = g) w5 W8 := (c56.more fun _ _ e => .inl e).trans c68 fun _ _ e => .inr e
      have hg8 : Blk W8 g 80 #[.int .i64 sh, .int .i64 pe, .int .i64 t, .int .i64 CV, .map (some vm), .map (some cm)] := by
        rw [← hW8]
        have := hg7.put 2 (.int .i64 t)
        simpa using this
      have hse8 := (Sees.row hown5).chg c58 fun b hb h => by
        have e : b = gg := by cases hb; rfl
        omega
      have hlo : W3.heap.size ≤ W3.drew.heap.size := Nat.le_refl _
      have hB8 := (hBt.chg hC5 (fun _ _ h => h)).chg c58 fun b hb h => by
        have h1 := hF4 b hb
        simp only [zd] at h1
        omega
      exact Lib.hid ⟨⟨Wq.heap.size, gg, cap, bb, sb, ι, W3.heap.size, w4.heap.size, hg8, hmap.same (c78.block cm (by have := hC7.size; omega) fun e => hgc e.symm), hc6.chg c68 (by omega), by unfold flowV; simpa using hse8, hB8, fun b hb => ⟨by have h1 := hF4 b hb; simp only [zd] at h1; exact h1, hBt.lt hb⟩, by omega, hcl3, by omega, by simp only [zd] at z1; omega⟩, (Chg.of_below (F := fun b => b = g ∨ b = cm) hb6).trans c68 fun _ _ h => h.elim .inr .inl⟩
    rw [hW6]
    clear hqe hqs b1 b2 b3 b4 b5 hsq hW6 hup hW7 hBt hF4 hB4 hown5 hgrow5 hat5 hlt5 hc4 hc5 hc6 hC5 hb3w hb4w hb6 hg6 hmap hC7 hg7 x5 f5 x4 x4a hwt r0 r1 r2 r3 r4 r5 r6 r7 r8 r9 r10 r11 r12 r13 q0 q1 q2 q3 q4 q5 q6 q7 q8 q9 q10 q11 q12 q13
    go_wp2_with fail
    rw [rounds_succ]
    go_wp2_with fail
    go_ret
    exact ⟨rfl, hFin.out⟩
end
end Go.Proofs.YtahmcjdddcbhnaaGreatDoor
