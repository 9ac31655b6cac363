/-
  The law CanaryArguments, walked.
-/
import Derived.Test.YtopicmcaoeameaaGreatDoorArgs
import Derived.Test.YtopicmcaoeameaaGreatDoorMade
import Derived.Test.YtopicmcaoeameaaGreatDoorLives
namespace Go.Proofs.YtopicmcaoeameaaGreatDoor
open Go Go.Ev Go.RowKit Go.Smap

theorem nums105 : Nums 1 0 5 := by unfold Nums; omega
set_option maxHeartbeats 16000000 in
set_option maxRecDepth 1000000 in
theorem law_walk {w : World} {v : Value} {l : List Int} (h : SlArg w v l) {ev mo en x : Int} (hx1 : -9223372036854775808 ≤ x) (hx2 : x ≤ 9223372036854775807) :
    Calls Tryz.prog 4 #[v, .int .i64 ev, .int .i64 mo, .int .i64 en, .int .i64 x] w fun e w' => e = .returned (.bool true) ∧ Below w.heap.size w w' := by
  have hmade := made_walk h 0 (by omega)
  clear h
  obtain ⟨q, hq⟩ : ∃ q, decide (Nums ev mo en) = q := ⟨_, rfl⟩
  have HQ : Hid (decide (Nums ev mo en) = q) := hq
  clear hq
  cases q with
  | true =>
    have hN0 : Nums ev mo en := of_decide_eq_true HQ.out
    have hN : Hid (Nums ev mo en) := hN0
    clear hN0
    clear HQ
    go_enter Tryz.func4, Tryz.ntmps4
    go_wp2_with (first
      | (go_at_call 14; refine hmade.mono ?_; clear hmade; rintro _ w1 ⟨v1, rs, rfl, hown1, hG, hk8, hb1⟩; have hownw := own_walk hown1 hG)
      | (go_at_call 10; refine hownw.mono ?_; clear hownw; rintro _ w2 ⟨b, M, rfl, hb2, hM, hS⟩; have hW2 : Below w.heap.size w w2 := hb1.trans (hb2.mono hb1.size); have hcA := new_yes hS (Nat.le_refl _) hG hN.out; have hcN := fun w' => num_yes hN.out w'; have hc1 := fun w' => new_nil1 (.pointer (some ⟨b, 0, none⟩)) 1 0 1 w'; have hc2 := fun w' => new_nil2 b 1 0 1 w')
      | (go_at_call 9; refine hcA.mono ?_; clear hcA; rintro _ w3 ⟨cb1, rfl, hb3⟩)
      | (go_at_call 15; refine (hcN _).mono ?_; clear hcN; rintro _ w3b ⟨rfl, rfl⟩)
      | (go_at_call 9; refine (hc1 _).mono ?_; clear hc1; rintro _ w3c ⟨rfl, rfl⟩)
      | (go_at_call 9; refine (hc2 _).mono ?_; clear hc2; rintro _ w3d ⟨rfl, rfl⟩))
    have hs3 := hb3.size
    have hS3 := hS.bel (Bel.of hb3) (Nat.le_refl _)
    have hcD := new_walk hS3 hS3 hs3 hs3 hG.len hG.len (fun r hr => (hG.each r ((List.mem_append.1 hr).elim id id)).2.2.2) nums105
    have HX : Hid (ev = ev ∧ mo = mo ∧ en = en) := ⟨rfl, rfl, rfl⟩
    go_wp2_with (go_at_call 9; refine hcD.mono ?_; clear hcD; rintro _ w4 ⟨cb, bm, vn, ns, rfl, hb4, hcb, hC, hbm, hbmge, hnames, hnl, hnsz, _⟩)
    have hs1 := hb1.size
    have hs2 := hb2.size
    have hs4 := hb4.size
    have hlen := hG.len
    have hsz : ∀ r ∈ rs, r.name.size ≤ maxLen := fun r hr => (hG.each r hr).2.2.2
    have hcm : ¬ M cb := fun e => by have := (hM cb e).2; omega
    have hbmm : ¬ M bm := fun e => by have := (hM bm e).2; omega
    have hM4 : ∀ k, M k → k < (w4.alloc (.cells #[.int .i64 97, .int .i64 x] 3)).heap.size := fun k hk => by have := (hM k hk).2; simp; omega
    have hS4 := (hS3.bel (Bel.of hb4) hs3).bel (w' := w4.alloc (.cells #[.int .i64 97, .int .i64 x] 3)) (Bel.of ((Below.refl w4.heap.size w4).alloc (Nat.le_refl _) _)) (by omega)
    have hF4 := firstOf_args (M := M) (lo := w1.heap.size) (hi := w2.heap.size) (w := w4.alloc (.cells #[.int .i64 97, .int .i64 x] 3)) hk8 hx1 hx2 (tb := w4.heap.size) (.inr (by omega)) (fun e => by have := (hM _ e).2; omega) (heap_alloc_new w4 _)
    have hfound := found_walk hM4 hS4 (by simp; omega) hlen (by omega) hF4
    obtain ⟨X, hX⟩ : ∃ X, fnd (FX x) 2 0 rs = X := ⟨_, rfl⟩
    have hsee : ∀ w5, Bel M (w4.alloc (.cells #[.int .i64 97, .int .i64 x] 3)).heap.size (w4.alloc (.cells #[.int .i64 97, .int .i64 x] 3)) w5 → Calls Tryz.prog 12 #[.pointer (some ⟨cb, 0, none⟩), .slice (some ⟨w5.heap.size, 0, none⟩) 2 2, .int .i64 2000] (w5.alloc (.cells #[.int .i64 97, .int .i64 x] 3)) fun e w' =>
        seePost M cb ⟨b, b, 1, 0, 5, 0, 0, 0, vn, .map (some bm), .slice none 0 0⟩ (w5.alloc (.cells #[.int .i64 97, .int .i64 x] 3)) w' e X := fun w5 hb5 => by
      have hs5 := hb5.size
      simp at hs5
      have hA : Below w5.heap.size w5 (w5.alloc (.cells #[.int .i64 97, .int .i64 x] 3)) := (Below.refl _ _).alloc (Nat.le_refl _) _
      have hA4 : Below w4.heap.size w4 (w4.alloc (.cells #[.int .i64 97, .int .i64 x] 3)) := (Below.refl _ _).alloc (Nat.le_refl _) _
      have hF5 := firstOf_args (M := M) (lo := w1.heap.size) (hi := w2.heap.size) (w := w5.alloc (.cells #[.int .i64 97, .int .i64 x] 3)) hk8 hx1 hx2 (tb := w5.heap.size) (.inr (by omega)) (fun e => by have := (hM _ e).2; omega) (heap_alloc_new w5 _)
      rw [← hX]
      exact see_args (base := w3d.heap.size) (fun k hk => by have := (hM k hk).2; simp; omega) ((hS4.bel hb5 (by simp; omega)).bel (Bel.of hA) (by omega)) (by simp; omega) hlen hsz (((hC.below hA4).bel hcm hb5).below hA) rfl rfl rfl rfl rfl rfl rfl rfl rfl rfl
        hcm hbmm (((hbm.alloc _).same (hb5.block bm (by have := hbm.lt; simp; omega) hbmm)).alloc _) ((owns_bel (hnames.alloc _) hb5 (fun k hk => by have := (hM k hk).2; omega)).alloc _) (fun k hk => by have := (hM k hk).2; omega) (by omega) hnsz (by omega) hF5
    have toB : ∀ {A A' : World}, Bel M A.heap.size A A' → w2.heap.size ≤ A.heap.size → Below w.heap.size A A' := fun h hle => ((h.mono (B' := w1.heap.size) (by omega)).below fun k hk => (hM k hk).1).mono hs1
    have hB4 : Below w.heap.size w (w4.alloc (.cells #[.int .i64 97, .int .i64 x] 3)) := ((hW2.trans (hb3.mono (by omega))).trans (hb4.mono (by omega))).alloc (by omega) _
    rw [hX] at hfound
    have HX : Hid (fnd (FX x) 2 0 rs = X) := hX
    clear hX hF4 hS4 hS3 hS hC hbm hnames hnsz hG hk8 hsz
    cases X with
    | error er =>
      have her : er ≠ 0 := fnd_err _ _ _ _ _ HX.out
      go_wp2_with (first
        | (go_at_call 16; refine hfound.mono ?_; clear hfound; rintro _ w5 ⟨hb5, rfl⟩; have hsee5 := hsee w5 hb5; have hs5 := hb5.size)
        | (go_at_call 12; refine hsee5.mono ?_; clear hsee5; rintro _ w6 ⟨rfl, hb6, hC6⟩; have hcnt := counts_walk (hC6.cell 5) (hC6.cell 6) (hC6.cell 7))
        | (go_at_call 17; refine hcnt.mono ?_; clear hcnt; rintro _ w7 ⟨rfl, hb7⟩; have hliv := lives_walk w7)
        | (go_at_call 13; refine hliv.mono ?_; clear hliv; rintro _ w8 ⟨rfl, hb8⟩))
      go_ret
      refine ⟨rfl, ?_⟩
      simp at hs5
      have hB5 : Below w.heap.size w (w5.alloc (.cells #[.int .i64 97, .int .i64 x] 3)) := (hB4.trans (toB hb5 (by simp; omega))).alloc (by omega) _
      have hs6 := hb6.size
      simp at hs6
      have hs7 := hb7.size
      exact ((hB5.trans (toB hb6 (by simp; omega))).trans (hb7.mono (by omega))).trans (hb8.mono (by omega))
    | ok D =>
      go_wp2_with (first
        | (go_at_call 16; refine hfound.mono ?_; clear hfound; rintro _ w5 ⟨hb5, vf, rfl, hownf⟩; obtain ⟨fa, fc, rfl, _⟩ := owns_shape hownf; have hsee5 := hsee w5 hb5; have hs5 := hb5.size)
        | (go_at_call 12; refine hsee5.mono ?_; clear hsee5; rintro _ w6 ⟨rfl, hb6, hC6⟩; have hcnt := counts_walk (hC6.cell 5) (hC6.cell 6) (hC6.cell 7))
        | (go_at_call 17; refine hcnt.mono ?_; clear hcnt; rintro _ w7 ⟨rfl, hb7⟩; have hliv := lives_walk w7)
        | (go_at_call 13; refine hliv.mono ?_; clear hliv; rintro _ w8 ⟨rfl, hb8⟩))
      go_ret
      refine ⟨rfl, ?_⟩
      simp at hs5
      have hB5 : Below w.heap.size w (w5.alloc (.cells #[.int .i64 97, .int .i64 x] 3)) := (hB4.trans (toB hb5 (by simp; omega))).alloc (by omega) _
      have hs6 := hb6.size
      simp at hs6
      have hs7 := hb7.size
      have hB6 : Below w.heap.size (w5.alloc (.cells #[.int .i64 97, .int .i64 x] 3)) w6 := (((Bel.refl M w1.heap.size _).but hb6 (by simp; omega) (by omega)).below fun k hk => (hM k hk).1).mono hs1
      exact ((hB5.trans hB6).trans (hb7.mono (by omega))).trans (hb8.mono (by omega))
  | false =>
    have hN0 : ¬ Nums ev mo en := of_decide_eq_false HQ.out
    have hN : Hid (¬ Nums ev mo en) := hN0
    clear hN0
    clear HQ
    go_enter Tryz.func4, Tryz.ntmps4
    go_wp2_with (first
      | (go_at_call 14; refine hmade.mono ?_; clear hmade; rintro _ w1 ⟨v1, rs, rfl, hown1, hG, hk8, hb1⟩; have hownw := own_walk hown1 hG)
      | (go_at_call 10; refine hownw.mono ?_; clear hownw; rintro _ w2 ⟨b, M, rfl, hb2, hM, hS⟩; have hW2 : Below w.heap.size w w2 := hb1.trans (hb2.mono hb1.size); have hcA := new_no b hN.out w2; have hcN := fun w' => num_no hN.out w'; have hc1 := fun w' => new_nil1 (.pointer (some ⟨b, 0, none⟩)) 1 0 1 w'; have hc2 := fun w' => new_nil2 b 1 0 1 w')
      | (go_at_call 9; refine hcA.mono ?_; clear hcA; rintro _ w3 ⟨cb1, rfl, hb3⟩)
      | (go_at_call 15; refine (hcN _).mono ?_; clear hcN; rintro _ w3b ⟨rfl, rfl⟩)
      | (go_at_call 9; refine (hc1 _).mono ?_; clear hc1; rintro _ w3c ⟨rfl, rfl⟩)
      | (go_at_call 9; refine (hc2 _).mono ?_; clear hc2; rintro _ w3d ⟨rfl, rfl⟩))
    have hs3 := hb3.size
    have hS3 := hS.bel (Bel.of hb3) (Nat.le_refl _)
    have hcD := new_walk hS3 hS3 hs3 hs3 hG.len hG.len (fun r hr => (hG.each r ((List.mem_append.1 hr).elim id id)).2.2.2) nums105
    have HX : Hid (ev = ev ∧ mo = mo ∧ en = en) := ⟨rfl, rfl, rfl⟩
    go_wp2_with (go_at_call 9; refine hcD.mono ?_; clear hcD; rintro _ w4 ⟨cb, bm, vn, ns, rfl, hb4, hcb, hC, hbm, hbmge, hnames, hnl, hnsz, _⟩)
    have hs1 := hb1.size
    have hs2 := hb2.size
    have hs4 := hb4.size
    have hlen := hG.len
    have hsz : ∀ r ∈ rs, r.name.size ≤ maxLen := fun r hr => (hG.each r hr).2.2.2
    have hcm : ¬ M cb := fun e => by have := (hM cb e).2; omega
    have hbmm : ¬ M bm := fun e => by have := (hM bm e).2; omega
    have hM4 : ∀ k, M k → k < (w4.alloc (.cells #[.int .i64 97, .int .i64 x] 3)).heap.size := fun k hk => by have := (hM k hk).2; simp; omega
    have hS4 := (hS3.bel (Bel.of hb4) hs3).bel (w' := w4.alloc (.cells #[.int .i64 97, .int .i64 x] 3)) (Bel.of ((Below.refl w4.heap.size w4).alloc (Nat.le_refl _) _)) (by omega)
    have hF4 := firstOf_args (M := M) (lo := w1.heap.size) (hi := w2.heap.size) (w := w4.alloc (.cells #[.int .i64 97, .int .i64 x] 3)) hk8 hx1 hx2 (tb := w4.heap.size) (.inr (by omega)) (fun e => by have := (hM _ e).2; omega) (heap_alloc_new w4 _)
    have hfound := found_walk hM4 hS4 (by simp; omega) hlen (by omega) hF4
    obtain ⟨X, hX⟩ : ∃ X, fnd (FX x) 2 0 rs = X := ⟨_, rfl⟩
    have hsee : ∀ w5, Bel M (w4.alloc (.cells #[.int .i64 97, .int .i64 x] 3)).heap.size (w4.alloc (.cells #[.int .i64 97, .int .i64 x] 3)) w5 → Calls Tryz.prog 12 #[.pointer (some ⟨cb, 0, none⟩), .slice (some ⟨w5.heap.size, 0, none⟩) 2 2, .int .i64 2000] (w5.alloc (.cells #[.int .i64 97, .int .i64 x] 3)) fun e w' =>
        seePost M cb ⟨b, b, 1, 0, 5, 0, 0, 0, vn, .map (some bm), .slice none 0 0⟩ (w5.alloc (.cells #[.int .i64 97, .int .i64 x] 3)) w' e X := fun w5 hb5 => by
      have hs5 := hb5.size
      simp at hs5
      have hA : Below w5.heap.size w5 (w5.alloc (.cells #[.int .i64 97, .int .i64 x] 3)) := (Below.refl _ _).alloc (Nat.le_refl _) _
      have hA4 : Below w4.heap.size w4 (w4.alloc (.cells #[.int .i64 97, .int .i64 x] 3)) := (Below.refl _ _).alloc (Nat.le_refl _) _
      have hF5 := firstOf_args (M := M) (lo := w1.heap.size) (hi := w2.heap.size) (w := w5.alloc (.cells #[.int .i64 97, .int .i64 x] 3)) hk8 hx1 hx2 (tb := w5.heap.size) (.inr (by omega)) (fun e => by have := (hM _ e).2; omega) (heap_alloc_new w5 _)
      rw [← hX]
      exact see_args (base := w3d.heap.size) (fun k hk => by have := (hM k hk).2; simp; omega) ((hS4.bel hb5 (by simp; omega)).bel (Bel.of hA) (by omega)) (by simp; omega) hlen hsz (((hC.below hA4).bel hcm hb5).below hA) rfl rfl rfl rfl rfl rfl rfl rfl rfl rfl
        hcm hbmm (((hbm.alloc _).same (hb5.block bm (by have := hbm.lt; simp; omega) hbmm)).alloc _) ((owns_bel (hnames.alloc _) hb5 (fun k hk => by have := (hM k hk).2; omega)).alloc _) (fun k hk => by have := (hM k hk).2; omega) (by omega) hnsz (by omega) hF5
    have toB : ∀ {A A' : World}, Bel M A.heap.size A A' → w2.heap.size ≤ A.heap.size → Below w.heap.size A A' := fun h hle => ((h.mono (B' := w1.heap.size) (by omega)).below fun k hk => (hM k hk).1).mono hs1
    have hB4 : Below w.heap.size w (w4.alloc (.cells #[.int .i64 97, .int .i64 x] 3)) := ((hW2.trans (hb3.mono (by omega))).trans (hb4.mono (by omega))).alloc (by omega) _
    rw [hX] at hfound
    have HX : Hid (fnd (FX x) 2 0 rs = X) := hX
    clear hX hF4 hS4 hS3 hS hC hbm hnames hnsz hG hk8 hsz
    cases X with
    | error er =>
      have her : er ≠ 0 := fnd_err _ _ _ _ _ HX.out
      go_wp2_with (first
        | (go_at_call 16; refine hfound.mono ?_; clear hfound; rintro _ w5 ⟨hb5, rfl⟩; have hsee5 := hsee w5 hb5; have hs5 := hb5.size)
        | (go_at_call 12; refine hsee5.mono ?_; clear hsee5; rintro _ w6 ⟨rfl, hb6, hC6⟩; have hcnt := counts_walk (hC6.cell 5) (hC6.cell 6) (hC6.cell 7))
        | (go_at_call 17; refine hcnt.mono ?_; clear hcnt; rintro _ w7 ⟨rfl, hb7⟩; have hliv := lives_walk w7)
        | (go_at_call 13; refine hliv.mono ?_; clear hliv; rintro _ w8 ⟨rfl, hb8⟩))
      go_ret
      refine ⟨rfl, ?_⟩
      simp at hs5
      have hB5 : Below w.heap.size w (w5.alloc (.cells #[.int .i64 97, .int .i64 x] 3)) := (hB4.trans (toB hb5 (by simp; omega))).alloc (by omega) _
      have hs6 := hb6.size
      simp at hs6
      have hs7 := hb7.size
      exact ((hB5.trans (toB hb6 (by simp; omega))).trans (hb7.mono (by omega))).trans (hb8.mono (by omega))
    | ok D =>
      go_wp2_with (first
        | (go_at_call 16; refine hfound.mono ?_; clear hfound; rintro _ w5 ⟨hb5, vf, rfl, hownf⟩; obtain ⟨fa, fc, rfl, _⟩ := owns_shape hownf; have hsee5 := hsee w5 hb5; have hs5 := hb5.size)
        | (go_at_call 12; refine hsee5.mono ?_; clear hsee5; rintro _ w6 ⟨rfl, hb6, hC6⟩; have hcnt := counts_walk (hC6.cell 5) (hC6.cell 6) (hC6.cell 7))
        | (go_at_call 17; refine hcnt.mono ?_; clear hcnt; rintro _ w7 ⟨rfl, hb7⟩; have hliv := lives_walk w7)
        | (go_at_call 13; refine hliv.mono ?_; clear hliv; rintro _ w8 ⟨rfl, hb8⟩))
      go_ret
      refine ⟨rfl, ?_⟩
      simp at hs5
      have hB5 : Below w.heap.size w (w5.alloc (.cells #[.int .i64 97, .int .i64 x] 3)) := (hB4.trans (toB hb5 (by simp; omega))).alloc (by omega) _
      have hs6 := hb6.size
      simp at hs6
      have hs7 := hb7.size
      have hB6 : Below w.heap.size (w5.alloc (.cells #[.int .i64 97, .int .i64 x] 3)) w6 := (((Bel.refl M w1.heap.size _).but hb6 (by simp; omega) (by omega)).below fun k hk => (hM k hk).1).mono hs1
      exact ((hB5.trans hB6).trans (hb7.mono (by omega))).trans (hb8.mono (by omega))
end Go.Proofs.YtopicmcaoeameaaGreatDoor
