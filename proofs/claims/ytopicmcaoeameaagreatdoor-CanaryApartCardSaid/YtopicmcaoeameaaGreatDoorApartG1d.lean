/-
  The law CanarySame, walked, over First's contract at every text.
-/
import Derived.Test.YtopicmcaoeameaaGreatDoorApartG1a
namespace Go.Proofs.YtopicmcaoeameaaGreatDoor
open Go Go.Ev Go.RowKit Go.Smap

theorem SlCap.below {w w' : World} {x : Value} {l : List Int} (h : SlCap w x l) (hb : Below w.heap.size w w') : SlCap w' x l := ⟨h.arg.below hb, h.cap⟩
theorem arnd_bd (z : Int) (q : Nat) (hq : 0 < q) : 0 ≤ arnd z q ∧ arnd z q < q := by
  unfold arnd
  exact ⟨Int.emod_nonneg _ (by omega), Int.emod_lt_of_pos _ (by omega)⟩
set_option maxHeartbeats 16000000 in
set_option maxRecDepth 1000000 in
theorem same_walk (hFL : FirstLaw) {w : World} {v v2 : Value} {l m : List Int} (h : SlArg w v l) (h2 : SlCap w v2 m) {ev en by' : Int} (hv : -9223372036854775808 ≤ ev ∧ ev ≤ 9223372036854775807) (hn : -9223372036854775808 ≤ en ∧ en ≤ 9223372036854775807) (hb : -9223372036854775808 ≤ by' ∧ by' ≤ 9223372036854775807) :
    Calls Tryz.prog 5 #[v, v2, .int .i64 ev, .int .i64 en, .int .i64 by'] w fun e w' => e = .returned (.bool true) ∧ Below w.heap.size w w' := by
  have hmade := made_walk h 0 (by omega)
  obtain ⟨ea, eb⟩ := arnd_bd ev 3 (by omega)
  obtain ⟨e3, he3⟩ : ∃ e3 : Nat, arnd ev 3 = e3 := Int.eq_ofNat_of_zero_le ea
  obtain ⟨fa, fb⟩ := arnd_bd en 5 (by omega)
  obtain ⟨e5, he5⟩ : ∃ e5 : Nat, arnd en 5 = e5 := Int.eq_ofNat_of_zero_le fa
  have he3b : e3 < 3 := by omega
  have he5b : e5 < 5 := by omega
  have hE3 : ∀ w', Calls Tryz.prog 18 #[.int .i64 ev, .int .i64 3] w' fun e w1 => e = .returned (.int .i64 (e3 : Int)) ∧ w' = w1 := fun w' => by
    refine Calls.mono (around_walk ev 3 w' (by omega) hv.1 hv.2 (by omega)) ?_
    rintro e w1 ⟨rfl, rfl⟩
    rw [he3]; exact ⟨rfl, rfl⟩
  have hE5 : ∀ w', Calls Tryz.prog 18 #[.int .i64 en, .int .i64 5] w' fun e w1 => e = .returned (.int .i64 (e5 : Int)) ∧ w' = w1 := fun w' => by
    refine Calls.mono (around_walk en 5 w' (by omega) hn.1 hn.2 (by omega)) ?_
    rintro e w1 ⟨rfl, rfl⟩
    rw [he5]; exact ⟨rfl, rfl⟩
  have hNums : Nums (1 + (e3 : Int)) 0 (1 + (e5 : Int)) := by unfold Nums; omega
  clear ea eb fa fb he3 he5
  obtain ⟨i0, hi0, hz0, hz1, hz2⟩ := info_parts info27
  clear h
  go_enter Tryz.func5, Tryz.ntmps5
  go_wp2_with (go_at_call 14; refine hmade.mono ?_; clear hmade; rintro _ w1 ⟨v1, rs, rfl, hown1, hG, hk8, hb1⟩; obtain ⟨a1, c1, rfl, ha1⟩ := owns_shape hown1; have hlen := hG.len)
  obtain ⟨na, nb⟩ := arnd_bd by' (rs.length + 1) (by omega)
  obtain ⟨n, hne⟩ : ∃ n : Nat, arnd by' (rs.length + 1) = n := Int.eq_ofNat_of_zero_le na
  have hnl : n ≤ rs.length := by omega
  have har := around_walk by' (rs.length + 1) w1 (by omega) hb.1 hb.2 (by omega)
  rw [hne] at har
  simp only [Int.natCast_add, Int.cast_ofNat_Int] at har
  go_at_call 18
  refine har.mono ?_
  clear har
  rintro _ w1b ⟨rfl, rfl⟩
  dsimp only
  obtain ⟨ra, rb, hab, hra⟩ : ∃ ra rb, rs = ra ++ rb ∧ ra.length = n := ⟨rs.take n, rs.drop n, (List.take_append_drop n rs).symm, by rw [List.length_take]; omega⟩
  have hrb : rb.length = rs.length - n := by rw [hab, List.length_append]; omega
  clear na nb hne
  have hs1 := hb1.size
  have hsh : (a1 = none ∧ rs.length = 0 ∧ c1 = 0) ∨ ∃ g, a1 = some ⟨g, 0, none⟩ ∧ rs.length ≤ c1 ∧ c1 ≤ maxLen ∧ g < w1b.heap.size := by
    rcases hown1.2 with ⟨e, h0⟩ | ⟨g, cap, cur, e, _, h3, h4, h5, _⟩
    · injection e with e1 e2 e3
      exact .inl ⟨e1, h0, e3⟩
    · injection e with e1 e2 e3
      subst e3
      exact .inr ⟨g, e1, h4, h5, (Array.getElem?_eq_some_iff.1 h3).1⟩
  rcases hsh with ⟨rfl, z1, rfl⟩ | ⟨g, rfl, z1, z2, hg⟩
  · have hn0 : n = 0 := by omega
    have hb0 : rb.length = 0 := by omega
    have ha0 : ra.length = 0 := by omega
    subst hn0
    rw [z1] at hown1 ⊢
    have hrs0 : rs = [] := List.length_eq_zero_iff.1 z1
    have MA : Hid True := trivial
    have hOwnA := World.ownsRow_nil w1b w1b.heap.size 27 3
    go_wp2_with (first
      | (at_builtin; refine wpList_append_any rfl _ _ 23 rfl i0 _ 40 Tryz.underlying23 hi0 hz0 hz1 hz2 rfl (by decide) _ 0 [] rfl hOwnA _ 0 [] rfl (.inl ⟨rfl, rfl⟩) rfl (by simp) (by unfold maxLen; omega) (by omega) (Nat.le_refl _) ?_; clear hOwnA MA; intro vf1 w2 hf1 hg1; have hgs1 := hg1.size)
      | (at_builtin; refine wpList_append_any rfl _ _ 23 rfl i0 _ 40 Tryz.underlying23 hi0 hz0 hz1 hz2 rfl (by decide) _ 0 [] rfl hf1 _ 0 [] rfl (.inl ⟨rfl, rfl⟩) rfl (by simp) (by unfold maxLen; omega) (by omega) hgs1 ?_; intro vf2 w3 hf2 hg2))
    have hB3 : Below w1b.heap.size w1b w3 := ((Below.refl _ _).grown hg1 (Nat.le_refl _) (fun k hk => by cases hk)).grown hg2 hgs1 (fun k hk => (World.ownsRow.lt hf1 k hk).1)
    have hra0 : ra = [] := List.length_eq_zero_iff.1 ha0
    have hrb0 : rb = [] := List.length_eq_zero_iff.1 hb0
    have hO1 : w3.ownsRow w.heap.size 27 3 (.slice none 0 0) (ra ++ rb).length ((ra ++ rb).flatMap Rl.cells) := by rw [hra0, hrb0]; exact World.ownsRow_nil _ _ _ _
    have hO2 : w3.ownsRow w1b.heap.size 27 3 vf2 (rb ++ ra).length ((rb ++ ra).flatMap Rl.cells) := by rw [hra0, hrb0]; exact hf2
    have hG2 : Good (ra ++ rb) := by rw [hab] at hG; exact hG
    have hk2 : ∀ r ∈ ra ++ rb, r.k < 8 := by rw [← hab]; exact hk8
    clear hrs0 hra0 hrb0 ha0 hb0 hra hrb hab
    have hW3 : Below w.heap.size w w3 := hb1.trans (hB3.mono hs1)
    have hs3 := hB3.size
    have hownA := own_walk hO1 hG2
    go_wp2_with (first
      | (go_at_call 10; refine hownA.mono ?_; clear hownA; rintro _ w4 ⟨b1, M1, rfl, hb4, hM1, hS1⟩; have hownB := own_walk (owns_below hO2 hb4) hG2.turn)
      | (go_at_call 10; refine hownB.mono ?_; clear hownB; rintro _ w5 ⟨b2, M2, rfl, hb5, hM2, hS2⟩; have hnew := new_walk (hS1.bel (Bel.of hb5) (Nat.le_refl _)) hS2 hb5.size (Nat.le_refl _) hG2.len hG2.turn.len (fun r hr => by rcases List.mem_append.1 hr with hr | hr; exact (hG2.each r hr).2.2.2; exact (hG2.turn.each r hr).2.2.2) hNums)
      | (go_at_call 18; refine (hE3 _).mono ?_; clear hE3; rintro _ wx ⟨rfl, rfl⟩)
      | (go_at_call 18; refine (hE5 _).mono ?_; clear hE5; rintro _ wx ⟨rfl, rfl⟩)
      | (go_at_call 9; refine hnew.mono ?_; clear hnew; rintro _ w6 ⟨cb, bm, vn, ns, rfl, hb6, hcb, hC, hbm, hbmge, hnames, hnl, hnsz, _⟩; have hW6 : Below w.heap.size w w6 := ((hW3.trans (hb4.mono (by omega))).trans (hb5.mono (by have := hb4.size; omega))).trans (hb6.mono (by have := hb4.size; have := hb5.size; omega)); have htx := texts_walk (h2.below hW6))
      | (go_at_call 11; refine htx.mono ?_; clear htx; rintro _ w7 ⟨vt, ts, rfl, hT, htl, hb7⟩; obtain ⟨at', ct, rfl, _⟩ := owns_shape hT.row))
    have s4 := hb4.size
    have s5 := hb5.size
    have s6 := hb6.size
    have s7 := hb7.size
    obtain ⟨M, hMdef⟩ : ∃ M : Nat → Prop, M = fun k => M1 k ∨ M2 k := ⟨_, rfl⟩
    have hMr : ∀ k, M k → w3.heap.size ≤ k ∧ k < w5.heap.size := fun k hk => by
      rw [hMdef] at hk
      rcases hk with hk | hk
      · have := hM1 k hk; omega
      · have := hM2 k hk; omega
    have hSa7 : SetAt M w3.heap.size w4.heap.size w7 b1 (ra ++ rb) := (hS1.more fun c c1 c2 => by
      rw [hMdef]
      exact ⟨fun h => h.elim id fun h2 => by have := hM2 c h2; omega, .inl⟩).bel (Bel.of ((hb5.trans (hb6.mono (by omega))).trans (hb7.mono (by omega)))) (Nat.le_refl _)
    have hSb7 : SetAt M w4.heap.size w5.heap.size w7 b2 (rb ++ ra) := (hS2.more fun c c1 c2 => by
      rw [hMdef]
      exact ⟨fun h => h.elim (fun h2 => by have := hM1 c h2; omega) id, .inr⟩).bel (Bel.of (hb6.trans (hb7.mono (by omega)))) (Nat.le_refl _)
    have hOK7 : CanOK M w7 cb b1 b2 ⟨b1, b2, 1 + (e3 : Int), 0, 1 + (e5 : Int), 0, 0, 0, vn, .map (some bm), .slice none 0 0⟩ := by
      refine ⟨hC.below hb7, rfl, rfl, fun e => by have := (hMr cb e).2; omega, ⟨bm, rfl, fun e => by have := (hMr bm e).2; omega, fun e => ?_, hbm.same (hb7.block bm hbm.lt)⟩, w5.heap.size, ns, owns_below hnames hb7, fun k hk => (hMr k hk).2, fun e => not_row hnames hC (by decide) e.symm, by omega, hnsz⟩
      subst e
      obtain ⟨ms, cl, h0, _⟩ := hbm
      have h9 := hC
      unfold CanAt at h9
      rw [h9] at h0
      cases h0
    have hst7 : CanSt ⟨b1, b2, 1 + (e3 : Int), 0, 1 + (e5 : Int), 0, 0, 0, vn, .map (some bm), .slice none 0 0⟩ 0 := ⟨⟨by show 1 ≤ 1 + (e3 : Int); omega, by show 1 + (e3 : Int) ≤ 1000; omega⟩, rfl, by show 1 ≤ 1 + (e5 : Int); omega, ⟨Int.le_refl _, Int.le_refl _⟩, ⟨Int.le_refl _, Int.le_refl _⟩, rfl, rfl⟩
    have hW7 : Below w.heap.size w w7 := hW6.trans (hb7.mono hW6.size)
    have hlen2 := hG2.len
    have hsz2 : ∀ r ∈ ra ++ rb, r.name.size ≤ maxLen := fun r hr => (hG2.each r hr).2.2.2
    have hnd2 := hG2.nodup
    have hwsz := hW3.size
    clear hS1 hS2 hM1 hM2 hC hbm hnames hnsz hO1 hO2 hB3 hb4 hb5 hb6 hb7 hG2 hW6 hW3 h2 hG hk8 hown1 hNums
    go_loopw [17] (fun i wr => ∃ (j : Nat) (C : Can), j ≤ ts.length ∧ i = .int .i64 j ∧ CanOK M wr cb b1 b2 C ∧ CanSt C j ∧ SetAt M w3.heap.size w4.heap.size wr b1 (ra ++ rb) ∧ SetAt M w4.heap.size w5.heap.size wr b2 (rb ++ ra) ∧ TextsAt wr w6.heap.size (.slice at' ts.length ct) ts ∧ Below w.heap.size w wr ∧ w7.heap.size ≤ wr.heap.size) (fun i _ => ts.length - (intOf i).toNat)
    case atStart => exact ⟨0, _, Nat.zero_le _, rfl, hOK7, hst7, hSa7, hSb7, hT, hW7, Nat.le_refl _⟩
    case round =>
      obtain ⟨j, C, hj, rfl, hOK, hst, hSa, hSb, hTr, hbel, hsz⟩ := hrel
      by_cases hjl : j < ts.length
      · obtain ⟨q1, q2, q3, q4, pa, pc, q5⟩ := hTr.each ts[j] (List.getElem_mem hjl)
        obtain ⟨t, ht⟩ : ∃ t, ts[j].2 = t := ⟨_, rfl⟩
        rw [ht] at q1 q2 q3 q4 q5
        rw [q5] at q1
        obtain ⟨tb, rfl, htb1, htb2⟩ : ∃ tb, pa = some ⟨tb, 0, none⟩ ∧ w6.heap.size ≤ tb ∧ tb < wr.heap.size := by
          rcases q1.2 with ⟨e, h0⟩ | ⟨g', cap', cur', e, h1', h3', _⟩
          · omega
          · injection e with e1 _ _
            exact ⟨g', e1, h1', (Array.getElem?_eq_some_iff.1 h3').1⟩
        obtain ⟨F, hF0, hFl⟩ := hFL t q2 q3 q4
        have hrow := hTr.row
        obtain ⟨gt, hgt⟩ : ∃ gt, at' = some ⟨gt, 0, none⟩ := by
          rcases hrow.2 with ⟨e, h0⟩ | ⟨g', cap', cur', e, _⟩
          · omega
          · injection e with e1 _ _
            exact ⟨g', e1⟩
        subst hgt
        have ct' : wr.cell? ⟨gt, j, none⟩ = some (.slice (some ⟨tb, 0, none⟩) t.length pc) := by
          rw [hrow.cellAt j (by omega), List.getElem?_map, List.getElem?_eq_getElem hjl]
          exact congrArg some q5
        have hltg := (World.ownsRow.lt hrow gt rfl)
        clear q5 ht hrow
        have hMw : ∀ k, M k → k < wr.heap.size := fun k hk => by have := hMr k hk; omega
        have hvb := verdict_range C.most C.enough C.compared C.unlike
        have hv2 : verdict C.most C.enough C.compared C.unlike ≠ 2 := by
          rw [hst.mo, hst.un]
          unfold verdict
          rw [if_neg (by omega)]
          split <;> omega
        have hv1 := verdict_walk (hOK.at'.cell 3) (hOK.at'.cell 4) (hOK.at'.cell 6) (hOK.at'.cell 7)
        obtain ⟨V, hV⟩ : ∃ V, verdict C.most C.enough C.compared C.unlike = V := ⟨_, rfl⟩
        rw [hV] at hvb hv2 hv1
        have HV : Hid (verdict C.most C.enough C.compared C.unlike = V) := hV
        clear hV
        have hkey : ∀ w', Below wr.heap.size wr w' → Calls Tryz.prog 12 #[.pointer (some ⟨cb, 0, none⟩), .slice (some ⟨tb, 0, none⟩) t.length pc, .int .i64 2000] w' fun e w2 => ∃ (x : Bool) (er : Int) (C' : Can), e = .returned (.tuple #[.bool x, .bool x, .int .i64 er]) ∧ BelBut M cb w' w2 ∧ CanOK M w2 cb b1 b2 C' ∧ CanSt C' (j + 1) ∧ ((V = 0 ∧ er = 0) ∨ (V ≠ 0 ∧ er = 20 ∧ C' = C)) := fun w' hw' => by
          have hs' := hw'.size
          have hF1 := hFl M w3.heap.size w4.heap.size w' (ra ++ rb) tb pc w6.heap.size (fun k hk => Nat.lt_of_lt_of_le (hMw k hk) hs') (by omega) hk2 (.inr (by omega)) (fun e => by have := hMr _ e; omega) (owns_below q1 hw')
          have hF2 := hFl M w4.heap.size w5.heap.size w' (rb ++ ra) tb pc w6.heap.size (fun k hk => Nat.lt_of_lt_of_le (hMw k hk) hs') (by omega) (fun r hr => hk2 r (by simp at hr ⊢; exact hr.symm)) (.inr (by omega)) (fun e => by have := hMr _ e; omega) (owns_below q1 hw')
          have := see_turn (i := j) (fun k hk => Nat.lt_of_lt_of_le (hMw k hk) hs') (hSa.bel (Bel.of hw') (by omega)) (hSb.bel (Bel.of hw') (by omega)) (by omega) (by omega) hlen2 hsz2 hnd2 (hOK.bel (.of hw')) hst (by omega) (by omega) (fun r hr f => hF0 r.k f) hF1 hF2
          rw [HV.out] at this
          exact this
        have hgm : ¬ M gt := fun e => by have := hMr _ e; omega
        obtain ⟨cse, cco, cun, hcs⟩ : ∃ a b c, C.seen = a ∧ C.compared = b ∧ C.unlike = c := ⟨_, _, _, rfl, rfl, rfl⟩
        have hct := fun w' (hw' : Below wr.heap.size wr w') => counts_walk (w := w') (s := C.seen) (c := C.compared) (u := C.unlike) ((hOK.bel (.of hw')).at'.cell 5) ((hOK.bel (.of hw')).at'.cell 6) ((hOK.bel (.of hw')).at'.cell 7)
        have hVV : V = 0 ∨ V = 1 := by omega
        rcases hVV with rfl | rfl
        · go_wp2_with (first
            | (go_at_call 19; refine hv1.mono ?_; clear hv1; rintro _ w8 ⟨rfl, hb8⟩; have hct8 := hct w8 hb8)
            | (go_at_call 17; refine hct8.mono ?_; clear hct8; rintro _ w9 ⟨rfl, hb9⟩; have hB9 : Below wr.heap.size wr w9 := hb8.trans (hb9.mono hb8.size); have ct9 := (hB9.cell (p := ⟨gt, j, none⟩) hltg.2).trans ct'; have hk9 := hkey w9 hB9)
            | (go_at_call 12; refine hk9.mono ?_; clear hk9 hkey; rintro _ w10 ⟨x, er, C', rfl, hb10, hOK', hst', hor⟩))
          have hC9 := (hOK.bel (.of hB9)).at'
          have hvb' := verdict_range C'.most C'.enough C'.compared C'.unlike
          have hv2' : verdict C'.most C'.enough C'.compared C'.unlike ≠ 2 := by
            rw [hst'.mo, hst'.un]
            unfold verdict
            rw [if_neg (by omega)]
            split <;> omega
          obtain ⟨V', hV'⟩ : ∃ V', verdict C'.most C'.enough C'.compared C'.unlike = V' := ⟨_, rfl⟩
          have hvw := fun w' (hw' : Below w10.heap.size w10 w') => verdict_walk (w := w') ((hOK'.bel (.of hw')).at'.cell 3) ((hOK'.bel (.of hw')).at'.cell 4) ((hOK'.bel (.of hw')).at'.cell 6) ((hOK'.bel (.of hw')).at'.cell 7)
          rw [hV'] at hvb' hv2' hvw
          have HV' : Hid (verdict C'.most C'.enough C'.compared C'.unlike = V') := hV'
          clear hV'
          have hcw := counts_walk (w := w10) (s := C'.seen) (c := C'.compared) (u := C'.unlike) (hOK'.at'.cell 5) (hOK'.at'.cell 6) (hOK'.at'.cell 7)
          have h9s := hB9.size
          have h10s := hb10.size
          have hE : ∀ wE, Below w10.heap.size w10 wE → CanOK M wE cb b1 b2 C' ∧ SetAt M w3.heap.size w4.heap.size wE b1 (ra ++ rb) ∧ SetAt M w4.heap.size w5.heap.size wE b2 (rb ++ ra) ∧ TextsAt wE w6.heap.size (.slice (some ⟨gt, 0, none⟩) ts.length ct) ts ∧ Below w.heap.size w wE ∧ w7.heap.size ≤ wE.heap.size := fun wE hbE => by
            have hEs := hbE.size
            have hM5 : Bel M w5.heap.size w9 w10 := (Bel.refl M w5.heap.size w9).but hb10 (by omega) hcb
            refine ⟨hOK'.bel (.of hbE), ((hSa.bel (Bel.of hB9) (by omega)).bel hM5 (by omega)).bel (Bel.of hbE) (by omega), ((hSb.bel (Bel.of hB9) (by omega)).bel hM5 (Nat.le_refl _)).bel (Bel.of hbE) (by omega), ((hTr.bel hB9).but hb10 (fun k hk => by have := hMr k hk; omega) hC9).bel hbE, ?_, by omega⟩
            have hBw : Below w.heap.size w9 w10 := ((Bel.refl M w.heap.size w9).but hb10 (by omega) (by omega)).below fun k hk => by have := hMr k hk; omega
            exact ((hbel.trans (hB9.mono (by omega))).trans hBw).trans (hbE.mono (by omega))
          have her : er = 0 := hor.elim (fun h => h.2) (fun h => absurd rfl h.1)
          subst her
          clear hor hcs
          have hVV' : V' = 0 ∨ V' = 1 := by omega
          rcases hVV' with rfl | rfl
          · go_wp2_with (first
              | (go_at_call 17; refine hcw.mono ?_; clear hcw; rintro _ w11 ⟨rfl, hb11⟩; have hv11 := hvw w11 hb11)
              | (go_at_call 19; refine hv11.mono ?_; clear hv11; rintro _ w12 ⟨rfl, hb12⟩; have hb12' : Below w10.heap.size w10 w12 := hb11.trans (hb12.mono hb11.size); have hv12 := hvw w12 hb12')
              | (go_at_call 19; refine hv12.mono ?_; clear hv12; rintro _ w13 ⟨rfl, hb13⟩; have hb13' : Below w10.heap.size w10 w13 := hb12'.trans (hb13.mono hb12'.size)))
            go_roundw
            case rel =>
              obtain ⟨z1, z2, z3, z4, z5, z6⟩ := hE _ hb12'
              exact ⟨j + 1, C', hjl, by go_num, z1, hst', z2, z3, z4, z5, z6⟩
            case measure => simp [intOf]; omega
          · go_wp2_with (first
              | (go_at_call 17; refine hcw.mono ?_; clear hcw; rintro _ w11 ⟨rfl, hb11⟩; have hv11 := hvw w11 hb11)
              | (go_at_call 19; refine hv11.mono ?_; clear hv11; rintro _ w12 ⟨rfl, hb12⟩; have hb12' : Below w10.heap.size w10 w12 := hb11.trans (hb12.mono hb11.size); have hv12 := hvw w12 hb12')
              | (go_at_call 19; refine hv12.mono ?_; clear hv12; rintro _ w13 ⟨rfl, hb13⟩; have hb13' : Below w10.heap.size w10 w13 := hb12'.trans (hb13.mono hb12'.size)))
            go_roundw
            case rel =>
              obtain ⟨z1, z2, z3, z4, z5, z6⟩ := hE _ hb12'
              exact ⟨j + 1, C', hjl, by go_num, z1, hst', z2, z3, z4, z5, z6⟩
            case measure => simp [intOf]; omega
        · go_wp2_with (first
            | (go_at_call 19; refine hv1.mono ?_; clear hv1; rintro _ w8 ⟨rfl, hb8⟩; have hct8 := hct w8 hb8)
            | (go_at_call 17; refine hct8.mono ?_; clear hct8; rintro _ w9 ⟨rfl, hb9⟩; have hB9 : Below wr.heap.size wr w9 := hb8.trans (hb9.mono hb8.size); have ct9 := (hB9.cell (p := ⟨gt, j, none⟩) hltg.2).trans ct'; have hk9 := hkey w9 hB9)
            | (go_at_call 12; refine hk9.mono ?_; clear hk9 hkey; rintro _ w10 ⟨x, er, C', rfl, hb10, hOK', hst', hor⟩))
          have hC9 := (hOK.bel (.of hB9)).at'
          have hvb' := verdict_range C'.most C'.enough C'.compared C'.unlike
          have hv2' : verdict C'.most C'.enough C'.compared C'.unlike ≠ 2 := by
            rw [hst'.mo, hst'.un]
            unfold verdict
            rw [if_neg (by omega)]
            split <;> omega
          obtain ⟨V', hV'⟩ : ∃ V', verdict C'.most C'.enough C'.compared C'.unlike = V' := ⟨_, rfl⟩
          have hvw := fun w' (hw' : Below w10.heap.size w10 w') => verdict_walk (w := w') ((hOK'.bel (.of hw')).at'.cell 3) ((hOK'.bel (.of hw')).at'.cell 4) ((hOK'.bel (.of hw')).at'.cell 6) ((hOK'.bel (.of hw')).at'.cell 7)
          rw [hV'] at hvb' hv2' hvw
          have HV' : Hid (verdict C'.most C'.enough C'.compared C'.unlike = V') := hV'
          clear hV'
          have hcw := counts_walk (w := w10) (s := C'.seen) (c := C'.compared) (u := C'.unlike) (hOK'.at'.cell 5) (hOK'.at'.cell 6) (hOK'.at'.cell 7)
          have h9s := hB9.size
          have h10s := hb10.size
          have hE : ∀ wE, Below w10.heap.size w10 wE → CanOK M wE cb b1 b2 C' ∧ SetAt M w3.heap.size w4.heap.size wE b1 (ra ++ rb) ∧ SetAt M w4.heap.size w5.heap.size wE b2 (rb ++ ra) ∧ TextsAt wE w6.heap.size (.slice (some ⟨gt, 0, none⟩) ts.length ct) ts ∧ Below w.heap.size w wE ∧ w7.heap.size ≤ wE.heap.size := fun wE hbE => by
            have hEs := hbE.size
            have hM5 : Bel M w5.heap.size w9 w10 := (Bel.refl M w5.heap.size w9).but hb10 (by omega) hcb
            refine ⟨hOK'.bel (.of hbE), ((hSa.bel (Bel.of hB9) (by omega)).bel hM5 (by omega)).bel (Bel.of hbE) (by omega), ((hSb.bel (Bel.of hB9) (by omega)).bel hM5 (Nat.le_refl _)).bel (Bel.of hbE) (by omega), ((hTr.bel hB9).but hb10 (fun k hk => by have := hMr k hk; omega) hC9).bel hbE, ?_, by omega⟩
            have hBw : Below w.heap.size w9 w10 := ((Bel.refl M w.heap.size w9).but hb10 (by omega) (by omega)).below fun k hk => by have := hMr k hk; omega
            exact ((hbel.trans (hB9.mono (by omega))).trans hBw).trans (hbE.mono (by omega))
          have her : er = 20 ∧ C' = C := hor.elim (fun h => absurd h.1 (by decide)) (fun h => h.2)
          obtain ⟨rfl, hCC⟩ := her
          subst hCC
          have hV1 : V' = 1 := HV'.out.symm.trans HV.out
          subst hV1
          clear hor
          go_wp2_with (first
            | (go_at_call 17; refine hcw.mono ?_; clear hcw; rintro _ w11 ⟨rfl, hb11⟩; have hv11 := hvw w11 hb11)
            | (go_at_call 19; refine hv11.mono ?_; clear hv11; rintro _ w12 ⟨rfl, hb12⟩; have hb12' : Below w10.heap.size w10 w12 := hb11.trans (hb12.mono hb11.size); have hv12 := hvw w12 hb12')
            | (go_at_call 19; refine hv12.mono ?_; clear hv12; rintro _ w13 ⟨rfl, hb13⟩; have hb13' : Below w10.heap.size w10 w13 := hb12'.trans (hb13.mono hb12'.size)))
          go_roundw
          case rel =>
            obtain ⟨z1, z2, z3, z4, z5, z6⟩ := hE _ hb13'
            exact ⟨j + 1, C', hjl, by go_num, z1, hst', z2, z3, z4, z5, z6⟩
          case measure => simp [intOf]; omega
      · have hje : j = ts.length := by omega
        subst hje
        have hun := unlike_walk (cb := cb) (w := wr) (by rw [hOK.at'.cell 10]; simp [Can.cells, hst.ca])
        go_wp2_with (first
          | (go_at_call 20; refine hun.mono ?_; clear hun; rintro _ w8 ⟨rfl, hb8⟩; have hliv := lives_walk w8)
          | (go_at_call 13; refine hliv.mono ?_; clear hliv; rintro _ w9 ⟨rfl, hb9⟩))
        go_ret
        have s8 := hb8.size
        exact ⟨rfl, (hbel.trans (hb8.mono hbel.size)).trans (hb9.mono (by have := hbel.size; omega))⟩
  · have hmax : c1 ≤ 9223372036854775807 := by unfold maxLen at z2; omega
    have hq1 : (0 : Int) ≤ (n : Int) := Int.natCast_nonneg _
    have hq2 : (n : Int) ≤ (rs.length : Int) := by omega
    have hq3 : (rs.length : Int) ≤ (c1 : Int) := by omega
    obtain ⟨pc1, pc2⟩ := part_cells hown1 hab
    rw [hra] at pc1
    have hOwnA := World.ownsRow_nil w1b w1b.heap.size 27 3
    have hltv := World.ownsRow.lt hown1 g rfl
    have HAB : Hid (rs = ra ++ rb) := hab
    have HRA : Hid (ra.length = n) := hra
    have HRB : Hid (rb.length = rs.length - n) := hrb
    by_cases hcn : c1 = n
    · have hnr : n = rs.length := by omega
      have hb0 : rb = [] := List.length_eq_zero_iff.1 (by omega)
      have pc0 : ∀ j y, (rb.flatMap Rl.cells)[j]? = some y → w1b.cell? ((⟨g, 0, none⟩ : Addr).add j) = some y := fun j y hy => by rw [hb0] at hy; simp at hy
      subst hcn
      have HB0 : Hid (rb.length = 0) := by show _ = _; rw [hb0]; rfl
      clear hab hra hrb hnr hb0
      go_wp2_with (first
        | (at_builtin; refine wpList_append_any rfl _ _ 23 rfl i0 _ 40 Tryz.underlying23 hi0 hz0 hz1 hz2 rfl (by decide) _ 0 [] rfl hOwnA _ _ (rb.flatMap Rl.cells) rfl (.inr ⟨_, _, rfl, pc0⟩) (by rw [rl_len, HB0.out]) (rl_one rb) (by unfold maxLen; omega) (by omega) (Nat.le_refl _) ?_; clear hOwnA; intro vf1 w2 hf1 hg1; have hgs1 := hg1.size; have hB1 : Below w1b.heap.size w1b w2 := (Below.refl _ _).grown hg1 (Nat.le_refl _) (fun k hk => by cases hk); have pd2 := (part_cells (owns_below hown1 hB1) HAB.out).2)
        | (at_builtin; refine wpList_append_any rfl _ _ 23 rfl i0 _ 40 Tryz.underlying23 hi0 hz0 hz1 hz2 rfl (by decide) _ _ _ rfl hf1 _ _ (ra.flatMap Rl.cells) rfl (.inr ⟨_, _, rfl, pd2⟩) (by rw [rl_len, HRA.out]) (rl_one ra) (by unfold maxLen; omega) (by omega) hgs1 ?_; intro vf2 w3 hf2 hg2))
      have hB3 : Below w1b.heap.size w1b w3 := hB1.grown hg2 hgs1 (fun k hk => (World.ownsRow.lt hf1 k hk).1)
      have hO1 : w3.ownsRow w.heap.size 27 3 (.slice (some ⟨g, 0, none⟩) rs.length c1) (ra ++ rb).length ((ra ++ rb).flatMap Rl.cells) := by rw [← HAB.out]; exact owns_below hown1 hB3
      have hO2 : w3.ownsRow w1b.heap.size 27 3 vf2 (rb ++ ra).length ((rb ++ ra).flatMap Rl.cells) := by
        rw [List.length_append, HRA.out, HB0.out, List.flatMap_append]
        simpa using hf2
      have hG2 : Good (ra ++ rb) := by rw [← HAB.out]; exact hG
      have hk2 : ∀ r ∈ ra ++ rb, r.k < 8 := by rw [← HAB.out]; exact hk8
      have hW3 : Below w.heap.size w w3 := hb1.trans (hB3.mono hs1)
      have hs3 := hB3.size
      have hownA := own_walk hO1 hG2
      go_wp2_with (first
        | (go_at_call 10; refine hownA.mono ?_; clear hownA; rintro _ w4 ⟨b1, M1, rfl, hb4, hM1, hS1⟩; have hownB := own_walk (owns_below hO2 hb4) hG2.turn)
        | (go_at_call 10; refine hownB.mono ?_; clear hownB; rintro _ w5 ⟨b2, M2, rfl, hb5, hM2, hS2⟩; have hnew := new_walk (hS1.bel (Bel.of hb5) (Nat.le_refl _)) hS2 hb5.size (Nat.le_refl _) hG2.len hG2.turn.len (fun r hr => by rcases List.mem_append.1 hr with hr | hr; exact (hG2.each r hr).2.2.2; exact (hG2.turn.each r hr).2.2.2) hNums)
        | (go_at_call 18; refine (hE3 _).mono ?_; clear hE3; rintro _ wx ⟨rfl, rfl⟩)
        | (go_at_call 18; refine (hE5 _).mono ?_; clear hE5; rintro _ wx ⟨rfl, rfl⟩)
        | (go_at_call 9; refine hnew.mono ?_; clear hnew; rintro _ w6 ⟨cb, bm, vn, ns, rfl, hb6, hcb, hC, hbm, hbmge, hnames, hnl, hnsz, _⟩; have hW6 : Below w.heap.size w w6 := ((hW3.trans (hb4.mono (by omega))).trans (hb5.mono (by have := hb4.size; omega))).trans (hb6.mono (by have := hb4.size; have := hb5.size; omega)); have htx := texts_walk (h2.below hW6))
        | (go_at_call 11; refine htx.mono ?_; clear htx; rintro _ w7 ⟨vt, ts, rfl, hT, htl, hb7⟩; obtain ⟨at', ct, rfl, _⟩ := owns_shape hT.row))
      have s4 := hb4.size
      have s5 := hb5.size
      have s6 := hb6.size
      have s7 := hb7.size
      obtain ⟨M, hMdef⟩ : ∃ M : Nat → Prop, M = fun k => M1 k ∨ M2 k := ⟨_, rfl⟩
      have hMr : ∀ k, M k → w3.heap.size ≤ k ∧ k < w5.heap.size := fun k hk => by
        rw [hMdef] at hk
        rcases hk with hk | hk
        · have := hM1 k hk; omega
        · have := hM2 k hk; omega
      have hSa7 : SetAt M w3.heap.size w4.heap.size w7 b1 (ra ++ rb) := (hS1.more fun c c1 c2 => by
        rw [hMdef]
        exact ⟨fun h => h.elim id fun h2 => by have := hM2 c h2; omega, .inl⟩).bel (Bel.of ((hb5.trans (hb6.mono (by omega))).trans (hb7.mono (by omega)))) (Nat.le_refl _)
      have hSb7 : SetAt M w4.heap.size w5.heap.size w7 b2 (rb ++ ra) := (hS2.more fun c c1 c2 => by
        rw [hMdef]
        exact ⟨fun h => h.elim (fun h2 => by have := hM1 c h2; omega) id, .inr⟩).bel (Bel.of (hb6.trans (hb7.mono (by omega)))) (Nat.le_refl _)
      have hOK7 : CanOK M w7 cb b1 b2 ⟨b1, b2, 1 + (e3 : Int), 0, 1 + (e5 : Int), 0, 0, 0, vn, .map (some bm), .slice none 0 0⟩ := by
        refine ⟨hC.below hb7, rfl, rfl, fun e => by have := (hMr cb e).2; omega, ⟨bm, rfl, fun e => by have := (hMr bm e).2; omega, fun e => ?_, hbm.same (hb7.block bm hbm.lt)⟩, w5.heap.size, ns, owns_below hnames hb7, fun k hk => (hMr k hk).2, fun e => not_row hnames hC (by decide) e.symm, by omega, hnsz⟩
        subst e
        obtain ⟨ms, cl, h0, _⟩ := hbm
        have h9 := hC
        unfold CanAt at h9
        rw [h9] at h0
        cases h0
      have hst7 : CanSt ⟨b1, b2, 1 + (e3 : Int), 0, 1 + (e5 : Int), 0, 0, 0, vn, .map (some bm), .slice none 0 0⟩ 0 := ⟨⟨by show 1 ≤ 1 + (e3 : Int); omega, by show 1 + (e3 : Int) ≤ 1000; omega⟩, rfl, by show 1 ≤ 1 + (e5 : Int); omega, ⟨Int.le_refl _, Int.le_refl _⟩, ⟨Int.le_refl _, Int.le_refl _⟩, rfl, rfl⟩
      have hW7 : Below w.heap.size w w7 := hW6.trans (hb7.mono hW6.size)
      have hlen2 := hG2.len
      have hsz2 : ∀ r ∈ ra ++ rb, r.name.size ≤ maxLen := fun r hr => (hG2.each r hr).2.2.2
      have hnd2 := hG2.nodup
      have hwsz := hW3.size
      clear hS1 hS2 hM1 hM2 hC hbm hnames hnsz hO1 hO2 hB3 hb4 hb5 hb6 hb7 hG2 hW6 hW3 h2 hG hk8 hown1 hNums
      go_loopw [17] (fun i wr => ∃ (j : Nat) (C : Can), j ≤ ts.length ∧ i = .int .i64 j ∧ CanOK M wr cb b1 b2 C ∧ CanSt C j ∧ SetAt M w3.heap.size w4.heap.size wr b1 (ra ++ rb) ∧ SetAt M w4.heap.size w5.heap.size wr b2 (rb ++ ra) ∧ TextsAt wr w6.heap.size (.slice at' ts.length ct) ts ∧ Below w.heap.size w wr ∧ w7.heap.size ≤ wr.heap.size) (fun i _ => ts.length - (intOf i).toNat)
      case atStart => exact ⟨0, _, Nat.zero_le _, rfl, hOK7, hst7, hSa7, hSb7, hT, hW7, Nat.le_refl _⟩
      case round =>
        obtain ⟨j, C, hj, rfl, hOK, hst, hSa, hSb, hTr, hbel, hsz⟩ := hrel
        by_cases hjl : j < ts.length
        · obtain ⟨q1, q2, q3, q4, pa, pc, q5⟩ := hTr.each ts[j] (List.getElem_mem hjl)
          obtain ⟨t, ht⟩ : ∃ t, ts[j].2 = t := ⟨_, rfl⟩
          rw [ht] at q1 q2 q3 q4 q5
          rw [q5] at q1
          obtain ⟨tb, rfl, htb1, htb2⟩ : ∃ tb, pa = some ⟨tb, 0, none⟩ ∧ w6.heap.size ≤ tb ∧ tb < wr.heap.size := by
            rcases q1.2 with ⟨e, h0⟩ | ⟨g', cap', cur', e, h1', h3', _⟩
            · omega
            · injection e with e1 _ _
              exact ⟨g', e1, h1', (Array.getElem?_eq_some_iff.1 h3').1⟩
          obtain ⟨F, hF0, hFl⟩ := hFL t q2 q3 q4
          have hrow := hTr.row
          obtain ⟨gt, hgt⟩ : ∃ gt, at' = some ⟨gt, 0, none⟩ := by
            rcases hrow.2 with ⟨e, h0⟩ | ⟨g', cap', cur', e, _⟩
            · omega
            · injection e with e1 _ _
              exact ⟨g', e1⟩
          subst hgt
          have ct' : wr.cell? ⟨gt, j, none⟩ = some (.slice (some ⟨tb, 0, none⟩) t.length pc) := by
            rw [hrow.cellAt j (by omega), List.getElem?_map, List.getElem?_eq_getElem hjl]
            exact congrArg some q5
          have hltg := (World.ownsRow.lt hrow gt rfl)
          clear q5 ht hrow
          have hMw : ∀ k, M k → k < wr.heap.size := fun k hk => by have := hMr k hk; omega
          have hvb := verdict_range C.most C.enough C.compared C.unlike
          have hv2 : verdict C.most C.enough C.compared C.unlike ≠ 2 := by
            rw [hst.mo, hst.un]
            unfold verdict
            rw [if_neg (by omega)]
            split <;> omega
          have hv1 := verdict_walk (hOK.at'.cell 3) (hOK.at'.cell 4) (hOK.at'.cell 6) (hOK.at'.cell 7)
          obtain ⟨V, hV⟩ : ∃ V, verdict C.most C.enough C.compared C.unlike = V := ⟨_, rfl⟩
          rw [hV] at hvb hv2 hv1
          have HV : Hid (verdict C.most C.enough C.compared C.unlike = V) := hV
          clear hV
          have hkey : ∀ w', Below wr.heap.size wr w' → Calls Tryz.prog 12 #[.pointer (some ⟨cb, 0, none⟩), .slice (some ⟨tb, 0, none⟩) t.length pc, .int .i64 2000] w' fun e w2 => ∃ (x : Bool) (er : Int) (C' : Can), e = .returned (.tuple #[.bool x, .bool x, .int .i64 er]) ∧ BelBut M cb w' w2 ∧ CanOK M w2 cb b1 b2 C' ∧ CanSt C' (j + 1) ∧ ((V = 0 ∧ er = 0) ∨ (V ≠ 0 ∧ er = 20 ∧ C' = C)) := fun w' hw' => by
            have hs' := hw'.size
            have hF1 := hFl M w3.heap.size w4.heap.size w' (ra ++ rb) tb pc w6.heap.size (fun k hk => Nat.lt_of_lt_of_le (hMw k hk) hs') (by omega) hk2 (.inr (by omega)) (fun e => by have := hMr _ e; omega) (owns_below q1 hw')
            have hF2 := hFl M w4.heap.size w5.heap.size w' (rb ++ ra) tb pc w6.heap.size (fun k hk => Nat.lt_of_lt_of_le (hMw k hk) hs') (by omega) (fun r hr => hk2 r (by simp at hr ⊢; exact hr.symm)) (.inr (by omega)) (fun e => by have := hMr _ e; omega) (owns_below q1 hw')
            have := see_turn (i := j) (fun k hk => Nat.lt_of_lt_of_le (hMw k hk) hs') (hSa.bel (Bel.of hw') (by omega)) (hSb.bel (Bel.of hw') (by omega)) (by omega) (by omega) hlen2 hsz2 hnd2 (hOK.bel (.of hw')) hst (by omega) (by omega) (fun r hr f => hF0 r.k f) hF1 hF2
            rw [HV.out] at this
            exact this
          have hgm : ¬ M gt := fun e => by have := hMr _ e; omega
          obtain ⟨cse, cco, cun, hcs⟩ : ∃ a b c, C.seen = a ∧ C.compared = b ∧ C.unlike = c := ⟨_, _, _, rfl, rfl, rfl⟩
          have hct := fun w' (hw' : Below wr.heap.size wr w') => counts_walk (w := w') (s := C.seen) (c := C.compared) (u := C.unlike) ((hOK.bel (.of hw')).at'.cell 5) ((hOK.bel (.of hw')).at'.cell 6) ((hOK.bel (.of hw')).at'.cell 7)
          have hVV : V = 0 ∨ V = 1 := by omega
          rcases hVV with rfl | rfl
          · go_wp2_with (first
              | (go_at_call 19; refine hv1.mono ?_; clear hv1; rintro _ w8 ⟨rfl, hb8⟩; have hct8 := hct w8 hb8)
              | (go_at_call 17; refine hct8.mono ?_; clear hct8; rintro _ w9 ⟨rfl, hb9⟩; have hB9 : Below wr.heap.size wr w9 := hb8.trans (hb9.mono hb8.size); have ct9 := (hB9.cell (p := ⟨gt, j, none⟩) hltg.2).trans ct'; have hk9 := hkey w9 hB9)
              | (go_at_call 12; refine hk9.mono ?_; clear hk9 hkey; rintro _ w10 ⟨x, er, C', rfl, hb10, hOK', hst', hor⟩))
            have hC9 := (hOK.bel (.of hB9)).at'
            have hvb' := verdict_range C'.most C'.enough C'.compared C'.unlike
            have hv2' : verdict C'.most C'.enough C'.compared C'.unlike ≠ 2 := by
              rw [hst'.mo, hst'.un]
              unfold verdict
              rw [if_neg (by omega)]
              split <;> omega
            obtain ⟨V', hV'⟩ : ∃ V', verdict C'.most C'.enough C'.compared C'.unlike = V' := ⟨_, rfl⟩
            have hvw := fun w' (hw' : Below w10.heap.size w10 w') => verdict_walk (w := w') ((hOK'.bel (.of hw')).at'.cell 3) ((hOK'.bel (.of hw')).at'.cell 4) ((hOK'.bel (.of hw')).at'.cell 6) ((hOK'.bel (.of hw')).at'.cell 7)
            rw [hV'] at hvb' hv2' hvw
            have HV' : Hid (verdict C'.most C'.enough C'.compared C'.unlike = V') := hV'
            clear hV'
            have hcw := counts_walk (w := w10) (s := C'.seen) (c := C'.compared) (u := C'.unlike) (hOK'.at'.cell 5) (hOK'.at'.cell 6) (hOK'.at'.cell 7)
            have h9s := hB9.size
            have h10s := hb10.size
            have hE : ∀ wE, Below w10.heap.size w10 wE → CanOK M wE cb b1 b2 C' ∧ SetAt M w3.heap.size w4.heap.size wE b1 (ra ++ rb) ∧ SetAt M w4.heap.size w5.heap.size wE b2 (rb ++ ra) ∧ TextsAt wE w6.heap.size (.slice (some ⟨gt, 0, none⟩) ts.length ct) ts ∧ Below w.heap.size w wE ∧ w7.heap.size ≤ wE.heap.size := fun wE hbE => by
              have hEs := hbE.size
              have hM5 : Bel M w5.heap.size w9 w10 := (Bel.refl M w5.heap.size w9).but hb10 (by omega) hcb
              refine ⟨hOK'.bel (.of hbE), ((hSa.bel (Bel.of hB9) (by omega)).bel hM5 (by omega)).bel (Bel.of hbE) (by omega), ((hSb.bel (Bel.of hB9) (by omega)).bel hM5 (Nat.le_refl _)).bel (Bel.of hbE) (by omega), ((hTr.bel hB9).but hb10 (fun k hk => by have := hMr k hk; omega) hC9).bel hbE, ?_, by omega⟩
              have hBw : Below w.heap.size w9 w10 := ((Bel.refl M w.heap.size w9).but hb10 (by omega) (by omega)).below fun k hk => by have := hMr k hk; omega
              exact ((hbel.trans (hB9.mono (by omega))).trans hBw).trans (hbE.mono (by omega))
            have her : er = 0 := hor.elim (fun h => h.2) (fun h => absurd rfl h.1)
            subst her
            clear hor hcs
            have hVV' : V' = 0 ∨ V' = 1 := by omega
            rcases hVV' with rfl | rfl
            · go_wp2_with (first
                | (go_at_call 17; refine hcw.mono ?_; clear hcw; rintro _ w11 ⟨rfl, hb11⟩; have hv11 := hvw w11 hb11)
                | (go_at_call 19; refine hv11.mono ?_; clear hv11; rintro _ w12 ⟨rfl, hb12⟩; have hb12' : Below w10.heap.size w10 w12 := hb11.trans (hb12.mono hb11.size); have hv12 := hvw w12 hb12')
                | (go_at_call 19; refine hv12.mono ?_; clear hv12; rintro _ w13 ⟨rfl, hb13⟩; have hb13' : Below w10.heap.size w10 w13 := hb12'.trans (hb13.mono hb12'.size)))
              go_roundw
              case rel =>
                obtain ⟨z1, z2, z3, z4, z5, z6⟩ := hE _ hb12'
                exact ⟨j + 1, C', hjl, by go_num, z1, hst', z2, z3, z4, z5, z6⟩
              case measure => simp [intOf]; omega
            · go_wp2_with (first
                | (go_at_call 17; refine hcw.mono ?_; clear hcw; rintro _ w11 ⟨rfl, hb11⟩; have hv11 := hvw w11 hb11)
                | (go_at_call 19; refine hv11.mono ?_; clear hv11; rintro _ w12 ⟨rfl, hb12⟩; have hb12' : Below w10.heap.size w10 w12 := hb11.trans (hb12.mono hb11.size); have hv12 := hvw w12 hb12')
                | (go_at_call 19; refine hv12.mono ?_; clear hv12; rintro _ w13 ⟨rfl, hb13⟩; have hb13' : Below w10.heap.size w10 w13 := hb12'.trans (hb13.mono hb12'.size)))
              go_roundw
              case rel =>
                obtain ⟨z1, z2, z3, z4, z5, z6⟩ := hE _ hb12'
                exact ⟨j + 1, C', hjl, by go_num, z1, hst', z2, z3, z4, z5, z6⟩
              case measure => simp [intOf]; omega
          · go_wp2_with (first
              | (go_at_call 19; refine hv1.mono ?_; clear hv1; rintro _ w8 ⟨rfl, hb8⟩; have hct8 := hct w8 hb8)
              | (go_at_call 17; refine hct8.mono ?_; clear hct8; rintro _ w9 ⟨rfl, hb9⟩; have hB9 : Below wr.heap.size wr w9 := hb8.trans (hb9.mono hb8.size); have ct9 := (hB9.cell (p := ⟨gt, j, none⟩) hltg.2).trans ct'; have hk9 := hkey w9 hB9)
              | (go_at_call 12; refine hk9.mono ?_; clear hk9 hkey; rintro _ w10 ⟨x, er, C', rfl, hb10, hOK', hst', hor⟩))
            have hC9 := (hOK.bel (.of hB9)).at'
            have hvb' := verdict_range C'.most C'.enough C'.compared C'.unlike
            have hv2' : verdict C'.most C'.enough C'.compared C'.unlike ≠ 2 := by
              rw [hst'.mo, hst'.un]
              unfold verdict
              rw [if_neg (by omega)]
              split <;> omega
            obtain ⟨V', hV'⟩ : ∃ V', verdict C'.most C'.enough C'.compared C'.unlike = V' := ⟨_, rfl⟩
            have hvw := fun w' (hw' : Below w10.heap.size w10 w') => verdict_walk (w := w') ((hOK'.bel (.of hw')).at'.cell 3) ((hOK'.bel (.of hw')).at'.cell 4) ((hOK'.bel (.of hw')).at'.cell 6) ((hOK'.bel (.of hw')).at'.cell 7)
            rw [hV'] at hvb' hv2' hvw
            have HV' : Hid (verdict C'.most C'.enough C'.compared C'.unlike = V') := hV'
            clear hV'
            have hcw := counts_walk (w := w10) (s := C'.seen) (c := C'.compared) (u := C'.unlike) (hOK'.at'.cell 5) (hOK'.at'.cell 6) (hOK'.at'.cell 7)
            have h9s := hB9.size
            have h10s := hb10.size
            have hE : ∀ wE, Below w10.heap.size w10 wE → CanOK M wE cb b1 b2 C' ∧ SetAt M w3.heap.size w4.heap.size wE b1 (ra ++ rb) ∧ SetAt M w4.heap.size w5.heap.size wE b2 (rb ++ ra) ∧ TextsAt wE w6.heap.size (.slice (some ⟨gt, 0, none⟩) ts.length ct) ts ∧ Below w.heap.size w wE ∧ w7.heap.size ≤ wE.heap.size := fun wE hbE => by
              have hEs := hbE.size
              have hM5 : Bel M w5.heap.size w9 w10 := (Bel.refl M w5.heap.size w9).but hb10 (by omega) hcb
              refine ⟨hOK'.bel (.of hbE), ((hSa.bel (Bel.of hB9) (by omega)).bel hM5 (by omega)).bel (Bel.of hbE) (by omega), ((hSb.bel (Bel.of hB9) (by omega)).bel hM5 (Nat.le_refl _)).bel (Bel.of hbE) (by omega), ((hTr.bel hB9).but hb10 (fun k hk => by have := hMr k hk; omega) hC9).bel hbE, ?_, by omega⟩
              have hBw : Below w.heap.size w9 w10 := ((Bel.refl M w.heap.size w9).but hb10 (by omega) (by omega)).below fun k hk => by have := hMr k hk; omega
              exact ((hbel.trans (hB9.mono (by omega))).trans hBw).trans (hbE.mono (by omega))
            have her : er = 20 ∧ C' = C := hor.elim (fun h => absurd h.1 (by decide)) (fun h => h.2)
            obtain ⟨rfl, hCC⟩ := her
            subst hCC
            have hV1 : V' = 1 := HV'.out.symm.trans HV.out
            subst hV1
            clear hor
            go_wp2_with (first
              | (go_at_call 17; refine hcw.mono ?_; clear hcw; rintro _ w11 ⟨rfl, hb11⟩; have hv11 := hvw w11 hb11)
              | (go_at_call 19; refine hv11.mono ?_; clear hv11; rintro _ w12 ⟨rfl, hb12⟩; have hb12' : Below w10.heap.size w10 w12 := hb11.trans (hb12.mono hb11.size); have hv12 := hvw w12 hb12')
              | (go_at_call 19; refine hv12.mono ?_; clear hv12; rintro _ w13 ⟨rfl, hb13⟩; have hb13' : Below w10.heap.size w10 w13 := hb12'.trans (hb13.mono hb12'.size)))
            go_roundw
            case rel =>
              obtain ⟨z1, z2, z3, z4, z5, z6⟩ := hE _ hb13'
              exact ⟨j + 1, C', hjl, by go_num, z1, hst', z2, z3, z4, z5, z6⟩
            case measure => simp [intOf]; omega
        · have hje : j = ts.length := by omega
          subst hje
          have hun := unlike_walk (cb := cb) (w := wr) (by rw [hOK.at'.cell 10]; simp [Can.cells, hst.ca])
          go_wp2_with (first
            | (go_at_call 20; refine hun.mono ?_; clear hun; rintro _ w8 ⟨rfl, hb8⟩; have hliv := lives_walk w8)
            | (go_at_call 13; refine hliv.mono ?_; clear hliv; rintro _ w9 ⟨rfl, hb9⟩))
          go_ret
          have s8 := hb8.size
          exact ⟨rfl, (hbel.trans (hb8.mono hbel.size)).trans (hb9.mono (by have := hbel.size; omega))⟩
    · have hcn' : n < c1 := by omega
      clear hab hra hrb
      go_wp2_with (first
        | (at_builtin; refine wpList_append_any rfl _ _ 23 rfl i0 _ 40 Tryz.underlying23 hi0 hz0 hz1 hz2 rfl (by decide) _ 0 [] rfl hOwnA _ (rs.length - n) (rb.flatMap Rl.cells) rfl (.inr ⟨_, _, rfl, pc1⟩) (by rw [rl_len, HRB.out]) (rl_one rb) (by unfold maxLen; omega) (by omega) (Nat.le_refl _) ?_; clear hOwnA; intro vf1 w2 hf1 hg1; have hgs1 := hg1.size; have hB1 : Below w1b.heap.size w1b w2 := (Below.refl _ _).grown hg1 (Nat.le_refl _) (fun k hk => by cases hk); have pd2 := (part_cells (owns_below hown1 hB1) HAB.out).2)
        | (at_builtin; refine wpList_append_any rfl _ _ 23 rfl i0 _ 40 Tryz.underlying23 hi0 hz0 hz1 hz2 rfl (by decide) _ _ _ rfl hf1 _ _ (ra.flatMap Rl.cells) rfl (.inr ⟨_, _, rfl, pd2⟩) (by rw [rl_len, HRA.out]) (rl_one ra) (by unfold maxLen; omega) (by omega) hgs1 ?_; intro vf2 w3 hf2 hg2))
      have hB3 : Below w1b.heap.size w1b w3 := hB1.grown hg2 hgs1 (fun k hk => (World.ownsRow.lt hf1 k hk).1)
      have hO1 : w3.ownsRow w.heap.size 27 3 (.slice (some ⟨g, 0, none⟩) rs.length c1) (ra ++ rb).length ((ra ++ rb).flatMap Rl.cells) := by rw [← HAB.out]; exact owns_below hown1 hB3
      have hO2 : w3.ownsRow w1b.heap.size 27 3 vf2 (rb ++ ra).length ((rb ++ ra).flatMap Rl.cells) := by
        rw [List.length_append, HRA.out, HRB.out, List.flatMap_append]
        simpa using hf2
      have hG2 : Good (ra ++ rb) := by rw [← HAB.out]; exact hG
      have hk2 : ∀ r ∈ ra ++ rb, r.k < 8 := by rw [← HAB.out]; exact hk8
      have hW3 : Below w.heap.size w w3 := hb1.trans (hB3.mono hs1)
      have hs3 := hB3.size
      have hownA := own_walk hO1 hG2
      go_wp2_with (first
        | (go_at_call 10; refine hownA.mono ?_; clear hownA; rintro _ w4 ⟨b1, M1, rfl, hb4, hM1, hS1⟩; have hownB := own_walk (owns_below hO2 hb4) hG2.turn)
        | (go_at_call 10; refine hownB.mono ?_; clear hownB; rintro _ w5 ⟨b2, M2, rfl, hb5, hM2, hS2⟩; have hnew := new_walk (hS1.bel (Bel.of hb5) (Nat.le_refl _)) hS2 hb5.size (Nat.le_refl _) hG2.len hG2.turn.len (fun r hr => by rcases List.mem_append.1 hr with hr | hr; exact (hG2.each r hr).2.2.2; exact (hG2.turn.each r hr).2.2.2) hNums)
        | (go_at_call 18; refine (hE3 _).mono ?_; clear hE3; rintro _ wx ⟨rfl, rfl⟩)
        | (go_at_call 18; refine (hE5 _).mono ?_; clear hE5; rintro _ wx ⟨rfl, rfl⟩)
        | (go_at_call 9; refine hnew.mono ?_; clear hnew; rintro _ w6 ⟨cb, bm, vn, ns, rfl, hb6, hcb, hC, hbm, hbmge, hnames, hnl, hnsz, _⟩; have hW6 : Below w.heap.size w w6 := ((hW3.trans (hb4.mono (by omega))).trans (hb5.mono (by have := hb4.size; omega))).trans (hb6.mono (by have := hb4.size; have := hb5.size; omega)); have htx := texts_walk (h2.below hW6))
        | (go_at_call 11; refine htx.mono ?_; clear htx; rintro _ w7 ⟨vt, ts, rfl, hT, htl, hb7⟩; obtain ⟨at', ct, rfl, _⟩ := owns_shape hT.row))
      have s4 := hb4.size
      have s5 := hb5.size
      have s6 := hb6.size
      have s7 := hb7.size
      obtain ⟨M, hMdef⟩ : ∃ M : Nat → Prop, M = fun k => M1 k ∨ M2 k := ⟨_, rfl⟩
      have hMr : ∀ k, M k → w3.heap.size ≤ k ∧ k < w5.heap.size := fun k hk => by
        rw [hMdef] at hk
        rcases hk with hk | hk
        · have := hM1 k hk; omega
        · have := hM2 k hk; omega
      have hSa7 : SetAt M w3.heap.size w4.heap.size w7 b1 (ra ++ rb) := (hS1.more fun c c1 c2 => by
        rw [hMdef]
        exact ⟨fun h => h.elim id fun h2 => by have := hM2 c h2; omega, .inl⟩).bel (Bel.of ((hb5.trans (hb6.mono (by omega))).trans (hb7.mono (by omega)))) (Nat.le_refl _)
      have hSb7 : SetAt M w4.heap.size w5.heap.size w7 b2 (rb ++ ra) := (hS2.more fun c c1 c2 => by
        rw [hMdef]
        exact ⟨fun h => h.elim (fun h2 => by have := hM1 c h2; omega) id, .inr⟩).bel (Bel.of (hb6.trans (hb7.mono (by omega)))) (Nat.le_refl _)
      have hOK7 : CanOK M w7 cb b1 b2 ⟨b1, b2, 1 + (e3 : Int), 0, 1 + (e5 : Int), 0, 0, 0, vn, .map (some bm), .slice none 0 0⟩ := by
        refine ⟨hC.below hb7, rfl, rfl, fun e => by have := (hMr cb e).2; omega, ⟨bm, rfl, fun e => by have := (hMr bm e).2; omega, fun e => ?_, hbm.same (hb7.block bm hbm.lt)⟩, w5.heap.size, ns, owns_below hnames hb7, fun k hk => (hMr k hk).2, fun e => not_row hnames hC (by decide) e.symm, by omega, hnsz⟩
        subst e
        obtain ⟨ms, cl, h0, _⟩ := hbm
        have h9 := hC
        unfold CanAt at h9
        rw [h9] at h0
        cases h0
      have hst7 : CanSt ⟨b1, b2, 1 + (e3 : Int), 0, 1 + (e5 : Int), 0, 0, 0, vn, .map (some bm), .slice none 0 0⟩ 0 := ⟨⟨by show 1 ≤ 1 + (e3 : Int); omega, by show 1 + (e3 : Int) ≤ 1000; omega⟩, rfl, by show 1 ≤ 1 + (e5 : Int); omega, ⟨Int.le_refl _, Int.le_refl _⟩, ⟨Int.le_refl _, Int.le_refl _⟩, rfl, rfl⟩
      have hW7 : Below w.heap.size w w7 := hW6.trans (hb7.mono hW6.size)
      have hlen2 := hG2.len
      have hsz2 : ∀ r ∈ ra ++ rb, r.name.size ≤ maxLen := fun r hr => (hG2.each r hr).2.2.2
      have hnd2 := hG2.nodup
      have hwsz := hW3.size
      clear hS1 hS2 hM1 hM2 hC hbm hnames hnsz hO1 hO2 hB3 hb4 hb5 hb6 hb7 hG2 hW6 hW3 h2 hG hk8 hown1 hNums
      go_loopw [17] (fun i wr => ∃ (j : Nat) (C : Can), j ≤ ts.length ∧ i = .int .i64 j ∧ CanOK M wr cb b1 b2 C ∧ CanSt C j ∧ SetAt M w3.heap.size w4.heap.size wr b1 (ra ++ rb) ∧ SetAt M w4.heap.size w5.heap.size wr b2 (rb ++ ra) ∧ TextsAt wr w6.heap.size (.slice at' ts.length ct) ts ∧ Below w.heap.size w wr ∧ w7.heap.size ≤ wr.heap.size) (fun i _ => ts.length - (intOf i).toNat)
      case atStart => exact ⟨0, _, Nat.zero_le _, rfl, hOK7, hst7, hSa7, hSb7, hT, hW7, Nat.le_refl _⟩
      case round =>
        obtain ⟨j, C, hj, rfl, hOK, hst, hSa, hSb, hTr, hbel, hsz⟩ := hrel
        by_cases hjl : j < ts.length
        · obtain ⟨q1, q2, q3, q4, pa, pc, q5⟩ := hTr.each ts[j] (List.getElem_mem hjl)
          obtain ⟨t, ht⟩ : ∃ t, ts[j].2 = t := ⟨_, rfl⟩
          rw [ht] at q1 q2 q3 q4 q5
          rw [q5] at q1
          obtain ⟨tb, rfl, htb1, htb2⟩ : ∃ tb, pa = some ⟨tb, 0, none⟩ ∧ w6.heap.size ≤ tb ∧ tb < wr.heap.size := by
            rcases q1.2 with ⟨e, h0⟩ | ⟨g', cap', cur', e, h1', h3', _⟩
            · omega
            · injection e with e1 _ _
              exact ⟨g', e1, h1', (Array.getElem?_eq_some_iff.1 h3').1⟩
          obtain ⟨F, hF0, hFl⟩ := hFL t q2 q3 q4
          have hrow := hTr.row
          obtain ⟨gt, hgt⟩ : ∃ gt, at' = some ⟨gt, 0, none⟩ := by
            rcases hrow.2 with ⟨e, h0⟩ | ⟨g', cap', cur', e, _⟩
            · omega
            · injection e with e1 _ _
              exact ⟨g', e1⟩
          subst hgt
          have ct' : wr.cell? ⟨gt, j, none⟩ = some (.slice (some ⟨tb, 0, none⟩) t.length pc) := by
            rw [hrow.cellAt j (by omega), List.getElem?_map, List.getElem?_eq_getElem hjl]
            exact congrArg some q5
          have hltg := (World.ownsRow.lt hrow gt rfl)
          clear q5 ht hrow
          have hMw : ∀ k, M k → k < wr.heap.size := fun k hk => by have := hMr k hk; omega
          have hvb := verdict_range C.most C.enough C.compared C.unlike
          have hv2 : verdict C.most C.enough C.compared C.unlike ≠ 2 := by
            rw [hst.mo, hst.un]
            unfold verdict
            rw [if_neg (by omega)]
            split <;> omega
          have hv1 := verdict_walk (hOK.at'.cell 3) (hOK.at'.cell 4) (hOK.at'.cell 6) (hOK.at'.cell 7)
          obtain ⟨V, hV⟩ : ∃ V, verdict C.most C.enough C.compared C.unlike = V := ⟨_, rfl⟩
          rw [hV] at hvb hv2 hv1
          have HV : Hid (verdict C.most C.enough C.compared C.unlike = V) := hV
          clear hV
          have hkey : ∀ w', Below wr.heap.size wr w' → Calls Tryz.prog 12 #[.pointer (some ⟨cb, 0, none⟩), .slice (some ⟨tb, 0, none⟩) t.length pc, .int .i64 2000] w' fun e w2 => ∃ (x : Bool) (er : Int) (C' : Can), e = .returned (.tuple #[.bool x, .bool x, .int .i64 er]) ∧ BelBut M cb w' w2 ∧ CanOK M w2 cb b1 b2 C' ∧ CanSt C' (j + 1) ∧ ((V = 0 ∧ er = 0) ∨ (V ≠ 0 ∧ er = 20 ∧ C' = C)) := fun w' hw' => by
            have hs' := hw'.size
            have hF1 := hFl M w3.heap.size w4.heap.size w' (ra ++ rb) tb pc w6.heap.size (fun k hk => Nat.lt_of_lt_of_le (hMw k hk) hs') (by omega) hk2 (.inr (by omega)) (fun e => by have := hMr _ e; omega) (owns_below q1 hw')
            have hF2 := hFl M w4.heap.size w5.heap.size w' (rb ++ ra) tb pc w6.heap.size (fun k hk => Nat.lt_of_lt_of_le (hMw k hk) hs') (by omega) (fun r hr => hk2 r (by simp at hr ⊢; exact hr.symm)) (.inr (by omega)) (fun e => by have := hMr _ e; omega) (owns_below q1 hw')
            have := see_turn (i := j) (fun k hk => Nat.lt_of_lt_of_le (hMw k hk) hs') (hSa.bel (Bel.of hw') (by omega)) (hSb.bel (Bel.of hw') (by omega)) (by omega) (by omega) hlen2 hsz2 hnd2 (hOK.bel (.of hw')) hst (by omega) (by omega) (fun r hr f => hF0 r.k f) hF1 hF2
            rw [HV.out] at this
            exact this
          have hgm : ¬ M gt := fun e => by have := hMr _ e; omega
          obtain ⟨cse, cco, cun, hcs⟩ : ∃ a b c, C.seen = a ∧ C.compared = b ∧ C.unlike = c := ⟨_, _, _, rfl, rfl, rfl⟩
          have hct := fun w' (hw' : Below wr.heap.size wr w') => counts_walk (w := w') (s := C.seen) (c := C.compared) (u := C.unlike) ((hOK.bel (.of hw')).at'.cell 5) ((hOK.bel (.of hw')).at'.cell 6) ((hOK.bel (.of hw')).at'.cell 7)
          have hVV : V = 0 ∨ V = 1 := by omega
          rcases hVV with rfl | rfl
          · go_wp2_with (first
              | (go_at_call 19; refine hv1.mono ?_; clear hv1; rintro _ w8 ⟨rfl, hb8⟩; have hct8 := hct w8 hb8)
              | (go_at_call 17; refine hct8.mono ?_; clear hct8; rintro _ w9 ⟨rfl, hb9⟩; have hB9 : Below wr.heap.size wr w9 := hb8.trans (hb9.mono hb8.size); have ct9 := (hB9.cell (p := ⟨gt, j, none⟩) hltg.2).trans ct'; have hk9 := hkey w9 hB9)
              | (go_at_call 12; refine hk9.mono ?_; clear hk9 hkey; rintro _ w10 ⟨x, er, C', rfl, hb10, hOK', hst', hor⟩))
            have hC9 := (hOK.bel (.of hB9)).at'
            have hvb' := verdict_range C'.most C'.enough C'.compared C'.unlike
            have hv2' : verdict C'.most C'.enough C'.compared C'.unlike ≠ 2 := by
              rw [hst'.mo, hst'.un]
              unfold verdict
              rw [if_neg (by omega)]
              split <;> omega
            obtain ⟨V', hV'⟩ : ∃ V', verdict C'.most C'.enough C'.compared C'.unlike = V' := ⟨_, rfl⟩
            have hvw := fun w' (hw' : Below w10.heap.size w10 w') => verdict_walk (w := w') ((hOK'.bel (.of hw')).at'.cell 3) ((hOK'.bel (.of hw')).at'.cell 4) ((hOK'.bel (.of hw')).at'.cell 6) ((hOK'.bel (.of hw')).at'.cell 7)
            rw [hV'] at hvb' hv2' hvw
            have HV' : Hid (verdict C'.most C'.enough C'.compared C'.unlike = V') := hV'
            clear hV'
            have hcw := counts_walk (w := w10) (s := C'.seen) (c := C'.compared) (u := C'.unlike) (hOK'.at'.cell 5) (hOK'.at'.cell 6) (hOK'.at'.cell 7)
            have h9s := hB9.size
            have h10s := hb10.size
            have hE : ∀ wE, Below w10.heap.size w10 wE → CanOK M wE cb b1 b2 C' ∧ SetAt M w3.heap.size w4.heap.size wE b1 (ra ++ rb) ∧ SetAt M w4.heap.size w5.heap.size wE b2 (rb ++ ra) ∧ TextsAt wE w6.heap.size (.slice (some ⟨gt, 0, none⟩) ts.length ct) ts ∧ Below w.heap.size w wE ∧ w7.heap.size ≤ wE.heap.size := fun wE hbE => by
              have hEs := hbE.size
              have hM5 : Bel M w5.heap.size w9 w10 := (Bel.refl M w5.heap.size w9).but hb10 (by omega) hcb
              refine ⟨hOK'.bel (.of hbE), ((hSa.bel (Bel.of hB9) (by omega)).bel hM5 (by omega)).bel (Bel.of hbE) (by omega), ((hSb.bel (Bel.of hB9) (by omega)).bel hM5 (Nat.le_refl _)).bel (Bel.of hbE) (by omega), ((hTr.bel hB9).but hb10 (fun k hk => by have := hMr k hk; omega) hC9).bel hbE, ?_, by omega⟩
              have hBw : Below w.heap.size w9 w10 := ((Bel.refl M w.heap.size w9).but hb10 (by omega) (by omega)).below fun k hk => by have := hMr k hk; omega
              exact ((hbel.trans (hB9.mono (by omega))).trans hBw).trans (hbE.mono (by omega))
            have her : er = 0 := hor.elim (fun h => h.2) (fun h => absurd rfl h.1)
            subst her
            clear hor hcs
            have hVV' : V' = 0 ∨ V' = 1 := by omega
            rcases hVV' with rfl | rfl
            · go_wp2_with (first
                | (go_at_call 17; refine hcw.mono ?_; clear hcw; rintro _ w11 ⟨rfl, hb11⟩; have hv11 := hvw w11 hb11)
                | (go_at_call 19; refine hv11.mono ?_; clear hv11; rintro _ w12 ⟨rfl, hb12⟩; have hb12' : Below w10.heap.size w10 w12 := hb11.trans (hb12.mono hb11.size); have hv12 := hvw w12 hb12')
                | (go_at_call 19; refine hv12.mono ?_; clear hv12; rintro _ w13 ⟨rfl, hb13⟩; have hb13' : Below w10.heap.size w10 w13 := hb12'.trans (hb13.mono hb12'.size)))
              go_roundw
              case rel =>
                obtain ⟨z1, z2, z3, z4, z5, z6⟩ := hE _ hb12'
                exact ⟨j + 1, C', hjl, by go_num, z1, hst', z2, z3, z4, z5, z6⟩
              case measure => simp [intOf]; omega
            · go_wp2_with (first
                | (go_at_call 17; refine hcw.mono ?_; clear hcw; rintro _ w11 ⟨rfl, hb11⟩; have hv11 := hvw w11 hb11)
                | (go_at_call 19; refine hv11.mono ?_; clear hv11; rintro _ w12 ⟨rfl, hb12⟩; have hb12' : Below w10.heap.size w10 w12 := hb11.trans (hb12.mono hb11.size); have hv12 := hvw w12 hb12')
                | (go_at_call 19; refine hv12.mono ?_; clear hv12; rintro _ w13 ⟨rfl, hb13⟩; have hb13' : Below w10.heap.size w10 w13 := hb12'.trans (hb13.mono hb12'.size)))
              go_roundw
              case rel =>
                obtain ⟨z1, z2, z3, z4, z5, z6⟩ := hE _ hb12'
                exact ⟨j + 1, C', hjl, by go_num, z1, hst', z2, z3, z4, z5, z6⟩
              case measure => simp [intOf]; omega
          · go_wp2_with (first
              | (go_at_call 19; refine hv1.mono ?_; clear hv1; rintro _ w8 ⟨rfl, hb8⟩; have hct8 := hct w8 hb8)
              | (go_at_call 17; refine hct8.mono ?_; clear hct8; rintro _ w9 ⟨rfl, hb9⟩; have hB9 : Below wr.heap.size wr w9 := hb8.trans (hb9.mono hb8.size); have ct9 := (hB9.cell (p := ⟨gt, j, none⟩) hltg.2).trans ct'; have hk9 := hkey w9 hB9)
              | (go_at_call 12; refine hk9.mono ?_; clear hk9 hkey; rintro _ w10 ⟨x, er, C', rfl, hb10, hOK', hst', hor⟩))
            have hC9 := (hOK.bel (.of hB9)).at'
            have hvb' := verdict_range C'.most C'.enough C'.compared C'.unlike
            have hv2' : verdict C'.most C'.enough C'.compared C'.unlike ≠ 2 := by
              rw [hst'.mo, hst'.un]
              unfold verdict
              rw [if_neg (by omega)]
              split <;> omega
            obtain ⟨V', hV'⟩ : ∃ V', verdict C'.most C'.enough C'.compared C'.unlike = V' := ⟨_, rfl⟩
            have hvw := fun w' (hw' : Below w10.heap.size w10 w') => verdict_walk (w := w') ((hOK'.bel (.of hw')).at'.cell 3) ((hOK'.bel (.of hw')).at'.cell 4) ((hOK'.bel (.of hw')).at'.cell 6) ((hOK'.bel (.of hw')).at'.cell 7)
            rw [hV'] at hvb' hv2' hvw
            have HV' : Hid (verdict C'.most C'.enough C'.compared C'.unlike = V') := hV'
            clear hV'
            have hcw := counts_walk (w := w10) (s := C'.seen) (c := C'.compared) (u := C'.unlike) (hOK'.at'.cell 5) (hOK'.at'.cell 6) (hOK'.at'.cell 7)
            have h9s := hB9.size
            have h10s := hb10.size
            have hE : ∀ wE, Below w10.heap.size w10 wE → CanOK M wE cb b1 b2 C' ∧ SetAt M w3.heap.size w4.heap.size wE b1 (ra ++ rb) ∧ SetAt M w4.heap.size w5.heap.size wE b2 (rb ++ ra) ∧ TextsAt wE w6.heap.size (.slice (some ⟨gt, 0, none⟩) ts.length ct) ts ∧ Below w.heap.size w wE ∧ w7.heap.size ≤ wE.heap.size := fun wE hbE => by
              have hEs := hbE.size
              have hM5 : Bel M w5.heap.size w9 w10 := (Bel.refl M w5.heap.size w9).but hb10 (by omega) hcb
              refine ⟨hOK'.bel (.of hbE), ((hSa.bel (Bel.of hB9) (by omega)).bel hM5 (by omega)).bel (Bel.of hbE) (by omega), ((hSb.bel (Bel.of hB9) (by omega)).bel hM5 (Nat.le_refl _)).bel (Bel.of hbE) (by omega), ((hTr.bel hB9).but hb10 (fun k hk => by have := hMr k hk; omega) hC9).bel hbE, ?_, by omega⟩
              have hBw : Below w.heap.size w9 w10 := ((Bel.refl M w.heap.size w9).but hb10 (by omega) (by omega)).below fun k hk => by have := hMr k hk; omega
              exact ((hbel.trans (hB9.mono (by omega))).trans hBw).trans (hbE.mono (by omega))
            have her : er = 20 ∧ C' = C := hor.elim (fun h => absurd h.1 (by decide)) (fun h => h.2)
            obtain ⟨rfl, hCC⟩ := her
            subst hCC
            have hV1 : V' = 1 := HV'.out.symm.trans HV.out
            subst hV1
            clear hor
            go_wp2_with (first
              | (go_at_call 17; refine hcw.mono ?_; clear hcw; rintro _ w11 ⟨rfl, hb11⟩; have hv11 := hvw w11 hb11)
              | (go_at_call 19; refine hv11.mono ?_; clear hv11; rintro _ w12 ⟨rfl, hb12⟩; have hb12' : Below w10.heap.size w10 w12 := hb11.trans (hb12.mono hb11.size); have hv12 := hvw w12 hb12')
              | (go_at_call 19; refine hv12.mono ?_; clear hv12; rintro _ w13 ⟨rfl, hb13⟩; have hb13' : Below w10.heap.size w10 w13 := hb12'.trans (hb13.mono hb12'.size)))
            go_roundw
            case rel =>
              obtain ⟨z1, z2, z3, z4, z5, z6⟩ := hE _ hb13'
              exact ⟨j + 1, C', hjl, by go_num, z1, hst', z2, z3, z4, z5, z6⟩
            case measure => simp [intOf]; omega
        · have hje : j = ts.length := by omega
          subst hje
          have hun := unlike_walk (cb := cb) (w := wr) (by rw [hOK.at'.cell 10]; simp [Can.cells, hst.ca])
          go_wp2_with (first
            | (go_at_call 20; refine hun.mono ?_; clear hun; rintro _ w8 ⟨rfl, hb8⟩; have hliv := lives_walk w8)
            | (go_at_call 13; refine hliv.mono ?_; clear hliv; rintro _ w9 ⟨rfl, hb9⟩))
          go_ret
          have s8 := hb8.size
          exact ⟨rfl, (hbel.trans (hb8.mono hbel.size)).trans (hb9.mono (by have := hbel.size; omega))⟩
end Go.Proofs.YtopicmcaoeameaaGreatDoor
