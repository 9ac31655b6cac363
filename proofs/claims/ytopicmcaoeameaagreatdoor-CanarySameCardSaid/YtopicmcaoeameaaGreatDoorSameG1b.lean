/-
  The law CanarySame, walked, over First's contract at every text.
  What a plan's runs give at one position: the contract.
  What the runs of the plan with a machine give at one position of a text.
  textError at a text of one to five symbols: none; out of evaluations.
  Where a plan's engines and runs lie.
  First at a text of one to five symbols, at a plan without a machine and without the oracle.
-/
import Derived.Test.YtopicmcaoeameaaGreatDoorSameG1a
import Derived.Test.YtopicmcaoeameaaGreatDoorSameG0b
import Derived.Test.YtopicmcaoeameaaGreatDoorSameG0a
namespace Go.Proofs.YtopicmcaoeameaaGreatDoor
open Go Go.Ev Go.RowKit Go.Smap

theorem SlCap.below {w w' : World} {x : Value} {l : List Int} (h : SlCap w x l) (hb : Below w.heap.size w w') : SlCap w' x l := ⟨h.arg.below hb, h.cap⟩
theorem arnd_bd (z : Int) (q : Nat) (hq : 0 < q) : 0 ≤ arnd z q ∧ arnd z q < q := by
  unfold arnd
  exact ⟨Int.emod_nonneg _ (by omega), Int.emod_lt_of_pos _ (by omega)⟩
set_option maxHeartbeats 16000000 in
set_option maxRecDepth 1000000 in
theorem same_walk (hFL : FirstLaw) {w : World} {v v2 : Value} {l m : List Int} (h : SlArg w v l) (h2 : SlCap w v2 m) {ev en by' : Int} (hv : -9223372036854775808 ≤ ev ∧ ev ≤ 9223372036854775807) (hn : -9223372036854775808 ≤ en ∧ en ≤ 9223372036854775807) (hb : -9223372036854775808 ≤ by' ∧ by' ≤ 9223372036854775807) :
    Calls Tryz.prog 5 #[v, v2, .int .i64 ev, .int .i64 en, .int .i64 by'] w fun e w' => e = .returned (.bool true) ∧ Below w.heap.size w w' := by
  have hmade := made_walk h 0 (by omega)
  obtain ⟨ea, eb⟩ := arnd_bd ev 3 (by omega)
  obtain ⟨e3, he3⟩ : ∃ e3 : Nat, arnd ev 3 = e3 := Int.eq_ofNat_of_zero_le ea
  obtain ⟨fa, fb⟩ := arnd_bd en 5 (by omega)
  obtain ⟨e5, he5⟩ : ∃ e5 : Nat, arnd en 5 = e5 := Int.eq_ofNat_of_zero_le fa
  have he3b : e3 < 3 := by omega
  have he5b : e5 < 5 := by omega
  have hE3 : ∀ w', Calls Tryz.prog 18 #[.int .i64 ev, .int .i64 3] w' fun e w1 => e = .returned (.int .i64 (e3 : Int)) ∧ w' = w1 := fun w' => by
    refine Calls.mono (around_walk ev 3 w' (by omega) hv.1 hv.2 (by omega)) ?_
    rintro e w1 ⟨rfl, rfl⟩
    rw [he3]; exact ⟨rfl, rfl⟩
  have hE5 : ∀ w', Calls Tryz.prog 18 #[.int .i64 en, .int .i64 5] w' fun e w1 => e = .returned (.int .i64 (e5 : Int)) ∧ w' = w1 := fun w' => by
    refine Calls.mono (around_walk en 5 w' (by omega) hn.1 hn.2 (by omega)) ?_
    rintro e w1 ⟨rfl, rfl⟩
    rw [he5]; exact ⟨rfl, rfl⟩
  have hNums : Nums (1 + (e3 : Int)) 0 (1 + (e5 : Int)) := by unfold Nums; omega
  clear ea eb fa fb he3 he5
  obtain ⟨i0, hi0, hz0, hz1, hz2⟩ := info_parts info27
  clear h
  go_enter Tryz.func5, Tryz.ntmps5
  go_wp2_with (go_at_call 14; refine hmade.mono ?_; clear hmade; rintro _ w1 ⟨v1, rs, rfl, hown1, hG, hk8, hb1⟩; obtain ⟨a1, c1, rfl, ha1⟩ := owns_shape hown1; have hlen := hG.len)
  obtain ⟨na, nb⟩ := arnd_bd by' (rs.length + 1) (by omega)
  obtain ⟨n, hne⟩ : ∃ n : Nat, arnd by' (rs.length + 1) = n := Int.eq_ofNat_of_zero_le na
  have hnl : n ≤ rs.length := by omega
  have har := around_walk by' (rs.length + 1) w1 (by omega) hb.1 hb.2 (by omega)
  rw [hne] at har
  simp only [Int.natCast_add, Int.cast_ofNat_Int] at har
  go_at_call 18
  refine har.mono ?_
  clear har
  rintro _ w1b ⟨rfl, rfl⟩
  dsimp only
  obtain ⟨ra, rb, hab, hra⟩ : ∃ ra rb, rs = ra ++ rb ∧ ra.length = n := ⟨rs.take n, rs.drop n, (List.take_append_drop n rs).symm, by rw [List.length_take]; omega⟩
  have hrb : rb.length = rs.length - n := by rw [hab, List.length_append]; omega
  clear na nb hne
  have hs1 := hb1.size
  have hsh : (a1 = none ∧ rs.length = 0 ∧ c1 = 0) ∨ ∃ g, a1 = some ⟨g, 0, none⟩ ∧ rs.length ≤ c1 ∧ c1 ≤ maxLen ∧ g < w1b.heap.size := by
    rcases hown1.2 with ⟨e, h0⟩ | ⟨g, cap, cur, e, _, h3, h4, h5, _⟩
    · injection e with e1 e2 e3
      exact .inl ⟨e1, h0, e3⟩
    · injection e with e1 e2 e3
      subst e3
      exact .inr ⟨g, e1, h4, h5, (Array.getElem?_eq_some_iff.1 h3).1⟩
  rcases hsh with ⟨rfl, z1, rfl⟩ | ⟨g, rfl, z1, z2, hg⟩
  · have hn0 : n = 0 := by omega
    have hb0 : rb.length = 0 := by omega
    have ha0 : ra.length = 0 := by omega
    subst hn0
    rw [z1] at hown1 ⊢
    have hrs0 : rs = [] := List.length_eq_zero_iff.1 z1
    have MA : Hid True := trivial
    have hOwnA := World.ownsRow_nil w1b w1b.heap.size 27 3
    go_wp2_with (first
      | (at_builtin; refine wpList_append_any rfl _ _ 23 rfl i0 _ 40 Tryz.underlying23 hi0 hz0 hz1 hz2 rfl (by decide) _ 0 [] rfl hOwnA _ 0 [] rfl (.inl ⟨rfl, rfl⟩) rfl (by simp) (by unfold maxLen; omega) (by omega) (Nat.le_refl _) ?_; clear hOwnA MA; intro vf1 w2 hf1 hg1; have hgs1 := hg1.size)
      | (at_builtin; refine wpList_append_any rfl _ _ 23 rfl i0 _ 40 Tryz.underlying23 hi0 hz0 hz1 hz2 rfl (by decide) _ 0 [] rfl hf1 _ 0 [] rfl (.inl ⟨rfl, rfl⟩) rfl (by simp) (by unfold maxLen; omega) (by omega) hgs1 ?_; intro vf2 w3 hf2 hg2))
    have hB3 : Below w1b.heap.size w1b w3 := ((Below.refl _ _).grown hg1 (Nat.le_refl _) (fun k hk => by cases hk)).grown hg2 hgs1 (fun k hk => (World.ownsRow.lt hf1 k hk).1)
    have hra0 : ra = [] := List.length_eq_zero_iff.1 ha0
    have hrb0 : rb = [] := List.length_eq_zero_iff.1 hb0
    have hO1 : w3.ownsRow w.heap.size 27 3 (.slice none 0 0) (ra ++ rb).length ((ra ++ rb).flatMap Rl.cells) := by rw [hra0, hrb0]; exact World.ownsRow_nil _ _ _ _
    have hO2 : w3.ownsRow w1b.heap.size 27 3 vf2 (rb ++ ra).length ((rb ++ ra).flatMap Rl.cells) := by rw [hra0, hrb0]; exact hf2
    have hG2 : Good (ra ++ rb) := by rw [hab] at hG; exact hG
    have hk2 : ∀ r ∈ ra ++ rb, r.k < 8 := by rw [← hab]; exact hk8
    clear hrs0 hra0 hrb0 ha0 hb0 hra hrb hab
    have hW3 : Below w.heap.size w w3 := hb1.trans (hB3.mono hs1)
    have hs3 := hB3.size
    have hownA := own_walk hO1 hG2
    go_wp2_with (first
      | (go_at_call 10; refine hownA.mono ?_; clear hownA; rintro _ w4 ⟨b1, M1, rfl, hb4, hM1, hS1⟩; have hownB := own_walk (owns_below hO2 hb4) hG2.turn)
      | (go_at_call 10; refine hownB.mono ?_; clear hownB; rintro _ w5 ⟨b2, M2, rfl, hb5, hM2, hS2⟩; have hnew := new_walk (hS1.bel (Bel.of hb5) (Nat.le_refl _)) hS2 hb5.size (Nat.le_refl _) hG2.len hG2.turn.len (fun r hr => by rcases List.mem_append.1 hr with hr | hr; exact (hG2.each r hr).2.2.2; exact (hG2.turn.each r hr).2.2.2) hNums)
      | (go_at_call 18; refine (hE3 _).mono ?_; clear hE3; rintro _ wx ⟨rfl, rfl⟩)
      | (go_at_call 18; refine (hE5 _).mono ?_; clear hE5; rintro _ wx ⟨rfl, rfl⟩)
      | (go_at_call 9; refine hnew.mono ?_; clear hnew; rintro _ w6 ⟨cb, bm, vn, ns, rfl, hb6, hcb, hC, hbm, hbmge, hnames, hnl, hnsz, _⟩; have hW6 : Below w.heap.size w w6 := ((hW3.trans (hb4.mono (by omega))).trans (hb5.mono (by have := hb4.size; omega))).trans (hb6.mono (by have := hb4.size; have := hb5.size; omega)); have htx := texts_walk (h2.below hW6))
      | (go_at_call 11; refine htx.mono ?_; clear htx; rintro _ w7 ⟨vt, ts, rfl, hT, htl, hb7⟩; obtain ⟨at', ct, rfl, _⟩ := owns_shape hT.row))
    have s4 := hb4.size
    have s5 := hb5.size
    have s6 := hb6.size
    have s7 := hb7.size
    obtain ⟨M, hMdef⟩ : ∃ M : Nat → Prop, M = fun k => M1 k ∨ M2 k := ⟨_, rfl⟩
    have hMr : ∀ k, M k → w3.heap.size ≤ k ∧ k < w5.heap.size := fun k hk => by
      rw [hMdef] at hk
      rcases hk with hk | hk
      · have := hM1 k hk; omega
      · have := hM2 k hk; omega
    have hSa7 : SetAt M w3.heap.size w4.heap.size w7 b1 (ra ++ rb) := (hS1.more fun c c1 c2 => by
      rw [hMdef]
      exact ⟨fun h => h.elim id fun h2 => by have := hM2 c h2; omega, .inl⟩).bel (Bel.of ((hb5.trans (hb6.mono (by omega))).trans (hb7.mono (by omega)))) (Nat.le_refl _)
    have hSb7 : SetAt M w4.heap.size w5.heap.size w7 b2 (rb ++ ra) := (hS2.more fun c c1 c2 => by
      rw [hMdef]
      exact ⟨fun h => h.elim (fun h2 => by have := hM1 c h2; omega) id, .inr⟩).bel (Bel.of (hb6.trans (hb7.mono (by omega)))) (Nat.le_refl _)
    have hOK7 : CanOK M w7 cb b1 b2 ⟨b1, b2, 1 + (e3 : Int), 0, 1 + (e5 : Int), 0, 0, 0, vn, .map (some bm), .slice none 0 0⟩ := by
      refine ⟨hC.below hb7, rfl, rfl, fun e => by have := (hMr cb e).2; omega, ⟨bm, rfl, fun e => by have := (hMr bm e).2; omega, fun e => ?_, hbm.same (hb7.block bm hbm.lt)⟩, w5.heap.size, ns, owns_below hnames hb7, fun k hk => (hMr k hk).2, fun e => not_row hnames hC (by decide) e.symm, by omega, hnsz⟩
      subst e
      obtain ⟨ms, cl, h0, _⟩ := hbm
      have h9 := hC
      unfold CanAt at h9
      rw [h9] at h0
      cases h0
    have hst7 : CanSt ⟨b1, b2, 1 + (e3 : Int), 0, 1 + (e5 : Int), 0, 0, 0, vn, .map (some bm), .slice none 0 0⟩ 0 := ⟨⟨by show 1 ≤ 1 + (e3 : Int); omega, by show 1 + (e3 : Int) ≤ 1000; omega⟩, rfl, by show 1 ≤ 1 + (e5 : Int); omega, ⟨Int.le_refl _, Int.le_refl _⟩, ⟨Int.le_refl _, Int.le_refl _⟩, rfl, rfl⟩
    have hW7 : Below w.heap.size w w7 := hW6.trans (hb7.mono hW6.size)
    have hlen2 := hG2.len
    have hsz2 : ∀ r ∈ ra ++ rb, r.name.size ≤ maxLen := fun r hr => (hG2.each r hr).2.2.2
    have hnd2 := hG2.nodup
    have hwsz := hW3.size
    clear hS1 hS2 hM1 hM2 hC hbm hnames hnsz hO1 hO2 hB3 hb4 hb5 hb6 hb7 hG2 hW6 hW3 h2 hG hk8 hown1 hNums
    go_loopw [17] (fun i wr => ∃ (j : Nat) (C : Can), j ≤ ts.length ∧ i = .int .i64 j ∧ CanOK M wr cb b1 b2 C ∧ CanSt C j ∧ SetAt M w3.heap.size w4.heap.size wr b1 (ra ++ rb) ∧ SetAt M w4.heap.size w5.heap.size wr b2 (rb ++ ra) ∧ TextsAt wr w6.heap.size (.slice at' ts.length ct) ts ∧ Below w.heap.size w wr ∧ w7.heap.size ≤ wr.heap.size) (fun i _ => ts.length - (intOf i).toNat)
    case atStart => exact ⟨0, _, Nat.zero_le _, rfl, hOK7, hst7, hSa7, hSb7, hT, hW7, Nat.le_refl _⟩
    case round =>
      obtain ⟨j, C, hj, rfl, hOK, hst, hSa, hSb, hTr, hbel, hsz⟩ := hrel
      by_cases hjl : j < ts.length
      · obtain ⟨q1, q2, q3, q4, pa, pc, q5⟩ := hTr.each ts[j] (List.getElem_mem hjl)
        obtain ⟨t, ht⟩ : ∃ t, ts[j].2 = t := ⟨_, rfl⟩
        rw [ht] at q1 q2 q3 q4 q5
        rw [q5] at q1
        obtain ⟨tb, rfl, htb1, htb2⟩ : ∃ tb, pa = some ⟨tb, 0, none⟩ ∧ w6.heap.size ≤ tb ∧ tb < wr.heap.size := by
          rcases q1.2 with ⟨e, h0⟩ | ⟨g', cap', cur', e, h1', h3', _⟩
          · omega
          · injection e with e1 _ _
            exact ⟨g', e1, h1', (Array.getElem?_eq_some_iff.1 h3').1⟩
        obtain ⟨F, hF0, hFl⟩ := hFL t q2 q3 q4
        have hrow := hTr.row
        obtain ⟨gt, hgt⟩ : ∃ gt, at' = some ⟨gt, 0, none⟩ := by
          rcases hrow.2 with ⟨e, h0⟩ | ⟨g', cap', cur', e, _⟩
          · omega
          · injection e with e1 _ _
            exact ⟨g', e1⟩
        subst hgt
        have ct' : wr.cell? ⟨gt, j, none⟩ = some (.slice (some ⟨tb, 0, none⟩) t.length pc) := by
          rw [hrow.cellAt j (by omega), List.getElem?_map, List.getElem?_eq_getElem hjl]
          exact congrArg some q5
        have hltg := (World.ownsRow.lt hrow gt rfl)
        clear q5 ht hrow
        have hMw : ∀ k, M k → k < wr.heap.size := fun k hk => by have := hMr k hk; omega
        have hvb := verdict_range C.most C.enough C.compared C.unlike
        have hv2 : verdict C.most C.enough C.compared C.unlike ≠ 2 := by
          rw [hst.mo, hst.un]
          unfold verdict
          rw [if_neg (by omega)]
          split <;> omega
        have hv1 := verdict_walk (hOK.at'.cell 3) (hOK.at'.cell 4) (hOK.at'.cell 6) (hOK.at'.cell 7)
        obtain ⟨V, hV⟩ : ∃ V, verdict C.most C.enough C.compared C.unlike = V := ⟨_, rfl⟩
        rw [hV] at hvb hv2 hv1
        have HV : Hid (verdict C.most C.enough C.compared C.unlike = V) := hV
        clear hV
        have hkey : ∀ w', Below wr.heap.size wr w' → Calls Tryz.prog 12 #[.pointer (some ⟨cb, 0, none⟩), .slice (some ⟨tb, 0, none⟩) t.length pc, .int .i64 2000] w' fun e w2 => ∃ (x : Bool) (er : Int) (C' : Can), e = .returned (.tuple #[.bool x, .bool x, .int .i64 er]) ∧ BelBut M cb w' w2 ∧ CanOK M w2 cb b1 b2 C' ∧ CanSt C' (j + 1) ∧ ((V = 0 ∧ er = 0) ∨ (V ≠ 0 ∧ er = 20 ∧ C' = C)) := fun w' hw' => by
          have hs' := hw'.size
          have hF1 := hFl M w3.heap.size w4.heap.size w' (ra ++ rb) tb pc w6.heap.size (fun k hk => Nat.lt_of_lt_of_le (hMw k hk) hs') (by omega) hk2 (.inr (by omega)) (fun e => by have := hMr _ e; omega) (owns_below q1 hw')
          have hF2 := hFl M w4.heap.size w5.heap.size w' (rb ++ ra) tb pc w6.heap.size (fun k hk => Nat.lt_of_lt_of_le (hMw k hk) hs') (by omega) (fun r hr => hk2 r (by simp at hr ⊢; exact hr.symm)) (.inr (by omega)) (fun e => by have := hMr _ e; omega) (owns_below q1 hw')
          have := see_turn (i := j) (fun k hk => Nat.lt_of_lt_of_le (hMw k hk) hs') (hSa.bel (Bel.of hw') (by omega)) (hSb.bel (Bel.of hw') (by omega)) (by omega) (by omega) hlen2 hsz2 hnd2 (hOK.bel (.of hw')) hst (by omega) (by omega) (fun r hr f => hF0 r.k f) hF1 hF2
          rw [HV.out] at this
          exact this
        have hgm : ¬ M gt := fun e => by have := hMr _ e; omega
        obtain ⟨cse, cco, cun, hcs⟩ : ∃ a b c, C.seen = a ∧ C.compared = b ∧ C.unlike = c := ⟨_, _, _, rfl, rfl, rfl⟩
        have hct := fun w' (hw' : Below wr.heap.size wr w') => counts_walk (w := w') (s := C.seen) (c := C.compared) (u := C.unlike) ((hOK.bel (.of hw')).at'.cell 5) ((hOK.bel (.of hw')).at'.cell 6) ((hOK.bel (.of hw')).at'.cell 7)
        have hVV : V = 0 ∨ V = 1 := by omega
        rcases hVV with rfl | rfl
        · go_wp2_with (first
            | (go_at_call 19; refine hv1.mono ?_; clear hv1; rintro _ w8 ⟨rfl, hb8⟩; have hct8 := hct w8 hb8)
            | (go_at_call 17; refine hct8.mono ?_; clear hct8; rintro _ w9 ⟨rfl, hb9⟩; have hB9 : Below wr.heap.size wr w9 := hb8.trans (hb9.mono hb8.size); have ct9 := (hB9.cell (p := ⟨gt, j, none⟩) hltg.2).trans ct'; have hk9 := hkey w9 hB9)
            | (go_at_call 12; refine hk9.mono ?_; clear hk9 hkey; rintro _ w10 ⟨x, er, C', rfl, hb10, hOK', hst', hor⟩))
          have hC9 := (hOK.bel (.of hB9)).at'
          have hvb' := verdict_range C'.most C'.enough C'.compared C'.unlike
          have hv2' : verdict C'.most C'.enough C'.compared C'.unlike ≠ 2 := by
            rw [hst'.mo, hst'.un]
            unfold verdict
            rw [if_neg (by omega)]
            split <;> omega
          obtain ⟨V', hV'⟩ : ∃ V', verdict C'.most C'.enough C'.compared C'.unlike = V' := ⟨_, rfl⟩
          have hvw := fun w' (hw' : Below w10.heap.size w10 w') => verdict_walk (w := w') ((hOK'.bel (.of hw')).at'.cell 3) ((hOK'.bel (.of hw')).at'.cell 4) ((hOK'.bel (.of hw')).at'.cell 6) ((hOK'.bel (.of hw')).at'.cell 7)
          rw [hV'] at hvb' hv2' hvw
          have HV' : Hid (verdict C'.most C'.enough C'.compared C'.unlike = V') := hV'
          clear hV'
          have hcw := counts_walk (w := w10) (s := C'.seen) (c := C'.compared) (u := C'.unlike) (hOK'.at'.cell 5) (hOK'.at'.cell 6) (hOK'.at'.cell 7)
          have h9s := hB9.size
          have h10s := hb10.size
          have hE : ∀ wE, Below w10.heap.size w10 wE → CanOK M wE cb b1 b2 C' ∧ SetAt M w3.heap.size w4.heap.size wE b1 (ra ++ rb) ∧ SetAt M w4.heap.size w5.heap.size wE b2 (rb ++ ra) ∧ TextsAt wE w6.heap.size (.slice (some ⟨gt, 0, none⟩) ts.length ct) ts ∧ Below w.heap.size w wE ∧ w7.heap.size ≤ wE.heap.size := fun wE hbE => by
            have hEs := hbE.size
            have hM5 : Bel M w5.heap.size w9 w10 := (Bel.refl M w5.heap.size w9).but hb10 (by omega) hcb
            refine ⟨hOK'.bel (.of hbE), ((hSa.bel (Bel.of hB9) (by omega)).bel hM5 (by omega)).bel (Bel.of hbE) (by omega), ((hSb.bel (Bel.of hB9) (by omega)).bel hM5 (Nat.le_refl _)).bel (Bel.of hbE) (by omega), ((hTr.bel hB9).but hb10 (fun k hk => by have := hMr k hk; omega) hC9).bel hbE, ?_, by omega⟩
            have hBw : Below w.heap.size w9 w10 := ((Bel.refl M w.heap.size w9).but hb10 (by omega) (by omega)).below fun k hk => by have := hMr k hk; omega
            exact ((hbel.trans (hB9.mono (by omega))).trans hBw).trans (hbE.mono (by omega))
          have her : er = 0 := hor.elim (fun h => h.2) (fun h => absurd rfl h.1)
          subst her
          clear hor hcs
          have hVV' : V' = 0 ∨ V' = 1 := by omega
          rcases hVV' with rfl | rfl
          · go_wp2_with (first
              | (go_at_call 17; refine hcw.mono ?_; clear hcw; rintro _ w11 ⟨rfl, hb11⟩; have hv11 := hvw w11 hb11)
              | (go_at_call 19; refine hv11.mono ?_; clear hv11; rintro _ w12 ⟨rfl, hb12⟩; have hb12' : Below w10.heap.size w10 w12 := hb11.trans (hb12.mono hb11.size); have hv12 := hvw w12 hb12')
              | (go_at_call 19; refine hv12.mono ?_; clear hv12; rintro _ w13 ⟨rfl, hb13⟩; have hb13' : Below w10.heap.size w10 w13 := hb12'.trans (hb13.mono hb12'.size)))
            go_roundw
            case rel =>
              obtain ⟨z1, z2, z3, z4, z5, z6⟩ := hE _ hb12'
              exact ⟨j + 1, C', hjl, by go_num, z1, hst', z2, z3, z4, z5, z6⟩
            case measure => simp [intOf]; omega
          · go_wp2_with (first
              | (go_at_call 17; refine hcw.mono ?_; clear hcw; rintro _ w11 ⟨rfl, hb11⟩; have hv11 := hvw w11 hb11)
              | (go_at_call 19; refine hv11.mono ?_; clear hv11; rintro _ w12 ⟨rfl, hb12⟩; have hb12' : Below w10.heap.size w10 w12 := hb11.trans (hb12.mono hb11.size); have hv12 := hvw w12 hb12')
              | (go_at_call 19; refine hv12.mono ?_; clear hv12; rintro _ w13 ⟨rfl, hb13⟩; have hb13' : Below w10.heap.size w10 w13 := hb12'.trans (hb13.mono hb12'.size)))
            go_roundw
            case rel =>
              obtain ⟨z1, z2, z3, z4, z5, z6⟩ := hE _ hb12'
              exact ⟨j + 1, C', hjl, by go_num, z1, hst', z2, z3, z4, z5, z6⟩
            case measure => simp [intOf]; omega
        · go_wp2_with (first
            | (go_at_call 19; refine hv1.mono ?_; clear hv1; rintro _ w8 ⟨rfl, hb8⟩; have hct8 := hct w8 hb8)
            | (go_at_call 17; refine hct8.mono ?_; clear hct8; rintro _ w9 ⟨rfl, hb9⟩; have hB9 : Below wr.heap.size wr w9 := hb8.trans (hb9.mono hb8.size); have ct9 := (hB9.cell (p := ⟨gt, j, none⟩) hltg.2).trans ct'; have hk9 := hkey w9 hB9)
            | (go_at_call 12; refine hk9.mono ?_; clear hk9 hkey; rintro _ w10 ⟨x, er, C', rfl, hb10, hOK', hst', hor⟩))
          have hC9 := (hOK.bel (.of hB9)).at'
          have hvb' := verdict_range C'.most C'.enough C'.compared C'.unlike
          have hv2' : verdict C'.most C'.enough C'.compared C'.unlike ≠ 2 := by
            rw [hst'.mo, hst'.un]
            unfold verdict
            rw [if_neg (by omega)]
            split <;> omega
          obtain ⟨V', hV'⟩ : ∃ V', verdict C'.most C'.enough C'.compared C'.unlike = V' := ⟨_, rfl⟩
          have hvw := fun w' (hw' : Below w10.heap.size w10 w') => verdict_walk (w := w') ((hOK'.bel (.of hw')).at'.cell 3) ((hOK'.bel (.of hw')).at'.cell 4) ((hOK'.bel (.of hw')).at'.cell 6) ((hOK'.bel (.of hw')).at'.cell 7)
          rw [hV'] at hvb' hv2' hvw
          have HV' : Hid (verdict C'.most C'.enough C'.compared C'.unlike = V') := hV'
          clear hV'
          have hcw := counts_walk (w := w10) (s := C'.seen) (c := C'.compared) (u := C'.unlike) (hOK'.at'.cell 5) (hOK'.at'.cell 6) (hOK'.at'.cell 7)
          have h9s := hB9.size
          have h10s := hb10.size
          have hE : ∀ wE, Below w10.heap.size w10 wE → CanOK M wE cb b1 b2 C' ∧ SetAt M w3.heap.size w4.heap.size wE b1 (ra ++ rb) ∧ SetAt M w4.heap.size w5.heap.size wE b2 (rb ++ ra) ∧ TextsAt wE w6.heap.size (.slice (some ⟨gt, 0, none⟩) ts.length ct) ts ∧ Below w.heap.size w wE ∧ w7.heap.size ≤ wE.heap.size := fun wE hbE => by
            have hEs := hbE.size
            have hM5 : Bel M w5.heap.size w9 w10 := (Bel.refl M w5.heap.size w9).but hb10 (by omega) hcb
            refine ⟨hOK'.bel (.of hbE), ((hSa.bel (Bel.of hB9) (by omega)).bel hM5 (by omega)).bel (Bel.of hbE) (by omega), ((hSb.bel (Bel.of hB9) (by omega)).bel hM5 (Nat.le_refl _)).bel (Bel.of hbE) (by omega), ((hTr.bel hB9).but hb10 (fun k hk => by have := hMr k hk; omega) hC9).bel hbE, ?_, by omega⟩
            have hBw : Below w.heap.size w9 w10 := ((Bel.refl M w.heap.size w9).but hb10 (by omega) (by omega)).below fun k hk => by have := hMr k hk; omega
            exact ((hbel.trans (hB9.mono (by omega))).trans hBw).trans (hbE.mono (by omega))
          have her : er = 20 ∧ C' = C := hor.elim (fun h => absurd h.1 (by decide)) (fun h => h.2)
          obtain ⟨rfl, hCC⟩ := her
          subst hCC
          have hV1 : V' = 1 := HV'.out.symm.trans HV.out
          subst hV1
          clear hor
          go_wp2_with (first
            | (go_at_call 17; refine hcw.mono ?_; clear hcw; rintro _ w11 ⟨rfl, hb11⟩; have hv11 := hvw w11 hb11)
            | (go_at_call 19; refine hv11.mono ?_; clear hv11; rintro _ w12 ⟨rfl, hb12⟩; have hb12' : Below w10.heap.size w10 w12 := hb11.trans (hb12.mono hb11.size); have hv12 := hvw w12 hb12')
            | (go_at_call 19; refine hv12.mono ?_; clear hv12; rintro _ w13 ⟨rfl, hb13⟩; have hb13' : Below w10.heap.size w10 w13 := hb12'.trans (hb13.mono hb12'.size)))
          go_roundw
          case rel =>
            obtain ⟨z1, z2, z3, z4, z5, z6⟩ := hE _ hb13'
            exact ⟨j + 1, C', hjl, by go_num, z1, hst', z2, z3, z4, z5, z6⟩
          case measure => simp [intOf]; omega
      · have hje : j = ts.length := by omega
        subst hje
        have hun := unlike_walk (cb := cb) (w := wr) (by rw [hOK.at'.cell 10]; simp [Can.cells, hst.ca])
        go_wp2_with (first
          | (go_at_call 20; refine hun.mono ?_; clear hun; rintro _ w8 ⟨rfl, hb8⟩; have hliv := lives_walk w8)
          | (go_at_call 13; refine hliv.mono ?_; clear hliv; rintro _ w9 ⟨rfl, hb9⟩))
        go_ret
        have s8 := hb8.size
        exact ⟨rfl, (hbel.trans (hb8.mono hbel.size)).trans (hb9.mono (by have := hbel.size; omega))⟩
  · have hmax : c1 ≤ 9223372036854775807 := by unfold maxLen at z2; omega
    have hq1 : (0 : Int) ≤ (n : Int) := Int.natCast_nonneg _
    have hq2 : (n : Int) ≤ (rs.length : Int) := by omega
    have hq3 : (rs.length : Int) ≤ (c1 : Int) := by omega
    obtain ⟨pc1, pc2⟩ := part_cells hown1 hab
    rw [hra] at pc1
    have hOwnA := World.ownsRow_nil w1b w1b.heap.size 27 3
    have hltv := World.ownsRow.lt hown1 g rfl
    have HAB : Hid (rs = ra ++ rb) := hab
    have HRA : Hid (ra.length = n) := hra
    have HRB : Hid (rb.length = rs.length - n) := hrb
    by_cases hcn : c1 = n
    · have hnr : n = rs.length := by omega
      have hb0 : rb = [] := List.length_eq_zero_iff.1 (by omega)
      have pc0 : ∀ j y, (rb.flatMap Rl.cells)[j]? = some y → w1b.cell? ((⟨g, 0, none⟩ : Addr).add j) = some y := fun j y hy => by rw [hb0] at hy; simp at hy
      subst hcn
      have HB0 : Hid (rb.length = 0) := by show _ = _; rw [hb0]; rfl
      clear hab hra hrb hnr hb0
      go_wp2_with (first
        | (at_builtin; refine wpList_append_any rfl _ _ 23 rfl i0 _ 40 Tryz.underlying23 hi0 hz0 hz1 hz2 rfl (by decide) _ 0 [] rfl hOwnA _ _ (rb.flatMap Rl.cells) rfl (.inr ⟨_, _, rfl, pc0⟩) (by rw [rl_len, HB0.out]) (rl_one rb) (by unfold maxLen; omega) (by omega) (Nat.le_refl _) ?_; clear hOwnA; intro vf1 w2 hf1 hg1; have hgs1 := hg1.size; have hB1 : Below w1b.heap.size w1b w2 := (Below.refl _ _).grown hg1 (Nat.le_refl _) (fun k hk => by cases hk); have pd2 := (part_cells (owns_below hown1 hB1) HAB.out).2)
        | (at_builtin; refine wpList_append_any rfl _ _ 23 rfl i0 _ 40 Tryz.underlying23 hi0 hz0 hz1 hz2 rfl (by decide) _ _ _ rfl hf1 _ _ (ra.flatMap Rl.cells) rfl (.inr ⟨_, _, rfl, pd2⟩) (by rw [rl_len, HRA.out]) (rl_one ra) (by unfold maxLen; omega) (by omega) hgs1 ?_; intro vf2 w3 hf2 hg2))
      have hB3 : Below w1b.heap.size w1b w3 := hB1.grown hg2 hgs1 (fun k hk => (World.ownsRow.lt hf1 k hk).1)
      have hO1 : w3.ownsRow w.heap.size 27 3 (.slice (some ⟨g, 0, none⟩) rs.length c1) (ra ++ rb).length ((ra ++ rb).flatMap Rl.cells) := by rw [← HAB.out]; exact owns_below hown1 hB3
      have hO2 : w3.ownsRow w1b.heap.size 27 3 vf2 (rb ++ ra).length ((rb ++ ra).flatMap Rl.cells) := by
        rw [List.length_append, HRA.out, HB0.out, List.flatMap_append]
        simpa using hf2
      have hG2 : Good (ra ++ rb) := by rw [← HAB.out]; exact hG
      have hk2 : ∀ r ∈ ra ++ rb, r.k < 8 := by rw [← HAB.out]; exact hk8
      have hW3 : Below w.heap.size w w3 := hb1.trans (hB3.mono hs1)
      have hs3 := hB3.size
      have hownA := own_walk hO1 hG2
      go_wp2_with (first
        | (go_at_call 10; refine hownA.mono ?_; clear hownA; rintro _ w4 ⟨b1, M1, rfl, hb4, hM1, hS1⟩; have hownB := own_walk (owns_below hO2 hb4) hG2.turn)
        | (go_at_call 10; refine hownB.mono ?_; clear hownB; rintro _ w5 ⟨b2, M2, rfl, hb5, hM2, hS2⟩; have hnew := new_walk (hS1.bel (Bel.of hb5) (Nat.le_refl _)) hS2 hb5.size (Nat.le_refl _) hG2.len hG2.turn.len (fun r hr => by rcases List.mem_append.1 hr with hr | hr; exact (hG2.each r hr).2.2.2; exact (hG2.turn.each r hr).2.2.2) hNums)
        | (go_at_call 18; refine (hE3 _).mono ?_; clear hE3; rintro _ wx ⟨rfl, rfl⟩)
        | (go_at_call 18; refine (hE5 _).mono ?_; clear hE5; rintro _ wx ⟨rfl, rfl⟩)
        | (go_at_call 9; refine hnew.mono ?_; clear hnew; rintro _ w6 ⟨cb, bm, vn, ns, rfl, hb6, hcb, hC, hbm, hbmge, hnames, hnl, hnsz, _⟩; have hW6 : Below w.heap.size w w6 := ((hW3.trans (hb4.mono (by omega))).trans (hb5.mono (by have := hb4.size; omega))).trans (hb6.mono (by have := hb4.size; have := hb5.size; omega)); have htx := texts_walk (h2.below hW6))
        | (go_at_call 11; refine htx.mono ?_; clear htx; rintro _ w7 ⟨vt, ts, rfl, hT, htl, hb7⟩; obtain ⟨at', ct, rfl, _⟩ := owns_shape hT.row))
      have s4 := hb4.size
      have s5 := hb5.size
      have s6 := hb6.size
      have s7 := hb7.size
      obtain ⟨M, hMdef⟩ : ∃ M : Nat → Prop, M = fun k => M1 k ∨ M2 k := ⟨_, rfl⟩
      have hMr : ∀ k, M k → w3.heap.size ≤ k ∧ k < w5.heap.size := fun k hk => by
        rw [hMdef] at hk
        rcases hk with hk | hk
        · have := hM1 k hk; omega
        · have := hM2 k hk; omega
      have hSa7 : SetAt M w3.heap.size w4.heap.size w7 b1 (ra ++ rb) := (hS1.more fun c c1 c2 => by
        rw [hMdef]
        exact ⟨fun h => h.elim id fun h2 => by have := hM2 c h2; omega, .inl⟩).bel (Bel.of ((hb5.trans (hb6.mono (by omega))).trans (hb7.mono (by omega)))) (Nat.le_refl _)
      have hSb7 : SetAt M w4.heap.size w5.heap.size w7 b2 (rb ++ ra) := (hS2.more fun c c1 c2 => by
        rw [hMdef]
        exact ⟨fun h => h.elim (fun h2 => by have := hM1 c h2; omega) id, .inr⟩).bel (Bel.of (hb6.trans (hb7.mono (by omega)))) (Nat.le_refl _)
      have hOK7 : CanOK M w7 cb b1 b2 ⟨b1, b2, 1 + (e3 : Int), 0, 1 + (e5 : Int), 0, 0, 0, vn, .map (some bm), .slice none 0 0⟩ := by
        refine ⟨hC.below hb7, rfl, rfl, fun e => by have := (hMr cb e).2; omega, ⟨bm, rfl, fun e => by have := (hMr bm e).2; omega, fun e => ?_, hbm.same (hb7.block bm hbm.lt)⟩, w5.heap.size, ns, owns_below hnames hb7, fun k hk => (hMr k hk).2, fun e => not_row hnames hC (by decide) e.symm, by omega, hnsz⟩
        subst e
        obtain ⟨ms, cl, h0, _⟩ := hbm
        have h9 := hC
        unfold CanAt at h9
        rw [h9] at h0
        cases h0
      have hst7 : CanSt ⟨b1, b2, 1 + (e3 : Int), 0, 1 + (e5 : Int), 0, 0, 0, vn, .map (some bm), .slice none 0 0⟩ 0 := ⟨⟨by show 1 ≤ 1 + (e3 : Int); omega, by show 1 + (e3 : Int) ≤ 1000; omega⟩, rfl, by show 1 ≤ 1 + (e5 : Int); omega, ⟨Int.le_refl _, Int.le_refl _⟩, ⟨Int.le_refl _, Int.le_refl _⟩, rfl, rfl⟩
      have hW7 : Below w.heap.size w w7 := hW6.trans (hb7.mono hW6.size)
      have hlen2 := hG2.len
      have hsz2 : ∀ r ∈ ra ++ rb, r.name.size ≤ maxLen := fun r hr => (hG2.each r hr).2.2.2
      have hnd2 := hG2.nodup
      have hwsz := hW3.size
      clear hS1 hS2 hM1 hM2 hC hbm hnames hnsz hO1 hO2 hB3 hb4 hb5 hb6 hb7 hG2 hW6 hW3 h2 hG hk8 hown1 hNums
      go_loopw [17] (fun i wr => ∃ (j : Nat) (C : Can), j ≤ ts.length ∧ i = .int .i64 j ∧ CanOK M wr cb b1 b2 C ∧ CanSt C j ∧ SetAt M w3.heap.size w4.heap.size wr b1 (ra ++ rb) ∧ SetAt M w4.heap.size w5.heap.size wr b2 (rb ++ ra) ∧ TextsAt wr w6.heap.size (.slice at' ts.length ct) ts ∧ Below w.heap.size w wr ∧ w7.heap.size ≤ wr.heap.size) (fun i _ => ts.length - (intOf i).toNat)
      case atStart => exact ⟨0, _, Nat.zero_le _, rfl, hOK7, hst7, hSa7, hSb7, hT, hW7, Nat.le_refl _⟩
      case round =>
        obtain ⟨j, C, hj, rfl, hOK, hst, hSa, hSb, hTr, hbel, hsz⟩ := hrel
        by_cases hjl : j < ts.length
        · obtain ⟨q1, q2, q3, q4, pa, pc, q5⟩ := hTr.each ts[j] (List.getElem_mem hjl)
          obtain ⟨t, ht⟩ : ∃ t, ts[j].2 = t := ⟨_, rfl⟩
          rw [ht] at q1 q2 q3 q4 q5
          rw [q5] at q1
          obtain ⟨tb, rfl, htb1, htb2⟩ : ∃ tb, pa = some ⟨tb, 0, none⟩ ∧ w6.heap.size ≤ tb ∧ tb < wr.heap.size := by
            rcases q1.2 with ⟨e, h0⟩ | ⟨g', cap', cur', e, h1', h3', _⟩
            · omega
            · injection e with e1 _ _
              exact ⟨g', e1, h1', (Array.getElem?_eq_some_iff.1 h3').1⟩
          obtain ⟨F, hF0, hFl⟩ := hFL t q2 q3 q4
          have hrow := hTr.row
          obtain ⟨gt, hgt⟩ : ∃ gt, at' = some ⟨gt, 0, none⟩ := by
            rcases hrow.2 with ⟨e, h0⟩ | ⟨g', cap', cur', e, _⟩
            · omega
            · injection e with e1 _ _
              exact ⟨g', e1⟩
          subst hgt
          have ct' : wr.cell? ⟨gt, j, none⟩ = some (.slice (some ⟨tb, 0, none⟩) t.length pc) := by
            rw [hrow.cellAt j (by omega), List.getElem?_map, List.getElem?_eq_getElem hjl]
            exact congrArg some q5
          have hltg := (World.ownsRow.lt hrow gt rfl)
          clear q5 ht hrow
          have hMw : ∀ k, M k → k < wr.heap.size := fun k hk => by have := hMr k hk; omega
          have hvb := verdict_range C.most C.enough C.compared C.unlike
          have hv2 : verdict C.most C.enough C.compared C.unlike ≠ 2 := by
            rw [hst.mo, hst.un]
            unfold verdict
            rw [if_neg (by omega)]
            split <;> omega
          have hv1 := verdict_walk (hOK.at'.cell 3) (hOK.at'.cell 4) (hOK.at'.cell 6) (hOK.at'.cell 7)
          obtain ⟨V, hV⟩ : ∃ V, verdict C.most C.enough C.compared C.unlike = V := ⟨_, rfl⟩
          rw [hV] at hvb hv2 hv1
          have HV : Hid (verdict C.most C.enough C.compared C.unlike = V) := hV
          clear hV
          have hkey : ∀ w', Below wr.heap.size wr w' → Calls Tryz.prog 12 #[.pointer (some ⟨cb, 0, none⟩), .slice (some ⟨tb, 0, none⟩) t.length pc, .int .i64 2000] w' fun e w2 => ∃ (x : Bool) (er : Int) (C' : Can), e = .returned (.tuple #[.bool x, .bool x, .int .i64 er]) ∧ BelBut M cb w' w2 ∧ CanOK M w2 cb b1 b2 C' ∧ CanSt C' (j + 1) ∧ ((V = 0 ∧ er = 0) ∨ (V ≠ 0 ∧ er = 20 ∧ C' = C)) := fun w' hw' => by
            have hs' := hw'.size
            have hF1 := hFl M w3.heap.size w4.heap.size w' (ra ++ rb) tb pc w6.heap.size (fun k hk => Nat.lt_of_lt_of_le (hMw k hk) hs') (by omega) hk2 (.inr (by omega)) (fun e => by have := hMr _ e; omega) (owns_below q1 hw')
            have hF2 := hFl M w4.heap.size w5.heap.size w' (rb ++ ra) tb pc w6.heap.size (fun k hk => Nat.lt_of_lt_of_le (hMw k hk) hs') (by omega) (fun r hr => hk2 r (by simp at hr ⊢; exact hr.symm)) (.inr (by omega)) (fun e => by have := hMr _ e; omega) (owns_below q1 hw')
            have := see_turn (i := j) (fun k hk => Nat.lt_of_lt_of_le (hMw k hk) hs') (hSa.bel (Bel.of hw') (by omega)) (hSb.bel (Bel.of hw') (by omega)) (by omega) (by omega) hlen2 hsz2 hnd2 (hOK.bel (.of hw')) hst (by omega) (by omega) (fun r hr f => hF0 r.k f) hF1 hF2
            rw [HV.out] at this
            exact this
          have hgm : ¬ M gt := fun e => by have := hMr _ e; omega
          obtain ⟨cse, cco, cun, hcs⟩ : ∃ a b c, C.seen = a ∧ C.compared = b ∧ C.unlike = c := ⟨_, _, _, rfl, rfl, rfl⟩
          have hct := fun w' (hw' : Below wr.heap.size wr w') => counts_walk (w := w') (s := C.seen) (c := C.compared) (u := C.unlike) ((hOK.bel (.of hw')).at'.cell 5) ((hOK.bel (.of hw')).at'.cell 6) ((hOK.bel (.of hw')).at'.cell 7)
          have hVV : V = 0 ∨ V = 1 := by omega
          rcases hVV with rfl | rfl
          · go_wp2_with (first
              | (go_at_call 19; refine hv1.mono ?_; clear hv1; rintro _ w8 ⟨rfl, hb8⟩; have hct8 := hct w8 hb8)
              | (go_at_call 17; refine hct8.mono ?_; clear hct8; rintro _ w9 ⟨rfl, hb9⟩; have hB9 : Below wr.heap.size wr w9 := hb8.trans (hb9.mono hb8.size); have ct9 := (hB9.cell (p := ⟨gt, j, none⟩) hltg.2).trans ct'; have hk9 := hkey w9 hB9)
              | (go_at_call 12; refine hk9.mono ?_; clear hk9 hkey; rintro _ w10 ⟨x, er, C', rfl, hb10, hOK', hst', hor⟩))
            have hC9 := (hOK.bel (.of hB9)).at'
            have hvb' := verdict_range C'.most C'.enough C'.compared C'.unlike
            have hv2' : verdict C'.most C'.enough C'.compared C'.unlike ≠ 2 := by
              rw [hst'.mo, hst'.un]
              unfold verdict
              rw [if_neg (by omega)]
              split <;> omega
            obtain ⟨V', hV'⟩ : ∃ V', verdict C'.most C'.enough C'.compared C'.unlike = V' := ⟨_, rfl⟩
            have hvw := fun w' (hw' : Below w10.heap.size w10 w') => verdict_walk (w := w') ((hOK'.bel (.of hw')).at'.cell 3) ((hOK'.bel (.of hw')).at'.cell 4) ((hOK'.bel (.of hw')).at'.cell 6) ((hOK'.bel (.of hw')).at'.cell 7)
            rw [hV'] at hvb' hv2' hvw
            have HV' : Hid (verdict C'.most C'.enough C'.compared C'.unlike = V') := hV'
            clear hV'
            have hcw := counts_walk (w := w10) (s := C'.seen) (c := C'.compared) (u := C'.unlike) (hOK'.at'.cell 5) (hOK'.at'.cell 6) (hOK'.at'.cell 7)
            have h9s := hB9.size
            have h10s := hb10.size
            have hE : ∀ wE, Below w10.heap.size w10 wE → CanOK M wE cb b1 b2 C' ∧ SetAt M w3.heap.size w4.heap.size wE b1 (ra ++ rb) ∧ SetAt M w4.heap.size w5.heap.size wE b2 (rb ++ ra) ∧ TextsAt wE w6.heap.size (.slice (some ⟨gt, 0, none⟩) ts.length ct) ts ∧ Below w.heap.size w wE ∧ w7.heap.size ≤ wE.heap.size := fun wE hbE => by
              have hEs := hbE.size
              have hM5 : Bel M w5.heap.size w9 w10 := (Bel.refl M w5.heap.size w9).but hb10 (by omega) hcb
              refine ⟨hOK'.bel (.of hbE), ((hSa.bel (Bel.of hB9) (by omega)).bel hM5 (by omega)).bel (Bel.of hbE) (by omega), ((hSb.bel (Bel.of hB9) (by omega)).bel hM5 (Nat.le_refl _)).bel (Bel.of hbE) (by omega), ((hTr.bel hB9).but hb10 (fun k hk => by have := hMr k hk; omega) hC9).bel hbE, ?_, by omega⟩
              have hBw : Below w.heap.size w9 w10 := ((Bel.refl M w.heap.size w9).but hb10 (by omega) (by omega)).below fun k hk => by have := hMr k hk; omega
              exact ((hbel.trans (hB9.mono (by omega))).trans hBw).trans (hbE.mono (by omega))
            have her : er = 0 := hor.elim (fun h => h.2) (fun h => absurd rfl h.1)
            subst her
            clear hor hcs
            have hVV' : V' = 0 ∨ V' = 1 := by omega
            rcases hVV' with rfl | rfl
            · go_wp2_with (first
                | (go_at_call 17; refine hcw.mono ?_; clear hcw; rintro _ w11 ⟨rfl, hb11⟩; have hv11 := hvw w11 hb11)
                | (go_at_call 19; refine hv11.mono ?_; clear hv11; rintro _ w12 ⟨rfl, hb12⟩; have hb12' : Below w10.heap.size w10 w12 := hb11.trans (hb12.mono hb11.size); have hv12 := hvw w12 hb12')
                | (go_at_call 19; refine hv12.mono ?_; clear hv12; rintro _ w13 ⟨rfl, hb13⟩; have hb13' : Below w10.heap.size w10 w13 := hb12'.trans (hb13.mono hb12'.size)))
              go_roundw
              case rel =>
                obtain ⟨z1, z2, z3, z4, z5, z6⟩ := hE _ hb12'
                exact ⟨j + 1, C', hjl, by go_num, z1, hst', z2, z3, z4, z5, z6⟩
              case measure => simp [intOf]; omega
            · go_wp2_with (first
                | (go_at_call 17; refine hcw.mono ?_; clear hcw; rintro _ w11 ⟨rfl, hb11⟩; have hv11 := hvw w11 hb11)
                | (go_at_call 19; refine hv11.mono ?_; clear hv11; rintro _ w12 ⟨rfl, hb12⟩; have hb12' : Below w10.heap.size w10 w12 := hb11.trans (hb12.mono hb11.size); have hv12 := hvw w12 hb12')
                | (go_at_call 19; refine hv12.mono ?_; clear hv12; rintro _ w13 ⟨rfl, hb13⟩; have hb13' : Below w10.heap.size w10 w13 := hb12'.trans (hb13.mono hb12'.size)))
              go_roundw
              case rel =>
                obtain ⟨z1, z2, z3, z4, z5, z6⟩ := hE _ hb12'
                exact ⟨j + 1, C', hjl, by go_num, z1, hst', z2, z3, z4, z5, z6⟩
              case measure => simp [intOf]; omega
          · go_wp2_with (first
              | (go_at_call 19; refine hv1.mono ?_; clear hv1; rintro _ w8 ⟨rfl, hb8⟩; have hct8 := hct w8 hb8)
              | (go_at_call 17; refine hct8.mono ?_; clear hct8; rintro _ w9 ⟨rfl, hb9⟩; have hB9 : Below wr.heap.size wr w9 := hb8.trans (hb9.mono hb8.size); have ct9 := (hB9.cell (p := ⟨gt, j, none⟩) hltg.2).trans ct'; have hk9 := hkey w9 hB9)
              | (go_at_call 12; refine hk9.mono ?_; clear hk9 hkey; rintro _ w10 ⟨x, er, C', rfl, hb10, hOK', hst', hor⟩))
            have hC9 := (hOK.bel (.of hB9)).at'
            have hvb' := verdict_range C'.most C'.enough C'.compared C'.unlike
            have hv2' : verdict C'.most C'.enough C'.compared C'.unlike ≠ 2 := by
              rw [hst'.mo, hst'.un]
              unfold verdict
              rw [if_neg (by omega)]
              split <;> omega
            obtain ⟨V', hV'⟩ : ∃ V', verdict C'.most C'.enough C'.compared C'.unlike = V' := ⟨_, rfl⟩
            have hvw := fun w' (hw' : Below w10.heap.size w10 w') => verdict_walk (w := w') ((hOK'.bel (.of hw')).at'.cell 3) ((hOK'.bel (.of hw')).at'.cell 4) ((hOK'.bel (.of hw')).at'.cell 6) ((hOK'.bel (.of hw')).at'.cell 7)
            rw [hV'] at hvb' hv2' hvw
            have HV' : Hid (verdict C'.most C'.enough C'.compared C'.unlike = V') := hV'
            clear hV'
            have hcw := counts_walk (w := w10) (s := C'.seen) (c := C'.compared) (u := C'.unlike) (hOK'.at'.cell 5) (hOK'.at'.cell 6) (hOK'.at'.cell 7)
            have h9s := hB9.size
            have h10s := hb10.size
            have hE : ∀ wE, Below w10.heap.size w10 wE → CanOK M wE cb b1 b2 C' ∧ SetAt M w3.heap.size w4.heap.size wE b1 (ra ++ rb) ∧ SetAt M w4.heap.size w5.heap.size wE b2 (rb ++ ra) ∧ TextsAt wE w6.heap.size (.slice (some ⟨gt, 0, none⟩) ts.length ct) ts ∧ Below w.heap.size w wE ∧ w7.heap.size ≤ wE.heap.size := fun wE hbE => by
              have hEs := hbE.size
              have hM5 : Bel M w5.heap.size w9 w10 := (Bel.refl M w5.heap.size w9).but hb10 (by omega) hcb
              refine ⟨hOK'.bel (.of hbE), ((hSa.bel (Bel.of hB9) (by omega)).bel hM5 (by omega)).bel (Bel.of hbE) (by omega), ((hSb.bel (Bel.of hB9) (by omega)).bel hM5 (Nat.le_refl _)).bel (Bel.of hbE) (by omega), ((hTr.bel hB9).but hb10 (fun k hk => by have := hMr k hk; omega) hC9).bel hbE, ?_, by omega⟩
              have hBw : Below w.heap.size w9 w10 := ((Bel.refl M w.heap.size w9).but hb10 (by omega) (by omega)).below fun k hk => by have := hMr k hk; omega
              exact ((hbel.trans (hB9.mono (by omega))).trans hBw).trans (hbE.mono (by omega))
            have her : er = 20 ∧ C' = C := hor.elim (fun h => absurd h.1 (by decide)) (fun h => h.2)
            obtain ⟨rfl, hCC⟩ := her
            subst hCC
            have hV1 : V' = 1 := HV'.out.symm.trans HV.out
            subst hV1
            clear hor
            go_wp2_with (first
              | (go_at_call 17; refine hcw.mono ?_; clear hcw; rintro _ w11 ⟨rfl, hb11⟩; have hv11 := hvw w11 hb11)
              | (go_at_call 19; refine hv11.mono ?_; clear hv11; rintro _ w12 ⟨rfl, hb12⟩; have hb12' : Below w10.heap.size w10 w12 := hb11.trans (hb12.mono hb11.size); have hv12 := hvw w12 hb12')
              | (go_at_call 19; refine hv12.mono ?_; clear hv12; rintro _ w13 ⟨rfl, hb13⟩; have hb13' : Below w10.heap.size w10 w13 := hb12'.trans (hb13.mono hb12'.size)))
            go_roundw
            case rel =>
              obtain ⟨z1, z2, z3, z4, z5, z6⟩ := hE _ hb13'
              exact ⟨j + 1, C', hjl, by go_num, z1, hst', z2, z3, z4, z5, z6⟩
            case measure => simp [intOf]; omega
        · have hje : j = ts.length := by omega
          subst hje
          have hun := unlike_walk (cb := cb) (w := wr) (by rw [hOK.at'.cell 10]; simp [Can.cells, hst.ca])
          go_wp2_with (first
            | (go_at_call 20; refine hun.mono ?_; clear hun; rintro _ w8 ⟨rfl, hb8⟩; have hliv := lives_walk w8)
            | (go_at_call 13; refine hliv.mono ?_; clear hliv; rintro _ w9 ⟨rfl, hb9⟩))
          go_ret
          have s8 := hb8.size
          exact ⟨rfl, (hbel.trans (hb8.mono hbel.size)).trans (hb9.mono (by have := hbel.size; omega))⟩
    · have hcn' : n < c1 := by omega
      clear hab hra hrb
      go_wp2_with (first
        | (at_builtin; refine wpList_append_any rfl _ _ 23 rfl i0 _ 40 Tryz.underlying23 hi0 hz0 hz1 hz2 rfl (by decide) _ 0 [] rfl hOwnA _ (rs.length - n) (rb.flatMap Rl.cells) rfl (.inr ⟨_, _, rfl, pc1⟩) (by rw [rl_len, HRB.out]) (rl_one rb) (by unfold maxLen; omega) (by omega) (Nat.le_refl _) ?_; clear hOwnA; intro vf1 w2 hf1 hg1; have hgs1 := hg1.size; have hB1 : Below w1b.heap.size w1b w2 := (Below.refl _ _).grown hg1 (Nat.le_refl _) (fun k hk => by cases hk); have pd2 := (part_cells (owns_below hown1 hB1) HAB.out).2)
        | (at_builtin; refine wpList_append_any rfl _ _ 23 rfl i0 _ 40 Tryz.underlying23 hi0 hz0 hz1 hz2 rfl (by decide) _ _ _ rfl hf1 _ _ (ra.flatMap Rl.cells) rfl (.inr ⟨_, _, rfl, pd2⟩) (by rw [rl_len, HRA.out]) (rl_one ra) (by unfold maxLen; omega) (by omega) hgs1 ?_; intro vf2 w3 hf2 hg2))
      have hB3 : Below w1b.heap.size w1b w3 := hB1.grown hg2 hgs1 (fun k hk => (World.ownsRow.lt hf1 k hk).1)
      have hO1 : w3.ownsRow w.heap.size 27 3 (.slice (some ⟨g, 0, none⟩) rs.length c1) (ra ++ rb).length ((ra ++ rb).flatMap Rl.cells) := by rw [← HAB.out]; exact owns_below hown1 hB3
      have hO2 : w3.ownsRow w1b.heap.size 27 3 vf2 (rb ++ ra).length ((rb ++ ra).flatMap Rl.cells) := by
        rw [List.length_append, HRA.out, HRB.out, List.flatMap_append]
        simpa using hf2
      have hG2 : Good (ra ++ rb) := by rw [← HAB.out]; exact hG
      have hk2 : ∀ r ∈ ra ++ rb, r.k < 8 := by rw [← HAB.out]; exact hk8
      have hW3 : Below w.heap.size w w3 := hb1.trans (hB3.mono hs1)
      have hs3 := hB3.size
      have hownA := own_walk hO1 hG2
      go_wp2_with (first
        | (go_at_call 10; refine hownA.mono ?_; clear hownA; rintro _ w4 ⟨b1, M1, rfl, hb4, hM1, hS1⟩; have hownB := own_walk (owns_below hO2 hb4) hG2.turn)
        | (go_at_call 10; refine hownB.mono ?_; clear hownB; rintro _ w5 ⟨b2, M2, rfl, hb5, hM2, hS2⟩; have hnew := new_walk (hS1.bel (Bel.of hb5) (Nat.le_refl _)) hS2 hb5.size (Nat.le_refl _) hG2.len hG2.turn.len (fun r hr => by rcases List.mem_append.1 hr with hr | hr; exact (hG2.each r hr).2.2.2; exact (hG2.turn.each r hr).2.2.2) hNums)
        | (go_at_call 18; refine (hE3 _).mono ?_; clear hE3; rintro _ wx ⟨rfl, rfl⟩)
        | (go_at_call 18; refine (hE5 _).mono ?_; clear hE5; rintro _ wx ⟨rfl, rfl⟩)
        | (go_at_call 9; refine hnew.mono ?_; clear hnew; rintro _ w6 ⟨cb, bm, vn, ns, rfl, hb6, hcb, hC, hbm, hbmge, hnames, hnl, hnsz, _⟩; have hW6 : Below w.heap.size w w6 := ((hW3.trans (hb4.mono (by omega))).trans (hb5.mono (by have := hb4.size; omega))).trans (hb6.mono (by have := hb4.size; have := hb5.size; omega)); have htx := texts_walk (h2.below hW6))
        | (go_at_call 11; refine htx.mono ?_; clear htx; rintro _ w7 ⟨vt, ts, rfl, hT, htl, hb7⟩; obtain ⟨at', ct, rfl, _⟩ := owns_shape hT.row))
      have s4 := hb4.size
      have s5 := hb5.size
      have s6 := hb6.size
      have s7 := hb7.size
      obtain ⟨M, hMdef⟩ : ∃ M : Nat → Prop, M = fun k => M1 k ∨ M2 k := ⟨_, rfl⟩
      have hMr : ∀ k, M k → w3.heap.size ≤ k ∧ k < w5.heap.size := fun k hk => by
        rw [hMdef] at hk
        rcases hk with hk | hk
        · have := hM1 k hk; omega
        · have := hM2 k hk; omega
      have hSa7 : SetAt M w3.heap.size w4.heap.size w7 b1 (ra ++ rb) := (hS1.more fun c c1 c2 => by
        rw [hMdef]
        exact ⟨fun h => h.elim id fun h2 => by have := hM2 c h2; omega, .inl⟩).bel (Bel.of ((hb5.trans (hb6.mono (by omega))).trans (hb7.mono (by omega)))) (Nat.le_refl _)
      have hSb7 : SetAt M w4.heap.size w5.heap.size w7 b2 (rb ++ ra) := (hS2.more fun c c1 c2 => by
        rw [hMdef]
        exact ⟨fun h => h.elim (fun h2 => by have := hM1 c h2; omega) id, .inr⟩).bel (Bel.of (hb6.trans (hb7.mono (by omega)))) (Nat.le_refl _)
      have hOK7 : CanOK M w7 cb b1 b2 ⟨b1, b2, 1 + (e3 : Int), 0, 1 + (e5 : Int), 0, 0, 0, vn, .map (some bm), .slice none 0 0⟩ := by
        refine ⟨hC.below hb7, rfl, rfl, fun e => by have := (hMr cb e).2; omega, ⟨bm, rfl, fun e => by have := (hMr bm e).2; omega, fun e => ?_, hbm.same (hb7.block bm hbm.lt)⟩, w5.heap.size, ns, owns_below hnames hb7, fun k hk => (hMr k hk).2, fun e => not_row hnames hC (by decide) e.symm, by omega, hnsz⟩
        subst e
        obtain ⟨ms, cl, h0, _⟩ := hbm
        have h9 := hC
        unfold CanAt at h9
        rw [h9] at h0
        cases h0
      have hst7 : CanSt ⟨b1, b2, 1 + (e3 : Int), 0, 1 + (e5 : Int), 0, 0, 0, vn, .map (some bm), .slice none 0 0⟩ 0 := ⟨⟨by show 1 ≤ 1 + (e3 : Int); omega, by show 1 + (e3 : Int) ≤ 1000; omega⟩, rfl, by show 1 ≤ 1 + (e5 : Int); omega, ⟨Int.le_refl _, Int.le_refl _⟩, ⟨Int.le_refl _, Int.le_refl _⟩, rfl, rfl⟩
      have hW7 : Below w.heap.size w w7 := hW6.trans (hb7.mono hW6.size)
      have hlen2 := hG2.len
      have hsz2 : ∀ r ∈ ra ++ rb, r.name.size ≤ maxLen := fun r hr => (hG2.each r hr).2.2.2
      have hnd2 := hG2.nodup
      have hwsz := hW3.size
      clear hS1 hS2 hM1 hM2 hC hbm hnames hnsz hO1 hO2 hB3 hb4 hb5 hb6 hb7 hG2 hW6 hW3 h2 hG hk8 hown1 hNums
      go_loopw [17] (fun i wr => ∃ (j : Nat) (C : Can), j ≤ ts.length ∧ i = .int .i64 j ∧ CanOK M wr cb b1 b2 C ∧ CanSt C j ∧ SetAt M w3.heap.size w4.heap.size wr b1 (ra ++ rb) ∧ SetAt M w4.heap.size w5.heap.size wr b2 (rb ++ ra) ∧ TextsAt wr w6.heap.size (.slice at' ts.length ct) ts ∧ Below w.heap.size w wr ∧ w7.heap.size ≤ wr.heap.size) (fun i _ => ts.length - (intOf i).toNat)
      case atStart => exact ⟨0, _, Nat.zero_le _, rfl, hOK7, hst7, hSa7, hSb7, hT, hW7, Nat.le_refl _⟩
      case round =>
        obtain ⟨j, C, hj, rfl, hOK, hst, hSa, hSb, hTr, hbel, hsz⟩ := hrel
        by_cases hjl : j < ts.length
        · obtain ⟨q1, q2, q3, q4, pa, pc, q5⟩ := hTr.each ts[j] (List.getElem_mem hjl)
          obtain ⟨t, ht⟩ : ∃ t, ts[j].2 = t := ⟨_, rfl⟩
          rw [ht] at q1 q2 q3 q4 q5
          rw [q5] at q1
          obtain ⟨tb, rfl, htb1, htb2⟩ : ∃ tb, pa = some ⟨tb, 0, none⟩ ∧ w6.heap.size ≤ tb ∧ tb < wr.heap.size := by
            rcases q1.2 with ⟨e, h0⟩ | ⟨g', cap', cur', e, h1', h3', _⟩
            · omega
            · injection e with e1 _ _
              exact ⟨g', e1, h1', (Array.getElem?_eq_some_iff.1 h3').1⟩
          obtain ⟨F, hF0, hFl⟩ := hFL t q2 q3 q4
          have hrow := hTr.row
          obtain ⟨gt, hgt⟩ : ∃ gt, at' = some ⟨gt, 0, none⟩ := by
            rcases hrow.2 with ⟨e, h0⟩ | ⟨g', cap', cur', e, _⟩
            · omega
            · injection e with e1 _ _
              exact ⟨g', e1⟩
          subst hgt
          have ct' : wr.cell? ⟨gt, j, none⟩ = some (.slice (some ⟨tb, 0, none⟩) t.length pc) := by
            rw [hrow.cellAt j (by omega), List.getElem?_map, List.getElem?_eq_getElem hjl]
            exact congrArg some q5
          have hltg := (World.ownsRow.lt hrow gt rfl)
          clear q5 ht hrow
          have hMw : ∀ k, M k → k < wr.heap.size := fun k hk => by have := hMr k hk; omega
          have hvb := verdict_range C.most C.enough C.compared C.unlike
          have hv2 : verdict C.most C.enough C.compared C.unlike ≠ 2 := by
            rw [hst.mo, hst.un]
            unfold verdict
            rw [if_neg (by omega)]
            split <;> omega
          have hv1 := verdict_walk (hOK.at'.cell 3) (hOK.at'.cell 4) (hOK.at'.cell 6) (hOK.at'.cell 7)
          obtain ⟨V, hV⟩ : ∃ V, verdict C.most C.enough C.compared C.unlike = V := ⟨_, rfl⟩
          rw [hV] at hvb hv2 hv1
          have HV : Hid (verdict C.most C.enough C.compared C.unlike = V) := hV
          clear hV
          have hkey : ∀ w', Below wr.heap.size wr w' → Calls Tryz.prog 12 #[.pointer (some ⟨cb, 0, none⟩), .slice (some ⟨tb, 0, none⟩) t.length pc, .int .i64 2000] w' fun e w2 => ∃ (x : Bool) (er : Int) (C' : Can), e = .returned (.tuple #[.bool x, .bool x, .int .i64 er]) ∧ BelBut M cb w' w2 ∧ CanOK M w2 cb b1 b2 C' ∧ CanSt C' (j + 1) ∧ ((V = 0 ∧ er = 0) ∨ (V ≠ 0 ∧ er = 20 ∧ C' = C)) := fun w' hw' => by
            have hs' := hw'.size
            have hF1 := hFl M w3.heap.size w4.heap.size w' (ra ++ rb) tb pc w6.heap.size (fun k hk => Nat.lt_of_lt_of_le (hMw k hk) hs') (by omega) hk2 (.inr (by omega)) (fun e => by have := hMr _ e; omega) (owns_below q1 hw')
            have hF2 := hFl M w4.heap.size w5.heap.size w' (rb ++ ra) tb pc w6.heap.size (fun k hk => Nat.lt_of_lt_of_le (hMw k hk) hs') (by omega) (fun r hr => hk2 r (by simp at hr ⊢; exact hr.symm)) (.inr (by omega)) (fun e => by have := hMr _ e; omega) (owns_below q1 hw')
            have := see_turn (i := j) (fun k hk => Nat.lt_of_lt_of_le (hMw k hk) hs') (hSa.bel (Bel.of hw') (by omega)) (hSb.bel (Bel.of hw') (by omega)) (by omega) (by omega) hlen2 hsz2 hnd2 (hOK.bel (.of hw')) hst (by omega) (by omega) (fun r hr f => hF0 r.k f) hF1 hF2
            rw [HV.out] at this
            exact this
          have hgm : ¬ M gt := fun e => by have := hMr _ e; omega
          obtain ⟨cse, cco, cun, hcs⟩ : ∃ a b c, C.seen = a ∧ C.compared = b ∧ C.unlike = c := ⟨_, _, _, rfl, rfl, rfl⟩
          have hct := fun w' (hw' : Below wr.heap.size wr w') => counts_walk (w := w') (s := C.seen) (c := C.compared) (u := C.unlike) ((hOK.bel (.of hw')).at'.cell 5) ((hOK.bel (.of hw')).at'.cell 6) ((hOK.bel (.of hw')).at'.cell 7)
          have hVV : V = 0 ∨ V = 1 := by omega
          rcases hVV with rfl | rfl
          · go_wp2_with (first
              | (go_at_call 19; refine hv1.mono ?_; clear hv1; rintro _ w8 ⟨rfl, hb8⟩; have hct8 := hct w8 hb8)
              | (go_at_call 17; refine hct8.mono ?_; clear hct8; rintro _ w9 ⟨rfl, hb9⟩; have hB9 : Below wr.heap.size wr w9 := hb8.trans (hb9.mono hb8.size); have ct9 := (hB9.cell (p := ⟨gt, j, none⟩) hltg.2).trans ct'; have hk9 := hkey w9 hB9)
              | (go_at_call 12; refine hk9.mono ?_; clear hk9 hkey; rintro _ w10 ⟨x, er, C', rfl, hb10, hOK', hst', hor⟩))
            have hC9 := (hOK.bel (.of hB9)).at'
            have hvb' := verdict_range C'.most C'.enough C'.compared C'.unlike
            have hv2' : verdict C'.most C'.enough C'.compared C'.unlike ≠ 2 := by
              rw [hst'.mo, hst'.un]
              unfold verdict
              rw [if_neg (by omega)]
              split <;> omega
            obtain ⟨V', hV'⟩ : ∃ V', verdict C'.most C'.enough C'.compared C'.unlike = V' := ⟨_, rfl⟩
            have hvw := fun w' (hw' : Below w10.heap.size w10 w') => verdict_walk (w := w') ((hOK'.bel (.of hw')).at'.cell 3) ((hOK'.bel (.of hw')).at'.cell 4) ((hOK'.bel (.of hw')).at'.cell 6) ((hOK'.bel (.of hw')).at'.cell 7)
            rw [hV'] at hvb' hv2' hvw
            have HV' : Hid (verdict C'.most C'.enough C'.compared C'.unlike = V') := hV'
            clear hV'
            have hcw := counts_walk (w := w10) (s := C'.seen) (c := C'.compared) (u := C'.unlike) (hOK'.at'.cell 5) (hOK'.at'.cell 6) (hOK'.at'.cell 7)
            have h9s := hB9.size
            have h10s := hb10.size
            have hE : ∀ wE, Below w10.heap.size w10 wE → CanOK M wE cb b1 b2 C' ∧ SetAt M w3.heap.size w4.heap.size wE b1 (ra ++ rb) ∧ SetAt M w4.heap.size w5.heap.size wE b2 (rb ++ ra) ∧ TextsAt wE w6.heap.size (.slice (some ⟨gt, 0, none⟩) ts.length ct) ts ∧ Below w.heap.size w wE ∧ w7.heap.size ≤ wE.heap.size := fun wE hbE => by
              have hEs := hbE.size
              have hM5 : Bel M w5.heap.size w9 w10 := (Bel.refl M w5.heap.size w9).but hb10 (by omega) hcb
              refine ⟨hOK'.bel (.of hbE), ((hSa.bel (Bel.of hB9) (by omega)).bel hM5 (by omega)).bel (Bel.of hbE) (by omega), ((hSb.bel (Bel.of hB9) (by omega)).bel hM5 (Nat.le_refl _)).bel (Bel.of hbE) (by omega), ((hTr.bel hB9).but hb10 (fun k hk => by have := hMr k hk; omega) hC9).bel hbE, ?_, by omega⟩
              have hBw : Below w.heap.size w9 w10 := ((Bel.refl M w.heap.size w9).but hb10 (by omega) (by omega)).below fun k hk => by have := hMr k hk; omega
              exact ((hbel.trans (hB9.mono (by omega))).trans hBw).trans (hbE.mono (by omega))
            have her : er = 0 := hor.elim (fun h => h.2) (fun h => absurd rfl h.1)
            subst her
            clear hor hcs
            have hVV' : V' = 0 ∨ V' = 1 := by omega
            rcases hVV' with rfl | rfl
            · go_wp2_with (first
                | (go_at_call 17; refine hcw.mono ?_; clear hcw; rintro _ w11 ⟨rfl, hb11⟩; have hv11 := hvw w11 hb11)
                | (go_at_call 19; refine hv11.mono ?_; clear hv11; rintro _ w12 ⟨rfl, hb12⟩; have hb12' : Below w10.heap.size w10 w12 := hb11.trans (hb12.mono hb11.size); have hv12 := hvw w12 hb12')
                | (go_at_call 19; refine hv12.mono ?_; clear hv12; rintro _ w13 ⟨rfl, hb13⟩; have hb13' : Below w10.heap.size w10 w13 := hb12'.trans (hb13.mono hb12'.size)))
              go_roundw
              case rel =>
                obtain ⟨z1, z2, z3, z4, z5, z6⟩ := hE _ hb12'
                exact ⟨j + 1, C', hjl, by go_num, z1, hst', z2, z3, z4, z5, z6⟩
              case measure => simp [intOf]; omega
            · go_wp2_with (first
                | (go_at_call 17; refine hcw.mono ?_; clear hcw; rintro _ w11 ⟨rfl, hb11⟩; have hv11 := hvw w11 hb11)
                | (go_at_call 19; refine hv11.mono ?_; clear hv11; rintro _ w12 ⟨rfl, hb12⟩; have hb12' : Below w10.heap.size w10 w12 := hb11.trans (hb12.mono hb11.size); have hv12 := hvw w12 hb12')
                | (go_at_call 19; refine hv12.mono ?_; clear hv12; rintro _ w13 ⟨rfl, hb13⟩; have hb13' : Below w10.heap.size w10 w13 := hb12'.trans (hb13.mono hb12'.size)))
              go_roundw
              case rel =>
                obtain ⟨z1, z2, z3, z4, z5, z6⟩ := hE _ hb12'
                exact ⟨j + 1, C', hjl, by go_num, z1, hst', z2, z3, z4, z5, z6⟩
              case measure => simp [intOf]; omega
          · go_wp2_with (first
              | (go_at_call 19; refine hv1.mono ?_; clear hv1; rintro _ w8 ⟨rfl, hb8⟩; have hct8 := hct w8 hb8)
              | (go_at_call 17; refine hct8.mono ?_; clear hct8; rintro _ w9 ⟨rfl, hb9⟩; have hB9 : Below wr.heap.size wr w9 := hb8.trans (hb9.mono hb8.size); have ct9 := (hB9.cell (p := ⟨gt, j, none⟩) hltg.2).trans ct'; have hk9 := hkey w9 hB9)
              | (go_at_call 12; refine hk9.mono ?_; clear hk9 hkey; rintro _ w10 ⟨x, er, C', rfl, hb10, hOK', hst', hor⟩))
            have hC9 := (hOK.bel (.of hB9)).at'
            have hvb' := verdict_range C'.most C'.enough C'.compared C'.unlike
            have hv2' : verdict C'.most C'.enough C'.compared C'.unlike ≠ 2 := by
              rw [hst'.mo, hst'.un]
              unfold verdict
              rw [if_neg (by omega)]
              split <;> omega
            obtain ⟨V', hV'⟩ : ∃ V', verdict C'.most C'.enough C'.compared C'.unlike = V' := ⟨_, rfl⟩
            have hvw := fun w' (hw' : Below w10.heap.size w10 w') => verdict_walk (w := w') ((hOK'.bel (.of hw')).at'.cell 3) ((hOK'.bel (.of hw')).at'.cell 4) ((hOK'.bel (.of hw')).at'.cell 6) ((hOK'.bel (.of hw')).at'.cell 7)
            rw [hV'] at hvb' hv2' hvw
            have HV' : Hid (verdict C'.most C'.enough C'.compared C'.unlike = V') := hV'
            clear hV'
            have hcw := counts_walk (w := w10) (s := C'.seen) (c := C'.compared) (u := C'.unlike) (hOK'.at'.cell 5) (hOK'.at'.cell 6) (hOK'.at'.cell 7)
            have h9s := hB9.size
            have h10s := hb10.size
            have hE : ∀ wE, Below w10.heap.size w10 wE → CanOK M wE cb b1 b2 C' ∧ SetAt M w3.heap.size w4.heap.size wE b1 (ra ++ rb) ∧ SetAt M w4.heap.size w5.heap.size wE b2 (rb ++ ra) ∧ TextsAt wE w6.heap.size (.slice (some ⟨gt, 0, none⟩) ts.length ct) ts ∧ Below w.heap.size w wE ∧ w7.heap.size ≤ wE.heap.size := fun wE hbE => by
              have hEs := hbE.size
              have hM5 : Bel M w5.heap.size w9 w10 := (Bel.refl M w5.heap.size w9).but hb10 (by omega) hcb
              refine ⟨hOK'.bel (.of hbE), ((hSa.bel (Bel.of hB9) (by omega)).bel hM5 (by omega)).bel (Bel.of hbE) (by omega), ((hSb.bel (Bel.of hB9) (by omega)).bel hM5 (Nat.le_refl _)).bel (Bel.of hbE) (by omega), ((hTr.bel hB9).but hb10 (fun k hk => by have := hMr k hk; omega) hC9).bel hbE, ?_, by omega⟩
              have hBw : Below w.heap.size w9 w10 := ((Bel.refl M w.heap.size w9).but hb10 (by omega) (by omega)).below fun k hk => by have := hMr k hk; omega
              exact ((hbel.trans (hB9.mono (by omega))).trans hBw).trans (hbE.mono (by omega))
            have her : er = 20 ∧ C' = C := hor.elim (fun h => absurd h.1 (by decide)) (fun h => h.2)
            obtain ⟨rfl, hCC⟩ := her
            subst hCC
            have hV1 : V' = 1 := HV'.out.symm.trans HV.out
            subst hV1
            clear hor
            go_wp2_with (first
              | (go_at_call 17; refine hcw.mono ?_; clear hcw; rintro _ w11 ⟨rfl, hb11⟩; have hv11 := hvw w11 hb11)
              | (go_at_call 19; refine hv11.mono ?_; clear hv11; rintro _ w12 ⟨rfl, hb12⟩; have hb12' : Below w10.heap.size w10 w12 := hb11.trans (hb12.mono hb11.size); have hv12 := hvw w12 hb12')
              | (go_at_call 19; refine hv12.mono ?_; clear hv12; rintro _ w13 ⟨rfl, hb13⟩; have hb13' : Below w10.heap.size w10 w13 := hb12'.trans (hb13.mono hb12'.size)))
            go_roundw
            case rel =>
              obtain ⟨z1, z2, z3, z4, z5, z6⟩ := hE _ hb13'
              exact ⟨j + 1, C', hjl, by go_num, z1, hst', z2, z3, z4, z5, z6⟩
            case measure => simp [intOf]; omega
        · have hje : j = ts.length := by omega
          subst hje
          have hun := unlike_walk (cb := cb) (w := wr) (by rw [hOK.at'.cell 10]; simp [Can.cells, hst.ca])
          go_wp2_with (first
            | (go_at_call 20; refine hun.mono ?_; clear hun; rintro _ w8 ⟨rfl, hb8⟩; have hliv := lives_walk w8)
            | (go_at_call 13; refine hliv.mono ?_; clear hliv; rintro _ w9 ⟨rfl, hb9⟩))
          go_ret
          have s8 := hb8.size
          exact ⟨rfl, (hbel.trans (hb8.mono hbel.size)).trans (hb9.mono (by have := hbel.size; omega))⟩
end Go.Proofs.YtopicmcaoeameaaGreatDoor
namespace Go.Proofs.YtopicmcaoeameaaGreatDoor
open Go Go.Ev Go.RowKit

theorem evalP_inv {k n at' : Nat} {pre : List Nat} {R : Int × Bool} (h : evalP k n at' pre = some R) : ∃ s v H m, (calOf (gloP k n at' pre)).fn 48 [.sl nR 0 (runsOf k).length (runsOf k).length 1, .sl nT 0 n n 1, .int .i64 at', .int .i64 2000] .nil n1 = .ok (.tup [.agg [.int .i64 s, .int .i64 R.1, v], .bool R.2, .int .i64 0]) H m ∧
    freeH H (nT :: nR :: (plan k).map (·.1)) = true ∧ isSl v = true ∧ (R.2 = true → s = at') := by
  unfold evalP at h
  split at h
  · rename_i s e v ok err H m h0
    split at h
    · rename_i hf hv he
      have he0 : err = 0 := by
        rw [ieq_eq] at he
        simpa using he
      subst he0
      split at h
      · split at h
        · rename_i hs
          cases h
          exact ⟨s, v, H, m, h0, hf, hv, fun _ => by rw [ieq_eq] at hs; simpa using hs⟩
        · cases h
      · cases h
        exact ⟨s, v, H, m, h0, hf, hv, fun h => by cases h⟩
    · cases h
  · cases h
theorem cells_rel {k at' : Nat} {pre : List Nat} {t : List Int} (hb : ∀ x ∈ t, 0 ≤ x ∧ x ≤ 255) (hp : InP k t at' pre) (ι : Emb) (hσ : ∀ i x, t[i]? = some x → ι.sym i = x) :
    ∀ (d i : Nat), i + d = t.length → V.rels ι (cellsP k at' pre d i) ((t.drop i).map (Value.int .i64))
  | 0, i, h => by
    rw [List.drop_eq_nil_of_le (by omega)]
    exact rels_nil
  | d + 1, i, h => by
    have hi : i < t.length := by omega
    rw [List.drop_eq_getElem_cons hi, List.map_cons]
    have hx := hσ i t[i] (List.getElem?_eq_getElem hi)
    have hbx := hb t[i] (List.getElem_mem hi)
    have hany : V.rel ι (.sym i .i64 0 255) (.int .i64 t[i]) := by
      simp only [V.rel, hx]
      exact ⟨trivial, hbx.1, hbx.2⟩
    refine rels_cons ?_ (cells_rel hb hp ι hσ d (i + 1) (by omega))
    cases hlt : Nat.blt i at' with
    | true => exact hany
    | false =>
      have hge : at' ≤ i := by
        have : ¬ i < at' := fun e => by rw [show Nat.blt i at' = true from by rw [Nat.blt_eq]; exact e] at hlt; cases hlt
        omega
      show V.rel ι (match pre[i - at']? with | some c => cellV i (clsAt k c) | none => .sym i .i64 0 255) _
      cases hpre : pre[i - at']? with
      | none => exact hany
      | some c =>
        obtain ⟨x, h1, h2, h3⟩ := hp _ _ hpre
        rw [Nat.add_sub_cancel' hge, List.getElem?_eq_getElem hi] at h1
        cases h1
        show V.rel ι (cellV i (clsAt k c)) _
        unfold cellV
        cases he : ieq (clsAt k c).1 (clsAt k c).2 with
        | true =>
          rw [ieq_eq] at he
          have he' : (clsAt k c).1 = (clsAt k c).2 := by simpa using he
          show _ = _
          congr 1
          omega
        | false =>
          simp only [V.rel, hx]
          exact ⟨trivial, h2, h3⟩
/-- the runs' values, where the plan lies -/
def RunsAt (k lo hi : Nat) (w : World) (b : Nat) (xs : List Value) : Prop :=
  ∃ ι : Emb, RoIs ι (plan k) w ∧ ι (root k) = some (b, 0) ∧ (∀ e ∈ plan k, ∀ c s, ι e.1 = some (c, s) → lo ≤ c ∧ c < hi) ∧ V.rels ι (runsOf k) xs
/-- the runs at one position of a text, where nothing but the plan, the runs and the text is read -/
theorem pos_ro {k n at' : Nat} (hk : k < 12) (hk3 : k ≠ 3) {pre : List Nat} {R : Int × Bool} (h : evalP k n at' pre = some R) {t : List Int} (hn : t.length = n) (hb : ∀ x ∈ t, 0 ≤ x ∧ x ≤ 255) (hp : InP k t at' pre)
    {lo hi b : Nat} {w : World} {xs : List Value} (hr : RunsAt k lo hi w b xs) {tb tc base base2 : Nat} (htb : tb < lo ∨ hi ≤ tb) (htx : w.ownsRow base 3 1 (.slice (some ⟨tb, 0, none⟩) n tc) n (t.map (Value.int .i64)))
    {g gc : Nat} (hg : g < lo ∨ hi ≤ g) (hgr : w.ownsRow base2 123 1 (.slice (some ⟨g, 0, none⟩) (runsOf k).length gc) (runsOf k).length xs) :
    Calls Tryz.prog 48 #[.slice (some ⟨g, 0, none⟩) (runsOf k).length gc, .slice (some ⟨tb, 0, none⟩) n tc, .int .i64 (at' : Int), .int .i64 2000] w fun e w1 => ∃ s e' ca cm cc, e = .returned (.tuple #[.agg #[.int .i64 s, .int .i64 e', .slice ca cm cc], .bool R.2, .int .i64 0]) ∧
      (R.2 = true → s = at' ∧ e' = R.1) ∧ Below w.heap.size w w1 := by
  obtain ⟨s, v, H, m, h0, hfree, hv, hs⟩ := evalP_inv h
  obtain ⟨ι, hro, hroot, hin, hxs⟩ := hr
  obtain ⟨⟨f1, f2⟩, f3, f4⟩ := pos_facts k hk hk3
  have hTR : nT ≠ nR := by decide +kernel
  have gtb : g ≠ tb := fun e => by
    subst e
    rcases htx.2 with ⟨e, _⟩ | ⟨g1, c1, u1, e, _, q1, _⟩
    · cases e
    · cases e
      rcases hgr.2 with ⟨e, _⟩ | ⟨g2, c2, u2, e, _, q2, _⟩
      · cases e
      · cases e
        rw [q1] at q2
        cases q2
  let ι' : Emb := ⟨fun p => if nT = p then some (tb, 0) else if nR = p then some (g, 0) else if nameOf (plan k) p = true then ι p else none, fun x => if x = tb then tc else if x = g then gc else ι.size x, fun i => (t[i]?).getD 0⟩
  have eT : ι' nT = some (tb, 0) := by show (if nT = nT then some (tb, 0) else if nR = nT then some (g, 0) else if nameOf (plan k) nT = true then ι nT else none) = _; rw [if_pos rfl]
  have eR : ι' nR = some (g, 0) := by show (if nT = nR then some (tb, 0) else if nR = nR then some (g, 0) else if nameOf (plan k) nR = true then ι nR else none) = _; rw [if_neg hTR, if_pos rfl]
  have eN : ∀ p, nameOf (plan k) p = true → ι' p = ι p := fun p hp => by
    have hne : nT ≠ p := fun e => by rw [e, hp] at f3; cases f3
    have hne2 : nR ≠ p := fun e => by rw [e, hp] at f4; cases f4
    show (if nT = p then some (tb, 0) else if nR = p then some (g, 0) else if nameOf (plan k) p = true then ι p else none) = _
    rw [if_neg hne, if_neg hne2, if_pos hp]
  have hmem : ∀ p, nameOf (plan k) p = true → ∀ c s, ι p = some (c, s) → c ≠ tb ∧ c ≠ g := fun p hp c s hc => by
    obtain ⟨x, hx, rfl⟩ := nameOf_iff.1 hp
    obtain ⟨l1, l2⟩ := hin x hx c s hc
    constructor
    · intro e; rw [e] at l1 l2; omega
    · intro e; rw [e] at l1 l2; omega
  have hmove : ∀ p b s, nameOf (plan k) p = true → ι p = some (b, s) → ι' p = some (b, s) ∧ ι'.size b = ι.size b := fun p x s hp hx =>
    ⟨(eN p hp).trans hx, by
      obtain ⟨m1, m2⟩ := hmem p hp x s hx
      show (if x = tb then tc else if x = g then gc else ι.size x) = _
      rw [if_neg m1, if_neg m2]⟩
  have htlt : tb < w.heap.size := (World.ownsRow.lt htx tb rfl).2
  have hglt : g < w.heap.size := (World.ownsRow.lt hgr g rfl).2
  have hlt : ∀ p b s, ι' p = some (b, s) → b < w.heap.size := fun p x s hx => by
    by_cases e : nT = p
    · subst e; rw [eT] at hx; cases hx; exact htlt
    · by_cases e2 : nR = p
      · subst e2; rw [eR] at hx; cases hx; exact hglt
      · by_cases hp : nameOf (plan k) p = true
        · rw [eN p hp] at hx
          obtain ⟨y, hy, rfl⟩ := nameOf_iff.1 hp
          obtain ⟨b', s', c', el', fr', q1, q2, _⟩ := hro y hy
          rw [hx] at q1
          cases q1
          exact (Array.getElem?_eq_some_iff.1 q2).1
        · have : ι' p = none := by show (if nT = p then some (tb, 0) else if nR = p then some (g, 0) else if nameOf (plan k) p = true then ι p else none) = _; rw [if_neg e, if_neg e2, if_neg hp]
          rw [this] at hx; cases hx
  have hlen : ∀ d i, (cellsP k at' pre d i).length = d := fun d => by
    induction d with
    | zero => intro i; rfl
    | succ d ih => intro i; show (cellsP k at' pre d (i + 1)).length + 1 = _; rw [ih]
  have st : ι'.size tb = tc := by show (if tb = tb then tc else if tb = g then gc else ι.size tb) = _; rw [if_pos rfl]
  have sg : ι'.size g = gc := by show (if g = tb then tc else if g = g then gc else ι.size g) = _; rw [if_neg gtb, if_pos rfl]
  refine (callRo (calOf_ok (gloP k n at' pre)) h0 hfree rfl (fun e he => by simp [gloP] at he) rfl (ι := ι') (fun e he => ?_) (fun p hp => ?_) hlt _ ?_).mono ?_
  · rcases List.mem_append.1 (show e ∈ plan k ++ [(nR, runsOf k), (nT, cellsP k at' pre n 0)] from he) with he | he
    · obtain ⟨b', s', c', el', fr', q1, q2, q3⟩ := hro e he
      have hn' : nameOf (plan k) e.1 = true := nameOf_iff.2 ⟨e, he, rfl⟩
      exact ⟨b', s', c', el', fr', (eN _ hn').trans q1, q2, V.rels.move hmove _ _ (closedRo_ok f2 e he) q3⟩
    · simp only [List.mem_cons, List.not_mem_nil, or_false] at he
      rcases he with rfl | rfl
      · rcases hgr.2 with ⟨e, _⟩ | ⟨g1, c1, u1, e, _, q1, q2, q3, q4, q5⟩
        · cases e
        · cases e
          refine ⟨g, 0, u1, 123, (0, 0), eR, q1, ?_⟩
          rw [List.drop_zero]
          rw [Nat.mul_one] at q5
          rw [q5]
          exact V.rels.move hmove _ _ f1 hxs
      · rcases htx.2 with ⟨e, _⟩ | ⟨g1, c1, u1, e, _, q1, q2, q3, q4, q5⟩
        · cases e
        · cases e
          refine ⟨tb, 0, u1, 3, (0, 0), eT, q1, ?_⟩
          rw [List.drop_zero, hlen]
          rw [Nat.mul_one] at q5
          rw [q5]
          have := cells_rel hb hp ι' (fun i x hi => by show (t[i]?).getD 0 = x; rw [hi]; rfl) n 0 (by omega)
          rw [List.drop_zero] at this
          exact this
  · by_cases e : nT = p
    · subst e; simp
    · by_cases e2 : nR = p
      · subst e2; simp
      · by_cases hn' : nameOf (plan k) p = true
        · obtain ⟨y, hy, rfl⟩ := nameOf_iff.1 hn'
          exact List.mem_cons_of_mem _ (List.mem_cons_of_mem _ (List.mem_map.2 ⟨y, hy, rfl⟩))
        · exact absurd (by show (if nT = p then some (tb, 0) else if nR = p then some (g, 0) else if nameOf (plan k) p = true then ι p else none) = _; rw [if_neg e, if_neg e2, if_neg hn']) hp
  · refine rels_cons ⟨g, 0, gc, eR, rfl, ?_, (fun h => absurd h (by decide)), (fun _ => by rw [sg]; omega)⟩ (rels_cons ⟨tb, 0, tc, eT, rfl, ?_, (fun h => absurd h (by decide)), (fun _ => by rw [st]; omega)⟩ (rels_cons rfl (rels_one rfl)))
    · rcases hgr.2 with ⟨e, _⟩ | ⟨g1, c1, u1, e, _, q1, q2, _⟩
      · cases e
      · cases e; exact q2
    · rcases htx.2 with ⟨e, _⟩ | ⟨g1, c1, u1, e, _, q1, q2, _⟩
      · cases e
      · cases e; exact q2
  · rintro e w1 ⟨y, ι2, rfl, hy, hbel⟩
    obtain ⟨ca, cm, cc, rfl⟩ := out_rel hv hy
    exact ⟨s, R.1, ca, cm, cc, rfl, fun hR => ⟨hs hR, rfl⟩, hbel⟩
end Go.Proofs.YtopicmcaoeameaaGreatDoor
namespace Go.Proofs.YtopicmcaoeameaaGreatDoor
open Go Go.Ev Go.RowKit

noncomputable def gloPM (n at' : Nat) (pre : List Nat) : Glo := ⟨fun _ => [], [], [], ro3 ++ [(nR, runsOf 3), (nT, cellsP 3 at' pre n 0)]⟩
noncomputable def evalM (n at' : Nat) (pre : List Nat) : Option (Int × Bool) :=
  match (calOf (gloPM n at' pre)).fn 48 [.sl nR 0 1 1 1, .sl nT 0 n n 1, .int .i64 at', .int .i64 2000] HM n1 with
  | .ok (.tup [.agg [.int .i64 s, .int .i64 e, v], .bool ok, .int .i64 err]) H _ => (match freeH H (nT :: nR :: ro3.map (·.1)), isSl v, ieq err 0, machOK H with
    | true, true, true, true => (match ok with | true => (match ieq s at' with | true => some (e, true) | false => none) | false => some (e, false))
    | _, _, _, _ => none)
  | _ => none
noncomputable def treeM (n at' : Nat) : Bool := treeG (evalM n at') (clz 3).length (n - at') []
theorem treeM_ok {n at' : Nat} (h : treeM n at' = true) {t : List Int} (hb : ∀ x ∈ t, 0 ≤ x ∧ x ≤ 255) (hn : t.length = n) (ha : at' ≤ n) : ∃ pre r, InP 3 t at' pre ∧ evalM n at' pre = some r :=
  treeG_ok (by decide) hb hn (n - at') [] h (fun i c hi => by simp at hi) (by simp; omega)
theorem evalM_inv {n at' : Nat} {pre : List Nat} {R : Int × Bool} (h : evalM n at' pre = some R) : ∃ s v H m, (calOf (gloPM n at' pre)).fn 48 [.sl nR 0 1 1 1, .sl nT 0 n n 1, .int .i64 at', .int .i64 2000] HM n1 = .ok (.tup [.agg [.int .i64 s, .int .i64 R.1, v], .bool R.2, .int .i64 0]) H m ∧
    freeH H (nT :: nR :: ro3.map (·.1)) = true ∧ isSl v = true ∧ machOK H = true ∧ (R.2 = true → s = at') := by
  unfold evalM at h
  split at h
  · rename_i s e v ok err H m h0
    split at h
    · rename_i hf hv he hm
      have he0 : err = 0 := by
        rw [ieq_eq] at he
        simpa using he
      subst he0
      split at h
      · split at h
        · rename_i hs
          cases h
          exact ⟨s, v, H, m, h0, hf, hv, hm, fun _ => by rw [ieq_eq] at hs; simpa using hs⟩
        · cases h
      · cases h
        exact ⟨s, v, H, m, h0, hf, hv, hm, fun h => by cases h⟩
    · cases h
  · cases h
set_option maxRecDepth 1000000 in
theorem plU_more : plL (nameOf (planU 3)) (runsOf 3) = true ∧ nameOf (planU 3) nR = false := by decide +kernel
set_option maxRecDepth 1000000 in
theorem callMach2 {P : Program} {cal : Cal} {cells runs : List V} (k : CalOK P ⟨fun _ => [], [], [], ro3 ++ [(nR, runs), (nT, cells)]⟩ cal) (hruns : plL (nameOf (planU 3)) runs = true) {f : Nat} {args : List V} {v : V} {H : Heap} {n m : Pth}
    (h : cal.fn f args HM m = .ok v H n) (hfree : freeH H (nT :: nR :: ro3.map (·.1)) = true) (hm : machOK H = true) {lo hi b mb : Nat} {w : World} {xr : List Value} (hw : ∃ ι : Emb, RoIs ι (planU 3) w ∧ ι (root 3) = some (b, 0) ∧ (∀ e ∈ planU 3, ∀ c s, ι e.1 = some (c, s) → lo ≤ c ∧ c < hi ∧ (c = mb ↔ (3 : Nat) = 3 ∧ e.1 = nMach)) ∧
      ((3 : Nat) = 3 → ι nMach = some (mb, 0) ∧ ∃ c el fr, w.heap[mb]? = some (.cells c el fr) ∧ (fr.1 = fr.2 ∨ c.size ≤ fr.1) ∧ ι.size mb = c.size) ∧ V.rels ι runs xr)
    {tb : Nat} (htb : tb < lo ∨ hi ≤ tb) {c : Array Value} {el : TypeId} {fr : Nat × Nat} (hb : w.heap[tb]? = some (.cells c el fr)) (σ : Nat → Int) (tsz : Nat)
    (hc : ∀ ι : Emb, ι.sym = σ → V.rels ι cells ((c.toList.drop 0).take cells.length)) {g : Nat} (hg : g < lo ∨ hi ≤ g) (gtb : g ≠ tb) {cg : Array Value} {elg : TypeId} {frg : Nat × Nat} (hbg : w.heap[g]? = some (.cells cg elg frg)) (hcg : (cg.toList.drop 0).take runs.length = xr) (gsz : Nat) (xs : Array Value)
    (hxs : ∀ ι : Emb, ι (root 3) = some (b, 0) → ι nT = some (tb, 0) → ι.size tb = tsz → ι nR = some (g, 0) → ι.size g = gsz → ι.sym = σ → V.rels ι args xs.toList) :
    Calls P f xs w fun e w1 => ∃ x ι', e = .returned x ∧ V.rel ι' v x ∧ Bel (fun k => k = mb) w.heap.size w w1 := by
  obtain ⟨ι, hro, hr, hin, hma, hrr⟩ := hw
  obtain ⟨hm1, mc, mel, mfr, hm2, hm3, hm4⟩ := hma rfl
  obtain ⟨⟨cl1, cl2⟩, hT, hroot, hnm⟩ := plU_closed
  have hR := plU_more.2
  have hTR : nT ≠ nR := by decide +kernel
  have hmn : nameOf (planU 3) nMach = true := nameOf_iff.2 ⟨(nMach, mach0), List.mem_cons_self .., rfl⟩
  let ι' : Emb := ⟨fun p => if nT = p then some (tb, 0) else if nR = p then some (g, 0) else if nameOf (planU 3) p = true then ι p else none, fun x => if x = tb then tsz else if x = g then gsz else ι.size x, σ⟩
  have eT : ι' nT = some (tb, 0) := by show (if nT = nT then some (tb, 0) else if nR = nT then some (g, 0) else if nameOf (planU 3) nT = true then ι nT else none) = _; rw [if_pos rfl]
  have eR : ι' nR = some (g, 0) := by show (if nT = nR then some (tb, 0) else if nR = nR then some (g, 0) else if nameOf (planU 3) nR = true then ι nR else none) = _; rw [if_neg hTR, if_pos rfl]
  have eN : ∀ p, nameOf (planU 3) p = true → ι' p = ι p := fun p hp => by
    have hne : nT ≠ p := fun e => by rw [e, hp] at hT; cases hT
    have hne2 : nR ≠ p := fun e => by rw [e, hp] at hR; cases hR
    show (if nT = p then some (tb, 0) else if nR = p then some (g, 0) else if nameOf (planU 3) p = true then ι p else none) = _
    rw [if_neg hne, if_neg hne2, if_pos hp]
  have hmem : ∀ p, nameOf (planU 3) p = true → ∀ c s, ι p = some (c, s) → c ≠ tb ∧ c ≠ g := fun p hp c s hc => by
    obtain ⟨x, hx, rfl⟩ := nameOf_iff.1 hp
    obtain ⟨l1, l2, _⟩ := hin x hx c s hc
    constructor
    · intro e
      rw [e] at l1 l2
      rcases htb with h | h
      · exact Nat.not_le_of_lt h l1
      · exact Nat.not_le_of_lt l2 h
    · intro e
      rw [e] at l1 l2
      rcases hg with h | h
      · exact Nat.not_le_of_lt h l1
      · exact Nat.not_le_of_lt l2 h
  have hmove : ∀ p b s, nameOf (planU 3) p = true → ι p = some (b, s) → ι' p = some (b, s) ∧ ι'.size b = ι.size b := fun p x s hp hx =>
    ⟨(eN p hp).trans hx, by show (if x = tb then tsz else if x = g then gsz else ι.size x) = _; rw [if_neg (hmem p hp x s hx).1, if_neg (hmem p hp x s hx).2]⟩
  have eno : ∀ p, nT ≠ p → nR ≠ p → ¬ nameOf (planU 3) p = true → ι' p = none := fun p h1 h2 h3 => by
    show (if nT = p then some (tb, 0) else if nR = p then some (g, 0) else if nameOf (planU 3) p = true then ι p else none) = _
    rw [if_neg h1, if_neg h2, if_neg h3]
  have hlt : ∀ p b s, ι' p = some (b, s) → b < w.heap.size := fun p x s hx => by
    by_cases e : nT = p
    · subst e
      rw [eT] at hx
      cases hx
      exact (Array.getElem?_eq_some_iff.1 hb).1
    · by_cases e2 : nR = p
      · subst e2
        rw [eR] at hx
        cases hx
        exact (Array.getElem?_eq_some_iff.1 hbg).1
      · by_cases hp : nameOf (planU 3) p = true
        · rw [eN p hp] at hx
          obtain ⟨y, hy, rfl⟩ := nameOf_iff.1 hp
          obtain ⟨b', s', c', el', fr', h1, h2, _⟩ := hro y hy
          rw [hx] at h1
          cases h1
          exact (Array.getElem?_eq_some_iff.1 h2).1
        · rw [eno p e e2 hp] at hx; cases hx
  have eM : ι' nMach = some (mb, 0) := (eN _ hmn).trans hm1
  have hmtb : mb ≠ tb := (hmem nMach hmn mb 0 hm1).1
  have hmg : mb ≠ g := (hmem nMach hmn mb 0 hm1).2
  have hmlt : mb < w.heap.size := (Array.getElem?_eq_some_iff.1 hm2).1
  have hmr : V.rels ι' mach0 ((mc.toList.drop 0).take mach0.length) := by
    obtain ⟨b', s', c', el', fr', h1, h2, h3⟩ := hro (nMach, mach0) (List.mem_cons_self ..)
    rw [hm1] at h1
    cases h1
    rw [hm2] at h2
    cases h2
    exact V.rels.move hmove _ _ cl1 h3
  have hsz : ι'.size mb = mc.size := by show (if mb = tb then tsz else if mb = g then gsz else ι.size mb) = _; rw [if_neg hmtb, if_neg hmg]; exact hm4
  have st : ι'.size tb = tsz := by show (if tb = tb then tsz else if tb = g then gsz else ι.size tb) = _; rw [if_pos rfl]
  have sg : ι'.size g = gsz := by show (if g = tb then tsz else if g = g then gsz else ι.size g) = _; rw [if_neg gtb, if_pos rfl]
  have hHOK : HOK P ι' HM w := by
    refine ⟨fun p o ho => ?_, fun p q b s s' hp hq _ _ => (live_HM hp).trans (live_HM hq).symm, hlt⟩
    rw [HM_get] at ho
    split at ho
    · rename_i e
      subst e
      cases ho
      exact ⟨mb, 0, mc, mel, mfr, eM, hm2, hm3, hmr, hsz, rfl⟩
    · cases ho
  have hro' : ∀ e ∈ ro3, ∃ b s c el fr, ι' e.1 = some (b, s) ∧ w.heap[b]? = some (Obj.cells c el fr) ∧ V.rels ι' e.2 ((c.toList.drop s).take e.2.length) ∧ b ≠ mb := fun e he => by
    have he' : e ∈ planU 3 := List.mem_cons_of_mem _ he
    obtain ⟨b', s', c', el', fr', h1, h2, h3⟩ := hro e he'
    have hn : nameOf (planU 3) e.1 = true := nameOf_iff.2 ⟨e, he', rfl⟩
    refine ⟨b', s', c', el', fr', (eN _ hn).trans h1, h2, V.rels.move hmove _ _ (by have := List.all_eq_true.1 cl2 e he; exact this) h3, fun eb => ?_⟩
    have := ((hin e he' b' s' h1).2.2.1 eb).2
    have h5 : nameOf ro3 nMach = true := nameOf_iff.2 ⟨e, he, this⟩
    rw [hnm] at h5
    cases h5
  obtain ⟨_, _, hk⟩ := k.fn _ _ _ _ _ _ _ h
  refine (hk ι' w xs hHOK ⟨fun g i v h => by simp at h, fun g h => absurd rfl h, fun e he => by simp at he, fun e he => by simp at he, fun e he => by simp at he, fun e he => ?_⟩ (fun p h1 h2 => ?_)
    (hxs ι' ((eN _ hroot).trans hr) eT st eR sg rfl)).mono fun e w1 he => ?_
  · rcases List.mem_append.1 he with he | he
    · obtain ⟨b', s', c', el', fr', h1, h2, h3, h4⟩ := hro' e he
      refine ⟨b', s', c', el', fr', h1, h2, h3, fun q t hl hq => ?_⟩
      rw [live_HM hl, eM] at hq
      cases hq
      exact h4 rfl
    · simp only [List.mem_cons, List.not_mem_nil, or_false] at he
      rcases he with rfl | rfl
      · refine ⟨g, 0, cg, elg, frg, eR, hbg, ?_, fun q t hl hq => ?_⟩
        · rw [hcg]
          exact V.rels.move hmove _ _ hruns hrr
        · rw [live_HM hl, eM] at hq
          cases hq
          exact hmg rfl
      · refine ⟨tb, 0, c, el, fr, eT, hb, hc ι' rfl, fun q t hl hq => ?_⟩
        rw [live_HM hl, eM] at hq
        cases hq
        exact hmtb rfl
  · cases hp : ι' p with
    | none => rfl
    | some z =>
      exfalso
      by_cases e : nT = p
      · subst e
        exact h2 (freeH_ok hfree nT (List.mem_cons_self ..))
      · by_cases e2 : nR = p
        · subst e2
          exact h2 (freeH_ok hfree nR (List.mem_cons_of_mem _ (List.mem_cons_self ..)))
        · by_cases hn : nameOf (planU 3) p = true
          · obtain ⟨y, hy, rfl⟩ := nameOf_iff.1 hn
            rcases List.mem_cons.1 (show y ∈ (nMach, mach0) :: ro3 from hy) with rfl | hy'
            · rw [HM_get, if_pos rfl] at h1
              cases h1
            · exact h2 (freeH_ok hfree y.1 (List.mem_cons_of_mem _ (List.mem_cons_of_mem _ (List.mem_map.2 ⟨y, hy', rfl⟩))))
          · rw [eno p e e2 hn] at hp; cases hp
  · obtain ⟨x, rfl, ι'', hv', hs⟩ := he
    refine ⟨x, ι'', rfl, hv', hs.os, hs.tape, hs.out, hs.size, fun b hb hne => hs.kept b hb fun p s hl hp => ?_, fun b hb e => ?_⟩
    · rw [live_HM hl, eM] at hp
      cases hp
      exact hne rfl
    · subst e
      obtain ⟨l, hl1, hl2, hl3⟩ := machOK_get hm
      obtain ⟨b', s', c', el', fr', h1, h2, h3, h4, h5, h6⟩ := hs.hok.obj _ _ hl1
      rw [hs.ext.name _ _ eM] at h1
      cases h1
      have hsz' : c'.size = mc.size := by rw [← h5, hs.ext.same _ _ _ eM, hsz]
      refine .inr ⟨mc, c', mel, el', mfr, fr', hm2, h2, h3, hsz', fun i hi => ?_⟩
      have hm19 : mach0.length = 19 := rfl
      have r1 := rels_take 14 _ _ hmr
      have r2 := rels_take 14 _ _ h4
      rw [hl2] at r2
      have heq := rigids_eq hs.ext _ _ _ mach_rigid r1 r2
      rw [hl3, hm19, List.drop_zero, List.drop_zero, List.take_take, List.take_take] at heq
      have := congrArg (fun l => l[i]?) heq
      simp only [List.getElem?_take] at this
      rw [if_pos (by omega), if_pos (by omega), Array.getElem?_toList, Array.getElem?_toList] at this
      exact this
/-- where the plan with a machine lies, and its runs -/
def RunsM (lo hi mb : Nat) (w : World) (b : Nat) (xr : List Value) : Prop := ∃ ι : Emb, RoIs ι (planU 3) w ∧ ι (root 3) = some (b, 0) ∧ (∀ e ∈ planU 3, ∀ c s, ι e.1 = some (c, s) → lo ≤ c ∧ c < hi ∧ (c = mb ↔ (3 : Nat) = 3 ∧ e.1 = nMach)) ∧
      ((3 : Nat) = 3 → ι nMach = some (mb, 0) ∧ ∃ c el fr, w.heap[mb]? = some (.cells c el fr) ∧ (fr.1 = fr.2 ∨ c.size ≤ fr.1) ∧ ι.size mb = c.size) ∧ V.rels ι (runsOf 3) xr
theorem pos_m {n at' : Nat} {pre : List Nat} {R : Int × Bool} (h : evalM n at' pre = some R) {t : List Int} (hn : t.length = n) (hb : ∀ x ∈ t, 0 ≤ x ∧ x ≤ 255) (hp : InP 3 t at' pre)
    {lo hi b mb : Nat} {w : World} {xs : List Value} (hr : RunsM lo hi mb w b xs) {tb tc base base2 : Nat} (htb : tb < lo ∨ hi ≤ tb) (htx : w.ownsRow base 3 1 (.slice (some ⟨tb, 0, none⟩) n tc) n (t.map (Value.int .i64)))
    {g gc : Nat} (hg : g < lo ∨ hi ≤ g) (hgr : w.ownsRow base2 123 1 (.slice (some ⟨g, 0, none⟩) (runsOf 3).length gc) (runsOf 3).length xs) :
    Calls Tryz.prog 48 #[.slice (some ⟨g, 0, none⟩) (runsOf 3).length gc, .slice (some ⟨tb, 0, none⟩) n tc, .int .i64 (at' : Int), .int .i64 2000] w fun e w1 => ∃ s e' ca cm cc, e = .returned (.tuple #[.agg #[.int .i64 s, .int .i64 e', .slice ca cm cc], .bool R.2, .int .i64 0]) ∧
      (R.2 = true → s = at' ∧ e' = R.1) ∧ Bel (fun k => k = mb) w.heap.size w w1 := by
  obtain ⟨s, v, H, m, h0, hfree, hv, hmo, hs⟩ := evalM_inv h
  have hlen : ∀ d i, (cellsP 3 at' pre d i).length = d := fun d => by
    induction d with
    | zero => intro i; rfl
    | succ d ih => intro i; show (cellsP 3 at' pre d (i + 1)).length + 1 = _; rw [ih]
  rcases htx.2 with ⟨e, _⟩ | ⟨g1, c1, u1, e, _, q1, q2, q3, q4, q5⟩
  · cases e
  · cases e
    rcases hgr.2 with ⟨e, _⟩ | ⟨g2, c2, u2, e, _, p1, p2, p3, p4, p5⟩
    · cases e
    · cases e
      have gtb : g ≠ tb := fun e => by
        subst e
        rw [q1] at p1
        cases p1
      refine (callMach2 (cells := cellsP 3 at' pre n 0) (runs := runsOf 3) (xr := xs) (calOf_ok (gloPM n at' pre)) plU_more.1 h0 hfree hmo hr htb q1 (fun i => (t[i]?).getD 0) tc (fun ι hι => ?_) hg gtb p1 (by rw [List.drop_zero]; rw [Nat.mul_one] at p5; exact p5) gc _ (fun ι e1 e2 e3 e4 e5 _ => ?_)).mono ?_
      · rw [List.drop_zero, hlen]
        rw [Nat.mul_one] at q5
        rw [q5]
        have := cells_rel hb hp ι (fun i x hi => by rw [hι]; show (t[i]?).getD 0 = x; rw [hi]; rfl) n 0 (by omega)
        rw [List.drop_zero] at this
        exact this
      · exact rels_cons ⟨g, 0, gc, e4, rfl, p2, (fun h => absurd h (by decide)), (fun _ => by rw [e5]; omega)⟩ (rels_cons ⟨tb, 0, tc, e2, rfl, q2, (fun h => absurd h (by decide)), (fun _ => by rw [e3]; omega)⟩ (rels_cons rfl (rels_one rfl)))
      · rintro e w1 ⟨y, ι2, rfl, hy, hbel⟩
        obtain ⟨ca, cm, cc, rfl⟩ := out_rel hv hy
        exact ⟨s, R.1, ca, cm, cc, rfl, fun hR => ⟨hs hR, rfl⟩, hbel⟩
end Go.Proofs.YtopicmcaoeameaaGreatDoor
namespace Go.Proofs.YtopicmcaoeameaaGreatDoor
open Go Go.Ev Go.RowKit

noncomputable def gloTE (n : Nat) : Glo := ⟨fun _ => [], [], [], [(nT, cellsP 0 n [] n 0)]⟩
noncomputable def chkTE (n f : Nat) : Bool := match (calOf (gloTE n)).fn 45 [.bool false, .sl nT 0 n n 1, .int .i64 f, .int .i64 2000] .nil n1 with
  | .ok (.int .i64 (.ofNat 0)) H _ => freeH H [nT]
  | _ => false
set_option maxRecDepth 1000000 in
theorem textE_all : ([1, 2, 3, 4, 5].all fun n => (List.range (n + 1)).all fun f => chkTE n f) = true := by decide +kernel
theorem textE_walk {n f : Nat} (h1 : 1 ≤ n) (h5 : n ≤ 5) (hf : f ≤ n) {t : List Int} (hn : t.length = n) (hb : ∀ x ∈ t, 0 ≤ x ∧ x ≤ 255) {w : World} {tb tc base : Nat} (htx : w.ownsRow base 3 1 (.slice (some ⟨tb, 0, none⟩) n tc) n (t.map (Value.int .i64))) :
    Calls Tryz.prog 45 #[.bool false, .slice (some ⟨tb, 0, none⟩) n tc, .int .i64 (f : Int), .int .i64 2000] w fun e w1 => e = .returned (.int .i64 0) ∧ Below w.heap.size w w1 := by
  have hc : chkTE n f = true := by
    have hm : n ∈ [1, 2, 3, 4, 5] := by
      match n, h1, h5 with
      | 1, _, _ => simp
      | 2, _, _ => simp
      | 3, _, _ => simp
      | 4, _, _ => simp
      | 5, _, _ => simp
      | k + 6, _, h => exact absurd h (by omega)
    have := List.all_eq_true.1 textE_all n hm
    exact List.all_eq_true.1 this f (List.mem_range.2 (by omega))
  unfold chkTE at hc
  split at hc
  · rename_i H m h0
    let ι' : Emb := ⟨fun p => if nT = p then some (tb, 0) else none, fun x => if x = tb then tc else 0, fun i => (t[i]?).getD 0⟩
    have eT : ι' nT = some (tb, 0) := by show (if nT = nT then some (tb, 0) else none) = _; rw [if_pos rfl]
    have st : ι'.size tb = tc := by show (if tb = tb then tc else 0) = _; rw [if_pos rfl]
    have htlt : tb < w.heap.size := (World.ownsRow.lt htx tb rfl).2
    have hlen : ∀ d i, (cellsP 0 n [] d i).length = d := fun d => by
      induction d with
      | zero => intro i; rfl
      | succ d ih => intro i; show (cellsP 0 n [] d (i + 1)).length + 1 = _; rw [ih]
    refine (callRo (calOf_ok (gloTE n)) h0 hc rfl (fun e he => by simp [gloTE] at he) rfl (ι := ι') (fun e he => ?_) (fun p hp => ?_) (fun p b s hp => ?_) _ ?_).mono ?_
    · simp only [gloTE, List.mem_singleton] at he
      subst he
      rcases htx.2 with ⟨e, _⟩ | ⟨g1, c1, u1, e, _, q1, q2, q3, q4, q5⟩
      · cases e
      · cases e
        refine ⟨tb, 0, u1, 3, (0, 0), eT, q1, ?_⟩
        rw [List.drop_zero, hlen]
        rw [Nat.mul_one] at q5
        rw [q5]
        have := cells_rel (k := 0) (at' := n) (pre := []) hb (fun i c hi => by simp at hi) ι' (fun i x hi => by show (t[i]?).getD 0 = x; rw [hi]; rfl) n 0 (by omega)
        rw [List.drop_zero] at this
        exact this
    · by_cases e : nT = p
      · subst e; simp
      · exact absurd (by show (if nT = p then some (tb, 0) else none) = _; rw [if_neg e]) hp
    · by_cases e : nT = p
      · subst e; rw [eT] at hp; cases hp; exact htlt
      · have : ι' p = none := by show (if nT = p then some (tb, 0) else none) = _; rw [if_neg e]
        rw [this] at hp; cases hp
    · refine rels_cons rfl (rels_cons ⟨tb, 0, tc, eT, rfl, ?_, (fun h => absurd h (by decide)), (fun _ => by rw [st]; omega)⟩ (rels_cons rfl (rels_one rfl)))
      rcases htx.2 with ⟨e, _⟩ | ⟨g1, c1, u1, e, _, q1, q2, _⟩
      · cases e
      · cases e; exact q2
    · rintro e w1 ⟨y, ι2, rfl, hy, hbel⟩
      exact ⟨congrArg Ending.returned (show y = .int .i64 0 from hy), hbel⟩
  · cases hc
end Go.Proofs.YtopicmcaoeameaaGreatDoor
namespace Go.Proofs.YtopicmcaoeameaaGreatDoor
open Go Go.Ev Go.RowKit

/-- the engines' name -/
def engN (k : Nat) : Pth := match k with
  | 0 => nm 227
  | 1 => nm 227
  | 2 => nm 347
  | 3 => nm 301
  | 4 => nm 272
  | 5 => nm 317
  | 6 => nm 304
  | 7 => nm 411
  | 8 => nm 308
  | 9 => nm 178
  | 10 => nm 251
  | _ => nm 308
/-- the parts' name -/
def partN (k : Nat) : Pth := match k with
  | 0 => nm 229
  | 1 => nm 229
  | 2 => nm 349
  | 3 => nm 303
  | 4 => nm 274
  | 5 => nm 319
  | 6 => nm 306
  | 7 => nm 413
  | 8 => nm 310
  | 9 => nm 180
  | 10 => nm 253
  | _ => nm 310
/-- the runs' name, as New leaves them -/
def runN (k : Nat) : Pth := match k with
  | 0 => nm 231
  | 1 => nm 231
  | 2 => nm 351
  | 3 => nm 305
  | 4 => nm 276
  | 5 => nm 321
  | 6 => nm 308
  | 7 => nm 415
  | 8 => nm 312
  | 9 => nm 182
  | 10 => nm 255
  | _ => nm 312
/-- the engines -/
def engs (k : Nat) : List Int := match k with
  | 0 => [3]
  | 1 => [3]
  | 2 => [3]
  | 3 => [0]
  | 4 => [3]
  | 5 => [2]
  | 6 => [5]
  | 7 => [3, 3]
  | 8 => [3]
  | 9 => [3]
  | 10 => [3]
  | _ => [3]
/-- the root's cells -/
def rootC (k : Nat) : List V := [.bool false, .sl (engN k) 0 (engs k).length (engs k).length 1, .sl (partN k) 0 (engs k).length (engs k).length 10, .sl (runN k) 0 (engs k).length (engs k).length 1]
theorem root_mem0 : (root 0, rootC 0) ∈ plan 0 ∧ (engN 0, (engs 0).map (V.int .i64)) ∈ plan 0 ∧ (runN 0, runsOf 0) ∈ plan 0 := by
  show (nm root0, rootC 0) ∈ plan0 ∧ (engN 0, (engs 0).map (V.int .i64)) ∈ plan0 ∧ (runN 0, runsOf 0) ∈ plan0
  unfold plan0 rootC engN partN runN engs runsOf root0
  simp
theorem root_mem1 : (root 1, rootC 1) ∈ plan 1 ∧ (engN 1, (engs 1).map (V.int .i64)) ∈ plan 1 ∧ (runN 1, runsOf 1) ∈ plan 1 := by
  show (nm root1, rootC 1) ∈ plan1 ∧ (engN 1, (engs 1).map (V.int .i64)) ∈ plan1 ∧ (runN 1, runsOf 1) ∈ plan1
  unfold plan1 rootC engN partN runN engs runsOf root1
  simp
theorem root_mem2 : (root 2, rootC 2) ∈ plan 2 ∧ (engN 2, (engs 2).map (V.int .i64)) ∈ plan 2 ∧ (runN 2, runsOf 2) ∈ plan 2 := by
  show (nm root2, rootC 2) ∈ plan2 ∧ (engN 2, (engs 2).map (V.int .i64)) ∈ plan2 ∧ (runN 2, runsOf 2) ∈ plan2
  unfold plan2 rootC engN partN runN engs runsOf root2
  simp
theorem root_mem3 : (root 3, rootC 3) ∈ plan 3 ∧ (engN 3, (engs 3).map (V.int .i64)) ∈ plan 3 ∧ (runN 3, runsOf 3) ∈ plan 3 := by
  show (nm root3, rootC 3) ∈ plan3 ∧ (engN 3, (engs 3).map (V.int .i64)) ∈ plan3 ∧ (runN 3, runsOf 3) ∈ plan3
  unfold plan3 rootC engN partN runN engs runsOf root3
  simp
theorem root_mem4 : (root 4, rootC 4) ∈ plan 4 ∧ (engN 4, (engs 4).map (V.int .i64)) ∈ plan 4 ∧ (runN 4, runsOf 4) ∈ plan 4 := by
  show (nm root4, rootC 4) ∈ plan4 ∧ (engN 4, (engs 4).map (V.int .i64)) ∈ plan4 ∧ (runN 4, runsOf 4) ∈ plan4
  unfold plan4 rootC engN partN runN engs runsOf root4
  simp
theorem root_mem5 : (root 5, rootC 5) ∈ plan 5 ∧ (engN 5, (engs 5).map (V.int .i64)) ∈ plan 5 ∧ (runN 5, runsOf 5) ∈ plan 5 := by
  show (nm root5, rootC 5) ∈ plan5 ∧ (engN 5, (engs 5).map (V.int .i64)) ∈ plan5 ∧ (runN 5, runsOf 5) ∈ plan5
  unfold plan5 rootC engN partN runN engs runsOf root5
  simp
theorem root_mem6 : (root 6, rootC 6) ∈ plan 6 ∧ (engN 6, (engs 6).map (V.int .i64)) ∈ plan 6 ∧ (runN 6, runsOf 6) ∈ plan 6 := by
  show (nm root6, rootC 6) ∈ plan6 ∧ (engN 6, (engs 6).map (V.int .i64)) ∈ plan6 ∧ (runN 6, runsOf 6) ∈ plan6
  unfold plan6 rootC engN partN runN engs runsOf root6
  simp
theorem root_mem7 : (root 7, rootC 7) ∈ plan 7 ∧ (engN 7, (engs 7).map (V.int .i64)) ∈ plan 7 ∧ (runN 7, runsOf 7) ∈ plan 7 := by
  show (nm root7, rootC 7) ∈ plan7 ∧ (engN 7, (engs 7).map (V.int .i64)) ∈ plan7 ∧ (runN 7, runsOf 7) ∈ plan7
  unfold plan7 rootC engN partN runN engs runsOf root7
  simp
theorem root_mem8 : (root 8, rootC 8) ∈ plan 8 ∧ (engN 8, (engs 8).map (V.int .i64)) ∈ plan 8 ∧ (runN 8, runsOf 8) ∈ plan 8 := by
  show (nm root8, rootC 8) ∈ plan8 ∧ (engN 8, (engs 8).map (V.int .i64)) ∈ plan8 ∧ (runN 8, runsOf 8) ∈ plan8
  unfold plan8 rootC engN partN runN engs runsOf root8
  simp
theorem root_mem9 : (root 9, rootC 9) ∈ plan 9 ∧ (engN 9, (engs 9).map (V.int .i64)) ∈ plan 9 ∧ (runN 9, runsOf 9) ∈ plan 9 := by
  show (nm root9, rootC 9) ∈ plan9 ∧ (engN 9, (engs 9).map (V.int .i64)) ∈ plan9 ∧ (runN 9, runsOf 9) ∈ plan9
  unfold plan9 rootC engN partN runN engs runsOf root9
  simp
theorem root_mem10 : (root 10, rootC 10) ∈ plan 10 ∧ (engN 10, (engs 10).map (V.int .i64)) ∈ plan 10 ∧ (runN 10, runsOf 10) ∈ plan 10 := by
  show (nm root10, rootC 10) ∈ plan10 ∧ (engN 10, (engs 10).map (V.int .i64)) ∈ plan10 ∧ (runN 10, runsOf 10) ∈ plan10
  unfold plan10 rootC engN partN runN engs runsOf root10
  simp
theorem root_mem11 : (root 11, rootC 11) ∈ plan 11 ∧ (engN 11, (engs 11).map (V.int .i64)) ∈ plan 11 ∧ (runN 11, runsOf 11) ∈ plan 11 := by
  show (nm root11, rootC 11) ∈ plan11 ∧ (engN 11, (engs 11).map (V.int .i64)) ∈ plan11 ∧ (runN 11, runsOf 11) ∈ plan11
  unfold plan11 rootC engN partN runN engs runsOf root11
  simp
theorem root_mem : ∀ k < 12, (root k, rootC k) ∈ plan k ∧ (engN k, (engs k).map (V.int .i64)) ∈ plan k ∧ (runN k, runsOf k) ∈ plan k
  | 0, _ => root_mem0
  | 1, _ => root_mem1
  | 2, _ => root_mem2
  | 3, _ => root_mem3
  | 4, _ => root_mem4
  | 5, _ => root_mem5
  | 6, _ => root_mem6
  | 7, _ => root_mem7
  | 8, _ => root_mem8
  | 9, _ => root_mem9
  | 10, _ => root_mem10
  | 11, _ => root_mem11
  | n + 12, h => absurd h (by omega)
theorem runs_len : ∀ k < 12, (runsOf k).length = (engs k).length ∧ 0 < (engs k).length ∧ (engs k).length ≤ 2 ∧ (k ≠ 6 → ∀ e ∈ engs k, e ≠ 5) := by decide
end Go.Proofs.YtopicmcaoeameaaGreatDoor
namespace Go.Proofs.YtopicmcaoeameaaGreatDoor
open Go Go.Ev Go.RowKit

theorem rels_nth {ι : Emb} : ∀ (l : List V) (xs : List Value) (i : Nat) (v : V), V.rels ι l xs → l[i]? = some v → ∃ x, xs[i]? = some x ∧ V.rel ι v x
  | [], _, _, _, _, h => by simp at h
  | a :: l, xs, i, v, h, hi => by
    obtain ⟨x, t, rfl, hx, ht⟩ := rels_cons_inv h
    cases i with
    | zero => simp at hi; subst hi; exact ⟨x, rfl, hx⟩
    | succ i => exact rels_nth l t i v ht (by simpa using hi)
theorem ro_cell {ι : Emb} {l : List (Pth × List V)} {w : World} (h : RoIs ι l w) {p : Pth} {cs : List V} (hm : (p, cs) ∈ l) : ∃ b s, ι p = some (b, s) ∧ b < w.heap.size ∧ V.rels ι cs (((w.heap[b]?.map fun o => match o with | .cells c _ _ => c.toList | _ => []).getD []).drop s |>.take cs.length) ∧
    ∀ (i : Nat) (v : V), cs[i]? = some v → ∃ x, w.cell? ⟨b, s + i, none⟩ = some x ∧ V.rel ι v x := by
  obtain ⟨b, s, c, el, fr, h1, h2, h3⟩ := h _ hm
  refine ⟨b, s, h1, (Array.getElem?_eq_some_iff.1 h2).1, by rw [h2]; exact h3, fun i v hv => ?_⟩
  obtain ⟨x, hx, hr⟩ := rels_nth _ _ i v h3 hv
  have hil : i < cs.length := (List.getElem?_eq_some_iff.1 hv).1
  rw [List.getElem?_take, if_pos hil, List.getElem?_drop, Array.getElem?_toList] at hx
  exact ⟨x, by simp only [World.cell?, h2]; exact hx, hr⟩
theorem owns_bel1 {M : Nat → Prop} {w w1 : World} {base : Nat} {e : TypeId} {size : Nat} {v : Value} {n : Nat} {xs : List Value} (h : w.ownsRow base e size v n xs) (hb : Bel M w.heap.size w w1) (hM : ∀ g, v.ownBlock = some g → ¬ M g) : w1.ownsRow base e size v n xs := by
  refine ⟨h.1, h.2.imp id ?_⟩
  rintro ⟨g, cap, cur, rfl, h2, h3, h4⟩
  exact ⟨g, cap, cur, rfl, h2, (hb.block g (Array.getElem?_eq_some_iff.1 h3).1 (hM g rfl)).trans h3, h4⟩
def isFn : V → Bool | .fn _ _ _ => true | _ => false
theorem runs_fn : ∀ k < 12, (runsOf k).all isFn = true := by decide
theorem fn_one {ι : Emb} : ∀ (l : List V) (xs : List Value), l.all isFn = true → V.rels ι l xs → ∀ x ∈ xs, x.oneCell' = true
  | [], xs, _, h => by rw [rels_nil_inv h]; simp
  | v :: l, xs, hf, h => by
    obtain ⟨x, t, rfl, hx, ht⟩ := rels_cons_inv h
    simp only [List.all_cons, Bool.and_eq_true] at hf
    intro y hy
    rcases List.mem_cons.1 hy with rfl | hy
    · cases v <;> simp only [isFn] at hf <;> try (exact absurd hf.1 (by decide))
      obtain ⟨a, c, rfl, _⟩ := hx
      rfl
    · exact fn_one l t hf.2 ht y hy
theorem first_ro {k n : Nat} (hk : k < 12) (h3 : k ≠ 3) (h6 : k ≠ 6) (htr : ∀ a ≤ n, tree k n a = true) (h1 : 1 ≤ n) (h5 : n ≤ 5) {t : List Int} (hn : t.length = n) (hb : ∀ x ∈ t, 0 ≤ x ∧ x ≤ 255) :
    ∃ R : Nat → Bool × Int, ∀ (M : Nat → Prop) (lo hi : Nat) (w : World) (pb tb tc base from' : Nat), (∀ c, M c → c < w.heap.size) → LaidM M k lo hi w pb → hi ≤ w.heap.size → (tb < lo ∨ hi ≤ tb) → ¬ M tb → w.ownsRow base 3 1 (.slice (some ⟨tb, 0, none⟩) n tc) n (t.map (Value.int .i64)) → from' ≤ n →
      Calls Tryz.prog 30 #[.pointer (some ⟨pb, 0, none⟩), .slice (some ⟨tb, 0, none⟩) n tc, .int .i64 (from' : Int), .int .i64 2000] w fun e w1 =>
        ∃ ca cm cc, e = .returned (.tuple #[.agg #[.int .i64 (goR R n from').s, .int .i64 (goR R n from').e, .slice ca cm cc], .bool (goR R n from').ok, .int .i64 (goR R n from').err]) ∧ Bel M w.heap.size w w1 := by
  have hex : ∀ a, ∃ r : Int × Bool, a ≤ n → ∃ pre, InP k t a pre ∧ evalP k n a pre = some r := fun a => by
    by_cases ha : a ≤ n
    · obtain ⟨pre, r, q1, q2⟩ := tree_ok (htr a ha) hk hb hn ha
      exact ⟨r, fun _ => ⟨pre, q1, q2⟩⟩
    · exact ⟨(0, false), fun h => absurd h ha⟩
  obtain ⟨f, hf⟩ := Classical.axiomOfChoice hex
  refine ⟨fun a => ((f a).2, (f a).1), fun M lo hi w pb tb tc base from' hMw hl hhi htb htm htx hfr => ?_⟩
  obtain ⟨lo', hi', mb, b1, b2, ⟨ι, hro, hroot, hin0, _⟩, hmb⟩ := hl
  rw [planU_ne h3] at hro hin0
  have hin : ∀ e ∈ plan k, ∀ c s, ι e.1 = some (c, s) → lo' ≤ c ∧ c < hi' := fun e he c s h => ⟨(hin0 e he c s h).1, (hin0 e he c s h).2.1⟩
  have htb' : tb < lo' ∨ hi' ≤ tb := htb.imp (fun h => Nat.lt_of_lt_of_le h b1) (fun h => Nat.le_trans b2 h)
  have hhi' : hi' ≤ w.heap.size := Nat.le_trans b2 hhi
  have hnm : ∀ c, lo' ≤ c → c < hi' → ¬ M c := fun c c1 c2 e => h3 ((hmb c c1 c2).1 e).1
  obtain ⟨m1, m2, m3⟩ := root_mem k hk
  obtain ⟨l1, l2, l3, l4⟩ := runs_len k hk
  obtain ⟨pb', s0, e1, e2, _, hc⟩ := ro_cell hro m1
  rw [hroot] at e1
  cases e1
  obtain ⟨x0, k0, rfl⟩ := hc 0 _ rfl
  obtain ⟨x1, k1, eb, es, c1, ee, rfl, _, _, _⟩ := hc 1 _ rfl
  obtain ⟨x3, k3, rb, rs, c3, re, rfl, _, _, _⟩ := hc 3 _ rfl
  obtain ⟨eb', es', ee', ebl, _, hec⟩ := ro_cell hro m2
  rw [ee] at ee'
  cases ee'
  obtain ⟨rb', rs', re', rbl, hrx, hrc⟩ := ro_cell hro m3
  rw [re] at re'
  cases re'
  obtain ⟨xs, hxs⟩ : ∃ xs, List.take (runsOf k).length (List.drop rs ((w.heap[rb]?.map fun o => match o with | .cells c _ _ => c.toList | _ => []).getD [])) = xs := ⟨_, rfl⟩
  rw [hxs] at hrx
  have hxl : xs.length = (runsOf k).length := rels_length hrx
  have hpin := hin _ m1 _ _ hroot
  have hein := hin _ m2 _ _ ee
  have hcx : ∀ (j : Nat) (x : Value), xs[j]? = some x → w.cell? ⟨rb, rs + j, none⟩ = some x := fun j x hx => by
    have hjl : j < (runsOf k).length := by rw [← hxl]; exact (List.getElem?_eq_some_iff.1 hx).1
    rw [← hxs, List.getElem?_take, if_pos hjl, List.getElem?_drop] at hx
    cases hw : w.heap[rb]? with
    | none => rw [hw] at hx; simp at hx
    | some o =>
      rw [hw] at hx
      cases o <;> simp at hx
      simp only [World.cell?, hw]
      exact hx
  have hone := fn_one _ _ (runs_fn k hk) hrx
  refine first_walk (M := M) (es := engs k) (g1 := eb) (g2 := es + 0) (c1 := c1) (rv0 := .slice (some ⟨rb, rs + 0, none⟩) (engs k).length c3) (c2 := 0) (c3 := 0) (m := 0) (pv := .nilFunc)
    (OK := fun w' rv => ∃ g gc, rv = .slice (some ⟨g, 0, none⟩) (runsOf k).length gc ∧ w'.ownsRow w.heap.size 123 1 rv (runsOf k).length xs) (R := fun a => ((f a).2, (f a).1)) hMw e2 (hnm _ hpin.1 hpin.2) ebl (hnm _ hein.1 hein.2) k0 k1 k3 (fun i e hi => ?_) (by omega) (fun w' hw' => ?_) (fun w' hw' => ?_) (fun w1 w2 rv h hb12 => ?_) (by omega) hfr (fun a ha w' rv hw' hok => ?_)
  · obtain ⟨x, hx, hr⟩ := hec i (.int .i64 e) (by rw [List.getElem?_map, hi]; rfl)
    refine ⟨l4 h6 e (List.mem_of_getElem? hi), ?_⟩
    rw [Nat.add_zero, hx]
    exact congrArg some hr
  · exact textE_walk h1 h5 hfr hn hb (owns_below htx hw')
  · rw [Nat.add_zero, ← l1]
    refine (clone_walk (xs := xs) hxl (by omega) (by omega) (fun j x hx => (hw'.cell (p := ⟨rb, rs + j, none⟩) rbl).trans (hcx j x hx)) hone (Nat.lt_of_lt_of_le rbl hw'.size)).mono ?_
    rintro e w1 ⟨v, rfl, hv, hb1⟩
    refine ⟨v, rfl, hb1, ?_⟩
    obtain ⟨a, c, rfl, ha⟩ := owns_shape hv
    obtain ⟨g, rfl⟩ := ha (by omega)
    exact ⟨g, c, rfl, owns_base hv hw'.size⟩
  · obtain ⟨g, gc, rfl, hg⟩ := h
    exact ⟨g, gc, rfl, owns_bel hg hb12 hMw⟩
  · obtain ⟨g, gc, rfl, hg⟩ := hok
    obtain ⟨pre, q1, q2⟩ := hf a ha
    have hgl := World.ownsRow.lt hg g rfl
    have hro' : RoIs ι (plan k) w' := hro.same fun e he b s hbs => hw'.block b (Nat.lt_of_lt_of_le (hin e he b s hbs).2 hhi') (hnm b (hin e he b s hbs).1 (hin e he b s hbs).2)
    refine (pos_ro hk h3 q2 hn hb q1 (lo := lo') (hi := hi') ⟨ι, hro', hroot, hin, hrx⟩ htb' (owns_bel1 htx hw' (fun g' hg' => by cases hg'; exact htm)) (.inr (Nat.le_trans hhi' hgl.1)) hg).mono ?_
    rintro e w1 ⟨s, e', ca, cm, cc, rfl, hval, hb1⟩
    exact ⟨s, e', ca, cm, cc, rfl, hval, .of hb1⟩
end Go.Proofs.YtopicmcaoeameaaGreatDoor
