/-
  The law FilterRunes, walked: the rule that waits.
-/
import Derived.Test.YtahmcjdddcbhnaaGreatDoorRunLW
namespace Go.Proofs.YtahmcjdddcbhnaaGreatDoor
open Go Go.Ev Go.RowKit Go.Imap Go.Utf
set_option maxHeartbeats 16000000 in
set_option maxRecDepth 1000000 in
theorem runes_walkT {w : World} (hT : Tabs w) (hFo : Forms w) {u v r : Value} {l cuts : List Int} {raw : List UInt8}
    (hu : Sees w 1 u (ints l)) (hl : l.length ≤ 9223372036854775807) (hz : ∀ z ∈ l, IntKind.i64.min ≤ z ∧ z ≤ IntKind.i64.max)
    (hv : Sees w 1 v (ints cuts)) (hvl : cuts.length ≤ 9223372036854775807) (hvz : ∀ z ∈ cuts, IntKind.i64.min ≤ z ∧ z ≤ IntKind.i64.max)
    (hr : Sees w 1 r (bv raw)) (hrl : raw.length ≤ 9223372036854775807) :
    Calls Tryz.prog 3 #[u, v, r, .bool true] w fun e w' => e = .returned (.bool true) ∧ Below w.heap.size w w' := by
  obtain ⟨i0, hi0, hz0, hz1, hz2⟩ := info_parts' infoU8
  obtain ⟨uA, un, uc, rfl, -, -, -⟩ := id hu
  obtain ⟨vA, vn, vc, rfl, -, -, -⟩ := id hv
  obtain ⟨rA, rn, rc, rfl, -, -, -⟩ := id hr
  obtain ⟨W0, hW0⟩ : ∃ x, w.alloc (.cells #[.string ⟨#[97]⟩, .string (runesT true), .bool true] 25) = x := ⟨_, rfl⟩
  have hR0 : Blk W0 w.heap.size 25 #[.string ⟨#[97]⟩, .string (runesT true), .bool true] := by rw [← hW0]; exact Blk.made w _ _
  have hB0 : Below w.heap.size w W0 := by rw [← hW0]; exact (Below.refl _ _).alloc (Nat.le_refl _) _
  have hs0 : W0.heap.size = w.heap.size + 1 := by rw [← hW0, World.size_alloc]
  have h3 : 3 ≤ w.heap.size := size_lt3 hT
  have HT := Lib.hid hT
  have HF := Lib.hid hFo
  have HU := Lib.hid hu
  have HV := Lib.hid hv
  have HR := Lib.hid hr
  have HUZ := Lib.hid hz
  have HVZ := Lib.hid hvz
  have HR0 := Lib.hid hR0
  clear hT hFo hu hv hr hz hvz hR0
  go_enter Tryz.func3, Tryz.ntmps3
  have hW1 : w.alloc (.cells #[.string ⟨#[97]⟩, .string ⟨#[40, 63, 61, 92, 117, 123, 101, 52, 125, 41, 92, 117, 123, 101, 52, 125]⟩, .bool true] 25) = W0 := hW0
  clear hW0
  go_wp2_with (first
    | (go_at_call 6
       refine (text_walk (HU.out.bel hB0) hl HUZ.out).mono ?_
       rintro _ w1 ⟨u1, S, rfl, hr1, hS, hcp, hB1⟩
       obtain ⟨A1, c1, rfl, -⟩ := row_form hr1
       have HS := Lib.hid (And.intro hS hcp)
       have hE := encode_walk ((HF.out.below hB0).below hB1) (Sees.row hr1) hcp hS
       have hs1 := hB1.size
       clear hr1 hS hcp)
    | (go_at_call 5
       refine hE.mono ?_
       clear hE
       rintro _ w2 ⟨u2, rfl, hr2, hB2⟩
       obtain ⟨L, hL⟩ : ∃ L, (encs S).length = L := ⟨_, rfl⟩
       have hL80 : L ≤ 80 := by { have := enc_len HS.out.2; have := HS.out.1; omega }
       rw [hL] at hr2
       have HL := Lib.hid hL
       clear hL
       obtain ⟨A2, c2, rfl, -⟩ := row_form hr2
       have HB2 := hB1.trans (hB2.mono hs1)
       have ho2 : (w2.alloc (.cells #[] 5)).ownsRow w2.heap.size 5 1 (.slice (some ⟨w2.heap.size, 0, none⟩) 0 0) 0 [] := World.ownsRow_lit w2 #[] 0 (Nat.le_refl _) (by unfold maxLen; omega) rfl
       have hs2 := hB2.size)
    | (at_builtin
       refine wpList_append_sees (base := w2.heap.size) rfl _ _ 23 rfl i0 _ 1 Tryz.underlying23 hi0 hz0 hz1 hz2 rfl (by decide) (.slice (some ⟨w2.heap.size, 0, none⟩) 0 0) 0 [] rfl ho2 (.slice A2 L c2) L (bv (encs S)) rfl ((Sees.row hr2).alloc _) (by rw [bv_len, HL.out, Nat.mul_one]) (bv_one _) (by unfold maxLen; omega) (by omega) (by simp) ?_
       intro v3 w3 hr3 hg3 _
       have hB3 : Below w2.heap.size w2 w3 := grown_bel0 ((Below.refl _ _).alloc (Nat.le_refl _) _) ho2 (by simp) hg3
       rw [Nat.zero_add, List.nil_append] at hr3
       obtain ⟨A3, c3, rfl, -⟩ := row_form hr3
       have HB3 := HB2.trans (hB3.mono (by omega))
       have hs3 := hB3.size
       have hf := few_walk (HR.out.bel (hB0.trans (HB3.mono (by omega)))) hrl
       clear hg3 hr2 hB3 ho2)
    | (go_at_call 7
       refine hf.mono ?_
       clear hf
       rintro _ w4 ⟨u4, rfl, hr4, hB4⟩
       obtain ⟨q, hq⟩ : ∃ q, (raw.take 4).length = q := ⟨_, rfl⟩
       have hq4 : q ≤ 4 := by rw [← hq, List.length_take]; omega
       rw [hq] at hr4
       have HQ := Lib.hid hq
       clear hq
       obtain ⟨A4, c4, rfl, -⟩ := row_form hr4
       have HB4 := HB3.trans (hB4.mono (by omega))
       have hs4 := hB4.size
       have hr34 := row_chg hr3 (Chg.of_below (F := fun _ => False) hB4) fun _ _ h => h)
    | (at_builtin
       refine wpList_append_sees (base := w2.heap.size) rfl _ _ 23 rfl i0 _ 1 Tryz.underlying23 hi0 hz0 hz1 hz2 rfl (by decide) (.slice A3 L c3) L (bv (encs S)) rfl hr34 (.slice A4 q c4) q (bv (raw.take 4)) rfl (Sees.row hr4) (by rw [bv_len, HQ.out, Nat.mul_one]) (bv_one _) (by unfold maxLen; omega) (by omega) (by omega) ?_
       intro v5 w5 hr5 hg5 _
       obtain ⟨A5, c5, rfl, -⟩ := row_form hr5
       have HB5 := HB4.grown hg5 (by omega) fun k hk => by have := (World.ownsRow.lt hr34 k hk).1; omega
       have hs5 := HB5.size
       obtain ⟨all, hall⟩ : ∃ x, encs S ++ raw.take 4 = x := ⟨_, rfl⟩
       have hal : all.length = L + q := by rw [← hall, List.length_append, HL.out, HQ.out]
       rw [← bv_app, hall] at hr5
       have HAL := Lib.hid (And.intro hall hal)
       obtain ⟨Sy, rr, hpr, hst⟩ := prs_ex all.length all (Nat.le_refl _)
       have HP := Lib.hid (And.intro hpr hst)
       have hd := dec_uni (HF.out.below (hB0.trans (HB5.mono (by omega)))) (by omega) (Sees.row hr5) hpr hst
       clear hall hal hpr hst hr34 hr4 hr3 hg5)
    | (go_at_call 8
       refine hd.mono ?_
       clear hd
       rintro _ w6 ⟨A6, n6, c6, er, SS, rfl, hse6, hss, hB6⟩
       have HB6 := HB5.trans (hB6.mono (by omega))
       have hs6 := hB6.size
       have HS6 := Lib.hid (And.intro hse6 hss)
       have hr6 := HR0.out.bel HB6 (by omega)
       have d0 := hr6.at' 0
       have d1 := hr6.at' 1
       have d2 := hr6.at' 2
       obtain ⟨W7, hW7⟩ : ∃ x, w6.alloc (.cells #[.string ⟨#[97]⟩, .string (runesT true), .bool true] 25) = x := ⟨_, rfl⟩
       have hB7 : Below w6.heap.size w6 W7 := by rw [← hW7]; exact (Below.refl _ _).alloc (Nat.le_refl _) _
       have hs7 : W7.heap.size = w6.heap.size + 1 := by rw [← hW7, World.size_alloc]
       have hk7 : Blk W7 w6.heap.size 25 #[.string ⟨#[97]⟩, .string (runesT true), .bool true] := by rw [← hW7]; exact Blk.made w6 _ _
       have hst := start_fil true hk7 (by omega)
       have ha7 := (Sees.row hr5).bel (hB6.trans (hB7.mono hs6))
       have HB7 := HB6.trans (hB7.mono (by omega))
       simp [runesT] at d0 d1 d2 hW7
       clear hse6 hss hr6 hk7)
    | (go_at_call 9
       refine hst.mono ?_
       clear hst
       rintro _ w8 ⟨g, FS, st, rfl, hFil, hInv, hnew, hB8⟩
       have HB8 := HB7.trans (hB8.mono (by omega))
       have ha8 := ha7.bel hB8
       have hs8 := hB8.size
       have hA5l : ∀ b, Value.leads (.slice A5 (L + q) c5) = some b → ¬ FS b := fun b hb hf => by
         have h1 := leads_sees (Sees.row hr5) hb
         have h2 := hnew b hf
         omega
       have hvl' : ∀ b, Value.leads (.slice vA vn vc) = some b → ¬ FS b := fun b hb hf => by
         have h1 := leads_sees HV.out hb
         have h2 := hnew b hf
         omega
       have HB8w := hB0.trans (HB8.mono (by omega))
       have hsn := send_walk run_ok (Tabs.chg (F := fun _ => False) HT.out (Chg.of_below HB8w) (fun h => h) (fun h => h)) (HF.out.below HB8w) hFil ⟨Int.le_refl _, by omega⟩ hInv ha8 hA5l (HV.out.bel HB8w) hvl' HVZ.out hvl (by have := HAL.out.2; omega) (fun X Z S' r' e hp => (prs_enc HS.out.2).few HS.out.1 (by have := HQ.out; omega) (HAL.out.1.trans e) hp)
       clear hFil hInv ha7 ha8 hA5l hvl' HB8w)
    | (go_at_call 10
       refine hsn.mono ?_
       clear hsn
       rintro _ w9 ⟨_, out, rfl, ⟨A9, n9, c9, rfl⟩, hse9, htl, hlo, hC9⟩
       have hs9 := hC9.size
       have hB9 : Below W7.heap.size w8 w9 := hC9.to_below hs8 fun i _ h => hnew i h
       have HB9 := HB8.trans (hB9.mono (by omega))
       have HO := Lib.hid (And.intro hse9 (And.intro htl hlo))
       have hs69 := HS6.out.1.bel ((hB7.trans (hB8.mono (by omega))).trans (hB9.mono (by omega)))
       clear hse9 htl hlo hC9 hnew)
    | fail)
  obtain ⟨j0, hj0i, hj0z, hj1, hj2⟩ := info_parts' infoFound
  have hn6 : SS.length = n6 := by { obtain ⟨_, _, _, e, h1, _, _⟩ := hs69; cases e; rw [natI_len] at h1; omega }
  have hn6b : n6 ≤ 100 := by
    rcases HS6.out.2 with ⟨-, -, e⟩ | ⟨-, -, e⟩
    · have h1 := HP.out.1.len
      have h2 := HAL.out.2
      rw [e] at hn6
      omega
    · rw [e] at hn6
      rw [← hn6]
      exact Nat.zero_le _
  obtain ⟨hA6, hn6', hcc6⟩ : ∃ _ : True, True ∧ (n6 ≠ 0 → ∃ b s, A6 = some ⟨b, s, none⟩ ∧ b < w9.heap.size ∧ ∀ j (hj : j < SS.length), w9.cell? ⟨b, s + j, none⟩ = some (.int .i64 ((SS[j] : Nat) : Int))) := by
    refine ⟨trivial, trivial, fun h => ?_⟩
    obtain ⟨_, _, _, e, h1, h2, h3⟩ := hs69
    cases e
    obtain ⟨b, s, rfl, hb, hc⟩ := h3 h
    exact ⟨b, s, rfl, hb, fun j hj => hc j _ (by unfold natI; rw [List.getElem?_map, List.getElem?_eq_getElem hj]; rfl)⟩
  have HC6 := Lib.hid (And.intro hn6 hcc6)
  have hlv := fun W => lives_walk W
  clear hn6 hcc6 hn6' hA6 hs69
  go_loopw [18, 19] (fun ov iv wr => ∃ (j k : Nat), j ≤ n6 ∧ iv = .int .i64 j ∧ Hid (k = (hits 0 (SS.take j)).length) ∧ k ≤ j ∧ Below w9.heap.size w9 wr ∧ wr.ownsRow w9.heap.size 40 3 ov k (fndV (nxp (hits 0 (SS.take j))))) (fun _ iv _ => n6 - (intOf iv).toNat)
  case atStart => exact ⟨0, 0, Nat.zero_le _, rfl, Lib.hid rfl, Nat.le_refl _, Below.refl _ _, World.ownsRow_nil _ _ _ _⟩
  case round =>
    obtain ⟨j, k, hj, rfl, hk, hkj, hbz, hrow⟩ := hrel
    obtain ⟨Ao, co, rfl, -⟩ := row_form hrow
    have hzz := hbz.size
    by_cases c1 : j < n6
    · have c1' : (j : Int) < (n6 : Int) := by omega
      have hjl : j < SS.length := by rw [HC6.out.1]; exact c1
      obtain ⟨b, off, rfl, hb, hcc⟩ := HC6.out.2 (by omega)
      have d := (hbz.cell (p := ⟨b, off + j, none⟩) hb).trans (hcc j hjl)
      have htk := hits_take hjl 0
      obtain ⟨x, hx⟩ : ∃ x, SS[j] = x := ⟨_, rfl⟩
      rw [hx] at d htk
      clear hcc hx
      by_cases hx2 : ((x : Nat) : Int) = 228
      · rw [if_pos hx2] at htk
        rw [hx2] at d
        have HTK := Lib.hid htk
        have hso := sees_one wr 40 #[.int .i64 0, .int .i64 (j : Int), .int .i64 ((j : Int) + 1)] (size := 3) rfl
        clear htk hx2
        go_wp2_with (first
          | (at_builtin
             refine wpList_append_sees (base := w9.heap.size) rfl _ _ 36 rfl j0 _ 24 Tryz.underlying36 hj0i hj0z hj1 hj2 rfl (by decide) (.slice Ao k co) k (fndV (nxp (hits 0 (SS.take j)))) rfl (hrow.alloc _) _ 1 _ rfl hso rfl (by intro u hu; simp at hu; rcases hu with rfl | rfl | rfl <;> rfl) (by unfold maxLen; omega) (by omega) (by simp; omega) ?_
             intro v3 w3 hr3 hg3 _
             have hB3 := grown_bel0 (hbz.alloc hzz _) (hrow.alloc _) (by simp; omega) hg3
             clear hg3 hso)
          | fail)
        go_roundw
        case rel =>
          refine ⟨j + 1, k + 1, c1, by go_num, Lib.hid ?_, by omega, hB3, ?_⟩
          · rw [HTK.out, List.length_append, ← hk.out]; rfl
          · rw [HTK.out, nxp_app, fndV_app, Int.zero_add]
            exact hr3
        case measure => simp [intOf]; omega
      · rw [if_neg hx2] at htk
        have HTK := Lib.hid htk
        clear htk
        go_wp2_with fail
        go_roundw
        case rel => exact ⟨j + 1, k, c1, by go_num, Lib.hid (by rw [HTK.out]; exact hk.out), by omega, hbz, by rw [HTK.out]; exact hrow⟩
        case measure => simp [intOf]; omega
    · have c1' : ¬ (j : Int) < (n6 : Int) := by omega
      have htk : SS.take j = SS := List.take_of_length_le (by rw [HC6.out.1]; omega)
      rw [htk] at hrow
      have HBz := hB0.trans ((HB9.trans (hbz.mono (by omega))).mono (by omega))
      have hgot := HO.out.1.bel hbz
      have hsz := HBz.size
      rcases HS6.out.2 with ⟨hr0, rfl, rfl⟩ | ⟨hr0, rfl, rfl⟩
      · have hout : out = nxp (hits 0 SS) := by
          obtain ⟨S2, r2, p1, p2, p3⟩ := HO.out.2.1
          obtain ⟨e1, e2⟩ := HP.out.1.uniq HP.out.2 p1 p2
          rcases p3 with ⟨-, h⟩ | ⟨h, -⟩
          · rw [h, e1]
          · exact absurd (e2.symm.trans hr0) h
        have hsame := same_yes hgot (by rw [hout]; exact Sees.row hrow) HO.out.2.2
        have HBZ := Lib.hid HBz
        clear hgot hrow hout htk hbz HBz
        go_wp2_with (first
          | (go_at_call 12; refine hsame.mono ?_; clear hsame; rintro _ w10 ⟨rfl, hB10⟩)
          | (go_at_call 11; refine (hlv _).mono ?_; rintro _ w11 ⟨rfl, hB11⟩)
          | fail)
        go_ret
        exact ⟨rfl, HBZ.out.trans ((hB10.trans (hB11.mono hB10.size)).mono hsz)⟩
      · obtain ⟨q2, hq2⟩ : ∃ q2, out = q2 ++ [(-1, -1)] := by
          obtain ⟨S2, r2, p1, p2, p3⟩ := HO.out.2.1
          obtain ⟨e1, e2⟩ := HP.out.1.uniq HP.out.2 p1 p2
          rcases p3 with ⟨h, -⟩ | ⟨-, h⟩
          · exact absurd (e2.trans h) hr0
          · exact h
        obtain ⟨A2, cp2, e9, -, hcc2⟩ := sees_at fnd1 (fun _ => rfl) (by omega) hgot
        have hol : out.length = q2.length + 1 := by rw [hq2, List.length_append]; rfl
        obtain ⟨m, hm⟩ : ∃ m, q2.length = m := ⟨_, rfl⟩
        rw [hm] at hol
        cases e9
        obtain ⟨pb, po, e9, hpl, hpc⟩ := hcc2 (by omega)
        subst e9
        have hml : m < out.length := by omega
        have hm5 : m ≤ 100000 := by { have := HO.out.2.2; omega }
        have hlast : out[m] = (-1, -1) := by
          have : out[m]? = some (-1, -1) := by rw [hq2, List.getElem?_append_right (by omega), hm, Nat.sub_self]; rfl
          rw [List.getElem?_eq_getElem hml] at this
          exact Option.some.inj this
        have g0 := hpc m hml 0 (.int .i64 0) (by omega) rfl
        have g1 := hpc m hml 1 (.int .i64 (-1)) (by omega) (by rw [hlast]; rfl)
        have g2 := hpc m hml 2 (.int .i64 (-1)) (by omega) (by rw [hlast]; rfl)
        rw [Nat.add_zero] at g0
        have HBZ := Lib.hid HBz
        rw [hol]
        clear hgot hrow hq2 hcc2 hpc hlast hml htk hbz HBz hol
        have hm0 : (0 : Int) < (m : Int) + 1 := by omega
        have hw64 : wrap64 (m : Int) = (m : Int) := by unfold wrap64; omega
        go_wp2_with (first
          | (go_at_call 11; refine (hlv _).mono ?_; rintro _ w11 ⟨rfl, hB11⟩)
          | fail)
        go_ret
        exact ⟨rfl, HBZ.out.trans (hB11.mono hsz)⟩
end Go.Proofs.YtahmcjdddcbhnaaGreatDoor
