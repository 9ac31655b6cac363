/-
  StoreAltered's law, walked.
-/
import Derived.Test.YtkndgmjlphppdaaGreatDoorDurG2c
import Derived.Deep.RegionHeld3
namespace Go.Proofs.YtkndgmjlphppdaaGreatDoor
open Go Go.RowKit Go.Imap Go.Ev

set_option maxHeartbeats 16000000 in
set_option maxRecDepth 1000000 in
theorem alt_walk {w : World} {x : Value} {l : List Int} (hl : SlArg w x l) {z : Int} (hz : -9223372036854775808 ≤ z ∧ z ≤ 9223372036854775807) :
    Calls Tryz.prog 4 #[x, .int .i64 z] w fun e w' => e = .returned (.bool true) ∧ Below w.heap.size w w' := by
  have hnew := new_step (room := 65536) (by omega) w
  obtain ⟨xa, xc, rfl, _⟩ := hl.val
  obtain ⟨i0, hi0, hz0, hz1, hz2⟩ := info_parts' info5
  obtain ⟨j0, hj0, hk0, hk1, hk2⟩ := info_parts' infoInt
  go_enter Tryz.func4, Tryz.ntmps4
  go_wp2_with fail
  go_at_call 6
  refine hnew.mono ?_
  clear hnew
  rintro _ w1 ⟨db, mb, rv1, rfl, hE1, hB1⟩
  have hop := open_step (k := 2) (l := []) hE1 (by omega) RecsOk.nil rfl
  go_wp2_with fail
  go_at_call 7
  refine hop.mono ?_
  clear hop
  rintro _ w2 ⟨sb, lg, vv, its, rfl, hO⟩
  obtain ⟨rv2, hE2⟩ := hO.env
  have hst0 : ARow w w2 w.heap.size db mb sb lg (150 * 0) rv2 (Dk.new 65536).harden vv its (recsA l 0) (.slice none 0 0) (.slice none 0 0) (endsA l 0) (headsA l 0) := ⟨hE2, hO.sto, World.ownsRow_nil _ _ _ _, World.ownsRow_nil _ _ _ _, fun g hg => (by cases hg), fun j _ => rfl, hB1.trans hO.bel⟩
  clear hO hE1 hB1 hE2
  go_wp2
  go_loopw [9, 10, 11, 12] (fun ev hv sz iv wr => ∃ (j : Nat) (rv : Nat → Value) (d : Dk) (vv : Value) (its : List (Value × List Ru)), j ≤ 6 ∧ sz = .int .i64 (szA l j : Int) ∧ iv = .int .i64 (j : Int) ∧ ARow w wr w.heap.size db mb sb lg (150 * j) rv d vv its (recsA l j) ev hv (endsA l j) (headsA l j)) (fun _ _ _ iv _ => 6 - (intOf iv).toNat)
  case atStart => exact ⟨0, _, _, _, _, by omega, rfl, rfl, hst0⟩
  case round =>
    clear hst0
    obtain ⟨j, rv, d, vv, its, hj, rfl, rfl, hX⟩ := hrel
    have hszj := szA_le l hj
    by_cases hj6 : j < 6
    · obtain ⟨m, hm⟩ : ∃ m, j / 2 = m := ⟨_, rfl⟩
      have hji : (j : Int) < 6 := by omega
      have hjm : (j : Int) / 2 = (m : Int) := by omega
      have hus0 : ∀ W, _ := fun W => useRec_walk (n := m) (by omega) W
      simp only [← hjm] at hus0
      have hRl := (recA_ok l hj6).len (by rw [recsA_len]; omega)
      have hfl := frame_len frameH frameH_lt j (recA l j).enc (by omega) (by omega)
      have hsz2 := szA_succ l j
      have hlenR := recsA_len l j
      have HJM := Lib.hid hjm
      clear hjm
      obtain ⟨eA, eC, rfl, _⟩ := row_form hX.ends
      obtain ⟨hA, hC, rfl, _⟩ := row_form hX.heads
      rw [endsA_len, headsA_len] at hX ⊢
      have hwB := hX.env.hB
      have hsl := hl.below hX.bel
      rcases (show j % 2 = 0 ∨ j % 2 = 1 by omega) with hpar | hpar
      · have hji2 : (j : Int) % 2 = 0 := by omega
        have hrec : recA l j = .save (fewL l (9 * j)) := by unfold recA; rw [if_pos hpar]
        have e9 : ((9 * j : Nat) : Int) = 9 * (j : Int) := by omega
        have HW9 := wrap_hid (z := 9 * (j : Int)) (by omega) (by omega)
        have hfew := fun (W : World) (hW : Below w.heap.size w W) => few_walkD (hl.below hW) (9 * j) (by omega)
        rw [e9] at hfew
        obtain ⟨x, hx⟩ : ∃ x, (recA l j).enc = x := ⟨_, rfl⟩
        have HP := Lib.hid hji2
        have HM := Lib.hid hm
        clear e9 hpar hm hlenR hsz2 hfl hRl hszj
        have HR := Lib.hid hrec
        have HX := Lib.hid hx
        have HXX := Lib.hid hX
        clear hrec hx hX hj hj6
        go_wp2_with fail
        go_at_call 17
        refine (hus0 _).mono ?_
        clear hus0
        rintro _ wu ⟨uu, rfl, hru, hBu⟩
        obtain ⟨uuA, uuC, rfl, _⟩ := row_form hru
        have hXu := HXX.out.bel' hBu
        have su := hBu.size
        have hf1 := hfew wu hXu.bel
        have hw91 := HW9.out.1
        clear hru
        go_wp2_with fail
        go_at_call 8
        refine hf1.mono ?_
        clear hf1
        rintro _ wa1 ⟨v1, fs1, rfl, hfr1, _, _, hBa1, hfs1⟩
        subst hfs1
        have hXa := hXu.bel' hBa1
        have sa1 := hBa1.size
        have hsr := saveRec_walk hfr1 (fewL_good l (9 * j))
        clear hfr1
        go_wp2_with fail
        go_at_call 18
        refine hsr.mono ?_
        clear hsr
        rintro _ wa2 ⟨u2, rfl, hu2, hBa2⟩
        obtain ⟨uA, uC, rfl, _⟩ := row_form hu2
        have hXb := hXa.bel' hBa2
        have sa2 := hBa2.size
        have hf2 := hfew wa2 hXb.bel
        go_wp2_with fail
        go_at_call 8
        refine hf2.mono ?_
        clear hf2
        rintro _ wa3 ⟨v3, fs3, rfl, hfr3, _, _, hBa3, hfs3⟩
        subst hfs3
        obtain ⟨fA3, fC3, rfl, _⟩ := row_form hfr3
        have hXc := hXb.bel' hBa3
        have sa3 := hBa3.size
        have hu3 := owns_bel hu2 hBa3
        have hown := own_walk hfr3 (by have := (fewL_good l (9 * j)).len; omega)
        clear hfr3 hu2
        go_wp2_with fail
        go_at_call 10
        refine hown.mono ?_
        clear hown
        rintro _ wa4 ⟨v4, rfl, hr4, hBa4⟩
        have hXd := hXc.bel' hBa4
        have sa4 := hBa4.size
        have hu4 := owns_bel hu3 hBa4
        have hsv := save_step hXd.env hXd.sto (by rw [recsA_len]; omega) (by omega) hr4 (fewL_good l (9 * j))
        clear hu3 hr4
        go_wp2_with fail
        go_at_call 9
        refine hsv.mono ?_
        clear hsv
        rintro _ w6 ⟨vv6, its6, rfl, hA6⟩
        have hu5 := HXX.out.keep hu4 (by omega) hA6.sf
        obtain ⟨rv6, hX6'⟩ := hXd.after hA6
        obtain ⟨d6, hd6⟩ : ∃ d6, d.add 2 (recsA l j).length (.save (fewL l (9 * j))) = d6 := ⟨_, rfl⟩
        rw [hd6] at hX6'
        clear hd6
        have hX6 : ARow w w6 w.heap.size db mb sb lg (150 * j + 150) rv6 d6 vv6 its6 (recsA l (j + 1)) (.slice eA j eC) (.slice hA j hC) (endsA l j) (headsA l j) := by
          have e : recsA l (j + 1) = recsA l j ++ [.save (fewL l (9 * j))] := by rw [← HR.out]; rfl
          rw [e]
          exact hX6'
        have hxe : (Rec.save (fewL l (9 * j))).enc = x := by rw [← HR.out]; exact HX.out
        rw [hxe] at hu5 ⊢
        have hu6 := hu5
        clear hu4 hu5 hX6' hA6 hXd hXc hXb hXa hXu hBa1 hBa2 hBa3 hBa4 hxe hfew HW9
        obtain ⟨F, hFe⟩ : ∃ F, frame frameH j x = F := ⟨_, rfl⟩
        have hRl := (recA_ok l (by omega : j < 6)).len (by rw [recsA_len]; omega)
        have hfl := frame_len frameH frameH_lt j (recA l j).enc (by omega) (by omega)
        rw [HX.out] at hRl hfl
        rw [hFe] at hfl
        have n63 : j + 1 ≤ maxLen := by unfold maxLen; omega
        have nby : (j + 1) * 8 ≤ 140737488355328 := by omega
        have HI1 := Lib.hid (show (encI (j : Int)).length = 1 from encI_len1 (by omega))
        have hR1 : (encR x).length ≤ 130 := by have := uv_ten (n := x.length) (by omega); unfold encR; rw [List.length_append]; omega
        have hfw := frame_walk (k := j) (Sees.row hu6) (by omega) (by omega)
        rw [hFe] at hfw
        go_wp2_with fail
        go_at_call 19
        refine hfw.mono ?_
        clear hfw
        rintro _ wf ⟨uf, rfl, hrf, hBf⟩
        obtain ⟨fA, fC, rfl, _⟩ := row_form hrf
        have huf := owns_bel hu6 hBf
        have sf := hBf.size
        have hXf := hX6.bel' hBf
        have hin := fint_walk (k := j) (by omega) wf
        clear hrf
        go_wp2_with fail
        go_at_call 20
        refine hin.mono ?_
        clear hin
        rintro _ wi ⟨ui, rfl, hri, hBi⟩
        obtain ⟨iA, iC, rfl, _⟩ := row_form hri
        have hui := owns_bel huf hBi
        have si := hBi.size
        have hXi := hXf.bel' hBi
        have hra := fraw_walk (Sees.row hui) (by omega)
        go_wp2_with fail
        go_at_call 21
        refine hra.mono ?_
        clear hra
        rintro _ wr2 ⟨ur, rfl, hrr, hBr⟩
        obtain ⟨rA, rC, rfl, _⟩ := row_form hrr
        have hri2 := owns_bel hri hBr
        have sr := hBr.size
        have hXr := hXi.bel' hBr
        have hs3 := Sees.row hrr
        have z3 : (encI (j : Int)).length + (encR x).length ≤ maxLen := by have := HI1.out; unfold maxLen; omega
        have y3 : ((encI (j : Int)).length + (encR x).length) * 1 ≤ 140737488355328 := by have := HI1.out; omega
        have l3 : (bv (encR x)).length = (encR x).length * 1 := by rw [bv_len]; omega
        have o3 := bv_one (encR x)
        have b3 : wf.heap.size ≤ wr2.heap.size := by omega
        clear hui huf hrr hri hu6
        go_wp2_with (first
          | (at_builtin; refine wpList_append_sees rfl _ _ 47 rfl i0 _ 1 Tryz.underlying47 hi0 hz0 hz1 hz2 rfl (by decide) _ _ _ rfl hri2 _ (encR x).length _ rfl hs3 l3 o3 z3 y3 b3 ?_; intro va wa hrowa hgrowa howna; obtain ⟨cA, cC, rfl, _⟩ := row_form hrowa; have hrowc : wa.ownsRow wf.heap.size 5 1 (.slice cA ((encI (j : Int)).length + (encR x).length) cC) ((encI (j : Int)).length + (encR x).length) (bv (core j x)) := (by { unfold core; rw [bv_app]; exact hrowa }); have hcl : (core j x).length = (encI (j : Int)).length + (encR x).length := (by { unfold core; rw [List.length_append] }); have hrc := fraw_walk (x := core j x) (Sees.row hrowc) (by { have := HI1.out; omega }); have hXw := hXf.bel' (grown_bel0 (hBi.trans (hBr.mono si)) hri2 b3 hgrowa))
          | (go_at_call 21; refine hrc.mono ?_; clear hrc; rintro _ wq ⟨uq, rfl, hrq, hBq⟩; obtain ⟨qA, qC, rfl, _⟩ := row_form hrq; have hXq := hXw.bel' hBq; have hhq : wq.ownsRow w.heap.size 3 1 (.slice hA j hC) j (headsA l j) := (by { have := hXq.heads; rwa [headsA_len] at this }); have hbq := hXq.env.hB; have hsq := sees_int wq)
          | (at_builtin; refine wpList_append_sees rfl _ _ 22 rfl j0 _ 8 Tryz.underlying22 hj0 hk0 hk1 hk2 rfl (by decide) (.slice hA j hC) j (headsA l j) rfl (hhq.alloc _) _ 1 _ rfl (hsq _) rfl (by intro u hu; simp at hu; subst hu; rfl) n63 nby (by simp; omega) ?_; intro vh wh hrowh hgrowh hath; obtain ⟨hA2, hC2, rfl, _⟩ := row_form hrowh; have hXh := (hXq.bel' ((Below.refl _ _).alloc (Nat.le_refl _) _)).pushH (by { rw [headsA_len]; exact hrowh }) hgrowh hath; have heq : wh.ownsRow w.heap.size 3 1 (.slice eA j eC) j (endsA l j) := (by { have := hXh.ends; rwa [endsA_len] at this }); have hbh := hXh.env.hB; have hsh := sees_int wh)
          | (at_builtin; refine wpList_append_sees rfl _ _ 22 rfl j0 _ 8 Tryz.underlying22 hj0 hk0 hk1 hk2 rfl (by decide) (.slice eA j eC) j (endsA l j) rfl (heq.alloc _) _ 1 _ rfl (hsh _) rfl (by intro u hu; simp at hu; subst hu; rfl) n63 nby (by simp; omega) ?_; intro ve we hrowe hgrowe hate; obtain ⟨eA2, eC2, rfl, _⟩ := row_form hrowe; have hXe := (hXh.bel' ((Below.refl _ _).alloc (Nat.le_refl _) _)).pushE (by { rw [endsA_len]; exact hrowe }) hgrowe hate))
        have hNN := alt_nums l (by omega) HX.out hFe
        rw [hNN.1, hNN.2] at hXe
        have HXE := Lib.hid hXe
        have HNN := Lib.hid hNN
        clear hXe hXh hXq hXw hNN
        go_roundw
        case rel =>
          refine ⟨j + 1, rv6, d6, vv6, its6, by omega, congrArg (Value.int .i64) HNN.out.1, by go_num, ?_⟩
          have e : 150 * (j + 1) = 150 * j + 150 := by omega
          rw [e]
          exact HXE.out
        case measure => simp [intOf]; omega
      · have hji2 : (j : Int) % 2 = 1 := by omega
        have hrec : recA l j = .use m := by unfold recA; rw [if_neg (by omega), hm]
        obtain ⟨x, hx⟩ : ∃ x, (recA l j).enc = x := ⟨_, rfl⟩
        have hmv : m < (versOf (recsA l j)).length := by rw [versA_len l j hj]; omega
        have HM := Lib.hid hm
        clear hpar hm hlenR hsz2 hfl hRl hszj
        have HR := Lib.hid hrec
        have HX := Lib.hid hx
        have HXX := Lib.hid hX
        have HV := Lib.hid hmv
        clear hrec hx hX hj hj6 hmv
        go_wp2_with fail
        go_at_call 17
        refine (hus0 _).mono ?_
        clear hus0
        rintro _ wu ⟨uu, rfl, hru, hBu⟩
        obtain ⟨uA, uC, rfl, _⟩ := row_form hru
        have hXu := HXX.out.bel' hBu
        have hus := use_step hXu.env hXu.sto (by rw [recsA_len]; omega) (by omega) HV.out
        rw [← HJM.out] at hus
        go_wp2_with fail
        go_at_call 11
        refine hus.mono ?_
        clear hus
        rintro _ w6 ⟨rfl, hA6⟩
        have hu5 := HXX.out.keep hru (Nat.le_refl _) hA6.sf
        obtain ⟨rv6, hX6'⟩ := hXu.after hA6
        obtain ⟨d6, hd6⟩ : ∃ d6, d.add 2 (recsA l j).length (.use m) = d6 := ⟨_, rfl⟩
        rw [hd6] at hX6'
        clear hd6
        obtain ⟨vv6, hvv6⟩ : ∃ v6, vv = v6 := ⟨_, rfl⟩
        obtain ⟨its6, hits6⟩ : ∃ i6, its = i6 := ⟨_, rfl⟩
        have hX6 : ARow w w6 w.heap.size db mb sb lg (150 * j + 150) rv6 d6 vv6 its6 (recsA l (j + 1)) (.slice eA j eC) (.slice hA j hC) (endsA l j) (headsA l j) := by
          have e : recsA l (j + 1) = recsA l j ++ [.use m] := by rw [← HR.out]; rfl
          rw [e, ← hvv6, ← hits6]
          exact hX6'
        have hxe : (Rec.use m).enc = x := by rw [← HR.out]; exact HX.out
        rw [hxe] at hu5 ⊢
        have hu6 := hu5
        clear hru hu5 hX6' hA6 hXu hBu hxe hvv6 hits6
        obtain ⟨F, hFe⟩ : ∃ F, frame frameH j x = F := ⟨_, rfl⟩
        have hRl := (recA_ok l (by omega : j < 6)).len (by rw [recsA_len]; omega)
        have hfl := frame_len frameH frameH_lt j (recA l j).enc (by omega) (by omega)
        rw [HX.out] at hRl hfl
        rw [hFe] at hfl
        have n63 : j + 1 ≤ maxLen := by unfold maxLen; omega
        have nby : (j + 1) * 8 ≤ 140737488355328 := by omega
        have HI1 := Lib.hid (show (encI (j : Int)).length = 1 from encI_len1 (by omega))
        have hR1 : (encR x).length ≤ 130 := by have := uv_ten (n := x.length) (by omega); unfold encR; rw [List.length_append]; omega
        have hfw := frame_walk (k := j) (Sees.row hu6) (by omega) (by omega)
        rw [hFe] at hfw
        go_wp2_with fail
        go_at_call 19
        refine hfw.mono ?_
        clear hfw
        rintro _ wf ⟨uf, rfl, hrf, hBf⟩
        obtain ⟨fA, fC, rfl, _⟩ := row_form hrf
        have huf := owns_bel hu6 hBf
        have sf := hBf.size
        have hXf := hX6.bel' hBf
        have hin := fint_walk (k := j) (by omega) wf
        clear hrf
        go_wp2_with fail
        go_at_call 20
        refine hin.mono ?_
        clear hin
        rintro _ wi ⟨ui, rfl, hri, hBi⟩
        obtain ⟨iA, iC, rfl, _⟩ := row_form hri
        have hui := owns_bel huf hBi
        have si := hBi.size
        have hXi := hXf.bel' hBi
        have hra := fraw_walk (Sees.row hui) (by omega)
        go_wp2_with fail
        go_at_call 21
        refine hra.mono ?_
        clear hra
        rintro _ wr2 ⟨ur, rfl, hrr, hBr⟩
        obtain ⟨rA, rC, rfl, _⟩ := row_form hrr
        have hri2 := owns_bel hri hBr
        have sr := hBr.size
        have hXr := hXi.bel' hBr
        have hs3 := Sees.row hrr
        have z3 : (encI (j : Int)).length + (encR x).length ≤ maxLen := by have := HI1.out; unfold maxLen; omega
        have y3 : ((encI (j : Int)).length + (encR x).length) * 1 ≤ 140737488355328 := by have := HI1.out; omega
        have l3 : (bv (encR x)).length = (encR x).length * 1 := by rw [bv_len]; omega
        have o3 := bv_one (encR x)
        have b3 : wf.heap.size ≤ wr2.heap.size := by omega
        clear hui huf hrr hri hu6
        go_wp2_with (first
          | (at_builtin; refine wpList_append_sees rfl _ _ 47 rfl i0 _ 1 Tryz.underlying47 hi0 hz0 hz1 hz2 rfl (by decide) _ _ _ rfl hri2 _ (encR x).length _ rfl hs3 l3 o3 z3 y3 b3 ?_; intro va wa hrowa hgrowa howna; obtain ⟨cA, cC, rfl, _⟩ := row_form hrowa; have hrowc : wa.ownsRow wf.heap.size 5 1 (.slice cA ((encI (j : Int)).length + (encR x).length) cC) ((encI (j : Int)).length + (encR x).length) (bv (core j x)) := (by { unfold core; rw [bv_app]; exact hrowa }); have hcl : (core j x).length = (encI (j : Int)).length + (encR x).length := (by { unfold core; rw [List.length_append] }); have hrc := fraw_walk (x := core j x) (Sees.row hrowc) (by { have := HI1.out; omega }); have hXw := hXf.bel' (grown_bel0 (hBi.trans (hBr.mono si)) hri2 b3 hgrowa))
          | (go_at_call 21; refine hrc.mono ?_; clear hrc; rintro _ wq ⟨uq, rfl, hrq, hBq⟩; obtain ⟨qA, qC, rfl, _⟩ := row_form hrq; have hXq := hXw.bel' hBq; have hhq : wq.ownsRow w.heap.size 3 1 (.slice hA j hC) j (headsA l j) := (by { have := hXq.heads; rwa [headsA_len] at this }); have hbq := hXq.env.hB; have hsq := sees_int wq)
          | (at_builtin; refine wpList_append_sees rfl _ _ 22 rfl j0 _ 8 Tryz.underlying22 hj0 hk0 hk1 hk2 rfl (by decide) (.slice hA j hC) j (headsA l j) rfl (hhq.alloc _) _ 1 _ rfl (hsq _) rfl (by intro u hu; simp at hu; subst hu; rfl) n63 nby (by simp; omega) ?_; intro vh wh hrowh hgrowh hath; obtain ⟨hA2, hC2, rfl, _⟩ := row_form hrowh; have hXh := (hXq.bel' ((Below.refl _ _).alloc (Nat.le_refl _) _)).pushH (by { rw [headsA_len]; exact hrowh }) hgrowh hath; have heq : wh.ownsRow w.heap.size 3 1 (.slice eA j eC) j (endsA l j) := (by { have := hXh.ends; rwa [endsA_len] at this }); have hbh := hXh.env.hB; have hsh := sees_int wh)
          | (at_builtin; refine wpList_append_sees rfl _ _ 22 rfl j0 _ 8 Tryz.underlying22 hj0 hk0 hk1 hk2 rfl (by decide) (.slice eA j eC) j (endsA l j) rfl (heq.alloc _) _ 1 _ rfl (hsh _) rfl (by intro u hu; simp at hu; subst hu; rfl) n63 nby (by simp; omega) ?_; intro ve we hrowe hgrowe hate; obtain ⟨eA2, eC2, rfl, _⟩ := row_form hrowe; have hXe := (hXh.bel' ((Below.refl _ _).alloc (Nat.le_refl _) _)).pushE (by { rw [endsA_len]; exact hrowe }) hgrowe hate))
        have hNN := alt_nums l (by omega) HX.out hFe
        rw [hNN.1, hNN.2] at hXe
        have HXE := Lib.hid hXe
        have HNN := Lib.hid hNN
        clear hXe hXh hXq hXw hNN
        go_roundw
        case rel =>
          refine ⟨j + 1, rv6, d6, vv6, its6, by omega, congrArg (Value.int .i64) HNN.out.1, by go_num, ?_⟩
          have e : 150 * (j + 1) = 150 * j + 150 := by omega
          rw [e]
          exact HXE.out
        case measure => simp [intOf]; omega
    · obtain rfl : j = 6 := by omega
      have hj7 : ¬ ((6 : Nat) : Int) < 6 := by omega
      obtain ⟨ge, eC, rfl, hgl, _⟩ := row_at hX.ends (i := 0) (by rw [endsA_len]; omega)
      obtain ⟨gh, hC, rfl, hhl, _⟩ := row_at hX.heads (i := 0) (by rw [headsA_len]; omega)
      rw [endsA_len, headsA_len] at hX ⊢
      have hlen2 : d.len 2 = szA l 6 := by unfold Dk.len szA; rw [hX.sto.bytes]
      have hrd := dread_walk hX.env.dk (k := 2) (by omega) hX.env.off
      rw [hlen2] at hrd
      have hs6 : 0 < szA l 6 := by
        have h3 : szA l 6 = szA l 5 + _ := szA_succ l 5
        have h4 := frame_pos frameH 5 (recA l 5).enc
        omega
      have har := around_walk z (8 * szA l 6)
      have hb1 : 0 ≤ arnd z (8 * szA l 6) := Int.emod_nonneg _ (by omega)
      have hb2 : arnd z (8 * szA l 6) < ((8 * szA l 6 : Nat) : Int) := Int.emod_lt_of_pos _ (by omega)
      obtain ⟨bt, hbt⟩ : ∃ bt : Nat, arnd z (8 * szA l 6) = (bt : Int) := ⟨(arnd z (8 * szA l 6)).toNat, by omega⟩
      rw [hbt] at hb2
      have hbl : bt < 8 * szA l 6 := by omega
      have har2 := fun W => har W (by omega) hz.1 hz.2 (by omega)
      rw [hbt] at har2
      have e8 : ((8 * szA l 6 : Nat) : Int) = 8 * (szA l 6 : Int) := by omega
      rw [e8] at har2
      have hn0 : ¬ (szA l 6 : Int) = 0 := by omega
      have hn1 : ¬ szA l 6 = 0 := by omega
      have hd0 := decide_eq_false hn0
      have hd1 := decide_eq_false hn1
      obtain ⟨Z, hZ⟩ : ∃ Z, szA l 6 = Z := ⟨_, rfl⟩
      rw [hZ] at hrd har2 hn0 hn1 hd0 hd1 hszj hbl ⊢
      have hw8 := wrap_hid (z := 8 * (Z : Int)) (by omega) (by omega)
      have HWB := wrap_hid (z := (bt : Int) / 8) (by omega) (by omega)
      have HB := Lib.hid hbl
      have HZ := Lib.hid hZ
      have HL := Lib.hid hlen2
      have HX := Lib.hid hX
      clear hb1 hb2 hbt e8 har hs6 hbl hZ hlen2 hX
      go_wp2_with fail
      go_at_call 22
      refine hrd.mono ?_
      clear hrd
      rintro _ wB ⟨ub, rfl, hrb, hBb⟩
      obtain ⟨bA, bC, rfl, _⟩ := row_form hrb
      have hXB := HX.out.bel' hBb
      have hw81 := hw8.out.1
      go_wp2_with fail
      go_at_call 23
      refine (har2 _).mono ?_
      clear har2
      rintro _ wu ⟨rfl, hwu⟩
      rw [hwu]
      clear hwu wu hw81 hd0 hd1 hn0 hn1 hrb
      have hce : ∀ q, q < 6 → wB.cell? ⟨ge, q, none⟩ = some (.int .i64 (szA l (q + 1) : Int)) := fun q hq => by
        obtain ⟨g2, c2, e2, _, h2⟩ := row_at hXB.ends (i := q) (by rw [endsA_len]; exact hq)
        have e3 : some (⟨ge, 0, none⟩ : Addr) = some ⟨g2, 0, none⟩ := (Value.slice.inj e2).1
        cases e3
        rw [h2, endsA_get _ _ _ hq]
      have hch : ∀ q, q < 6 → wB.cell? ⟨gh, q, none⟩ = some (.int .i64 (headA l q : Int)) := fun q hq => by
        obtain ⟨g2, c2, e2, _, h2⟩ := row_at hXB.heads (i := q) (by rw [headsA_len]; exact hq)
        have e3 : some (⟨gh, 0, none⟩ : Addr) = some ⟨g2, 0, none⟩ := (Value.slice.inj e2).1
        cases e3
        rw [h2, headsA_get _ _ _ hq]
      have HXB := Lib.hid hXB
      clear hXB hszj hj7
      go_wp2
      go_loopw [20] (fun kv wr => ∃ q : Nat, q ≤ 5 ∧ kv = .int .i64 (q : Int) ∧ wr = wB ∧ Hid (∀ i, i < q → szA l (i + 1) ≤ bt / 8)) (fun kv _ => 6 - (intOf kv).toNat)
      case atStart => exact ⟨0, by omega, rfl, rfl, Lib.hid fun i hi => absurd hi (by omega)⟩
      case round =>
        obtain ⟨q, hq, rfl, hwr, HQS⟩ := hrel
        obtain rfl := hwr.symm
        have c1 := hce q (by omega)
        have c2 := hch q (by omega)
        have hq0 : (0 : Int) ≤ (q : Int) := Int.natCast_nonneg _
        have hq1 : (q : Int) < 6 := by omega
        have hbz := HB.out
        have hzz := HZ.out
        by_cases hc : szA l (q + 1) ≤ bt / 8
        · have hcI : (szA l (q + 1) : Int) ≤ (bt : Int) / 8 := by omega
          have hq5 : q < 5 := by
            rcases Nat.lt_or_ge q 5 with h | h
            · exact h
            · have e : q = 5 := by omega
              subst e
              have e6 : szA l (5 + 1) = szA l 6 := rfl
              omega
          have HC := Lib.hid hc
          have t1 := decide_eq_true hc
          have t2 := decide_eq_true hcI
          clear hbz hzz
          have hwb := HWB.out.1
          go_wp2
          go_roundw
          case rel =>
            clear hwb
            refine ⟨q + 1, hq5, by go_num, by first | rfl | trivial, Lib.hid fun i hi => ?_⟩
            rcases Nat.lt_or_ge i q with h | h
            · exact HQS.out i h
            · have e : i = q := by omega
              subst e
              exact HC.out
          case measure => simp [intOf]; omega
        · have hcI : ¬ (szA l (q + 1) : Int) ≤ (bt : Int) / 8 := by omega
          have hsq : bt / 8 < szA l (q + 1) := by omega
          have hlvs := fun W => lives_walk W
          by_cases hh : bt / 8 < headA l q
          · have hhI : (bt : Int) / 8 < (headA l q : Int) := by omega
            have t1 := decide_eq_false hc
            have t2 := decide_eq_false hcI
            have t3 := decide_eq_true hh
            have t4 := decide_eq_true hhI
            clear hbz hzz hsq
            have hwb := HWB.out.1
            go_wp2_with (first
              | (go_at_call 16; refine (hlvs _).mono ?_; clear hlvs; rintro _ wz ⟨rfl, hBz⟩))
            go_ret
            exact ⟨rfl, HXB.out.bel.trans (hBz.mono HXB.out.env.hB)⟩
          · have hhI : ¬ (bt : Int) / 8 < (headA l q : Int) := by omega
            have hlen2 := HL.out
            have hrot := drot_walk HXB.out.env.dk (k := 2) (bit := bt) (by omega) (by rw [hlen2, hzz]; exact hbz)
            have HS := Lib.hid (And.intro (Nat.not_lt.1 hh) hsq)
            have t1 := decide_eq_false hc
            have t2 := decide_eq_false hcI
            have t3 := decide_eq_false hh
            have t4 := decide_eq_false hhI
            clear hbz hzz hsq hlen2
            have hq6 : q < 6 := by omega
            have HLA := Lib.hid (fun (W : World) (hd : DkAt W w.heap.size db mb _ (d.rot 2 bt)) hc => alt_open (l := l) (k := q) HXB.out hq6 HS.out.1 HS.out.2 (by omega) (w1 := W) hd hc)
            have hwb := HWB.out.1
            go_wp2_with (first
              | (go_at_call 24; refine hrot.mono ?_; clear hrot; rintro _ wR ⟨rfl, hdR, hCR⟩; have hao := HLA.out _ hdR hCR)
              | (go_at_call 7; refine hao.mono ?_; clear hao; rintro _ wo ⟨sn, ln, vn, itn, rfl, hN, hBo⟩))
            obtain ⟨rv2', d2', hE, hS⟩ := hN
            have hwo := hE.hB
            clear hE t1 t2 t3 t4 hc hcI hh hhI c1 c2 hwb HLA HS HQS hce hch hq0 hq1
            rcases (show q = 0 ∨ q = 1 ∨ q = 2 ∨ q = 3 ∨ q = 4 ∨ q = 5 by omega) with rfl | rfl | rfl | rfl | rfl | rfl
            · skip
              have hil := hS.ilen.trans (versA_len l _ (by omega))
              simp only [Nat.reduceAdd, Nat.reduceDiv] at hil
              have hac := active_walk hS.st
              rw [actA l _ (by omega)] at hac
              have hle := len_walk hS.st
              rw [hil] at hle
              have hvg : ∀ p (hp : p < itn.length), itn[p].2 = fewL l (18 * p) := fun p hp => by
                have e1 : (itn.map Prod.snd)[p]? = some (fewL l (18 * p)) := by rw [hS.its]; exact versA_get l _ (by omega) p (by omega)
                rw [List.getElem?_map, List.getElem?_eq_getElem hp] at e1
                exact Option.some.inj e1
              have hi3 : itn.length ≤ 3 := by omega
              have HIL := Lib.hid hil
              have HSS := Lib.hid hS
              clear hil hS
              go_wp2_with (first
                | (go_at_call 12; refine hle.mono ?_; clear hle; rintro _ wu ⟨rfl, hwu⟩; rw [hwu]; clear hwu wu)
                | (go_at_call 13; refine hac.mono ?_; clear hac; rintro _ wu ⟨rfl, hwu⟩; rw [hwu]; clear hwu wu))
              go_loopw [24] (fun i wr => ∃ p : Nat, p ≤ itn.length ∧ i = .int .i64 p ∧ Below wo.heap.size wo wr) (fun i _ => itn.length - (intOf i).toNat)
              case atStart => exact ⟨0, Nat.zero_le _, rfl, Below.refl _ _⟩
              case round =>
                obtain ⟨p, hp, rfl, hbel⟩ := hrel
                have hS5 := HSS.out.bel hbel
                have hle5 := len_walk hS5.st
                have hbt5 := hBo.trans (hbel.mono hwo)
                by_cases hpl : p < itn.length
                · have hld := load_walk hS5.st hpl (by omega) (by rw [hvg p hpl]; have := fewL_len l (18 * p); omega)
                  rw [hvg p hpl] at hld
                  have hq0 : (0 : Int) ≤ (p : Int) := Int.natCast_nonneg _
                  have hq1 : (p : Int) < (itn.length : Int) := by omega
                  have e18 : ((18 * p : Nat) : Int) = 18 * (p : Int) := by omega
                  have hf5 := fun (W : World) (hW : Below w.heap.size w W) => few_walkD (hl.below hW) (18 * p) (by omega)
                  rw [e18] at hf5
                  have hl3 := fewL_len l (18 * p)
                  clear hS5 e18
                  go_wp2_with fail
                  go_at_call 12
                  refine hle5.mono ?_
                  clear hle5
                  rintro _ wu ⟨rfl, hwu⟩
                  rw [hwu]
                  clear hwu wu
                  go_wp2_with fail
                  go_at_call 14
                  refine hld.mono ?_
                  clear hld
                  rintro _ w5 ⟨u5, rfl, hr5, hB5⟩
                  obtain ⟨uA5, uC5, rfl, _⟩ := row_form hr5
                  have hf6 := hf5 w5 (hbt5.trans (hB5.mono (Nat.le_trans hwo hbel.size)))
                  go_wp2_with fail
                  go_at_call 8
                  refine hf6.mono ?_
                  clear hf6 hf5
                  rintro _ w6 ⟨v6, fs6, rfl, hr6, _, _, hB6, hfs6⟩
                  subst hfs6
                  have hsame := same_walk (owns_bel hr5 hB6) hr6 (by omega)
                  clear hr5 hr6
                  go_wp2_with fail
                  go_at_call 15
                  refine hsame.mono ?_
                  clear hsame
                  rintro _ w7 ⟨rfl, hB7⟩
                  have s5 := hB5.size
                  have s6 := hB6.size
                  have s0 := hbel.size
                  go_wp2
                  go_roundw
                  case rel => exact ⟨p + 1, hpl, by go_num, ((hbel.trans (hB5.mono s0)).trans (hB6.mono (by omega))).trans (hB7.mono (by omega))⟩
                  case measure => simp [intOf]; omega
                · have hq1 : ¬ (p : Int) < (itn.length : Int) := by omega
                  clear hS5
                  go_wp2_with (first
                    | (go_at_call 12; refine hle5.mono ?_; clear hle5; rintro _ wu ⟨rfl, hwu⟩; rw [hwu]; clear hwu wu)
                    | (go_at_call 16; refine (hlvs _).mono ?_; clear hlvs; rintro _ wz ⟨rfl, hBz⟩))
                  go_ret
                  exact ⟨rfl, hbt5.trans (hBz.mono (Nat.le_trans hwo hbel.size))⟩
            · skip
              have hil := hS.ilen.trans (versA_len l _ (by omega))
              simp only [Nat.reduceAdd, Nat.reduceDiv] at hil
              have hac := active_walk hS.st
              rw [actA l _ (by omega)] at hac
              have hle := len_walk hS.st
              rw [hil] at hle
              have hvg : ∀ p (hp : p < itn.length), itn[p].2 = fewL l (18 * p) := fun p hp => by
                have e1 : (itn.map Prod.snd)[p]? = some (fewL l (18 * p)) := by rw [hS.its]; exact versA_get l _ (by omega) p (by omega)
                rw [List.getElem?_map, List.getElem?_eq_getElem hp] at e1
                exact Option.some.inj e1
              have hi3 : itn.length ≤ 3 := by omega
              have HIL := Lib.hid hil
              have HSS := Lib.hid hS
              clear hil hS
              go_wp2_with (first
                | (go_at_call 12; refine hle.mono ?_; clear hle; rintro _ wu ⟨rfl, hwu⟩; rw [hwu]; clear hwu wu)
                | (go_at_call 13; refine hac.mono ?_; clear hac; rintro _ wu ⟨rfl, hwu⟩; rw [hwu]; clear hwu wu))
              go_loopw [24] (fun i wr => ∃ p : Nat, p ≤ itn.length ∧ i = .int .i64 p ∧ Below wo.heap.size wo wr) (fun i _ => itn.length - (intOf i).toNat)
              case atStart => exact ⟨0, Nat.zero_le _, rfl, Below.refl _ _⟩
              case round =>
                obtain ⟨p, hp, rfl, hbel⟩ := hrel
                have hS5 := HSS.out.bel hbel
                have hle5 := len_walk hS5.st
                have hbt5 := hBo.trans (hbel.mono hwo)
                by_cases hpl : p < itn.length
                · have hld := load_walk hS5.st hpl (by omega) (by rw [hvg p hpl]; have := fewL_len l (18 * p); omega)
                  rw [hvg p hpl] at hld
                  have hq0 : (0 : Int) ≤ (p : Int) := Int.natCast_nonneg _
                  have hq1 : (p : Int) < (itn.length : Int) := by omega
                  have e18 : ((18 * p : Nat) : Int) = 18 * (p : Int) := by omega
                  have hf5 := fun (W : World) (hW : Below w.heap.size w W) => few_walkD (hl.below hW) (18 * p) (by omega)
                  rw [e18] at hf5
                  have hl3 := fewL_len l (18 * p)
                  clear hS5 e18
                  go_wp2_with fail
                  go_at_call 12
                  refine hle5.mono ?_
                  clear hle5
                  rintro _ wu ⟨rfl, hwu⟩
                  rw [hwu]
                  clear hwu wu
                  go_wp2_with fail
                  go_at_call 14
                  refine hld.mono ?_
                  clear hld
                  rintro _ w5 ⟨u5, rfl, hr5, hB5⟩
                  obtain ⟨uA5, uC5, rfl, _⟩ := row_form hr5
                  have hf6 := hf5 w5 (hbt5.trans (hB5.mono (Nat.le_trans hwo hbel.size)))
                  go_wp2_with fail
                  go_at_call 8
                  refine hf6.mono ?_
                  clear hf6 hf5
                  rintro _ w6 ⟨v6, fs6, rfl, hr6, _, _, hB6, hfs6⟩
                  subst hfs6
                  have hsame := same_walk (owns_bel hr5 hB6) hr6 (by omega)
                  clear hr5 hr6
                  go_wp2_with fail
                  go_at_call 15
                  refine hsame.mono ?_
                  clear hsame
                  rintro _ w7 ⟨rfl, hB7⟩
                  have s5 := hB5.size
                  have s6 := hB6.size
                  have s0 := hbel.size
                  go_wp2
                  go_roundw
                  case rel => exact ⟨p + 1, hpl, by go_num, ((hbel.trans (hB5.mono s0)).trans (hB6.mono (by omega))).trans (hB7.mono (by omega))⟩
                  case measure => simp [intOf]; omega
                · have hq1 : ¬ (p : Int) < (itn.length : Int) := by omega
                  clear hS5
                  go_wp2_with (first
                    | (go_at_call 12; refine hle5.mono ?_; clear hle5; rintro _ wu ⟨rfl, hwu⟩; rw [hwu]; clear hwu wu)
                    | (go_at_call 16; refine (hlvs _).mono ?_; clear hlvs; rintro _ wz ⟨rfl, hBz⟩))
                  go_ret
                  exact ⟨rfl, hbt5.trans (hBz.mono (Nat.le_trans hwo hbel.size))⟩
            · skip
              have hil := hS.ilen.trans (versA_len l _ (by omega))
              simp only [Nat.reduceAdd, Nat.reduceDiv] at hil
              have hac := active_walk hS.st
              rw [actA l _ (by omega)] at hac
              have hle := len_walk hS.st
              rw [hil] at hle
              have hvg : ∀ p (hp : p < itn.length), itn[p].2 = fewL l (18 * p) := fun p hp => by
                have e1 : (itn.map Prod.snd)[p]? = some (fewL l (18 * p)) := by rw [hS.its]; exact versA_get l _ (by omega) p (by omega)
                rw [List.getElem?_map, List.getElem?_eq_getElem hp] at e1
                exact Option.some.inj e1
              have hi3 : itn.length ≤ 3 := by omega
              have HIL := Lib.hid hil
              have HSS := Lib.hid hS
              clear hil hS
              go_wp2_with (first
                | (go_at_call 12; refine hle.mono ?_; clear hle; rintro _ wu ⟨rfl, hwu⟩; rw [hwu]; clear hwu wu)
                | (go_at_call 13; refine hac.mono ?_; clear hac; rintro _ wu ⟨rfl, hwu⟩; rw [hwu]; clear hwu wu))
              go_loopw [24] (fun i wr => ∃ p : Nat, p ≤ itn.length ∧ i = .int .i64 p ∧ Below wo.heap.size wo wr) (fun i _ => itn.length - (intOf i).toNat)
              case atStart => exact ⟨0, Nat.zero_le _, rfl, Below.refl _ _⟩
              case round =>
                obtain ⟨p, hp, rfl, hbel⟩ := hrel
                have hS5 := HSS.out.bel hbel
                have hle5 := len_walk hS5.st
                have hbt5 := hBo.trans (hbel.mono hwo)
                by_cases hpl : p < itn.length
                · have hld := load_walk hS5.st hpl (by omega) (by rw [hvg p hpl]; have := fewL_len l (18 * p); omega)
                  rw [hvg p hpl] at hld
                  have hq0 : (0 : Int) ≤ (p : Int) := Int.natCast_nonneg _
                  have hq1 : (p : Int) < (itn.length : Int) := by omega
                  have e18 : ((18 * p : Nat) : Int) = 18 * (p : Int) := by omega
                  have hf5 := fun (W : World) (hW : Below w.heap.size w W) => few_walkD (hl.below hW) (18 * p) (by omega)
                  rw [e18] at hf5
                  have hl3 := fewL_len l (18 * p)
                  clear hS5 e18
                  go_wp2_with fail
                  go_at_call 12
                  refine hle5.mono ?_
                  clear hle5
                  rintro _ wu ⟨rfl, hwu⟩
                  rw [hwu]
                  clear hwu wu
                  go_wp2_with fail
                  go_at_call 14
                  refine hld.mono ?_
                  clear hld
                  rintro _ w5 ⟨u5, rfl, hr5, hB5⟩
                  obtain ⟨uA5, uC5, rfl, _⟩ := row_form hr5
                  have hf6 := hf5 w5 (hbt5.trans (hB5.mono (Nat.le_trans hwo hbel.size)))
                  go_wp2_with fail
                  go_at_call 8
                  refine hf6.mono ?_
                  clear hf6 hf5
                  rintro _ w6 ⟨v6, fs6, rfl, hr6, _, _, hB6, hfs6⟩
                  subst hfs6
                  have hsame := same_walk (owns_bel hr5 hB6) hr6 (by omega)
                  clear hr5 hr6
                  go_wp2_with fail
                  go_at_call 15
                  refine hsame.mono ?_
                  clear hsame
                  rintro _ w7 ⟨rfl, hB7⟩
                  have s5 := hB5.size
                  have s6 := hB6.size
                  have s0 := hbel.size
                  go_wp2
                  go_roundw
                  case rel => exact ⟨p + 1, hpl, by go_num, ((hbel.trans (hB5.mono s0)).trans (hB6.mono (by omega))).trans (hB7.mono (by omega))⟩
                  case measure => simp [intOf]; omega
                · have hq1 : ¬ (p : Int) < (itn.length : Int) := by omega
                  clear hS5
                  go_wp2_with (first
                    | (go_at_call 12; refine hle5.mono ?_; clear hle5; rintro _ wu ⟨rfl, hwu⟩; rw [hwu]; clear hwu wu)
                    | (go_at_call 16; refine (hlvs _).mono ?_; clear hlvs; rintro _ wz ⟨rfl, hBz⟩))
                  go_ret
                  exact ⟨rfl, hbt5.trans (hBz.mono (Nat.le_trans hwo hbel.size))⟩
            · skip
              have hil := hS.ilen.trans (versA_len l _ (by omega))
              simp only [Nat.reduceAdd, Nat.reduceDiv] at hil
              have hac := active_walk hS.st
              rw [actA l _ (by omega)] at hac
              have hle := len_walk hS.st
              rw [hil] at hle
              have hvg : ∀ p (hp : p < itn.length), itn[p].2 = fewL l (18 * p) := fun p hp => by
                have e1 : (itn.map Prod.snd)[p]? = some (fewL l (18 * p)) := by rw [hS.its]; exact versA_get l _ (by omega) p (by omega)
                rw [List.getElem?_map, List.getElem?_eq_getElem hp] at e1
                exact Option.some.inj e1
              have hi3 : itn.length ≤ 3 := by omega
              have HIL := Lib.hid hil
              have HSS := Lib.hid hS
              clear hil hS
              go_wp2_with (first
                | (go_at_call 12; refine hle.mono ?_; clear hle; rintro _ wu ⟨rfl, hwu⟩; rw [hwu]; clear hwu wu)
                | (go_at_call 13; refine hac.mono ?_; clear hac; rintro _ wu ⟨rfl, hwu⟩; rw [hwu]; clear hwu wu))
              go_loopw [24] (fun i wr => ∃ p : Nat, p ≤ itn.length ∧ i = .int .i64 p ∧ Below wo.heap.size wo wr) (fun i _ => itn.length - (intOf i).toNat)
              case atStart => exact ⟨0, Nat.zero_le _, rfl, Below.refl _ _⟩
              case round =>
                obtain ⟨p, hp, rfl, hbel⟩ := hrel
                have hS5 := HSS.out.bel hbel
                have hle5 := len_walk hS5.st
                have hbt5 := hBo.trans (hbel.mono hwo)
                by_cases hpl : p < itn.length
                · have hld := load_walk hS5.st hpl (by omega) (by rw [hvg p hpl]; have := fewL_len l (18 * p); omega)
                  rw [hvg p hpl] at hld
                  have hq0 : (0 : Int) ≤ (p : Int) := Int.natCast_nonneg _
                  have hq1 : (p : Int) < (itn.length : Int) := by omega
                  have e18 : ((18 * p : Nat) : Int) = 18 * (p : Int) := by omega
                  have hf5 := fun (W : World) (hW : Below w.heap.size w W) => few_walkD (hl.below hW) (18 * p) (by omega)
                  rw [e18] at hf5
                  have hl3 := fewL_len l (18 * p)
                  clear hS5 e18
                  go_wp2_with fail
                  go_at_call 12
                  refine hle5.mono ?_
                  clear hle5
                  rintro _ wu ⟨rfl, hwu⟩
                  rw [hwu]
                  clear hwu wu
                  go_wp2_with fail
                  go_at_call 14
                  refine hld.mono ?_
                  clear hld
                  rintro _ w5 ⟨u5, rfl, hr5, hB5⟩
                  obtain ⟨uA5, uC5, rfl, _⟩ := row_form hr5
                  have hf6 := hf5 w5 (hbt5.trans (hB5.mono (Nat.le_trans hwo hbel.size)))
                  go_wp2_with fail
                  go_at_call 8
                  refine hf6.mono ?_
                  clear hf6 hf5
                  rintro _ w6 ⟨v6, fs6, rfl, hr6, _, _, hB6, hfs6⟩
                  subst hfs6
                  have hsame := same_walk (owns_bel hr5 hB6) hr6 (by omega)
                  clear hr5 hr6
                  go_wp2_with fail
                  go_at_call 15
                  refine hsame.mono ?_
                  clear hsame
                  rintro _ w7 ⟨rfl, hB7⟩
                  have s5 := hB5.size
                  have s6 := hB6.size
                  have s0 := hbel.size
                  go_wp2
                  go_roundw
                  case rel => exact ⟨p + 1, hpl, by go_num, ((hbel.trans (hB5.mono s0)).trans (hB6.mono (by omega))).trans (hB7.mono (by omega))⟩
                  case measure => simp [intOf]; omega
                · have hq1 : ¬ (p : Int) < (itn.length : Int) := by omega
                  clear hS5
                  go_wp2_with (first
                    | (go_at_call 12; refine hle5.mono ?_; clear hle5; rintro _ wu ⟨rfl, hwu⟩; rw [hwu]; clear hwu wu)
                    | (go_at_call 16; refine (hlvs _).mono ?_; clear hlvs; rintro _ wz ⟨rfl, hBz⟩))
                  go_ret
                  exact ⟨rfl, hbt5.trans (hBz.mono (Nat.le_trans hwo hbel.size))⟩
            · skip
              have hil := hS.ilen.trans (versA_len l _ (by omega))
              simp only [Nat.reduceAdd, Nat.reduceDiv] at hil
              have hac := active_walk hS.st
              rw [actA l _ (by omega)] at hac
              have hle := len_walk hS.st
              rw [hil] at hle
              have hvg : ∀ p (hp : p < itn.length), itn[p].2 = fewL l (18 * p) := fun p hp => by
                have e1 : (itn.map Prod.snd)[p]? = some (fewL l (18 * p)) := by rw [hS.its]; exact versA_get l _ (by omega) p (by omega)
                rw [List.getElem?_map, List.getElem?_eq_getElem hp] at e1
                exact Option.some.inj e1
              have hi3 : itn.length ≤ 3 := by omega
              have HIL := Lib.hid hil
              have HSS := Lib.hid hS
              clear hil hS
              go_wp2_with (first
                | (go_at_call 12; refine hle.mono ?_; clear hle; rintro _ wu ⟨rfl, hwu⟩; rw [hwu]; clear hwu wu)
                | (go_at_call 13; refine hac.mono ?_; clear hac; rintro _ wu ⟨rfl, hwu⟩; rw [hwu]; clear hwu wu))
              go_loopw [24] (fun i wr => ∃ p : Nat, p ≤ itn.length ∧ i = .int .i64 p ∧ Below wo.heap.size wo wr) (fun i _ => itn.length - (intOf i).toNat)
              case atStart => exact ⟨0, Nat.zero_le _, rfl, Below.refl _ _⟩
              case round =>
                obtain ⟨p, hp, rfl, hbel⟩ := hrel
                have hS5 := HSS.out.bel hbel
                have hle5 := len_walk hS5.st
                have hbt5 := hBo.trans (hbel.mono hwo)
                by_cases hpl : p < itn.length
                · have hld := load_walk hS5.st hpl (by omega) (by rw [hvg p hpl]; have := fewL_len l (18 * p); omega)
                  rw [hvg p hpl] at hld
                  have hq0 : (0 : Int) ≤ (p : Int) := Int.natCast_nonneg _
                  have hq1 : (p : Int) < (itn.length : Int) := by omega
                  have e18 : ((18 * p : Nat) : Int) = 18 * (p : Int) := by omega
                  have hf5 := fun (W : World) (hW : Below w.heap.size w W) => few_walkD (hl.below hW) (18 * p) (by omega)
                  rw [e18] at hf5
                  have hl3 := fewL_len l (18 * p)
                  clear hS5 e18
                  go_wp2_with fail
                  go_at_call 12
                  refine hle5.mono ?_
                  clear hle5
                  rintro _ wu ⟨rfl, hwu⟩
                  rw [hwu]
                  clear hwu wu
                  go_wp2_with fail
                  go_at_call 14
                  refine hld.mono ?_
                  clear hld
                  rintro _ w5 ⟨u5, rfl, hr5, hB5⟩
                  obtain ⟨uA5, uC5, rfl, _⟩ := row_form hr5
                  have hf6 := hf5 w5 (hbt5.trans (hB5.mono (Nat.le_trans hwo hbel.size)))
                  go_wp2_with fail
                  go_at_call 8
                  refine hf6.mono ?_
                  clear hf6 hf5
                  rintro _ w6 ⟨v6, fs6, rfl, hr6, _, _, hB6, hfs6⟩
                  subst hfs6
                  have hsame := same_walk (owns_bel hr5 hB6) hr6 (by omega)
                  clear hr5 hr6
                  go_wp2_with fail
                  go_at_call 15
                  refine hsame.mono ?_
                  clear hsame
                  rintro _ w7 ⟨rfl, hB7⟩
                  have s5 := hB5.size
                  have s6 := hB6.size
                  have s0 := hbel.size
                  go_wp2
                  go_roundw
                  case rel => exact ⟨p + 1, hpl, by go_num, ((hbel.trans (hB5.mono s0)).trans (hB6.mono (by omega))).trans (hB7.mono (by omega))⟩
                  case measure => simp [intOf]; omega
                · have hq1 : ¬ (p : Int) < (itn.length : Int) := by omega
                  clear hS5
                  go_wp2_with (first
                    | (go_at_call 12; refine hle5.mono ?_; clear hle5; rintro _ wu ⟨rfl, hwu⟩; rw [hwu]; clear hwu wu)
                    | (go_at_call 16; refine (hlvs _).mono ?_; clear hlvs; rintro _ wz ⟨rfl, hBz⟩))
                  go_ret
                  exact ⟨rfl, hbt5.trans (hBz.mono (Nat.le_trans hwo hbel.size))⟩
            · skip
              have hil := hS.ilen.trans (versA_len l _ (by omega))
              simp only [Nat.reduceAdd, Nat.reduceDiv] at hil
              have hac := active_walk hS.st
              rw [actA l _ (by omega)] at hac
              have hle := len_walk hS.st
              rw [hil] at hle
              have hvg : ∀ p (hp : p < itn.length), itn[p].2 = fewL l (18 * p) := fun p hp => by
                have e1 : (itn.map Prod.snd)[p]? = some (fewL l (18 * p)) := by rw [hS.its]; exact versA_get l _ (by omega) p (by omega)
                rw [List.getElem?_map, List.getElem?_eq_getElem hp] at e1
                exact Option.some.inj e1
              have hi3 : itn.length ≤ 3 := by omega
              have HIL := Lib.hid hil
              have HSS := Lib.hid hS
              clear hil hS
              go_wp2_with (first
                | (go_at_call 12; refine hle.mono ?_; clear hle; rintro _ wu ⟨rfl, hwu⟩; rw [hwu]; clear hwu wu)
                | (go_at_call 13; refine hac.mono ?_; clear hac; rintro _ wu ⟨rfl, hwu⟩; rw [hwu]; clear hwu wu))
              go_loopw [24] (fun i wr => ∃ p : Nat, p ≤ itn.length ∧ i = .int .i64 p ∧ Below wo.heap.size wo wr) (fun i _ => itn.length - (intOf i).toNat)
              case atStart => exact ⟨0, Nat.zero_le _, rfl, Below.refl _ _⟩
              case round =>
                obtain ⟨p, hp, rfl, hbel⟩ := hrel
                have hS5 := HSS.out.bel hbel
                have hle5 := len_walk hS5.st
                have hbt5 := hBo.trans (hbel.mono hwo)
                by_cases hpl : p < itn.length
                · have hld := load_walk hS5.st hpl (by omega) (by rw [hvg p hpl]; have := fewL_len l (18 * p); omega)
                  rw [hvg p hpl] at hld
                  have hq0 : (0 : Int) ≤ (p : Int) := Int.natCast_nonneg _
                  have hq1 : (p : Int) < (itn.length : Int) := by omega
                  have e18 : ((18 * p : Nat) : Int) = 18 * (p : Int) := by omega
                  have hf5 := fun (W : World) (hW : Below w.heap.size w W) => few_walkD (hl.below hW) (18 * p) (by omega)
                  rw [e18] at hf5
                  have hl3 := fewL_len l (18 * p)
                  clear hS5 e18
                  go_wp2_with fail
                  go_at_call 12
                  refine hle5.mono ?_
                  clear hle5
                  rintro _ wu ⟨rfl, hwu⟩
                  rw [hwu]
                  clear hwu wu
                  go_wp2_with fail
                  go_at_call 14
                  refine hld.mono ?_
                  clear hld
                  rintro _ w5 ⟨u5, rfl, hr5, hB5⟩
                  obtain ⟨uA5, uC5, rfl, _⟩ := row_form hr5
                  have hf6 := hf5 w5 (hbt5.trans (hB5.mono (Nat.le_trans hwo hbel.size)))
                  go_wp2_with fail
                  go_at_call 8
                  refine hf6.mono ?_
                  clear hf6 hf5
                  rintro _ w6 ⟨v6, fs6, rfl, hr6, _, _, hB6, hfs6⟩
                  subst hfs6
                  have hsame := same_walk (owns_bel hr5 hB6) hr6 (by omega)
                  clear hr5 hr6
                  go_wp2_with fail
                  go_at_call 15
                  refine hsame.mono ?_
                  clear hsame
                  rintro _ w7 ⟨rfl, hB7⟩
                  have s5 := hB5.size
                  have s6 := hB6.size
                  have s0 := hbel.size
                  go_wp2
                  go_roundw
                  case rel => exact ⟨p + 1, hpl, by go_num, ((hbel.trans (hB5.mono s0)).trans (hB6.mono (by omega))).trans (hB7.mono (by omega))⟩
                  case measure => simp [intOf]; omega
                · have hq1 : ¬ (p : Int) < (itn.length : Int) := by omega
                  clear hS5
                  go_wp2_with (first
                    | (go_at_call 12; refine hle5.mono ?_; clear hle5; rintro _ wu ⟨rfl, hwu⟩; rw [hwu]; clear hwu wu)
                    | (go_at_call 16; refine (hlvs _).mono ?_; clear hlvs; rintro _ wz ⟨rfl, hBz⟩))
                  go_ret
                  exact ⟨rfl, hbt5.trans (hBz.mono (Nat.le_trans hwo hbel.size))⟩
end Go.Proofs.YtkndgmjlphppdaaGreatDoor
