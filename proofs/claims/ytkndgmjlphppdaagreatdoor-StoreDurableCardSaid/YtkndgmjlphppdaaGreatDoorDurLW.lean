/-
  StoreDurable's law, walked.
-/
import Derived.Test.YtkndgmjlphppdaaGreatDoorDurG2b
import Derived.Deep.RegionHeld3
namespace Go.Proofs.YtkndgmjlphppdaaGreatDoor
open Go Go.RowKit Go.Imap Go.Ev

theorem Dk.arm_env {w w' : World} {B db mb : Nat} {rv : Nat → Value} {d : Dk} (h : Env w B db mb rv d 65536 0) (hn : ∀ j, (d.fs j).isSome = false) {n : Nat} (hd : DkAt w' B db mb rv (d.arm n)) (hs : w.heap.size ≤ w'.heap.size) : EnvD w' B db mb rv (d.arm n) (300 * 0) := by
  have hl : ∀ j, (d.arm n).len j = 0 := fun j => Dk.fs_len (d := d.arm n) (hn j)
  refine ⟨hd, Nat.le_trans h.hB hs, h.lo, h.off, h.room, h.used, fun j => ?_, fun j hj => ?_, ?_⟩
  · rw [hl j]
    exact h.dk.wf.used.1
  · have e : (d.fs j).isSome = true := hj
    rw [hn j] at e
    cases e
  · rw [hl 0]
    have e := hn 0
    show (d.fi 0).dur = 0
    unfold Dk.fi
    cases hf : d.fs 0 with
    | none => rfl
    | some f => rw [hf] at e; cases e
set_option maxHeartbeats 16000000 in
set_option maxRecDepth 1000000 in
theorem dur_walk {w : World} {x : Value} {l : List Int} (hl : SlArg w x l) {z1 z2 : Int} (hz1 : -9223372036854775808 ≤ z1 ∧ z1 ≤ 9223372036854775807) (hz2 : -9223372036854775808 ≤ z2 ∧ z2 ≤ 9223372036854775807) :
    Calls Tryz.prog 5 #[x, .int .i64 z1, .int .i64 z2] w fun e w' => e = .returned (.bool true) ∧ Below w.heap.size w w' := by
  have hnew := new_step (room := 65536) (by omega) w
  obtain ⟨xa, xc, rfl, _⟩ := hl.val
  obtain ⟨i0, hi0, hzz0, hzz1, hzz2⟩ := info_parts' infoRefs
  have har := fun W => around_walk z1 20 W (by omega) hz1.1 hz1.2 (by omega)
  have ha1 : ∃ n : Nat, arnd z1 20 = (n : Int) ∧ n ≤ 1000 := by
    have h1 : 0 ≤ arnd z1 20 := Int.emod_nonneg _ (by omega)
    have h2 : arnd z1 20 < 20 := Int.emod_lt_of_pos _ (by omega)
    exact ⟨(arnd z1 20).toNat, by omega, by omega⟩
  obtain ⟨n, hn, hn2⟩ := ha1
  rw [hn] at har
  clear hn
  go_enter Tryz.func5, Tryz.ntmps5
  go_wp2_with fail
  go_at_call 6
  refine hnew.mono ?_
  clear hnew
  rintro _ w1 ⟨db, mb, rv1, rfl, hE1, hB1⟩
  have hop := open_step (k := 0) (l := []) hE1 (by omega) RecsOk.nil rfl
  go_wp2_with fail
  go_at_call 7
  refine hop.mono ?_
  clear hop
  rintro _ w2 ⟨sb, lg, vv, its, rfl, hO⟩
  obtain ⟨rv2, hE2⟩ := hO.env
  have hS2 := hO.sto
  have hB2 := hB1.trans hO.bel
  have hdar := darm_walk hE2.dk hE2.off hn2
  have hnone : ∀ j, ((Dk.new 65536).harden.fs j).isSome = false := fun j => rfl
  clear hO hE1 hB1
  go_wp2_with fail
  go_at_call 23
  refine (har _).mono ?_
  clear har
  rintro _ w3 ⟨rfl, hw3⟩
  rw [hw3]
  clear hw3 w3
  go_wp2_with fail
  go_at_call 25
  refine hdar.mono ?_
  clear hdar
  rintro _ w4 ⟨rfl, hd4, hC4⟩
  have hE4 := Dk.arm_env hE2 hnone hd4 hC4.size
  have hfd : ∀ g, Only db g → DF db mb rv2 (Dk.new 65536).harden g := fun g hg => .inl hg
  have hap4 : Apartly w2 (Only db) [69, 103, 37, 86] := (hE2.dk.apartly (by decide) (by decide)).sub hfd
  have hS4 : Sto w4 w.heap.size db ((Dk.new 65536).harden.arm n) sb lg 0 vv its [] := ⟨hS2.st.chg hC4 hap4, hS2.its, hS2.ok, hS2.bytes, hS2.k64⟩
  have hB4 : Below w.heap.size w w4 := hB2.trans (hC4.to_below hE2.hB fun g _ hg => by rw [show g = db from hg]; exact hE2.lo.1)
  have hst0 : DOne w w4 w.heap.size db mb sb lg 0 rv2 ((Dk.new 65536).harden.arm n) vv its [] (.slice none 0 0) [] := ⟨hE4, hS4, ⟨World.ownsRow_nil _ _ _ _, fun x hx => by simp at hx⟩, rfl, rfl, rfl, rfl, fun x hx => (by simp at hx), hB4⟩
  clear hE4 hS4 hap4 hfd hC4 hd4 hnone hS2 hE2 hB2 hB4
  go_wp2
  go_loopw [11, 12, 13, 14, 15, 16] (fun sv ac tr nx al iv wr =>
    (∃ (j : Nat) (rv : Nat → Value) (d : Dk) (vv : Value) (its : List (Value × List Ru)) (l1 : List Rec) (a : Value) (r : List (Value × List Ru)), j ≤ 5 ∧ sv = .int .i64 (j : Int) ∧ ac = .int .i64 ((j : Int) - 1) ∧ tr = .int .i64 (j : Int) ∧ nx = .int .i64 ((j : Int) - 1) ∧ al = a ∧ iv = .int .i64 (j : Int) ∧ DOne w wr w.heap.size db mb sb lg j rv d vv its l1 a r)
    ∨ (∃ (j : Nat) (rv : Nat → Value) (d : Dk) (vv : Value) (act : Int) (l1 : List Rec) (a : Value) (r : List (Value × List Ru)), j ≤ 5 ∧ sv = .int .i64 (j : Int) ∧ ac = .int .i64 ((j : Int) - 2) ∧ tr = .int .i64 (j : Int) ∧ nx = .int .i64 ((j : Int) - 1) ∧ al = a ∧ iv = .int .i64 (j : Int) ∧ DDead w wr w.heap.size db mb sb lg j rv d vv act l1 a r)) (fun _ _ _ _ _ iv _ => 5 - (intOf iv).toNat)
  case atStart => exact .inl ⟨0, _, _, _, _, _, _, _, by omega, rfl, rfl, rfl, rfl, rfl, rfl, hst0⟩
  case round =>
    clear hst0
    rcases hrel with ⟨j, rv, d, vv, its, l1, a, r, hj, rfl, rfl, rfl, rfl, rfl, rfl, hD⟩ | ⟨j, rv, d, vv, act, l1, a, r, hj, rfl, rfl, rfl, rfl, rfl, rfl, hX⟩
    · by_cases hj5 : j < 5
      · obtain rfl := hD.rlen
        have hup := sup_walk hD.sto.st.st hD.sto.st.log
        have hji : (r.length : Int) < 5 := by omega
        have hfew := few_walk (hl.below hD.bel) (7 * r.length) (by omega)
        have e7 : ((7 * r.length : Nat) : Int) = 7 * (r.length : Int) := by omega
        rw [e7] at hfew
        have hlen1 := hD.len
        have hwB := hD.env.hB
        have hw7 : IntKind.i64.wrap (7 * (r.length : Int)) = 7 * (r.length : Int) := by rw [wrapS (by omega) (by omega)]
        have hw7' : wrap64 (7 * (r.length : Int)) = 7 * (r.length : Int) := by unfold wrap64; omega
        go_wp2_with fail
        go_at_call 26
        refine hup.mono ?_
        clear hup
        rintro _ wu ⟨rfl, hwu⟩
        rw [hwu]
        clear hwu wu
        go_wp2_with fail
        go_at_call 8
        refine hfew.mono ?_
        clear hfew
        rintro _ w4 ⟨xv, rs, rfl, hx4, hx3, hfat, hB4⟩
        have hG := good_of hx3 hfat
        obtain ⟨xq, xz, rfl, _⟩ := row_form hx4
        have hD4 := hD.bel' hB4
        have hown := own_walk hx4 (by omega)
        clear hD hfat hw7 hw7' e7
        go_wp2_with fail
        go_at_call 10
        refine hown.mono ?_
        clear hown
        rintro _ w5 ⟨v5, rfl, hr5, hB5⟩
        have hD5 := hD4.bel' hB5
        have hx5 := row_base (owns_bel hx4 hB5) hwB
        clear hD4 hx4
        obtain ⟨aA, aC, rfl, _⟩ := row_form hD5.al.row
        cases hdi : d.dies with
        | true =>
          have hsv := save_dead hD5.env hD5.sto (by omega) (by omega) hr5 hG hdi
          have hn1 : r.length + 1 ≤ maxLen := by unfold maxLen; omega
          have hn2 : (r.length + 1) * 24 ≤ 140737488355328 := by omega
          go_wp2_with fail
          refine hsv.mono ?_
          clear hsv
          rintro _ w6 ⟨rv6, d6, rfl, hA6⟩
          obtain ⟨F6, hF6, hT6⟩ := hA6.chg
          have al6 := hD5.al.ft hF6 hT6
          have hx6 := row_ft hx5 hF6 hT6
          have hfin6 := fin_dead hD5.env hD5.sto hA6 hG (by omega) (by omega) al6 (hD5.bel.trans hA6.bel) hD5.good
          have hB6 := hfin6.hB
          have hsee := sees_refs w6 (.slice xq rs.length xz)
          have HD5 := Lib.hid hD5
          have HA6 := Lib.hid hA6
          have HF6 := Lib.hid hfin6
          clear hD5 hA6 hfin6
          go_wp2_with (first
            | (at_builtin; refine wpList_append_sees rfl _ _ 39 rfl i0 _ 24 Tryz.underlying39 hi0 hzz0 hzz1 hzz2 rfl (by decide) (.slice aA r.length aC) r.length (r.map Prod.fst) rfl (al6.row.alloc _) _ 1 _ rfl hsee rfl (by intro u hu; simp at hu; subst hu; rfl) hn1 hn2 (by simp; omega) ?_; intro v8 w8 hown1 hgrow hat; obtain ⟨A8, k8, rfl, _⟩ := row_form hown1; have hup8 := sup_walk ((HA6.out.st.alloc (.cells #[.slice xq rs.length xz] 33)).grown hgrow (fun e => row_blk al6.row HA6.out.st (by decide) e.symm)) ((HA6.out.log.alloc (.cells #[.slice xq rs.length xz] 33)).grown hgrow (fun e => row_blk al6.row HA6.out.log (by decide) e.symm)))
            | (go_at_call 26; refine hup8.mono ?_; clear hup8; rintro _ wu ⟨rfl, hwu⟩; rw [hwu]; clear hwu wu))
          have hj := hlen1
          have hL := HD5.out.saveLeft (by omega) ((HF6.out.bel' ((Below.refl _ _).alloc (Nat.le_refl _) _)).push hown1 hgrow (owns_bel hx6 ((Below.refl _ _).alloc (Nat.le_refl _) _)) (by omega))
          obtain ⟨rr, hrr⟩ : ∃ rr, r ++ [(.slice xq rs.length xz, rs)] = rr := ⟨_, rfl⟩
          have hrl : r.length + 1 = rr.length := by rw [← hrr]; simp
          rw [hrr] at hL
          rw [hrl] at hL ⊢
          have HRI := Lib.hid (show (rr.length : Int) = (r.length : Int) + 1 by omega)
          clear hrl hrr hj
          clear hown1 hgrow hat hn1 hn2 hsee al6 hx6 hx5 hr5
          obtain ⟨kp, hkp, hkp2⟩ := hL.fin.kept z2
          obtain ⟨l', hAg, hlk, hl21, hcs⟩ := crash_scan hL.fin.ok hL.fin.len hL.fin.tok hkp2
          obtain ⟨q1, q2, qA, t', ht'⟩ := hL.again l' hAg
          have q3 := congrArg List.length ht'
          rw [List.length_map, List.length_append] at q3
          have HQ0 := Lib.hid q3
          clear q3
          have hLa := hL.fin.bel' ((Below.refl _ _).alloc (Nat.le_refl _) (.cells #[.int .i64 z2] 3))
          have hcr := crash_walk hLa.dk hLa.keys (by omega) ((hLa.ex 0).2 rfl) (hLa.lens 0) hz2.1 hz2.2 hkp (Blk.at' (Blk.made _ 3 #[.int .i64 z2]) 0) (by simp)
          refine hcr.mono ?_
          clear hcr
          rintro _ wc ⟨rvc, rfl, hdc, hCc⟩
          have hro := reopen_step hLa hkp2 hdc hCc hlk hcs
          have HT := Lib.hid ht'
          clear hLa hL hdc hCc hcs hkp hkp2 ht' hAg
          go_wp2_with fail
          go_at_call 7
          refine hro.mono ?_
          clear hro
          rintro _ wo ⟨sn, ln, vn, itn, d2, rfl, hN⟩
          have hil : itn.length = (versOf l').length := hN.sto.ilen
          have hle := len_walk hN.sto.st
          have hac := active_walk hN.sto.st
          have q3 := HQ0.out
          rw [← hil] at q1 q2 q3
          have e := or_same qA
          clear qA
          rw [e] at hac
          have r1 := Int.not_lt.2 (Int.ofNat_le.2 q1)
          have r2 := Int.not_lt.2 (Int.ofNat_le.2 q2)
          have r3 := Int.not_lt.2 (Int.ofNat_le.2 (le_of_sum q3))
          try rw [HRI.out] at r2
          have b1 := decide_eq_false r1
          have b2 := decide_eq_false r2
          have b3 := decide_eq_false r3
          have n1 := decide_eq_false (Nat.not_lt.2 q1)
          have n2 := decide_eq_false (Nat.not_lt.2 q2)
          have n3 := decide_eq_false (Nat.not_lt.2 (le_of_sum q3))
          have HN := Lib.hid hN
          have HI := Lib.hid hil
          have HQ := Lib.hid q3
          clear hN hil q1 q2 q3 e
          go_wp2_with (first
            | (go_at_call 12; refine hle.mono ?_; rintro _ wu ⟨rfl, hwu⟩; rw [hwu]; clear hwu wu)
            | (go_at_call 13; refine hac.mono ?_; rintro _ wu ⟨rfl, hwu⟩; rw [hwu]; clear hwu wu))
          clear hle hac r1 r2 r3 b1 b2 b3 n1 n2 n3
          go_loopw [23] (fun i wr => ∃ q : Nat, q ≤ itn.length ∧ i = .int .i64 q ∧ Below wo.heap.size wo wr) (fun i _ => itn.length - (intOf i).toNat)
          case atStart => exact ⟨0, Nat.zero_le _, rfl, Below.refl _ _⟩
          case round =>
            obtain ⟨q, hq, rfl, hbel⟩ := hrel
            have hN5 := HN.out.bel' hbel
            have hle5 := len_walk hN5.sto.st
            have hik : itn.length ≤ 1000 := by have := hlk.len; have := versOf_len l'; have := HI.out; omega
            by_cases hql : q < itn.length
            · obtain ⟨zA, zC, ag, ac, rs2, hae, hag, hcz, hrz, hit, h8, hqr⟩ := hN5.pick HT.out hql
              cases hae
              have hld := load_walk hN5.sto.st hql (by have := hlk.len; have := versOf_len l'; have := HI.out; omega) (by rw [hit]; omega)
              rw [hit] at hld
              have hq0 : (0 : Int) ≤ (q : Int) := Int.natCast_nonneg _
              have hq1 : (q : Int) < (itn.length : Int) := by omega
              have HR := Lib.hid hqr
              have hq2 := Int.ofNat_lt.2 hqr
              clear hit hN5
              go_wp2_with fail
              go_at_call 12
              refine hle5.mono ?_
              clear hle5
              rintro _ wu ⟨rfl, hwu⟩
              rw [hwu]
              clear hwu wu
              go_wp2_with fail
              go_at_call 14
              refine hld.mono ?_
              clear hld
              rintro _ w5 ⟨u5, rfl, hr5, hB5⟩
              have hrz5 := owns_bel hrz hB5
              have hsame := same_walk hr5 hrz5 (by omega)
              have g6 := (hB5.cell (p := ⟨ag, q, none⟩) hag).trans hcz
              obtain ⟨uA, uC, rfl, _⟩ := row_form hr5
              clear hcz hr5 hrz5 hrz
              go_wp2_with fail
              go_at_call 15
              refine hsame.mono ?_
              clear hsame
              rintro _ w6 ⟨rfl, hB6⟩
              go_wp2
              go_roundw
              case rel => exact ⟨q + 1, hql, by go_num, (hbel.trans (hB5.mono hbel.size)).trans (hB6.mono (Nat.le_trans hbel.size hB5.size))⟩
              case measure => simp [intOf]; omega
            · have hq1 : ¬ (q : Int) < (itn.length : Int) := by omega
              have hfew3 := few_walk (hl.below hN5.bel) 3 (by omega)
              have hlv := versOf_len l'
              obtain ⟨rv5, hE5⟩ := hN5.env
              have hS5 := hN5.sto
              have hlk3 := hlk.len
              go_wp2_with fail
              go_at_call 12
              refine hle5.mono ?_
              clear hle5
              rintro _ wu ⟨rfl, hwu⟩
              rw [hwu]
              clear hwu wu
              go_wp2_with fail
              go_at_call 8
              refine hfew3.mono ?_
              clear hfew3
              rintro _ w6 ⟨xv6, rs6, rfl, hx6, hx63, hfat6, hB6⟩
              have hG6 := good_of hx63 hfat6
              have hown6 := own_walk hx6 (by omega)
              clear hfat6
              go_wp2_with fail
              go_at_call 10
              refine hown6.mono ?_
              clear hown6
              rintro _ w7 ⟨v7, rfl, hr7, hB7⟩
              have hE7 := (hE5.bel hB6).bel hB7
              have hS7 := (hS5.bel hB6).bel hB7
              have hsv7 := save_step hE7 hS7 (by omega) (by omega) hr7 hG6
              have hBB := (hN5.bel.trans (hB6.mono hE5.hB)).trans (hB7.mono (Nat.le_trans hE5.hB hB6.size))
              clear hE5 hS5 hN5 hE7 hS7
              go_wp2_with fail
              go_at_call 9
              refine hsv7.mono ?_
              clear hsv7
              rintro _ w8' ⟨vv8, its8, rfl, hA8⟩
              have hil8 := hA8.sto.ilen
              rw [versOf_save, List.length_append, List.length_singleton] at hil8
              obtain ⟨V, hV⟩ : ∃ V, (versOf l').length = V := ⟨_, rfl⟩
              rw [hV] at hil8 hlv ⊢
              have hle8 := len_walk hA8.sto.st
              rw [hil8] at hle8
              have hBz := hBB.trans hA8.bel
              have hws : w.heap.size ≤ w8'.heap.size := by
                obtain ⟨_, hE8⟩ := hA8.env
                exact hE8.hB
              obtain ⟨hwv, hwv2⟩ := wrap_small (V := V) (by omega)
              have hlvs := fun W => lives_walk W
              clear hA8 hBB hB6 hB7 hr7 hx6
              go_wp2_with (first
                | (go_at_call 12; refine hle8.mono ?_; clear hle8; rintro _ wu ⟨rfl, hwu⟩; rw [hwu]; clear hwu wu)
                | (go_at_call 16; refine (hlvs _).mono ?_; clear hlvs; rintro _ wz ⟨rfl, hBl⟩))
              go_ret
              exact ⟨rfl, hBz.trans (hBl.mono hws)⟩
        | false =>
          have hvl : (versOf l1).length = r.length := by rw [hD5.vers, List.length_map]
          have hsv := save_stepD hD5.env hD5.sto (by omega) (by omega) hr5 hG hdi
          rw [hvl] at hsv
          have hn1 : r.length + 1 ≤ maxLen := by unfold maxLen; omega
          have hn2 : (r.length + 1) * 24 ≤ 140737488355328 := by omega
          have HV := Lib.hid hvl
          clear hvl
          go_wp2_with fail
          refine hsv.mono ?_
          clear hsv
          rintro _ w6 ⟨d6, vv6, its6, rfl, hA6⟩
          obtain ⟨F6, hF6, hT6⟩ := hA6.chg
          have al6 := hD5.al.ft hF6 hT6
          obtain ⟨rvA, hE6⟩ := hA6.env
          have hB6 := hE6.hB
          have hsee := sees_refs w6 (.slice xq rs.length xz)
          have HD5 := Lib.hid hD5
          have HA6 := Lib.hid hA6
          have HX5 := Lib.hid hx5
          clear hD5 hA6 hE6 hx5 hr5
          go_wp2_with (first
            | (at_builtin; refine wpList_append_sees rfl _ _ 39 rfl i0 _ 24 Tryz.underlying39 hi0 hzz0 hzz1 hzz2 rfl (by decide) (.slice aA r.length aC) r.length (r.map Prod.fst) rfl (al6.row.alloc _) _ 1 _ rfl hsee rfl (by intro u hu; simp at hu; subst hu; rfl) hn1 hn2 (by simp; omega) ?_; intro v8 w8 hown1 hgrow hat; obtain ⟨A8, k8, rfl, _⟩ := row_form hown1; obtain ⟨rv8, hM⟩ := HD5.out.mid hG HA6.out HX5.out hown1 hgrow; have hup8 := sup_walk hM.sto.st.st hM.sto.st.log; have HM := Lib.hid hM; clear hM hown1 hgrow hat)
            | (go_at_call 26; refine hup8.mono ?_; clear hup8; rintro _ wu ⟨rfl, hwu⟩; rw [hwu]; clear hwu wu))
          have hvl2 : r.length < (versOf (l1 ++ [.save rs])).length := by rw [versOf_save, List.length_append, HV.out]; simp
          have hll2 : (l1 ++ [Rec.save rs]).length < 1000 := by rw [List.length_append, List.length_singleton]; omega
          cases hdi2 : d6.dies with
          | true =>
            have hus := use_dead HM.out.env HM.out.sto hll2 (by omega) hvl2 hdi2
            clear hvl2 hll2
            go_wp2_with fail
            refine hus.mono ?_
            clear hus
            rintro _ w9 ⟨rv9, d9, rfl, hA9⟩
            have hX := Lib.hid (HM.out.dead (by omega) hA9)
            clear hA9
            go_wp2
            go_roundw
            case rel => exact .inr ⟨r.length + 1, _, _, _, _, _, _, _, by omega, by first | rfl | (refine congrArg (Value.int .i64) ?_; omega), by first | rfl | (refine congrArg (Value.int .i64) ?_; omega), by first | rfl | (refine congrArg (Value.int .i64) ?_; omega), by first | rfl | (refine congrArg (Value.int .i64) ?_; omega), rfl, by first | rfl | (refine congrArg (Value.int .i64) ?_; omega), hX.out⟩
            case measure => simp [intOf]; omega
          | false =>
            have hus := use_stepD HM.out.env HM.out.sto hll2 (by omega) hvl2 hdi2
            clear hvl2 hll2
            go_wp2_with fail
            refine hus.mono ?_
            clear hus
            rintro _ w9 ⟨d9, rfl, hA9⟩
            obtain ⟨rv9, hN9⟩ := HM.out.done hA9
            have hN := Lib.hid hN9
            clear hA9 hN9
            go_wp2
            go_roundw
            case rel => exact .inl ⟨r.length + 1, _, _, _, _, _, _, _, by omega, by first | rfl | (refine congrArg (Value.int .i64) ?_; omega), by first | rfl | (refine congrArg (Value.int .i64) ?_; omega), by first | rfl | (refine congrArg (Value.int .i64) ?_; omega), by first | rfl | (refine congrArg (Value.int .i64) ?_; omega), rfl, by first | rfl | (refine congrArg (Value.int .i64) ?_; omega), hN.out⟩
            case measure => simp [intOf]; omega
      · obtain rfl := hD.rlen
        obtain ⟨aX, cX, rfl, _⟩ := row_form hD.al.row
        have hL := hD.left (by omega)
        have hj6 : ¬ (r.length : Int) < 5 := by omega
        have hj7 := decide_eq_false hj6
        have hj8 := decide_eq_false hj5
        clear hD
        go_wp2_with fail
        clear hj6 hj7 hj8
        obtain ⟨kp, hkp, hkp2⟩ := hL.fin.kept z2
        obtain ⟨l', hAg, hlk, hl21, hcs⟩ := crash_scan hL.fin.ok hL.fin.len hL.fin.tok hkp2
        obtain ⟨q1, q2, qA, t', ht'⟩ := hL.again l' hAg
        have q3 := congrArg List.length ht'
        rw [List.length_map, List.length_append] at q3
        have HQ0 := Lib.hid q3
        clear q3
        have hLa := hL.fin.bel' ((Below.refl _ _).alloc (Nat.le_refl _) (.cells #[.int .i64 z2] 3))
        have hcr := crash_walk hLa.dk hLa.keys (by omega) ((hLa.ex 0).2 rfl) (hLa.lens 0) hz2.1 hz2.2 hkp (Blk.at' (Blk.made _ 3 #[.int .i64 z2]) 0) (by simp)
        refine hcr.mono ?_
        clear hcr
        rintro _ wc ⟨rvc, rfl, hdc, hCc⟩
        have hro := reopen_step hLa hkp2 hdc hCc hlk hcs
        have HT := Lib.hid ht'
        clear hLa hL hdc hCc hcs hkp hkp2 ht' hAg
        go_wp2_with fail
        go_at_call 7
        refine hro.mono ?_
        clear hro
        rintro _ wo ⟨sn, ln, vn, itn, d2, rfl, hN⟩
        have hil : itn.length = (versOf l').length := hN.sto.ilen
        have hle := len_walk hN.sto.st
        have hac := active_walk hN.sto.st
        have q3 := HQ0.out
        rw [← hil] at q1 q2 q3
        have e := or_same qA
        clear qA
        rw [e] at hac
        have r1 := Int.not_lt.2 (Int.ofNat_le.2 q1)
        have r2 := Int.not_lt.2 (Int.ofNat_le.2 q2)
        have r3 := Int.not_lt.2 (Int.ofNat_le.2 (le_of_sum q3))
        try rw [HRI.out] at r2
        have b1 := decide_eq_false r1
        have b2 := decide_eq_false r2
        have b3 := decide_eq_false r3
        have n1 := decide_eq_false (Nat.not_lt.2 q1)
        have n2 := decide_eq_false (Nat.not_lt.2 q2)
        have n3 := decide_eq_false (Nat.not_lt.2 (le_of_sum q3))
        have HN := Lib.hid hN
        have HI := Lib.hid hil
        have HQ := Lib.hid q3
        clear hN hil q1 q2 q3 e
        go_wp2_with (first
          | (go_at_call 12; refine hle.mono ?_; rintro _ wu ⟨rfl, hwu⟩; rw [hwu]; clear hwu wu)
          | (go_at_call 13; refine hac.mono ?_; rintro _ wu ⟨rfl, hwu⟩; rw [hwu]; clear hwu wu))
        clear hle hac r1 r2 r3 b1 b2 b3 n1 n2 n3
        go_loopw [23] (fun i wr => ∃ q : Nat, q ≤ itn.length ∧ i = .int .i64 q ∧ Below wo.heap.size wo wr) (fun i _ => itn.length - (intOf i).toNat)
        case atStart => exact ⟨0, Nat.zero_le _, rfl, Below.refl _ _⟩
        case round =>
          obtain ⟨q, hq, rfl, hbel⟩ := hrel
          have hN5 := HN.out.bel' hbel
          have hle5 := len_walk hN5.sto.st
          have hik : itn.length ≤ 1000 := by have := hlk.len; have := versOf_len l'; have := HI.out; omega
          by_cases hql : q < itn.length
          · obtain ⟨zA, zC, ag, ac, rs2, hae, hag, hcz, hrz, hit, h8, hqr⟩ := hN5.pick HT.out hql
            cases hae
            have hld := load_walk hN5.sto.st hql (by have := hlk.len; have := versOf_len l'; have := HI.out; omega) (by rw [hit]; omega)
            rw [hit] at hld
            have hq0 : (0 : Int) ≤ (q : Int) := Int.natCast_nonneg _
            have hq1 : (q : Int) < (itn.length : Int) := by omega
            have HR := Lib.hid hqr
            have hq2 := Int.ofNat_lt.2 hqr
            clear hit hN5
            go_wp2_with fail
            go_at_call 12
            refine hle5.mono ?_
            clear hle5
            rintro _ wu ⟨rfl, hwu⟩
            rw [hwu]
            clear hwu wu
            go_wp2_with fail
            go_at_call 14
            refine hld.mono ?_
            clear hld
            rintro _ w5 ⟨u5, rfl, hr5, hB5⟩
            have hrz5 := owns_bel hrz hB5
            have hsame := same_walk hr5 hrz5 (by omega)
            have g6 := (hB5.cell (p := ⟨ag, q, none⟩) hag).trans hcz
            obtain ⟨uA, uC, rfl, _⟩ := row_form hr5
            clear hcz hr5 hrz5 hrz
            go_wp2_with fail
            go_at_call 15
            refine hsame.mono ?_
            clear hsame
            rintro _ w6 ⟨rfl, hB6⟩
            go_wp2
            go_roundw
            case rel => exact ⟨q + 1, hql, by go_num, (hbel.trans (hB5.mono hbel.size)).trans (hB6.mono (Nat.le_trans hbel.size hB5.size))⟩
            case measure => simp [intOf]; omega
          · have hq1 : ¬ (q : Int) < (itn.length : Int) := by omega
            have hfew3 := few_walk (hl.below hN5.bel) 3 (by omega)
            have hlv := versOf_len l'
            obtain ⟨rv5, hE5⟩ := hN5.env
            have hS5 := hN5.sto
            have hlk3 := hlk.len
            go_wp2_with fail
            go_at_call 12
            refine hle5.mono ?_
            clear hle5
            rintro _ wu ⟨rfl, hwu⟩
            rw [hwu]
            clear hwu wu
            go_wp2_with fail
            go_at_call 8
            refine hfew3.mono ?_
            clear hfew3
            rintro _ w6 ⟨xv6, rs6, rfl, hx6, hx63, hfat6, hB6⟩
            have hG6 := good_of hx63 hfat6
            have hown6 := own_walk hx6 (by omega)
            clear hfat6
            go_wp2_with fail
            go_at_call 10
            refine hown6.mono ?_
            clear hown6
            rintro _ w7 ⟨v7, rfl, hr7, hB7⟩
            have hE7 := (hE5.bel hB6).bel hB7
            have hS7 := (hS5.bel hB6).bel hB7
            have hsv7 := save_step hE7 hS7 (by omega) (by omega) hr7 hG6
            have hBB := (hN5.bel.trans (hB6.mono hE5.hB)).trans (hB7.mono (Nat.le_trans hE5.hB hB6.size))
            clear hE5 hS5 hN5 hE7 hS7
            go_wp2_with fail
            go_at_call 9
            refine hsv7.mono ?_
            clear hsv7
            rintro _ w8' ⟨vv8, its8, rfl, hA8⟩
            have hil8 := hA8.sto.ilen
            rw [versOf_save, List.length_append, List.length_singleton] at hil8
            obtain ⟨V, hV⟩ : ∃ V, (versOf l').length = V := ⟨_, rfl⟩
            rw [hV] at hil8 hlv ⊢
            have hle8 := len_walk hA8.sto.st
            rw [hil8] at hle8
            have hBz := hBB.trans hA8.bel
            have hws : w.heap.size ≤ w8'.heap.size := by
              obtain ⟨_, hE8⟩ := hA8.env
              exact hE8.hB
            obtain ⟨hwv, hwv2⟩ := wrap_small (V := V) (by omega)
            have hlvs := fun W => lives_walk W
            clear hA8 hBB hB6 hB7 hr7 hx6
            go_wp2_with (first
              | (go_at_call 12; refine hle8.mono ?_; clear hle8; rintro _ wu ⟨rfl, hwu⟩; rw [hwu]; clear hwu wu)
              | (go_at_call 16; refine (hlvs _).mono ?_; clear hlvs; rintro _ wz ⟨rfl, hBl⟩))
            go_ret
            exact ⟨rfl, hBz.trans (hBl.mono hws)⟩
    · obtain rfl := hX.rlen
      obtain ⟨aX, cX, rfl, _⟩ := row_form hX.fin.al.row
      have hL := hX.left hj
      obtain ⟨nl, hlog⟩ := hX.log
      have hup := sup_walk hX.st hlog
      have hpos := hX.pos
      have hne : ¬ ((r.length : Int) - 1 = (r.length : Int) - 2) := by omega
      have hne2 := decide_eq_false hne
      clear hX hlog
      by_cases hj5 : r.length < 5
      · have hji : (r.length : Int) < 5 := by omega
        go_wp2_with fail
        go_at_call 26
        refine hup.mono ?_
        clear hup
        rintro _ wu ⟨rfl, hwu⟩
        rw [hwu]
        clear hwu wu
        go_wp2_with fail
        obtain ⟨kp, hkp, hkp2⟩ := hL.fin.kept z2
        obtain ⟨l', hAg, hlk, hl21, hcs⟩ := crash_scan hL.fin.ok hL.fin.len hL.fin.tok hkp2
        obtain ⟨q1, q2, qA, t', ht'⟩ := hL.again l' hAg
        have q3 := congrArg List.length ht'
        rw [List.length_map, List.length_append] at q3
        have HQ0 := Lib.hid q3
        clear q3
        have hLa := hL.fin.bel' ((Below.refl _ _).alloc (Nat.le_refl _) (.cells #[.int .i64 z2] 3))
        have hcr := crash_walk hLa.dk hLa.keys (by omega) ((hLa.ex 0).2 rfl) (hLa.lens 0) hz2.1 hz2.2 hkp (Blk.at' (Blk.made _ 3 #[.int .i64 z2]) 0) (by simp)
        refine hcr.mono ?_
        clear hcr
        rintro _ wc ⟨rvc, rfl, hdc, hCc⟩
        have hro := reopen_step hLa hkp2 hdc hCc hlk hcs
        have HT := Lib.hid ht'
        clear hLa hL hdc hCc hcs hkp hkp2 ht' hAg
        go_wp2_with fail
        go_at_call 7
        refine hro.mono ?_
        clear hro
        rintro _ wo ⟨sn, ln, vn, itn, d2, rfl, hN⟩
        have hil : itn.length = (versOf l').length := hN.sto.ilen
        have hle := len_walk hN.sto.st
        have hac := active_walk hN.sto.st
        have q3 := HQ0.out
        rw [← hil] at q1 q2 q3
        rcases qA with e | ⟨e, eT⟩
        · skip
          rw [e] at hac
          have r1 := Int.not_lt.2 (Int.ofNat_le.2 q1)
          have r2 := Int.not_lt.2 (Int.ofNat_le.2 q2)
          have r3 := Int.not_lt.2 (Int.ofNat_le.2 (le_of_sum q3))
          try rw [HRI.out] at r2
          have b1 := decide_eq_false r1
          have b2 := decide_eq_false r2
          have b3 := decide_eq_false r3
          have n1 := decide_eq_false (Nat.not_lt.2 q1)
          have n2 := decide_eq_false (Nat.not_lt.2 q2)
          have n3 := decide_eq_false (Nat.not_lt.2 (le_of_sum q3))
          have HN := Lib.hid hN
          have HI := Lib.hid hil
          have HQ := Lib.hid q3
          clear hN hil q1 q2 q3 e
          go_wp2_with (first
            | (go_at_call 12; refine hle.mono ?_; rintro _ wu ⟨rfl, hwu⟩; rw [hwu]; clear hwu wu)
            | (go_at_call 13; refine hac.mono ?_; rintro _ wu ⟨rfl, hwu⟩; rw [hwu]; clear hwu wu))
          clear hle hac r1 r2 r3 b1 b2 b3 n1 n2 n3
          go_loopw [23] (fun i wr => ∃ q : Nat, q ≤ itn.length ∧ i = .int .i64 q ∧ Below wo.heap.size wo wr) (fun i _ => itn.length - (intOf i).toNat)
          case atStart => exact ⟨0, Nat.zero_le _, rfl, Below.refl _ _⟩
          case round =>
            obtain ⟨q, hq, rfl, hbel⟩ := hrel
            have hN5 := HN.out.bel' hbel
            have hle5 := len_walk hN5.sto.st
            have hik : itn.length ≤ 1000 := by have := hlk.len; have := versOf_len l'; have := HI.out; omega
            by_cases hql : q < itn.length
            · obtain ⟨zA, zC, ag, ac, rs2, hae, hag, hcz, hrz, hit, h8, hqr⟩ := hN5.pick HT.out hql
              cases hae
              have hld := load_walk hN5.sto.st hql (by have := hlk.len; have := versOf_len l'; have := HI.out; omega) (by rw [hit]; omega)
              rw [hit] at hld
              have hq0 : (0 : Int) ≤ (q : Int) := Int.natCast_nonneg _
              have hq1 : (q : Int) < (itn.length : Int) := by omega
              have HR := Lib.hid hqr
              have hq2 := Int.ofNat_lt.2 hqr
              clear hit hN5
              go_wp2_with fail
              go_at_call 12
              refine hle5.mono ?_
              clear hle5
              rintro _ wu ⟨rfl, hwu⟩
              rw [hwu]
              clear hwu wu
              go_wp2_with fail
              go_at_call 14
              refine hld.mono ?_
              clear hld
              rintro _ w5 ⟨u5, rfl, hr5, hB5⟩
              have hrz5 := owns_bel hrz hB5
              have hsame := same_walk hr5 hrz5 (by omega)
              have g6 := (hB5.cell (p := ⟨ag, q, none⟩) hag).trans hcz
              obtain ⟨uA, uC, rfl, _⟩ := row_form hr5
              clear hcz hr5 hrz5 hrz
              go_wp2_with fail
              go_at_call 15
              refine hsame.mono ?_
              clear hsame
              rintro _ w6 ⟨rfl, hB6⟩
              go_wp2
              go_roundw
              case rel => exact ⟨q + 1, hql, by go_num, (hbel.trans (hB5.mono hbel.size)).trans (hB6.mono (Nat.le_trans hbel.size hB5.size))⟩
              case measure => simp [intOf]; omega
            · have hq1 : ¬ (q : Int) < (itn.length : Int) := by omega
              have hfew3 := few_walk (hl.below hN5.bel) 3 (by omega)
              have hlv := versOf_len l'
              obtain ⟨rv5, hE5⟩ := hN5.env
              have hS5 := hN5.sto
              have hlk3 := hlk.len
              go_wp2_with fail
              go_at_call 12
              refine hle5.mono ?_
              clear hle5
              rintro _ wu ⟨rfl, hwu⟩
              rw [hwu]
              clear hwu wu
              go_wp2_with fail
              go_at_call 8
              refine hfew3.mono ?_
              clear hfew3
              rintro _ w6 ⟨xv6, rs6, rfl, hx6, hx63, hfat6, hB6⟩
              have hG6 := good_of hx63 hfat6
              have hown6 := own_walk hx6 (by omega)
              clear hfat6
              go_wp2_with fail
              go_at_call 10
              refine hown6.mono ?_
              clear hown6
              rintro _ w7 ⟨v7, rfl, hr7, hB7⟩
              have hE7 := (hE5.bel hB6).bel hB7
              have hS7 := (hS5.bel hB6).bel hB7
              have hsv7 := save_step hE7 hS7 (by omega) (by omega) hr7 hG6
              have hBB := (hN5.bel.trans (hB6.mono hE5.hB)).trans (hB7.mono (Nat.le_trans hE5.hB hB6.size))
              clear hE5 hS5 hN5 hE7 hS7
              go_wp2_with fail
              go_at_call 9
              refine hsv7.mono ?_
              clear hsv7
              rintro _ w8' ⟨vv8, its8, rfl, hA8⟩
              have hil8 := hA8.sto.ilen
              rw [versOf_save, List.length_append, List.length_singleton] at hil8
              obtain ⟨V, hV⟩ : ∃ V, (versOf l').length = V := ⟨_, rfl⟩
              rw [hV] at hil8 hlv ⊢
              have hle8 := len_walk hA8.sto.st
              rw [hil8] at hle8
              have hBz := hBB.trans hA8.bel
              have hws : w.heap.size ≤ w8'.heap.size := by
                obtain ⟨_, hE8⟩ := hA8.env
                exact hE8.hB
              obtain ⟨hwv, hwv2⟩ := wrap_small (V := V) (by omega)
              have hlvs := fun W => lives_walk W
              clear hA8 hBB hB6 hB7 hr7 hx6
              go_wp2_with (first
                | (go_at_call 12; refine hle8.mono ?_; clear hle8; rintro _ wu ⟨rfl, hwu⟩; rw [hwu]; clear hwu wu)
                | (go_at_call 16; refine (hlvs _).mono ?_; clear hlvs; rintro _ wz ⟨rfl, hBl⟩))
              go_ret
              exact ⟨rfl, hBz.trans (hBl.mono hws)⟩
        · rw [← hil] at eT
          rw [eT] at hle
          rw [e] at hac
          have r1 := Int.not_lt.2 (Int.ofNat_le.2 q1)
          have r2 := Int.not_lt.2 (Int.ofNat_le.2 q2)
          have r3 := Int.not_lt.2 (Int.ofNat_le.2 (le_of_sum q3))
          try rw [HRI.out] at r2
          have b1 := decide_eq_false r1
          have b2 := decide_eq_false r2
          have b3 := decide_eq_false r3
          have n1 := decide_eq_false (Nat.not_lt.2 q1)
          have n2 := decide_eq_false (Nat.not_lt.2 q2)
          have n3 := decide_eq_false (Nat.not_lt.2 (le_of_sum q3))
          have HN := Lib.hid hN
          have HI := Lib.hid hil
          have HQ := Lib.hid q3
          clear hN hil q1 q2 q3 e
          go_wp2_with (first
            | (go_at_call 12; refine hle.mono ?_; rintro _ wu ⟨rfl, hwu⟩; rw [hwu]; clear hwu wu)
            | (go_at_call 13; refine hac.mono ?_; rintro _ wu ⟨rfl, hwu⟩; rw [hwu]; clear hwu wu))
          clear hle hac r1 r2 r3 b1 b2 b3 n1 n2 n3
          go_loopw [23] (fun i wr => ∃ q : Nat, q ≤ itn.length ∧ i = .int .i64 q ∧ Below wo.heap.size wo wr) (fun i _ => itn.length - (intOf i).toNat)
          case atStart => exact ⟨0, Nat.zero_le _, rfl, Below.refl _ _⟩
          case round =>
            obtain ⟨q, hq, rfl, hbel⟩ := hrel
            have hN5 := HN.out.bel' hbel
            have hle5 := len_walk hN5.sto.st
            have hik : itn.length ≤ 1000 := by have := hlk.len; have := versOf_len l'; have := HI.out; omega
            by_cases hql : q < itn.length
            · obtain ⟨zA, zC, ag, ac, rs2, hae, hag, hcz, hrz, hit, h8, hqr⟩ := hN5.pick HT.out hql
              cases hae
              have hld := load_walk hN5.sto.st hql (by have := hlk.len; have := versOf_len l'; have := HI.out; omega) (by rw [hit]; omega)
              rw [hit] at hld
              have hq0 : (0 : Int) ≤ (q : Int) := Int.natCast_nonneg _
              have hq1 : (q : Int) < (itn.length : Int) := by omega
              have HR := Lib.hid hqr
              have hq2 := Int.ofNat_lt.2 hqr
              clear hit hN5
              go_wp2_with fail
              go_at_call 12
              refine hle5.mono ?_
              clear hle5
              rintro _ wu ⟨rfl, hwu⟩
              rw [hwu]
              clear hwu wu
              go_wp2_with fail
              go_at_call 14
              refine hld.mono ?_
              clear hld
              rintro _ w5 ⟨u5, rfl, hr5, hB5⟩
              have hrz5 := owns_bel hrz hB5
              have hsame := same_walk hr5 hrz5 (by omega)
              have g6 := (hB5.cell (p := ⟨ag, q, none⟩) hag).trans hcz
              obtain ⟨uA, uC, rfl, _⟩ := row_form hr5
              clear hcz hr5 hrz5 hrz
              go_wp2_with fail
              go_at_call 15
              refine hsame.mono ?_
              clear hsame
              rintro _ w6 ⟨rfl, hB6⟩
              go_wp2
              go_roundw
              case rel => exact ⟨q + 1, hql, by go_num, (hbel.trans (hB5.mono hbel.size)).trans (hB6.mono (Nat.le_trans hbel.size hB5.size))⟩
              case measure => simp [intOf]; omega
            · have hq1 : ¬ (q : Int) < (itn.length : Int) := by omega
              have hfew3 := few_walk (hl.below hN5.bel) 3 (by omega)
              have hlv := versOf_len l'
              obtain ⟨rv5, hE5⟩ := hN5.env
              have hS5 := hN5.sto
              have hlk3 := hlk.len
              go_wp2_with fail
              go_at_call 12
              refine hle5.mono ?_
              clear hle5
              rintro _ wu ⟨rfl, hwu⟩
              rw [hwu]
              clear hwu wu
              go_wp2_with fail
              go_at_call 8
              refine hfew3.mono ?_
              clear hfew3
              rintro _ w6 ⟨xv6, rs6, rfl, hx6, hx63, hfat6, hB6⟩
              have hG6 := good_of hx63 hfat6
              have hown6 := own_walk hx6 (by omega)
              clear hfat6
              go_wp2_with fail
              go_at_call 10
              refine hown6.mono ?_
              clear hown6
              rintro _ w7 ⟨v7, rfl, hr7, hB7⟩
              have hE7 := (hE5.bel hB6).bel hB7
              have hS7 := (hS5.bel hB6).bel hB7
              have hsv7 := save_step hE7 hS7 (by omega) (by omega) hr7 hG6
              have hBB := (hN5.bel.trans (hB6.mono hE5.hB)).trans (hB7.mono (Nat.le_trans hE5.hB hB6.size))
              clear hE5 hS5 hN5 hE7 hS7
              go_wp2_with fail
              go_at_call 9
              refine hsv7.mono ?_
              clear hsv7
              rintro _ w8' ⟨vv8, its8, rfl, hA8⟩
              have hil8 := hA8.sto.ilen
              rw [versOf_save, List.length_append, List.length_singleton] at hil8
              obtain ⟨V, hV⟩ : ∃ V, (versOf l').length = V := ⟨_, rfl⟩
              rw [hV] at hil8 hlv ⊢
              have hle8 := len_walk hA8.sto.st
              rw [hil8] at hle8
              have hBz := hBB.trans hA8.bel
              have hws : w.heap.size ≤ w8'.heap.size := by
                obtain ⟨_, hE8⟩ := hA8.env
                exact hE8.hB
              obtain ⟨hwv, hwv2⟩ := wrap_small (V := V) (by omega)
              have hlvs := fun W => lives_walk W
              clear hA8 hBB hB6 hB7 hr7 hx6
              go_wp2_with (first
                | (go_at_call 12; refine hle8.mono ?_; clear hle8; rintro _ wu ⟨rfl, hwu⟩; rw [hwu]; clear hwu wu)
                | (go_at_call 16; refine (hlvs _).mono ?_; clear hlvs; rintro _ wz ⟨rfl, hBl⟩))
              go_ret
              exact ⟨rfl, hBz.trans (hBl.mono hws)⟩
      · have hj6 : ¬ (r.length : Int) < 5 := by omega
        have hj7 := decide_eq_false hj6
        have hj8 := decide_eq_false hj5
        clear hup
        go_wp2_with fail
        clear hj6 hj7 hj8
        obtain ⟨kp, hkp, hkp2⟩ := hL.fin.kept z2
        obtain ⟨l', hAg, hlk, hl21, hcs⟩ := crash_scan hL.fin.ok hL.fin.len hL.fin.tok hkp2
        obtain ⟨q1, q2, qA, t', ht'⟩ := hL.again l' hAg
        have q3 := congrArg List.length ht'
        rw [List.length_map, List.length_append] at q3
        have HQ0 := Lib.hid q3
        clear q3
        have hLa := hL.fin.bel' ((Below.refl _ _).alloc (Nat.le_refl _) (.cells #[.int .i64 z2] 3))
        have hcr := crash_walk hLa.dk hLa.keys (by omega) ((hLa.ex 0).2 rfl) (hLa.lens 0) hz2.1 hz2.2 hkp (Blk.at' (Blk.made _ 3 #[.int .i64 z2]) 0) (by simp)
        refine hcr.mono ?_
        clear hcr
        rintro _ wc ⟨rvc, rfl, hdc, hCc⟩
        have hro := reopen_step hLa hkp2 hdc hCc hlk hcs
        have HT := Lib.hid ht'
        clear hLa hL hdc hCc hcs hkp hkp2 ht' hAg
        go_wp2_with fail
        go_at_call 7
        refine hro.mono ?_
        clear hro
        rintro _ wo ⟨sn, ln, vn, itn, d2, rfl, hN⟩
        have hil : itn.length = (versOf l').length := hN.sto.ilen
        have hle := len_walk hN.sto.st
        have hac := active_walk hN.sto.st
        have q3 := HQ0.out
        rw [← hil] at q1 q2 q3
        rcases qA with e | ⟨e, eT⟩
        · skip
          rw [e] at hac
          have r1 := Int.not_lt.2 (Int.ofNat_le.2 q1)
          have r2 := Int.not_lt.2 (Int.ofNat_le.2 q2)
          have r3 := Int.not_lt.2 (Int.ofNat_le.2 (le_of_sum q3))
          try rw [HRI.out] at r2
          have b1 := decide_eq_false r1
          have b2 := decide_eq_false r2
          have b3 := decide_eq_false r3
          have n1 := decide_eq_false (Nat.not_lt.2 q1)
          have n2 := decide_eq_false (Nat.not_lt.2 q2)
          have n3 := decide_eq_false (Nat.not_lt.2 (le_of_sum q3))
          have HN := Lib.hid hN
          have HI := Lib.hid hil
          have HQ := Lib.hid q3
          clear hN hil q1 q2 q3 e
          go_wp2_with (first
            | (go_at_call 12; refine hle.mono ?_; rintro _ wu ⟨rfl, hwu⟩; rw [hwu]; clear hwu wu)
            | (go_at_call 13; refine hac.mono ?_; rintro _ wu ⟨rfl, hwu⟩; rw [hwu]; clear hwu wu))
          clear hle hac r1 r2 r3 b1 b2 b3 n1 n2 n3
          go_loopw [23] (fun i wr => ∃ q : Nat, q ≤ itn.length ∧ i = .int .i64 q ∧ Below wo.heap.size wo wr) (fun i _ => itn.length - (intOf i).toNat)
          case atStart => exact ⟨0, Nat.zero_le _, rfl, Below.refl _ _⟩
          case round =>
            obtain ⟨q, hq, rfl, hbel⟩ := hrel
            have hN5 := HN.out.bel' hbel
            have hle5 := len_walk hN5.sto.st
            have hik : itn.length ≤ 1000 := by have := hlk.len; have := versOf_len l'; have := HI.out; omega
            by_cases hql : q < itn.length
            · obtain ⟨zA, zC, ag, ac, rs2, hae, hag, hcz, hrz, hit, h8, hqr⟩ := hN5.pick HT.out hql
              cases hae
              have hld := load_walk hN5.sto.st hql (by have := hlk.len; have := versOf_len l'; have := HI.out; omega) (by rw [hit]; omega)
              rw [hit] at hld
              have hq0 : (0 : Int) ≤ (q : Int) := Int.natCast_nonneg _
              have hq1 : (q : Int) < (itn.length : Int) := by omega
              have HR := Lib.hid hqr
              have hq2 := Int.ofNat_lt.2 hqr
              clear hit hN5
              go_wp2_with fail
              go_at_call 12
              refine hle5.mono ?_
              clear hle5
              rintro _ wu ⟨rfl, hwu⟩
              rw [hwu]
              clear hwu wu
              go_wp2_with fail
              go_at_call 14
              refine hld.mono ?_
              clear hld
              rintro _ w5 ⟨u5, rfl, hr5, hB5⟩
              have hrz5 := owns_bel hrz hB5
              have hsame := same_walk hr5 hrz5 (by omega)
              have g6 := (hB5.cell (p := ⟨ag, q, none⟩) hag).trans hcz
              obtain ⟨uA, uC, rfl, _⟩ := row_form hr5
              clear hcz hr5 hrz5 hrz
              go_wp2_with fail
              go_at_call 15
              refine hsame.mono ?_
              clear hsame
              rintro _ w6 ⟨rfl, hB6⟩
              go_wp2
              go_roundw
              case rel => exact ⟨q + 1, hql, by go_num, (hbel.trans (hB5.mono hbel.size)).trans (hB6.mono (Nat.le_trans hbel.size hB5.size))⟩
              case measure => simp [intOf]; omega
            · have hq1 : ¬ (q : Int) < (itn.length : Int) := by omega
              have hfew3 := few_walk (hl.below hN5.bel) 3 (by omega)
              have hlv := versOf_len l'
              obtain ⟨rv5, hE5⟩ := hN5.env
              have hS5 := hN5.sto
              have hlk3 := hlk.len
              go_wp2_with fail
              go_at_call 12
              refine hle5.mono ?_
              clear hle5
              rintro _ wu ⟨rfl, hwu⟩
              rw [hwu]
              clear hwu wu
              go_wp2_with fail
              go_at_call 8
              refine hfew3.mono ?_
              clear hfew3
              rintro _ w6 ⟨xv6, rs6, rfl, hx6, hx63, hfat6, hB6⟩
              have hG6 := good_of hx63 hfat6
              have hown6 := own_walk hx6 (by omega)
              clear hfat6
              go_wp2_with fail
              go_at_call 10
              refine hown6.mono ?_
              clear hown6
              rintro _ w7 ⟨v7, rfl, hr7, hB7⟩
              have hE7 := (hE5.bel hB6).bel hB7
              have hS7 := (hS5.bel hB6).bel hB7
              have hsv7 := save_step hE7 hS7 (by omega) (by omega) hr7 hG6
              have hBB := (hN5.bel.trans (hB6.mono hE5.hB)).trans (hB7.mono (Nat.le_trans hE5.hB hB6.size))
              clear hE5 hS5 hN5 hE7 hS7
              go_wp2_with fail
              go_at_call 9
              refine hsv7.mono ?_
              clear hsv7
              rintro _ w8' ⟨vv8, its8, rfl, hA8⟩
              have hil8 := hA8.sto.ilen
              rw [versOf_save, List.length_append, List.length_singleton] at hil8
              obtain ⟨V, hV⟩ : ∃ V, (versOf l').length = V := ⟨_, rfl⟩
              rw [hV] at hil8 hlv ⊢
              have hle8 := len_walk hA8.sto.st
              rw [hil8] at hle8
              have hBz := hBB.trans hA8.bel
              have hws : w.heap.size ≤ w8'.heap.size := by
                obtain ⟨_, hE8⟩ := hA8.env
                exact hE8.hB
              obtain ⟨hwv, hwv2⟩ := wrap_small (V := V) (by omega)
              have hlvs := fun W => lives_walk W
              clear hA8 hBB hB6 hB7 hr7 hx6
              go_wp2_with (first
                | (go_at_call 12; refine hle8.mono ?_; clear hle8; rintro _ wu ⟨rfl, hwu⟩; rw [hwu]; clear hwu wu)
                | (go_at_call 16; refine (hlvs _).mono ?_; clear hlvs; rintro _ wz ⟨rfl, hBl⟩))
              go_ret
              exact ⟨rfl, hBz.trans (hBl.mono hws)⟩
        · rw [← hil] at eT
          rw [eT] at hle
          rw [e] at hac
          have r1 := Int.not_lt.2 (Int.ofNat_le.2 q1)
          have r2 := Int.not_lt.2 (Int.ofNat_le.2 q2)
          have r3 := Int.not_lt.2 (Int.ofNat_le.2 (le_of_sum q3))
          try rw [HRI.out] at r2
          have b1 := decide_eq_false r1
          have b2 := decide_eq_false r2
          have b3 := decide_eq_false r3
          have n1 := decide_eq_false (Nat.not_lt.2 q1)
          have n2 := decide_eq_false (Nat.not_lt.2 q2)
          have n3 := decide_eq_false (Nat.not_lt.2 (le_of_sum q3))
          have HN := Lib.hid hN
          have HI := Lib.hid hil
          have HQ := Lib.hid q3
          clear hN hil q1 q2 q3 e
          go_wp2_with (first
            | (go_at_call 12; refine hle.mono ?_; rintro _ wu ⟨rfl, hwu⟩; rw [hwu]; clear hwu wu)
            | (go_at_call 13; refine hac.mono ?_; rintro _ wu ⟨rfl, hwu⟩; rw [hwu]; clear hwu wu))
          clear hle hac r1 r2 r3 b1 b2 b3 n1 n2 n3
          go_loopw [23] (fun i wr => ∃ q : Nat, q ≤ itn.length ∧ i = .int .i64 q ∧ Below wo.heap.size wo wr) (fun i _ => itn.length - (intOf i).toNat)
          case atStart => exact ⟨0, Nat.zero_le _, rfl, Below.refl _ _⟩
          case round =>
            obtain ⟨q, hq, rfl, hbel⟩ := hrel
            have hN5 := HN.out.bel' hbel
            have hle5 := len_walk hN5.sto.st
            have hik : itn.length ≤ 1000 := by have := hlk.len; have := versOf_len l'; have := HI.out; omega
            by_cases hql : q < itn.length
            · obtain ⟨zA, zC, ag, ac, rs2, hae, hag, hcz, hrz, hit, h8, hqr⟩ := hN5.pick HT.out hql
              cases hae
              have hld := load_walk hN5.sto.st hql (by have := hlk.len; have := versOf_len l'; have := HI.out; omega) (by rw [hit]; omega)
              rw [hit] at hld
              have hq0 : (0 : Int) ≤ (q : Int) := Int.natCast_nonneg _
              have hq1 : (q : Int) < (itn.length : Int) := by omega
              have HR := Lib.hid hqr
              have hq2 := Int.ofNat_lt.2 hqr
              clear hit hN5
              go_wp2_with fail
              go_at_call 12
              refine hle5.mono ?_
              clear hle5
              rintro _ wu ⟨rfl, hwu⟩
              rw [hwu]
              clear hwu wu
              go_wp2_with fail
              go_at_call 14
              refine hld.mono ?_
              clear hld
              rintro _ w5 ⟨u5, rfl, hr5, hB5⟩
              have hrz5 := owns_bel hrz hB5
              have hsame := same_walk hr5 hrz5 (by omega)
              have g6 := (hB5.cell (p := ⟨ag, q, none⟩) hag).trans hcz
              obtain ⟨uA, uC, rfl, _⟩ := row_form hr5
              clear hcz hr5 hrz5 hrz
              go_wp2_with fail
              go_at_call 15
              refine hsame.mono ?_
              clear hsame
              rintro _ w6 ⟨rfl, hB6⟩
              go_wp2
              go_roundw
              case rel => exact ⟨q + 1, hql, by go_num, (hbel.trans (hB5.mono hbel.size)).trans (hB6.mono (Nat.le_trans hbel.size hB5.size))⟩
              case measure => simp [intOf]; omega
            · have hq1 : ¬ (q : Int) < (itn.length : Int) := by omega
              have hfew3 := few_walk (hl.below hN5.bel) 3 (by omega)
              have hlv := versOf_len l'
              obtain ⟨rv5, hE5⟩ := hN5.env
              have hS5 := hN5.sto
              have hlk3 := hlk.len
              go_wp2_with fail
              go_at_call 12
              refine hle5.mono ?_
              clear hle5
              rintro _ wu ⟨rfl, hwu⟩
              rw [hwu]
              clear hwu wu
              go_wp2_with fail
              go_at_call 8
              refine hfew3.mono ?_
              clear hfew3
              rintro _ w6 ⟨xv6, rs6, rfl, hx6, hx63, hfat6, hB6⟩
              have hG6 := good_of hx63 hfat6
              have hown6 := own_walk hx6 (by omega)
              clear hfat6
              go_wp2_with fail
              go_at_call 10
              refine hown6.mono ?_
              clear hown6
              rintro _ w7 ⟨v7, rfl, hr7, hB7⟩
              have hE7 := (hE5.bel hB6).bel hB7
              have hS7 := (hS5.bel hB6).bel hB7
              have hsv7 := save_step hE7 hS7 (by omega) (by omega) hr7 hG6
              have hBB := (hN5.bel.trans (hB6.mono hE5.hB)).trans (hB7.mono (Nat.le_trans hE5.hB hB6.size))
              clear hE5 hS5 hN5 hE7 hS7
              go_wp2_with fail
              go_at_call 9
              refine hsv7.mono ?_
              clear hsv7
              rintro _ w8' ⟨vv8, its8, rfl, hA8⟩
              have hil8 := hA8.sto.ilen
              rw [versOf_save, List.length_append, List.length_singleton] at hil8
              obtain ⟨V, hV⟩ : ∃ V, (versOf l').length = V := ⟨_, rfl⟩
              rw [hV] at hil8 hlv ⊢
              have hle8 := len_walk hA8.sto.st
              rw [hil8] at hle8
              have hBz := hBB.trans hA8.bel
              have hws : w.heap.size ≤ w8'.heap.size := by
                obtain ⟨_, hE8⟩ := hA8.env
                exact hE8.hB
              obtain ⟨hwv, hwv2⟩ := wrap_small (V := V) (by omega)
              have hlvs := fun W => lives_walk W
              clear hA8 hBB hB6 hB7 hr7 hx6
              go_wp2_with (first
                | (go_at_call 12; refine hle8.mono ?_; clear hle8; rintro _ wu ⟨rfl, hwu⟩; rw [hwu]; clear hwu wu)
                | (go_at_call 16; refine (hlvs _).mono ?_; clear hlvs; rintro _ wz ⟨rfl, hBl⟩))
              go_ret
              exact ⟨rfl, hBz.trans (hBl.mono hws)⟩
end Go.Proofs.YtkndgmjlphppdaaGreatDoor
