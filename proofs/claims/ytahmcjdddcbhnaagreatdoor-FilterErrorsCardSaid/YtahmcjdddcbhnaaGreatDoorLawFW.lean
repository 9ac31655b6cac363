/-
  The law FilterErrors, walked.
-/
import Derived.Test.YtahmcjdddcbhnaaGreatDoorErrG2a
namespace Go.Proofs.YtahmcjdddcbhnaaGreatDoor
open Go Go.Ev Go.RowKit Go.Imap

set_option maxHeartbeats 16000000 in
set_option maxRecDepth 1000000 in
theorem lawerr_walk {w : World} {v : Value} {l : List Int} (h : Sees w 1 v (ints l)) (hl : l.length ≤ 9223372036854775807) (hz : ∀ z ∈ l, IntKind.i64.min ≤ z ∧ z ≤ IntKind.i64.max) (a b ver : Int) :
    Calls Tryz.prog 4 #[v, .int .i64 a, .int .i64 b, .int .i64 ver] w fun e w' => e = .returned (.bool true) ∧ Below w.heap.size w w' := by
  have hn1 := qnew_any (w := w) (a := a) (b := b)
  have hn2 := fun W => qnew_walk (w := W) (a := 1073741824) (b := 5) ⟨by omega, by omega⟩
  obtain ⟨vA, vn, vc, rfl, _⟩ := id h
  have HS := Lib.hid (And.intro h (And.intro hl hz))
  clear h hl hz
  go_enter Tryz.func4, Tryz.ntmps4
  go_upto_region 2 with (first | (go_at_call 13; refine hn1.mono ?_; clear hn1; rintro _ w1 ⟨X, E, rfl, hXE, hB1⟩) | fail)
  obtain ⟨ok, hok⟩ : ∃ ok : Bool, Hid (ok = true ↔ newOk a b) := by
    by_cases h : newOk a b
    · exact ⟨true, Lib.hid ⟨fun _ => h, fun _ => rfl⟩⟩
    · exact ⟨false, Lib.hid ⟨fun h => (by cases h), fun h2 => absurd h2 h⟩⟩
  go_cut [11] (fun s11 wx => s11 = .bool ok ∧ wx = w1)
  case first =>
    have hN := hok.out
    unfold newOk at hN
    have HN := Lib.hid hN
    clear hN hok
    by_cases h1 : 0 ≤ a
    case neg =>
      have e : ok = false := by cases ok; rfl; exact absurd (HN.out.1 rfl).1.1 h1
      go_wp2_with fail
      go_meet
      exact ⟨by rw [e], rfl⟩
    by_cases h2 : a ≤ 1099511627776
    case neg =>
      have e : ok = false := by cases ok; rfl; exact absurd (HN.out.1 rfl).1.2 h2
      go_wp2_with fail
      go_meet
      exact ⟨by rw [e], rfl⟩
    by_cases h3 : 1 ≤ b
    case neg =>
      have e : ok = false := by cases ok; rfl; exact absurd (HN.out.1 rfl).2.1 h3
      go_wp2_with fail
      go_meet
      exact ⟨by rw [e], rfl⟩
    by_cases h4 : b ≤ 1099511627776
    case neg =>
      have e : ok = false := by cases ok; rfl; exact absurd (HN.out.1 rfl).2.2 h4
      go_wp2_with fail
      go_meet
      exact ⟨by rw [e], rfl⟩
    have e : ok = true := HN.out.2 ⟨⟨h1, h2⟩, h3, h4⟩
    go_wp2_with fail
    go_meet
    exact ⟨by rw [e], rfl⟩
  case rest =>
    obtain ⟨rfl, hcw⟩ := hcut
    have hcw1 := hcw.symm
    subst hcw1
    go_upto_region 5 with (first
      | (go_at_call 13; refine (hn2 _).mono ?_; clear hn2; rintro _ w2 ⟨rfl, hg2, hv2, hc2, hB2⟩)
      | (go_at_call 14; refine (compile_walk (w := w2) rfl rfl).mono ?_; rintro _ w3 ⟨sb, rb, rfl, hS3, hsl, hrl, hB3⟩)
      | fail)
    go_cut [79] (fun s79 wx => s79 = .bool false ∧ wx = w3)
    case first =>
      rcases hXE.out with ⟨h1, ⟨q, h2⟩, h3⟩ | ⟨h1, h2, h3⟩
      · have e : ok = true := hok.out.2 h1
        subst h2 h3 e
        clear hok h1 hXE
        go_wp2_with fail
        go_meet
        exact ⟨rfl, rfl⟩
      · have e : ok = false := by
          cases hk : ok with
          | false => rfl
          | true => exact absurd (hok.out.1 hk) h1
        subst h2 h3 e
        clear hok h1 hXE
        go_wp2_with fail
        go_meet
        exact ⟨rfl, rfl⟩
    case rest =>
      obtain ⟨rfl, hcw⟩ := hcut
      have hcw' := hcw.symm
      subst hcw'
      obtain ⟨W4, hW4⟩ : ∃ x, w3.alloc (.cells #[.slice none 0 0, .slice none 0 0, .int .i64 (-1), .int .i64 0] 51) = x := ⟨_, rfl⟩
      have hB34 : Below w3.heap.size w3 W4 := by rw [← hW4]; exact (Below.refl _ _).alloc (Nat.le_refl _) _
      have hz4 : W4.heap.size = w3.heap.size + 1 := by rw [← hW4]; simp
      have hr4 : Blk W4 w3.heap.size 51 #[.slice none 0 0, .slice none 0 0, .int .i64 (-1), .int .i64 0] := by rw [← hW4]; exact Blk.made w3 _ _
      obtain ⟨hsee, hlen, hbnd⟩ := HS.out
      have hB14 : Below w1.heap.size w1 W4 := hB2.trans ((hB3.trans (hB34.mono hB3.size)).mono hB2.size)
      have hB04 : Below w.heap.size w W4 := hB1.trans (hB14.mono hB1.size)
      have hscr := script_walk (hsee.bel hB04) hlen hbnd
      have HW := Lib.hid (And.intro hB1 (And.intro hg2 (And.intro hv2 (And.intro hc2 (And.intro hB2 (And.intro hB3 (And.intro hS3 (And.intro hsl (And.intro hrl (And.intro hB34 (And.intro hr4 hB04)))))))))))
      clear hsee hlen hbnd HS hB14 hz4 hcw hok hXE hB1 hg2 hv2 hc2 hB2 hB3 hS3 hsl hrl hB34 hr4 hB04
      go_wp2_with (first
        | (go_at_call 15; refine hscr.mono ?_; clear hscr; rintro _ w5 ⟨u, ops, rfl, hrow5, hops, h40, hB5⟩; obtain ⟨uA, uc, rfl, huc⟩ := row_form hrow5)
        | fail)
      obtain ⟨k1, k2, k3, k4, k5, k6, k7, k8, k9, k10, k11, k12⟩ := HW.out
      have hM0 := mid0 k1 k2 k3 k4 k8 k9 k6 k7 k11 k10 hrow5 hB5
      have hS5 := k7.bel (k10.trans (hB5.mono k10.size))
      have hU5 := Sees.row hrow5
      have hUo : ∀ b, Value.leads (.slice uA ops.length uc) = some b → (Value.slice uA ops.length uc).ownBlock = some b := fun b hb => leads_own hrow5 hb
      have hBw5 : Below w.heap.size w w5 := k12.trans (hB5.mono k12.size)
      have HK := Lib.hid (And.intro hS5 (And.intro hU5 (And.intro hUo (And.intro hops (And.intro hBw5 h40)))))
      have HM0 := Lib.hid hM0
      obtain ⟨g, hg⟩ : ∃ x, w1.heap.size + 2 = x := ⟨_, rfl⟩
      obtain ⟨gr, hgr⟩ : ∃ x, w3.heap.size = x := ⟨_, rfl⟩
      obtain ⟨vm, hvm⟩ : ∃ x, w1.heap.size = x := ⟨_, rfl⟩
      obtain ⟨cm, hcm⟩ : ∃ x, w1.heap.size + 1 = x := ⟨_, rfl⟩
      rw [hg, hcm, hvm, hgr] at HM0
      rw [hg, hgr]
      clear HW k1 k2 k3 k4 k5 k6 k7 k8 k9 k10 k11 k12 hM0 hS5 hU5 hUo hBw5 hops h40 hrow5 hB5 hW4 hg hgr hvm hcm huc
      have hfinal : ∀ (wr : World) (s : RF) (i : Nat), Mid (fun b => b < w.heap.size ∨ b = sb ∨ b = rb ∨ (Value.slice uA ops.length uc).ownBlock = some b) gr gr g vm cm w5 wr s s (40000 * (i : Int)) → Below w.heap.size w wr := fun wr s i hM => by
        have hk := hM.keep
        have hb := HK.out.2.2.2.2.1
        have hs := hb.size
        exact hb.trans (hk.to_below (B := w.heap.size) hs fun k _ hk => by
          rcases Nat.lt_or_ge k w.heap.size with h1 | h1
          · exact absurd (.inl h1) hk
          · exact h1)
      have HF := Lib.hid hfinal
      clear hfinal
      go_loopw [17] (fun iv wr => ∃ (i : Nat) (s : RF), i ≤ ops.length ∧ iv = .int .i64 i ∧ Hid (Mid (fun b => b < w.heap.size ∨ b = sb ∨ b = rb ∨ (Value.slice uA ops.length uc).ownBlock = some b) gr gr g vm cm w5 wr s s (40000 * (i : Int)) ∧ s.Ok ∧ s.Few)) (fun iv _ => ops.length - (intOf iv).toNat)
      case atStart => exact ⟨0, s0, Nat.zero_le _, rfl, Lib.hid ⟨HM0.out, s0_ok, s0_few⟩⟩
      case round =>
        obtain ⟨i, s, hi, rfl, hM⟩ := hrel
        have hi0 : (0 : Int) ≤ (i : Int) := Int.natCast_nonneg _
        by_cases hil : i < ops.length
        case neg =>
          have hil' : ¬ (i : Int) < (ops.length : Int) := by omega
          have hBf := Lib.hid (HF.out wr s i hM.out.1)
          have hin := qinst_nil (w := wr) (g := g) (n := ver)
          have hlv := lives_walk wr
          clear hil hM HF HM0
          go_wp2_with (first
            | (go_at_call 17; refine hin.mono ?_; clear hin; rintro _ wx ⟨rfl, rfl⟩)
            | (go_at_call 11; refine hlv.mono ?_; clear hlv; rintro _ w9 ⟨rfl, hB9⟩)
            | fail)
          go_ret
          exact ⟨rfl, hBf.out.trans (hB9.mono hBf.out.size)⟩
        have hil' : (i : Int) < (ops.length : Int) := by omega
        obtain ⟨hS5, hU5, hUo, hops, hBw5, h40⟩ := HK.out
        obtain ⟨hMi, hsOk, hsFew⟩ := hM.out
        have hUr := hU5.chg hMi.keep fun b hb hn => hn (.inr (.inr (.inr (hUo b hb))))
        obtain ⟨A', c', e1, -, hcc⟩ := sees_at ROp.cells (fun _ => rfl) (by omega) hUr
        cases e1
        obtain ⟨ob, off, e2, -, hcell⟩ := hcc (by omega)
        subst e2
        obtain ⟨o, ho⟩ : ∃ o, ops[i] = o := ⟨_, rfl⟩
        have hoOk : o.Ok := ho ▸ hops _ (List.getElem_mem hil)
        obtain ⟨k, n, t, m⟩ := o
        have d0 := hcell i hil 0 (.int .i64 k) (by omega) (by rw [ho]; rfl)
        have d1 := hcell i hil 1 (.int .i64 n) (by omega) (by rw [ho]; rfl)
        have d2 := hcell i hil 2 (.int .i64 t) (by omega) (by rw [ho]; rfl)
        have d3 := hcell i hil 3 (.int .i64 m) (by omega) (by rw [ho]; rfl)
        rw [Nat.add_zero] at d0
        obtain ⟨W6, hW6⟩ : ∃ x, wr.alloc (.cells #[.int .i64 k, .int .i64 n, .int .i64 t, .int .i64 m] 55) = x := ⟨_, rfl⟩
        have hB6 : Below wr.heap.size wr W6 := by rw [← hW6]; exact (Below.refl _ _).alloc (Nat.le_refl _) _
        have qb : Blk W6 wr.heap.size 55 #[.int .i64 k, .int .i64 n, .int .i64 t, .int .i64 m] := by rw [← hW6]; exact Blk.made wr _ _
        have q0 := qb.at' 0
        have q1 := qb.at' 1
        have q2 := qb.at' 2
        have q3 := qb.at' 3
        simp at q0 q1 q2 q3
        have hM6 := hMi.inner hB6 ⟨Nat.le_refl _, qb.lt⟩
        have hS6 := (hS5.mid hMi (.inr (.inl rfl)) (.inr (.inr (.inl rfl)))).bel hB6
        have hrdo := hM6.ref hsOk hsFew hoOk
        have hsOk' := step_ok hsOk hoOk
        have hsFew' := step_few hsFew (⟨k, n, t, m⟩ : ROp)
        obtain ⟨⟨r', s'⟩, hst⟩ : ∃ x, s.step ⟨k, n, t, m⟩ = x := ⟨_, rfl⟩
        rw [hst] at hrdo hsOk' hsFew'
        simp only at hrdo hsOk' hsFew'
        have hql := qb.lt
        have HI := Lib.hid (And.intro hMi (And.intro hB6 (And.intro hS6 (And.intro hst (And.intro hsOk (And.intro hoOk (And.intro hsOk' (And.intro hsFew' h40))))))))
        clear hUr hcc hcell hU5 hUo hops hBw5 hS5 hMi hsOk hsFew hM6 hS6 qb hM hoOk hsOk' hsFew' hB6 ho h40 HM0 hst
        go_upto_block 2 with (first
          | (go_at_call 16; refine hrdo.mono ?_; clear hrdo; rintro _ w7 ⟨rfl, hM7⟩; have y0 := (hM7.cell (p := ⟨wr.heap.size, 0, none⟩) (.inr rfl) hql).trans q0; have y1 := (hM7.cell (p := ⟨wr.heap.size, 1, none⟩) (.inr rfl) hql).trans q1; have y2 := (hM7.cell (p := ⟨wr.heap.size, 2, none⟩) (.inr rfl) hql).trans q2; have y3 := (hM7.cell (p := ⟨wr.heap.size, 3, none⟩) (.inr rfl) hql).trans q3)
          | fail)
        have hql7 : wr.heap.size < w7.heap.size := Nat.lt_of_lt_of_le hql hM7.keep.size
        have HM7 := Lib.hid hM7
        clear hM7 d0 d1 d2 d3 q0 q1 q2 q3 hW6
        go_cut [20] (fun s20 wx => s20 = .int .i64 r' ∧ Hid (Mid (fun b => (b < w.heap.size ∨ b = sb ∨ b = rb ∨ (Value.slice (some ⟨ob, off, none⟩) ops.length uc).ownBlock = some b) ∨ b = wr.heap.size) gr gr g vm cm W6 wx s' s' (40000 * ((i + 1 : Nat) : Int))))
        case first =>
          obtain ⟨hMi, hB6, hS6, hst, hsOk, hoOk, hsOk', hsFew', h40⟩ := HI.out
          have hkd := hoOk.kind
          have hn := hoOk.n
          have hmm := hoOk.many
          simp only at hkd hn hmm
          have hKK : (40000 * (i : Int)) ≤ 40000 * ((i + 1 : Nat) : Int) := by omega
          have hK0 : (0 : Int) ≤ 40000 * (i : Int) := by omega
          have hS7 := hS6.mid HM7.out (.inl (.inr (.inl rfl))) (.inl (.inr (.inr (.inl rfl))))
          by_cases k0 : k = 0
          · subst k0
            rw [step_0] at hst
            have hop := HM7.out.fil (K' := 40000 * (i : Int)) fun col V C hF _ => finst_step hF hsOk hS7 hK0 hn
            rw [hst] at hop
            simp only at hop
            have HKK := Lib.hid hKK
            clear hMi hB6 hS6 hst hsOk hoOk hsOk' hsFew' h40 hkd hn hmm hKK hK0 hS7 HM7 HI HF HK
            go_wp2_with (first
              | (go_at_call 17; refine hop.mono ?_; clear hop; rintro _ w8 ⟨rfl, hM8⟩)
              | fail)
            go_meet
            exact ⟨rfl, Lib.hid (hM8.more HKK.out)⟩
          by_cases k1 : k = 1
          · subst k1
            rw [step_1] at hst
            have hop := HM7.out.fil (K' := 40000 * (i : Int)) fun col V C hF _ => fuse_step hF hsOk hn
            rw [hst] at hop
            simp only at hop
            have HKK := Lib.hid hKK
            clear hMi hB6 hS6 hst hsOk hoOk hsOk' hsFew' h40 hkd hn hmm hKK hK0 hS7 HM7 HI HF HK
            go_wp2_with (first
              | (go_at_call 18; refine hop.mono ?_; clear hop; rintro _ w8 ⟨rfl, hM8⟩)
              | fail)
            go_meet
            exact ⟨rfl, Lib.hid (hM8.more HKK.out)⟩
          by_cases k2 : k = 2
          · subst k2
            rw [step_2] at hst
            have hop := HM7.out.fil (K' := 40000 * (i : Int)) fun col V C hF _ => frem_step hF hsOk hn
            rw [hst] at hop
            simp only at hop
            have HKK := Lib.hid hKK
            clear hMi hB6 hS6 hst hsOk hoOk hsOk' hsFew' h40 hkd hn hmm hKK hK0 hS7 HM7 HI HF HK
            go_wp2_with (first
              | (go_at_call 19; refine hop.mono ?_; clear hop; rintro _ w8 ⟨rfl, hM8⟩)
              | fail)
            go_meet
            exact ⟨rfl, Lib.hid (hM8.more HKK.out)⟩
          by_cases k3 : k = 3
          · subst k3
            rw [step_3] at hst
            have hop := HM7.out.fil (K' := 40000 * (i : Int)) fun col V C hF _ => fopn_step (t := t) hF hsOk hn
            rw [hst] at hop
            simp only at hop
            have HKK := Lib.hid hKK
            clear hMi hB6 hS6 hst hsOk hoOk hsOk' hsFew' h40 hkd hn hmm hKK hK0 hS7 HM7 HI HF HK
            go_wp2_with (first
              | (go_at_call 20; refine hop.mono ?_; clear hop; rintro _ w8 ⟨rfl, hM8⟩)
              | fail)
            go_meet
            exact ⟨rfl, Lib.hid (hM8.more HKK.out)⟩
          by_cases k5 : k = 5
          · subst k5
            rw [step_5] at hst
            have hop := HM7.out.fil (K' := 40000 * (i : Int)) fun col V C hF _ => ffin_step (t := t) hF hsOk hn
            rw [hst] at hop
            simp only at hop
            have HKK := Lib.hid hKK
            clear hMi hB6 hS6 hst hsOk hoOk hsOk' hsFew' h40 hkd hn hmm hKK hK0 hS7 HM7 HI HF HK
            go_wp2_with (first
              | (go_at_call 22; refine hop.mono ?_; clear hop; rintro _ w8 ⟨rfl, hM8⟩)
              | fail)
            go_meet
            exact ⟨rfl, Lib.hid (hM8.more HKK.out)⟩
          have k4 : k = 4 := by omega
          subst k4
          rw [step_4] at hst
          obtain ⟨m', rfl⟩ := Int.eq_ofNat_of_zero_le hmm.1
          obtain ⟨W8, hmk, hSe, hB8, hl8⟩ := make_zeros w7.drew (m := m') (by omega)
          have hB78 : Below w7.heap.size w7 W8 := (Below.refl _ _).drew.trans hB8
          have hop := (HM7.out.inner hB78 ⟨Nat.le_refl _, hl8⟩).fil (K' := 40000 * (i : Int) + m') fun col V C hF hX => fsnd_step (t := t) hF hsOk hn (m := m') (by omega) hSe (fun b hb => hX b (.inr (by cases m' with | zero => cases hb | succ _ => cases hb; rfl))) (by omega) hK0
          rw [hst] at hop
          simp only at hop
          have HKK := Lib.hid (show 40000 * (i : Int) + m' ≤ 40000 * ((i + 1 : Nat) : Int) by omega)
          have HB78 := Lib.hid hB78
          have HY := Lib.hid (And.intro y1 (And.intro y2 y3))
          have hS : ∀ W : World, (W.cell? ⟨wr.heap.size, 1, none⟩ = w7.cell? ⟨wr.heap.size, 1, none⟩ ∧ W.cell? ⟨wr.heap.size, 2, none⟩ = w7.cell? ⟨wr.heap.size, 2, none⟩) ∧ W.cell? ⟨wr.heap.size, 3, none⟩ = w7.cell? ⟨wr.heap.size, 3, none⟩ → ((W.cell? ⟨wr.heap.size, 1, none⟩ = some (.int .i64 n) ∧ W.cell? ⟨wr.heap.size, 2, none⟩ = some (.int .i64 t)) ∧ W.cell? ⟨wr.heap.size, 3, none⟩ = some (.int .i64 (m' : Int))) := fun W ⟨⟨a1, a2⟩, a3⟩ => ⟨⟨a1.trans HY.out.1, a2.trans HY.out.2.1⟩, a3.trans HY.out.2.2⟩
          have hS0 := hS w7.drew ⟨⟨rfl, rfl⟩, rfl⟩
          have hS1 := hS W8 ⟨⟨hB8.cell (p := ⟨wr.heap.size, 1, none⟩) hql7, hB8.cell (p := ⟨wr.heap.size, 2, none⟩) hql7⟩, hB8.cell (p := ⟨wr.heap.size, 3, none⟩) hql7⟩
          have HS9 : Hid (∀ w9, Mid (fun b => ((b < w.heap.size ∨ b = sb ∨ b = rb ∨ (Value.slice (some ⟨ob, off, none⟩) ops.length uc).ownBlock = some b) ∨ b = wr.heap.size) ∨ b = w7.heap.size) gr gr g vm cm W8 w9 s' s' (40000 * (i : Int) + m') → ((w9.cell? ⟨wr.heap.size, 1, none⟩ = some (.int .i64 n) ∧ w9.cell? ⟨wr.heap.size, 2, none⟩ = some (.int .i64 t)) ∧ w9.cell? ⟨wr.heap.size, 3, none⟩ = some (.int .i64 (m' : Int)))) := Lib.hid fun w9 h9 => hS w9 ⟨⟨(h9.cell (p := ⟨wr.heap.size, 1, none⟩) (.inl (.inr rfl)) (Nat.lt_trans hql7 hl8)).trans (hB8.cell (p := ⟨wr.heap.size, 1, none⟩) hql7), (h9.cell (p := ⟨wr.heap.size, 2, none⟩) (.inl (.inr rfl)) (Nat.lt_trans hql7 hl8)).trans (hB8.cell (p := ⟨wr.heap.size, 2, none⟩) hql7)⟩, (h9.cell (p := ⟨wr.heap.size, 3, none⟩) (.inl (.inr rfl)) (Nat.lt_trans hql7 hl8)).trans (hB8.cell (p := ⟨wr.heap.size, 3, none⟩) hql7)⟩
          have HM7' := HM7
          clear hS hB8 hSe hB78 hl8 hMi hB6 hS6 hst hsOk hoOk hsOk' hsFew' h40 hkd hn hmm hKK hK0 hS7 HM7 HI HF HK k0 k1 k2 k3 k5
          go_wp2_with fail
          go_region_held3 (fun W => ((W.cell? ⟨wr.heap.size, 1, none⟩ = some (.int .i64 n) ∧ W.cell? ⟨wr.heap.size, 2, none⟩ = some (.int .i64 t)) ∧ W.cell? ⟨wr.heap.size, 3, none⟩ = some (.int .i64 (m' : Int))))
            (first | exact hS0 | exact hS1 | exact HS9.out _ hM9 | go_keep)
            (first
              | (go_simp; go_at_call 21; refine hop.mono ?_; clear hop; rintro _ w9 ⟨rfl, hM9⟩))
          go_wp2_with fail
          go_meet
          exact ⟨rfl, Lib.hid ((HM7'.out.outer HB78.out hM9).more HKK.out)⟩
        case rest =>
          obtain ⟨rfl, hM8⟩ := hcut
          obtain ⟨hMi, hB6, hS6, hst, hsOk, hoOk, hsOk', hsFew', h40⟩ := HI.out
          have hconn := hM8.out.conns hsOk'
          have HJ := Lib.hid (And.intro hMi (And.intro hB6 (And.intro hsOk' (And.intro hsFew' (And.intro (cs_few hsOk') h40)))))
          clear hMi hB6 hS6 hst hsOk hoOk hsOk' hsFew' h40 HI HM7 hM8 y0 y1 y2 y3 hql7 HF HK
          go_upto_block 3 with (first
            | (go_at_call 23; refine hconn.mono ?_; clear hconn; rintro _ w9 ⟨v9, rfl, hrow9, hM9⟩; obtain ⟨pA, pc, rfl, hpc⟩ := row_form hrow9; obtain ⟨⟨v1, v2, col, V, C, hR9, hF9, hsep9, hfix9⟩, hBB⟩ := id hM9; have c1 := hR9.blk.at' 1; have hgr9 := hR9.blk.lt; obtain ⟨rA, rc, rfl, hrc, hrcell⟩ := hR9.conns; simp at c1; have HM9 := Lib.hid hM9; have HP9 := Lib.hid (Sees.row hrow9); have HR9 := Lib.hid hrcell; clear hM9 hR9 hF9 hsep9 hfix9 hBB hrow9 hrcell hrc hpc)
            | fail)
          have hsl4 : s'.cs.length ≤ 4 := HJ.out.2.2.2.2.1
          have h40 := HJ.out.2.2.2.2.2
          obtain ⟨wo, rfl⟩ : ∃ x, x = wr := ⟨_, rfl⟩
          go_wp2_with fail
          go_loopw [22] (fun iv wz => ∃ j : Nat, j ≤ s'.cs.length ∧ iv = .int .i64 j ∧ Below w9.heap.size w9 wz) (fun iv _ => s'.cs.length - (intOf iv).toNat)
          case atStart => exact ⟨0, Nat.zero_le _, rfl, Below.refl _ _⟩
          case round =>
            obtain ⟨j, hj, rfl, hbz⟩ := hrel
            have hj0 : (0 : Int) ≤ (j : Int) := Int.natCast_nonneg _
            by_cases hjl : j < s'.cs.length
            · have hjl' : (j : Int) < (s'.cs.length : Int) := by omega
              obtain ⟨A1, cp1, e1, -, hcc1⟩ := sees_at pairC (fun _ => rfl) (by omega) HP9.out
              cases e1
              obtain ⟨pb, po, e2, hpl, hpcell⟩ := hcc1 (by omega)
              subst e2
              obtain ⟨rb3, ro, e3, hrl3, hrc3⟩ := HR9.out (by omega)
              subst e3
              obtain ⟨f0, f1, -⟩ := hrc3 j hjl
              have e0 := hpcell j hjl 0 (.int .i64 s'.cs[j].num) (by omega) rfl
              have e1 := hpcell j hjl 1 (.int .i64 s'.cs[j].ver) (by omega) rfl
              rw [Nat.add_zero] at e0
              have g0 := (hbz.cell (p := ⟨pb, po + j * 2, none⟩) hpl).trans e0
              have g1 := (hbz.cell (p := ⟨pb, po + j * 2 + 1, none⟩) hpl).trans e1
              have h0 := (hbz.cell (p := ⟨rb3, ro + j * 3, none⟩) hrl3).trans f0
              have h1 := (hbz.cell (p := ⟨rb3, ro + j * 3 + 1, none⟩) hrl3).trans f1
              have cz := (hbz.cell (p := ⟨gr, 1, none⟩) hgr9).trans c1
              obtain ⟨NU, hNU⟩ : ∃ x, s'.cs[j].num = x := ⟨_, rfl⟩
              obtain ⟨VE, hVE⟩ : ∃ x, s'.cs[j].ver = x := ⟨_, rfl⟩
              rw [hNU] at g0 h0
              rw [hVE] at g1 h1
              have hpe := pair_same NU VE
              have hbd := fun k => hbz.trans ((belowN wr k).mono hbz.size)
              clear e0 e1 f0 f1 hcc1 hpcell hrc3 hNU hVE c1
              go_wp2_with fail
              go_quiet (fail)
              go_wp2_with fail
              go_roundw
              case rel => exact ⟨j + 1, hjl, by go_num, hbd _⟩
              case measure => simp [intOf]; omega
            · have hjl' : ¬ (j : Int) < (s'.cs.length : Int) := by omega
              have HB := Lib.hid hbz
              clear hbz
              go_wp2_with fail
              go_roundw
              case rel =>
                obtain ⟨hMi, hB6, hOk, hFew, -, -⟩ := HJ.out
                exact ⟨i + 1, s', by omega, by go_num, Lib.hid ⟨hMi.outer hB6 (HM9.out.bel HB.out), hOk, hFew⟩⟩
              case measure => simp [intOf]; omega
end Go.Proofs.YtahmcjdddcbhnaaGreatDoor
