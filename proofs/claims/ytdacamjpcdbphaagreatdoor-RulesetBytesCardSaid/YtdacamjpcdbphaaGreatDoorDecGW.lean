/-
  Decode, walked at any bytes.
-/
import Derived.Test.YtdacamjpcdbphaaGreatDoorBytG0c
namespace Go.Proofs.YtdacamjpcdbphaaGreatDoor
open Go Go.RowKit Go.Smap

/- what Decode's loop reads -/
def oneR (s : Option (List UInt8)) : Ru := ⟨rN s, rN (rS s), bN (rS (rS s))⟩
def oneS (s : Option (List UInt8)) : Option (List UInt8) := bS (rS (rS s))
def manyR : Nat → Option (List UInt8) → List Ru
  | 0, _ => []
  | k + 1, s => oneR s :: manyR k (oneS s)
def manyS : Nat → Option (List UInt8) → Option (List UInt8)
  | 0, s => s
  | k + 1, s => manyS k (oneS s)
theorem many_snoc : ∀ (k : Nat) (s : Option (List UInt8)), manyR (k + 1) s = manyR k s ++ [oneR (manyS k s)] ∧ manyS (k + 1) s = oneS (manyS k s)
  | 0, s => ⟨rfl, rfl⟩
  | k + 1, s => by
    obtain ⟨h1, h2⟩ := many_snoc k (oneS s)
    exact ⟨by rw [manyR, h1]; rfl, by rw [manyS, h2]; rfl⟩
theorem many_len : ∀ (k : Nat) (s : Option (List UInt8)), (manyR k s).length = k
  | 0, _ => rfl
  | k + 1, s => by rw [manyR, List.length_cons, many_len k]
theorem rd_none : rN none = [] ∧ rS none = none ∧ bN none = false ∧ bS none = none := ⟨rfl, rfl, rfl, rfl⟩
theorem many_none : ∀ k, manyS k none = none
  | 0 => rfl
  | k + 1 => by rw [manyS, show oneS none = none from rfl]; exact many_none k
theorem one_dOne (l : List UInt8) : match dOne l with | some (r, t) => oneR (some l) = r ∧ oneS (some l) = some t | none => oneS (some l) = none := by
  unfold dOne oneR oneS
  cases h1 : dR l with
  | none =>
    have e : rS (some l) = none := by unfold rS; rw [show (some l).bind dR = none from h1]
    simp only
    rw [e]; rfl
  | some a =>
    obtain ⟨x, t⟩ := a
    have e1 : rN (some l) = x := by unfold rN; rw [show (some l).bind dR = some (x, t) from h1]
    have e2 : rS (some l) = some t := by unfold rS; rw [show (some l).bind dR = some (x, t) from h1]
    rw [e1, e2]
    simp only
    cases h2 : dR t with
    | none =>
      have e : rS (some t) = none := by unfold rS; rw [show (some t).bind dR = none from h2]
      simp only
      rw [e]; rfl
    | some b =>
      obtain ⟨y, u⟩ := b
      have f1 : rN (some t) = y := by unfold rN; rw [show (some t).bind dR = some (y, u) from h2]
      have f2 : rS (some t) = some u := by unfold rS; rw [show (some t).bind dR = some (y, u) from h2]
      rw [f1, f2]
      simp only
      cases h3 : dB u with
      | none =>
        have e : bS (some u) = none := by unfold bS; rw [show (some u).bind dB = none from h3]
        exact e
      | some c =>
        obtain ⟨z, v⟩ := c
        have g1 : bN (some u) = z := by unfold bN; rw [show (some u).bind dB = some (z, v) from h3]
        have g2 : bS (some u) = some v := by unfold bS; rw [show (some u).bind dB = some (z, v) from h3]
        simp only
        rw [g1, g2]
        exact ⟨rfl, rfl⟩
theorem many_dMany : ∀ (k : Nat) (l : List UInt8), match dMany k l with | some (rs, t) => manyR k (some l) = rs ∧ manyS k (some l) = some t | none => manyS k (some l) = none
  | 0, l => ⟨rfl, rfl⟩
  | k + 1, l => by
    have h1 := one_dOne l
    unfold dMany
    cases hd : dOne l with
    | none =>
      rw [hd] at h1
      show manyS (k + 1) (some l) = none
      rw [manyS, show oneS (some l) = none from h1]
      exact many_none k
    | some a =>
      obtain ⟨r, t⟩ := a
      rw [hd] at h1
      obtain ⟨e1, e2⟩ := h1
      have h2 := many_dMany k t
      simp only
      cases hm : dMany k t with
      | none =>
        rw [hm] at h2
        show manyS (k + 1) (some l) = none
        rw [manyS, e2]
        exact h2
      | some b =>
        obtain ⟨rs, u⟩ := b
        rw [hm] at h2
        obtain ⟨f1, f2⟩ := h2
        exact ⟨by rw [manyR, e1, e2, f1], by rw [manyS, e2]; exact f2⟩
/-- what is left of a reading lies in what was there -/
theorem left_le {s : Option (List UInt8)} {n : Nat} (h : ∀ t, s = some t → t.length ≤ n) : (∀ t, rS s = some t → t.length ≤ n) ∧ (rN s).length ≤ n ∧ (∀ t, bS s = some t → t.length ≤ n) := by
  cases s with
  | none => exact ⟨(fun t ht => by cases ht), Nat.zero_le _, (fun t ht => by cases ht)⟩
  | some l =>
    have hl := h l rfl
    refine ⟨fun t ht => ?_, ?_, fun t ht => ?_⟩
    · cases hd : dR l with
      | none => rw [show rS (some l) = none by unfold rS; rw [show (some l).bind dR = none from hd]] at ht; cases ht
      | some a =>
        obtain ⟨x, u⟩ := a
        rw [show rS (some l) = some u by unfold rS; rw [show (some l).bind dR = some (x, u) from hd]] at ht
        cases ht
        have := congrArg List.length (dR_sound hd).1
        simp only [List.length_append] at this
        omega
    · cases hd : dR l with
      | none => rw [show rN (some l) = [] by unfold rN; rw [show (some l).bind dR = none from hd]]; simp
      | some a =>
        obtain ⟨x, u⟩ := a
        rw [show rN (some l) = x by unfold rN; rw [show (some l).bind dR = some (x, u) from hd]]
        have := congrArg List.length (dR_sound hd).1
        simp only [encR, List.length_append] at this
        omega
    · cases hd : dB l with
      | none => rw [show bS (some l) = none by unfold bS; rw [show (some l).bind dB = none from hd]] at ht; cases ht
      | some a =>
        obtain ⟨x, u⟩ := a
        rw [show bS (some l) = some u by unfold bS; rw [show (some l).bind dB = some (x, u) from hd]] at ht
        cases ht
        have := congrArg List.length (dB_sound hd)
        simp only [List.length_append] at this
        omega
theorem many_le : ∀ (k : Nat) {s : Option (List UInt8)} {n : Nat} (_ : ∀ t, s = some t → t.length ≤ n), ∀ r ∈ manyR k s, r.name.length ≤ n ∧ r.text.length ≤ n
  | 0, _, _, _, r, hr => by cases hr
  | k + 1, s, n, h, r, hr => by
    obtain ⟨h1, h2, _⟩ := left_le h
    obtain ⟨h3, h4, _⟩ := left_le h1
    obtain ⟨_, _, h5⟩ := left_le h3
    rcases List.mem_cons.1 hr with rfl | hr
    · exact ⟨h2, h4⟩
    · exact many_le k (s := oneS s) h5 r hr
/-- Decode's answer -/
structure Decoded (w' : World) (base : Nat) (b : List UInt8) (u : Value) (c : Int) : Prop where
  good : ∀ l, decL b = some l → c = 0 ∧ w'.ownsRow base 65 3 u l.length (l.flatMap Ru.cells)
  bad : decL b = none → c = 2 ∧ u = .slice none 0 0
theorem iS_le {l t : List UInt8} (h : iS (some l) = some t) : t.length ≤ l.length := by
  cases hd : dI l with
  | none => rw [show iS (some l) = none by unfold iS; rw [show (some l).bind dI = none from hd]] at h; cases h
  | some a =>
    obtain ⟨x, u⟩ := a
    rw [show iS (some l) = some u by unfold iS; rw [show (some l).bind dI = some (x, u) from hd]] at h
    cases h
    have := congrArg List.length (dI_sound hd).1
    simp only [List.length_append] at this
    omega
theorem decL_out {L : List UInt8} (h : iN (some L) < 0 ∨ 500 < iN (some L)) : decL L = none := by
  unfold decL
  cases hd : dI L with
  | none => rfl
  | some a =>
    obtain ⟨z, t⟩ := a
    rw [show iN (some L) = z by unfold iN; rw [show (some L).bind dI = some (z, t) from hd]] at h
    simp only
    rw [if_pos h]
theorem decL_in {L : List UInt8} {N : Nat} (h : iN (some L) = (N : Int)) (hN : N ≤ 500) :
    (manyS N (iS (some L)) = some [] → formed (manyR N (iS (some L))) = true → decL L = some (manyR N (iS (some L)))) ∧ ((manyS N (iS (some L)) ≠ some [] ∨ formed (manyR N (iS (some L))) = false) → decL L = none) := by
  unfold decL
  cases hd : dI L with
  | none =>
    have e : iS (some L) = none := by unfold iS; rw [show (some L).bind dI = none from hd]
    rw [e]
    exact ⟨(fun h => by rw [many_none] at h; cases h), fun _ => rfl⟩
  | some a =>
    obtain ⟨z, t⟩ := a
    have e : iS (some L) = some t := by unfold iS; rw [show (some L).bind dI = some (z, t) from hd]
    rw [show iN (some L) = z by unfold iN; rw [show (some L).bind dI = some (z, t) from hd]] at h
    subst h
    rw [e]
    have hm := many_dMany N t
    simp only
    rw [if_neg (by omega), show ((N : Nat) : Int).toNat = N by omega]
    cases hmm : dMany N t with
    | none =>
      rw [hmm] at hm
      exact ⟨(fun h => by rw [show manyS N (some t) = none from hm] at h; cases h), fun _ => rfl⟩
    | some b =>
      obtain ⟨rs, u⟩ := b
      rw [hmm] at hm
      obtain ⟨h1, h2⟩ := hm
      rw [h1, h2]
      simp only
      refine ⟨fun h3 h4 => ?_, fun h3 => ?_⟩
      · cases h3
        rw [if_pos ⟨rfl, h4⟩]
      · refine if_neg fun h4 => ?_
        rcases h3 with h3 | h3
        · exact h3 (by rw [h4.1])
        · rw [h4.2] at h3; cases h3
set_option maxHeartbeats 8000000 in
set_option maxRecDepth 1000000 in
theorem decode_walk {w : World} {b : Value} {L : List UInt8} (hb : Sees w 1 b (bv L)) (hL : L.length ≤ 10000000) :
    Calls Tryz.prog 10 #[b] w fun e w' => ∃ u c, e = .returned (.tuple #[u, .int .i64 c]) ∧ Decoded w' w.heap.size L u c ∧ Below w.heap.size w w' := by
  obtain ⟨i0, hi0, hz0, hz1, hz2⟩ := info_parts infoRule
  have hrd := read_walk hb (by omega)
  have hout := decL_out (L := L)
  have hin := fun N => decL_in (L := L) (N := N)
  have hle := fun t => iS_le (l := L) (t := t)
  obtain ⟨A0, m0, c0, rfl, _⟩ := id hb
  clear hb
  go_enter Tryz.func10, Tryz.ntmps10
  go_wp2_with fail
  go_at_call 12
  refine hrd.mono ?_
  clear hrd
  rintro _ w1 ⟨p, v, rfl, hp, hR1, hB1⟩
  have s1 := hB1.size
  have hi := rint_walk hR1
  obtain ⟨n, hn⟩ : ∃ n, iN (some L) = n := ⟨_, rfl⟩
  obtain ⟨s0, hs0⟩ : ∃ s, iS (some L) = s := ⟨_, rfl⟩
  rw [hn, hs0] at hi
  rw [hn] at hout
  rw [hs0] at hle
  simp only [hn, hs0] at hin
  clear hn hs0
  go_wp2_with fail
  go_at_call 13
  refine hi.mono ?_
  clear hi
  rintro _ w2 ⟨rfl, hR2, hC2⟩
  have s2 := hC2.size
  have hB2 : Below w.heap.size w w2 := below_chg hB1 hC2 hp s1
  by_cases hneg : n < 0
  · have hD := hout (.inl hneg)
    clear hin hout
    go_wp2_with fail
    go_ret2
    exact ⟨_, _, rfl, ⟨(fun l h => by rw [hD] at h; cases h), fun _ => ⟨rfl, rfl⟩⟩, hB2⟩
  by_cases hbig : 500 < n
  · have hD := hout (.inr hbig)
    clear hin hout
    go_wp2_with fail
    go_ret2
    exact ⟨_, _, rfl, ⟨(fun l h => by rw [hD] at h; cases h), fun _ => ⟨rfl, rfl⟩⟩, hB2⟩
  obtain ⟨N, rfl⟩ : ∃ N : Nat, n = N := Int.eq_ofNat_of_zero_le (by omega)
  have hin' := Lib.hid (hin N rfl (by omega))
  clear hin hout
  have hpv := hR2.ne
  have hR2' : RdAt w2 w.heap.size p v L (manyS 0 s0) := hR2
  have hp2 : p < w2.heap.size := hR2.lt
  have hvl : ∀ g, v.ownBlock = some g → g < w2.heap.size := fun g hg => hR2.own_lt hg
  clear hR1 hC2 hB1 hR2
  go_wp2
  go_loopw [6, 18] (fun u i wr => ∃ j : Nat, j ≤ N ∧ i = .int .i64 j ∧ wr.ownsRow w2.heap.size 65 3 u j ((manyR j s0).flatMap Ru.cells) ∧ RdAt wr w.heap.size p v L (manyS j s0) ∧ Below w.heap.size w wr ∧ w2.heap.size ≤ wr.heap.size) (fun _ i _ => N - (intOf i).toNat)
  case atStart => exact ⟨0, Nat.zero_le _, rfl, World.ownsRow_nil _ _ _ _, hR2', hB2, Nat.le_refl _⟩
  case round =>
    obtain ⟨j, hj, rfl, hown, hrd, hbel, hsz⟩ := hrel
    by_cases hjl : j < N
    · obtain ⟨m1, m2⟩ := many_snoc j s0
      have htk3 : Hid ((manyR (j + 1) s0).flatMap Ru.cells = (manyR j s0).flatMap Ru.cells ++ [.string (ofB (rN (manyS j s0))), .string (ofB (rN (rS (manyS j s0)))), .bool (bN (rS (rS (manyS j s0))))] ∧ manyS (j + 1) s0 = bS (rS (rS (manyS j s0)))) := by
        refine ⟨?_, m2⟩
        rw [m1, List.flatMap_append]
        simp [Ru.cells, oneR]
      clear m1 m2
      obtain ⟨X, hX⟩ : ∃ X, (manyR j s0).flatMap Ru.cells = X := ⟨_, rfl⟩
      obtain ⟨s, hs⟩ : ∃ s, manyS j s0 = s := ⟨_, rfl⟩
      rw [hX, hs] at htk3
      rw [hX] at hown
      rw [hs] at hrd
      have hltr := World.ownsRow.lt hown
      have hpl := hrd.lt
      obtain ⟨ua, uc, rfl, hua⟩ := owns_shape hown
      have hup := own_ne hown hp2
      have hpw : p < wr.drew.heap.size := hpl
      have hpw' : wr.drew.heap.size = wr.heap.size := rfl
      have h1 := rraw_walk hrd.drew
      obtain ⟨nm, hnm⟩ : ∃ x, rN s = x := ⟨_, rfl⟩
      obtain ⟨q1, hq1⟩ : ∃ x, rS s = x := ⟨_, rfl⟩
      rw [hnm, hq1] at h1
      rw [hnm, hq1] at htk3
      have h2 : ∀ w', RdAt w' w.heap.size p v L q1 → Calls Tryz.prog 28 #[.pointer (some ⟨p, 0, none⟩)] w' fun e w2 => ∃ u, e = .returned u ∧ w2.ownsRow w'.heap.size 5 1 u (rN q1).length (bv (rN q1)) ∧ RdAt w2 w.heap.size p v L (rS q1) ∧ Chg (Only p) w' w2 := fun w' h => rraw_walk h
      obtain ⟨tx, htx⟩ : ∃ x, rN q1 = x := ⟨_, rfl⟩
      obtain ⟨q2, hq2⟩ : ∃ x, rS q1 = x := ⟨_, rfl⟩
      rw [htx, hq2] at h2
      rw [htx, hq2] at htk3
      have h3 : ∀ w', RdAt w' w.heap.size p v L q2 → Calls Tryz.prog 29 #[.pointer (some ⟨p, 0, none⟩)] w' fun e w2 => e = .returned (.bool (bN q2)) ∧ RdAt w2 w.heap.size p v L (bS q2) ∧ Chg (Only p) w' w2 := fun w' h => rbool_walk h
      obtain ⟨ru, hru⟩ : ∃ x, bN q2 = x := ⟨_, rfl⟩
      obtain ⟨q3, hq3⟩ : ∃ x, bS q2 = x := ⟨_, rfl⟩
      rw [hru, hq3] at h3
      rw [hru, hq3] at htk3
      clear hX hs hnm hq1 htx hq2 hru hq3 hR2'
      have hn1 : j + 1 ≤ maxLen := by unfold maxLen; omega
      have hn2 : (j + 1) * 40 ≤ 140737488355328 := by omega
      go_wp2_with fail
      go_region_law
        (first
          | (go_simp; go_at_call 28; refine h1.mono ?_; clear h1; rintro _ w3 ⟨u3, rfl, hr3, hrd3, hC3⟩; have k3 := conv_str (Sees.row hr3); have hC3s := hC3.size)
          | (go_simp; go_at_call 28; refine (h2 _ (by assumption)).mono ?_; clear h2; rintro _ w4 ⟨u4, rfl, hr4, hrd4, hC4⟩; have k4 := conv_str (Sees.row hr4); have hC4s := hC4.size; have hr34 := row_only hr3 hC4 (own_ne hr3 hpw); have k34 := conv_str (Sees.row hr34))
          | (go_simp; go_at_call 29; refine (h3 _ (by assumption)).mono ?_; clear h3; rintro _ w5 ⟨rfl, hrd5, hC5⟩; have hC5s := hC5.size; have hCa : Chg (Only p) wr w5 := (((Chg.refl _ wr).drew.trans hC3 fun _ _ h => h).trans hC4 fun _ _ h => h).trans hC5 fun _ _ h => h; have hown5 := row_only hown hCa hup; have hr35 := row_only hr34 hC5 (own_ne hr3 hpw); have k35 := conv_str (Sees.row hr35); have hr45 := row_only hr4 hC5 (own_ne hr4 (by omega)); have k45 := conv_str (Sees.row hr45))
          | (refine step_append_lies _ (by rfl) _ _ _ (by rfl) w2.heap.size 65 i0 _ 3 40 Tryz.underlying32 hi0 hz0 hz1 hz2 rfl (by omega) _ j X (by rfl) (hown5.alloc _)
              ⟨w5.heap.size, 0, none⟩ 1 1 [.string (ofB nm), .string (ofB tx), .bool ru] (by rfl) (by rfl) (World.news_of_block (cs := #[.string (ofB nm), .string (ofB tx), .bool ru]) (t := 65) (fr := (0, 0)) (heap_alloc_new w5 _)) (by simp [Value.oneCell'])
              (by omega) hn1 hn2 (by have := hCa.size; simp; omega) (w5.heap.size + 1) (by simp) ?_; intro gg cap w6 hown1 hgrow hat hlt))
      all_goals
       have hs5 := hCa.size
       have hs6 := hgrow.size
       simp at hs6
       have hB6 : Below w.heap.size w w6 := ((below_chg hbel hCa hp (by omega)).alloc (by omega) _).grown hgrow (by simp; omega) fun x hx => by have := (hltr x hx).1; omega
       have hrd6 : RdAt w6 w.heap.size p v L q3 := by
         refine (hrd5.alloc _).chg (F := fun g => Value.ownBlock (.slice ua j uc) = some g) (⟨hgrow.os, hgrow.tape, hgrow.output, hgrow.size, fun k hk hf => hgrow.block k hk fun e => hf e.symm⟩) (fun e => by have := (hltr p e).1; omega) fun g hg e => ?_
         have h1 := (hltr g e).1
         have h2 := (World.ownsRow.lt hrd.row g hg).2
         have h3 := hvl g hg
         omega
       rw [← htk3.out.1] at hown1
       rw [← htk3.out.2] at hrd6
       clear hgrow hat hCa hC3 hC4 hC5 hown5 hrd3 hrd4 hrd5 hr3 hr4 k3 k4 k34 k35 k45 hr34 hr35 hr45
       first
         | (go_roundw
            case rel => exact ⟨j + 1, hjl, by go_num, hown1, hrd6, hB6, by omega⟩
            case measure => simp [intOf]; omega)
         | (go_wp2
            go_roundw
            case rel => exact ⟨j + 1, hjl, by go_num, hown1, hrd6, hB6, by omega⟩
            case measure => simp [intOf]; omega)
    · have hje : j = N := by omega
      subst hje
      have hlen := many_len j s0
      have hbd := many_le j (s := s0) (n := L.length) hle
      obtain ⟨rs, hrs⟩ : ∃ rs, manyR j s0 = rs := ⟨_, rfl⟩
      obtain ⟨s, hs⟩ : ∃ s, manyS j s0 = s := ⟨_, rfl⟩
      rw [hrs] at hown hlen hbd hin'
      rw [hs] at hrd hin'
      clear hrs hs hR2'
      have he := rend_walk hrd
      have hown' := hown
      obtain ⟨ua, uc, rfl, hua⟩ := owns_shape hown
      go_wp2_with fail
      go_at_call 30
      refine he.mono ?_
      clear he
      rintro _ w7 ⟨c, rfl, hc, hB7⟩
      by_cases hend : s = some []
      · have hc0 : c = 0 := hc.2 hend
        subst hc0
        have hown7 := owns_bel hown' hB7
        subst hlen
        have hw := well_walk (SeesR.row hown7) (by omega) (fun r hr => Nat.le_trans (hbd r hr).1 (by omega)) (fun r hr => Nat.le_trans (hbd r hr).2 (by omega))
        cases hF : formed rs with
        | true =>
          rw [hF] at hw
          have hD := Lib.hid (hin'.out.1 hend hF)
          clear hin' hc
          go_wp2_with fail
          go_at_call 22
          refine hw.mono ?_
          clear hw
          rintro _ w8 ⟨rfl, hB8⟩
          go_wp2
          go_ret2
          exact ⟨_, _, rfl, ⟨(fun l h => by rw [hD.out] at h; cases h; exact ⟨rfl, row_base (owns_bel hown7 hB8) (by omega)⟩), (fun h => by rw [hD.out] at h; cases h)⟩, (hbel.trans (hB7.mono (by omega))).trans (hB8.mono (by have := hB7.size; omega))⟩
        | false =>
          rw [hF] at hw
          have hD := Lib.hid (hin'.out.2 (.inr hF))
          clear hin' hc
          go_wp2_with fail
          go_at_call 22
          refine hw.mono ?_
          clear hw
          rintro _ w8 ⟨rfl, hB8⟩
          go_wp2
          go_ret2
          exact ⟨_, _, rfl, ⟨(fun l h => by rw [hD.out] at h; cases h), fun _ => ⟨rfl, rfl⟩⟩, (hbel.trans (hB7.mono (by omega))).trans (hB8.mono (by have := hB7.size; omega))⟩
      · have hc0 : c ≠ 0 := fun e => hend (hc.1 e)
        have hcb : (c != 0) = true := by simpa using hc0
        have hD := Lib.hid (hin'.out.2 (.inl hend))
        clear hin' hc
        go_wp2_with fail
        go_ret2
        exact ⟨_, _, rfl, ⟨(fun l h => by rw [hD.out] at h; cases h), fun _ => ⟨rfl, rfl⟩⟩, hbel.trans (hB7.mono (by omega))⟩
end Go.Proofs.YtdacamjpcdbphaaGreatDoor
