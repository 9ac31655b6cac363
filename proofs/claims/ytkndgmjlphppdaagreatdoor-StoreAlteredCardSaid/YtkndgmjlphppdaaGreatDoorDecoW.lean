/-
  Decode, walked at the bytes of rules of the list.
-/
import Derived.Test.YtkndgmjlphppdaaGreatDoorDurG1a
import Derived.Test.YtkndgmjlphppdaaGreatDoorDurG0a
import Derived.Laws.IdiomStrings
import Derived.Deep.RegionHeld3
import Derived.Deep.RegionLaw
import Derived.Deep.AppendLies
namespace Go.Proofs.YtkndgmjlphppdaaGreatDoor
open Go Go.RowKit Go.Smap

theorem conv_back {w : World} {B : Nat} {v : Value} {x : List UInt8} (h : w.ownsRow B 5 1 v x.length (bv x)) (hx : 0 < x.length) : (convert 47 9 v).run Tryz.prog w = .ok (.string (ofB x)) w := by
  rcases h.2 with ⟨rfl, h0⟩ | ⟨g, cap, cur, rfl, h2, h3, h4, _⟩
  · omega
  · refine run_convert_bytes_back w 47 9 5 ⟨g, 0, none⟩ cap x Tryz.underlying47 Tryz.underlying5 Tryz.underlying9 fun j hj => ?_
    refine h.cells (g := g) rfl j _ ?_
    unfold bv
    rw [List.getElem?_map, List.getElem?_eq_getElem hj]
    rfl
theorem infoRule : (Tryz.prog.info? 86).map (fun i => (i.zero, i.size, i.bytes)) = some (some (.agg #[.string ByteArray.empty, .string ByteArray.empty, .bool false]), 3, 40) := by kernel_rfl
theorem encMany_drop (rs : List Ru) {j : Nat} (hj : j < rs.length) : encMany (rs.drop j) = encR rs[j].name ++ (encR rs[j].text ++ (encB rs[j].runes ++ encMany (rs.drop (j + 1)))) := by
  have e : encMany (rs[j] :: rs.drop (j + 1)) = encOne rs[j] ++ encMany (rs.drop (j + 1)) := rfl
  rw [List.drop_eq_getElem_cons hj, e, encOne, List.append_assoc, List.append_assoc]
theorem owns_bel {w w1 : World} {base : Nat} {e : TypeId} {size : Nat} {v : Value} {n : Nat} {xs : List Value} (h : w.ownsRow base e size v n xs) (hb : Below w.heap.size w w1) : w1.ownsRow base e size v n xs :=
  row_chg h (Chg.of_below (F := fun _ => False) hb) fun _ _ h => h
theorem own_ne {w : World} {B p : Nat} {e : TypeId} {size : Nat} {v : Value} {n : Nat} {xs : List Value} (h : w.ownsRow B e size v n xs) (hp : p < B) : v.ownBlock ≠ some p := fun he => by
  have := (World.ownsRow.lt h p he).1
  omega
theorem rN_enc {x t : List UInt8} (h : x.length < 18446744073709551616) : rN (some (encR x ++ t)) = x ∧ rS (some (encR x ++ t)) = some t := by
  unfold rN rS
  simp [dR_enc h]
theorem bN_enc (b : Bool) (t : List UInt8) : bN (some (encB b ++ t)) = b ∧ bS (some (encB b ++ t)) = some t := by
  unfold bN bS
  simp [dB_enc]
theorem iN_enc {z : Int} (h : In64 z) (t : List UInt8) : iN (some (encI z ++ t)) = z ∧ iS (some (encI z ++ t)) = some t := by
  unfold iN iS
  simp [dI_enc h]
theorem row_only {w w1 : World} {B p : Nat} {e : TypeId} {size : Nat} {v : Value} {n : Nat} {xs : List Value} (h : w.ownsRow B e size v n xs) (hc : Chg (Only p) w w1) (hne : v.ownBlock ≠ some p) : w1.ownsRow B e size v n xs :=
  row_chg h hc fun g hg e' => hne (by rw [hg, show g = p from e'])
set_option maxHeartbeats 8000000 in
set_option maxRecDepth 1000000 in
theorem decode_walk {w : World} {b : Value} {rs : List Ru} (hb : Sees w 1 b (bv (encL rs))) (hG : Good rs) :
    Calls Tryz.prog 60 #[b] w fun e w' => ∃ u, e = .returned (.tuple #[u, .int .i64 0]) ∧ w'.ownsRow w.heap.size 86 3 u rs.length (rs.flatMap Ru.cells) ∧ Below w.heap.size w w' := by
  have hlen := hG.len
  obtain ⟨i0, hi0, hz0, hz1, hz2⟩ := info_parts infoRule
  have hEl := hG.encL_len
  have hin : In64 (rs.length : Int) := ⟨by omega, by omega⟩
  have hrd := read_walk hb (by omega)
  obtain ⟨A0, m0, c0, rfl, _⟩ := id hb
  obtain ⟨L, hL⟩ : ∃ L, encL rs = L := ⟨_, rfl⟩
  have hL' := Lib.hid (show encI (rs.length : Int) ++ encMany rs = L from hL)
  rw [hL] at hrd hEl
  clear hL hb
  go_enter Tryz.func60, Tryz.ntmps60
  go_wp2_with fail
  go_at_call 56
  refine hrd.mono ?_
  clear hrd
  rintro _ w1 ⟨p, v, rfl, hp, hR1, hB1⟩
  have s1 := hB1.size
  have hi := rint_walk hR1
  rw [← hL'.out, (iN_enc hin _).1, (iN_enc hin _).2, hL'.out] at hi
  go_wp2_with fail
  go_at_call 57
  refine hi.mono ?_
  clear hi
  rintro _ w2 ⟨rfl, hR2, hC2⟩
  have s2 := hC2.size
  have hB2 : Below w.heap.size w w2 := below_chg hB1 hC2 hp s1
  have hpv := hR2.ne
  have hR2' : RdAt w2 w.heap.size p v L (some (encMany (rs.drop 0))) := hR2
  have hp2 : p < w2.heap.size := hR2.lt
  have hvl : ∀ g, v.ownBlock = some g → g < w2.heap.size := fun g hg => hR2.own_lt hg
  clear hR1 hC2 hB1 hR2
  go_wp2
  go_loopw [6, 18] (fun u i wr => ∃ j : Nat, j ≤ rs.length ∧ i = .int .i64 j ∧ wr.ownsRow w2.heap.size 86 3 u j ((rs.take j).flatMap Ru.cells) ∧ RdAt wr w.heap.size p v L (some (encMany (rs.drop j))) ∧ Below w.heap.size w wr ∧ w2.heap.size ≤ wr.heap.size) (fun _ i _ => rs.length - (intOf i).toNat)
  case atStart => exact ⟨0, Nat.zero_le _, rfl, World.ownsRow_nil _ _ _ _, hR2', hB2, Nat.le_refl _⟩
  case round =>
    obtain ⟨j, hj, rfl, hown, hrd, hbel, hsz⟩ := hrel
    by_cases hjl : j < rs.length
    · obtain ⟨⟨k, hk, htk⟩, q, hq, hnq⟩ := hG.each rs[j] (List.getElem_mem hjl)
      have hd := encMany_drop rs hjl
      have hnl := word8_len hq
      have htl := txt8_len hk
      have htp : 0 < (txt8 k).length := by
        have : ∀ k, k < 9 → 0 < (txt8 k).length := by decide
        exact this k hk
      rw [← hnq] at hnl
      rw [← htk] at htl htp
      have htk3 : Hid ((rs.take (j + 1)).flatMap Ru.cells = (rs.take j).flatMap Ru.cells ++ [.string (ofB rs[j].name), .string (ofB rs[j].text), .bool rs[j].runes]) := by
        show _ = _
        rw [List.take_succ_eq_append_getElem hjl, List.flatMap_append]
        simp [Ru.cells]
      obtain ⟨nm, hnm⟩ : ∃ s, rs[j].name = s := ⟨_, rfl⟩
      obtain ⟨tx, htx⟩ : ∃ s, rs[j].text = s := ⟨_, rfl⟩
      obtain ⟨ru, hru⟩ : ∃ s, rs[j].runes = s := ⟨_, rfl⟩
      obtain ⟨T, hT⟩ : ∃ T, encMany (rs.drop (j + 1)) = T := ⟨_, rfl⟩
      rw [hnm, htx, hru] at htk3
      rw [hnm, htx, hru, hT] at hd
      rw [hnm] at hnl
      rw [htx] at htl htp
      rw [hd] at hrd
      have HT := Lib.hid hT
      have hltr := World.ownsRow.lt hown
      have hpl := hrd.lt
      obtain ⟨ua, uc, rfl, hua⟩ := owns_shape hown
      have hup := own_ne hown hp2
      have hpw : p < wr.drew.heap.size := hpl
      have hpw' : wr.drew.heap.size = wr.heap.size := rfl
      have h1 := rraw_walk hrd.drew
      rw [(rN_enc (by omega)).1, (rN_enc (by omega)).2] at h1
      have h2 : ∀ w', RdAt w' w.heap.size p v L (some (encR tx ++ (encB ru ++ T))) → Calls Tryz.prog 58 #[.pointer (some ⟨p, 0, none⟩)] w' fun e w2 => ∃ u, e = .returned u ∧ w2.ownsRow w'.heap.size 5 1 u tx.length (bv tx) ∧ RdAt w2 w.heap.size p v L (some (encB ru ++ T)) ∧ Chg (Only p) w' w2 := fun w' h => by
        have := rraw_walk h
        rw [(rN_enc (by omega)).1, (rN_enc (by omega)).2] at this
        exact this
      have h3 : ∀ w', RdAt w' w.heap.size p v L (some (encB ru ++ T)) → Calls Tryz.prog 79 #[.pointer (some ⟨p, 0, none⟩)] w' fun e w2 => e = .returned (.bool ru) ∧ RdAt w2 w.heap.size p v L (some T) ∧ Chg (Only p) w' w2 := fun w' h => by
        have := rbool_walk h
        rw [(bN_enc _ _).1, (bN_enc _ _).2] at this
        exact this
      clear hnm htx hru hT hd hnq htk hG hR2'
      have hn1 : j + 1 ≤ maxLen := by unfold maxLen; omega
      have hn2 : (j + 1) * 40 ≤ 140737488355328 := by omega
      go_wp2_with fail
      go_region_law
        (first
          | (go_simp; go_at_call 58; refine h1.mono ?_; clear h1; rintro _ w3 ⟨u3, rfl, hr3, hrd3, hC3⟩; obtain ⟨A3, c3, rfl, _⟩ := row_form hr3; have k3 := conv_back hr3 (by omega); have hC3s := hC3.size)
          | (go_simp; go_at_call 58; refine (h2 _ (by assumption)).mono ?_; clear h2; rintro _ w4 ⟨u4, rfl, hr4, hrd4, hC4⟩; obtain ⟨A4, c4, rfl, _⟩ := row_form hr4; have k4 := conv_back hr4 (by omega); have hC4s := hC4.size; have hr34 := row_only hr3 hC4 (own_ne hr3 hpw); have k34 := conv_back hr34 (by omega))
          | (go_simp; go_at_call 79; refine (h3 _ (by assumption)).mono ?_; clear h3; rintro _ w5 ⟨rfl, hrd5, hC5⟩; have hC5s := hC5.size; have hCa : Chg (Only p) wr w5 := (((Chg.refl _ wr).drew.trans hC3 fun _ _ h => h).trans hC4 fun _ _ h => h).trans hC5 fun _ _ h => h; have hown5 := row_only hown hCa hup; have hr35 := row_only hr34 hC5 (own_ne hr3 hpw); have k35 := conv_back hr35 (by omega); have hr45 := row_only hr4 hC5 (own_ne hr4 (by omega)); have k45 := conv_back hr45 (by omega))
          | (refine step_append_lies _ (by rfl) _ _ _ (by rfl) w2.heap.size 86 i0 _ 3 40 Tryz.underlying37 hi0 hz0 hz1 hz2 rfl (by omega) _ j ((rs.take j).flatMap Ru.cells) (by rfl) (hown5.alloc _)
              ⟨w5.heap.size, 0, none⟩ 1 1 [.string (ofB nm), .string (ofB tx), .bool ru] (by rfl) (by rfl) (World.news_of_block (cs := #[.string (ofB nm), .string (ofB tx), .bool ru]) (t := 86) (fr := (0, 0)) (heap_alloc_new w5 _)) (by simp [Value.oneCell'])
              (by omega) hn1 hn2 (by have := hCa.size; simp; omega) (w5.heap.size + 1) (by simp) ?_; intro gg cap w6 hown1 hgrow hat hlt))
      all_goals
       have hs5 := hCa.size
       have hs6 := hgrow.size
       simp at hs6
       have hB6 : Below w.heap.size w w6 := ((below_chg hbel hCa hp (by omega)).alloc (by omega) _).grown hgrow (by simp; omega) fun x hx => by have := (hltr x hx).1; omega
       have hrd6 : RdAt w6 w.heap.size p v L (some T) := by
         refine (hrd5.alloc _).chg (F := fun g => Value.ownBlock (.slice ua j uc) = some g) (⟨hgrow.os, hgrow.tape, hgrow.output, hgrow.size, fun k hk hf => hgrow.block k hk fun e => hf e.symm⟩) (fun e => by have := (hltr p e).1; omega) fun g hg e => ?_
         have h1 := (hltr g e).1
         have h2 := (World.ownsRow.lt hrd.row g hg).2
         have h3 := hvl g hg
         omega
       rw [← htk3.out] at hown1
       rw [← HT.out] at hrd6
       clear hgrow hat hCa hC3 hC4 hC5 hown5 hrd3 hrd4 hrd5 hr3 hr4 k3 k4 k34 k35 k45 hr34 hr35 hr45
       first
         | (go_roundw
            case rel => exact ⟨j + 1, hjl, by go_num, hown1, hrd6, hB6, by omega⟩
            case measure => simp [intOf]; omega)
         | (go_wp2
            go_roundw
            case rel => exact ⟨j + 1, hjl, by go_num, hown1, hrd6, hB6, by omega⟩
            case measure => simp [intOf]; omega)
    · have hje : j = rs.length := by omega
      subst hje
      rw [List.take_length] at hown
      have hd0 : encMany (rs.drop rs.length) = [] := by rw [List.drop_length]; rfl
      rw [hd0] at hrd
      have he := rend_walk hrd
      obtain ⟨ua, uc, rfl, hua⟩ := owns_shape hown
      go_wp2_with fail
      go_at_call 59
      refine he.mono ?_
      clear he
      rintro _ w7 ⟨c, rfl, hc, hB7⟩
      have hc0 : c = 0 := hc.2 rfl
      subst hc0
      have hown7 := owns_bel hown hB7
      have hw := well_walk hown7 hG
      go_wp2_with fail
      go_at_call 64
      refine hw.mono ?_
      clear hw
      rintro _ w8 ⟨rfl, hB8⟩
      go_wp2
      go_ret2
      exact ⟨_, rfl, row_base (owns_bel hown7 hB8) (by omega), (hbel.trans (hB7.mono (by omega))).trans (hB8.mono (by have := hB7.size; omega))⟩
end Go.Proofs.YtkndgmjlphppdaaGreatDoor
