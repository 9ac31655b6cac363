/-
  StoreApart's law, walked: the stores are used by turns.
-/
import Derived.Test.YtkndgmjlphppdaaGreatDoorApartG2b
import Derived.Deep.RegionHeld3
namespace Go.Proofs.YtkndgmjlphppdaaGreatDoor
open Go Go.RowKit Go.Imap

set_option maxHeartbeats 16000000 in
set_option maxRecDepth 1000000 in
theorem apart_walk {w : World} {x y : Value} {l : List Int} {o : List Bool} (hl : SlArg w x l) (ho : BArg w y o) :
    Calls Tryz.prog 3 #[x, y] w fun e w' => e = .returned (.bool true) ∧ Below w.heap.size w w' := by
  have hnew := new_step (room := 131072) (by omega) w
  obtain ⟨xa, xc, rfl, _⟩ := hl.val
  obtain ⟨ya, yc, rfl, _⟩ := ho.val
  go_enter Tryz.func3, Tryz.ntmps3
  go_wp2_with fail
  go_at_call 6
  refine hnew.mono ?_
  clear hnew
  rintro _ w1 ⟨db, mb, rv1, rfl, hE1, hB1⟩
  have hop := open_step (k := 7) (l := []) hE1 (by omega) RecsOk.nil rfl
  go_wp2_with fail
  go_at_call 7
  refine hop.mono ?_
  clear hop
  rintro _ w2 ⟨sb, lg, vv, its, rfl, hO⟩
  obtain ⟨rv2, hE2⟩ := hO.env
  have hS2 := hO.sto
  have hB2 := hB1.trans hO.bel
  clear hO hE1 hB1
  have hop := open_step (k := 8) (l := []) hE2 (by omega) RecsOk.nil rfl
  go_wp2_with fail
  go_at_call 7
  refine hop.mono ?_
  clear hop
  rintro _ w3 ⟨sb2, lg2, vv2, its2, rfl, hO⟩
  obtain ⟨rv3, hE3⟩ := hO.env
  have hT3 := hO.sto
  obtain ⟨hS3, hTw⟩ := hO.other hS2
  have hTw3 := (hTw (by omega)).symm
  have hB3 := hB2.trans hO.bel
  clear hO hE2 hB2 hS2 hTw
  have hst0 : One w ((w3.alloc (.cells #[.pointer (some ⟨sb, 0, none⟩), .pointer (some ⟨sb2, 0, none⟩)] 28)).alloc (.cells #[.slice none 0 0, .slice none 0 0] 39)) w.heap.size db mb w3.heap.size (w3.heap.size + 1) 0 sb lg 7 sb2 lg2 8 0 0 rv3 (Dk.new 131072).harden.harden vv vv2 its its2 [] [] (.slice none 0 0) (.slice none 0 0) [] [] #[.pointer (some ⟨sb, 0, none⟩), .pointer (some ⟨sb2, 0, none⟩)] #[.slice none 0 0, .slice none 0 0] := by
    have hbb : Below w3.heap.size w3 ((w3.alloc (.cells #[.pointer (some ⟨sb, 0, none⟩), .pointer (some ⟨sb2, 0, none⟩)] 28)).alloc (.cells #[.slice none 0 0, .slice none 0 0] 39)) := ((Below.refl _ _).alloc (Nat.le_refl _) _).alloc (by simp) _
    have hA := Blk.made (w3.alloc (.cells #[.pointer (some ⟨sb, 0, none⟩), .pointer (some ⟨sb2, 0, none⟩)] 28)) 39 #[.slice none 0 0, .slice none 0 0]
    rw [World.size_alloc] at hA
    have hbs := hB3.size
    exact ⟨hE3.bel hbb, hS3.bel hbb, hT3.bel hbb, hTw3, (Blk.made w3 _ _).alloc _, hA, ⟨World.ownsRow_nil _ _ _ _, fun x hx => by simp at hx⟩, ⟨World.ownsRow_nil _ _ _ _, fun x hx => by simp at hx⟩, fun g hg => (by cases hg), rfl, rfl, rfl, rfl, rfl, rfl, fun x hx => (by simp at hx), fun x hx => (by simp at hx), rfl, hB3.trans (hbb.mono hbs), by omega, rfl, rfl⟩
  clear hE3 hS3 hT3 hTw3
  have hs3 := hB3.size
  obtain ⟨i0, hi0, hz0, hz1, hz2⟩ := info_parts' infoRefs
  obtain ⟨gS, hgS⟩ : ∃ g, w3.heap.size = g := ⟨_, rfl⟩
  go_wp2
  go_loopw [13] (fun i wr => ∃ (j : Nat) (rv : Nat → Value) (d : Dk) (vv vv2 : Value) (its its2 : List (Value × List Ru)) (l l2 : List Rec) (a a2 : Value) (r r2 : List (Value × List Ru)), j ≤ 8 ∧ i = .int .i64 j ∧ One w wr w.heap.size db mb gS (gS + 1) 0 sb lg 7 sb2 lg2 8 (300 * j) j rv d vv vv2 its its2 l l2 a a2 r r2 #[.pointer (some ⟨sb, 0, none⟩), .pointer (some ⟨sb2, 0, none⟩)] #[a, a2]) (fun i _ => 8 - (intOf i).toNat)
  case atStart => rw [hgS] at hst0; exact ⟨0, _, _, _, _, _, _, _, _, _, _, _, _, by omega, rfl, hst0⟩
  case round =>
    clear hst0
    obtain ⟨j, rv, d, vv, vv2, its, its2, l1, l2, a, a2, r, r2, hj, rfl, hI⟩ := hrel
    by_cases hjl : j < o.length
    · by_cases hj8 : j < 8
      · obtain ⟨y1, y2, hye, hyv⟩ := ho.val
        cases hye
        obtain ⟨yb, yo, rfl, hyb, hyc⟩ := hyv (fun e => by rw [e] at hjl; simp at hjl)
        have hcy := (hI.bel.cell (p := ⟨yb, yo + j, none⟩) hyb).trans (hyc j o[j] (List.getElem?_eq_getElem hjl))
        have hfew := few_walk (hl.below hI.bel) (5 * j) (by omega)
        have e5 : ((5 * j : Nat) : Int) = 5 * (j : Int) := by omega
        rw [e5] at hfew
        have hw5 : IntKind.i64.wrap (5 * (j : Int)) = 5 * (j : Int) := by rw [wrapS (by omega) (by omega)]
        have hw5' : wrap64 (5 * (j : Int)) = 5 * (j : Int) := by unfold wrap64; omega
        have hi0' : (0 : Int) ≤ (j : Int) := Int.natCast_nonneg _
        have hi1 : (j : Int) < (o.length : Int) := by omega
        have hi8 : (j : Int) < 8 := by omega
        have hsum := hI.sum
        have hlen1 := hI.len
        have hlen2 := hI.len2
        have hll : l1.length < 998 ∧ l2.length < 998 := by omega
        have hwB := hI.env.hB
        cases hb : o[j] with
        | true =>
          rw [hb] at hcy
          have hX := hI.turn (kk2 := 1) rfl rfl
          clear hI
          have hvl := hX.vlen
          obtain ⟨aA, aC, hae, _⟩ := row_form hX.al.row
          subst hae
          go_wp2_with fail
          go_at_call 8
          refine hfew.mono ?_
          clear hfew
          rintro _ w4 ⟨xv, rs, rfl, hx4, hx3, hfat, hB4⟩
          have hG := good_of hx3 hfat
          obtain ⟨xq, xz, rfl, _⟩ := row_form hx4
          have hX4 := hX.bel' hB4
          have hown := own_walk (w := w4.drew) (owns_bel hx4 (Below.refl _ _).drew) (by omega)
          have c4 := hX4.cellS
          clear hX hfat hcy
          go_wp2_with fail
          go_region_held3 (fun w' => w'.cell? ⟨gS, 1, none⟩ = some (.pointer (some ⟨sb2, 0, none⟩)))
            (first
              | go_keep)
            (first
              | (go_at_call 10; refine hown.mono ?_; clear hown; rintro _ w5 ⟨v5, rfl, hr5, hB5⟩; have hX5 := hX4.bel' ((Below.refl w4.heap.size w4).drew.trans hB5); have c5 := hX5.cellS; have hx5 := owns_bel hx4 ((Below.refl w4.heap.size w4).drew.trans hB5); have hsv := save_step hX5.env hX5.sto (by omega) (by omega) hr5 hG; rw [hvl] at hsv)
              | (go_at_call 9; refine hsv.mono ?_; clear hsv; rintro _ w6 ⟨vv6, its6, rfl, hA6⟩; obtain ⟨F6, hF6, hT6⟩ := hA6.chg; have bS6 := hX5.bS.ft hF6 hT6 (by decide) (by decide) (by decide) (by decide) (by decide); have c6 : w6.cell? ⟨gS, 1, none⟩ = some (.pointer (some ⟨sb2, 0, none⟩)) := (bS6.at' 1).trans hX5.cS))
          obtain ⟨rv6, hE6⟩ := hA6.env
          have hA6 := hA6
          have hS6 := hA6.sto
          have bA6 := hX5.bA.ft hF6 hT6 (by decide) (by decide) (by decide) (by decide) (by decide)
          have a6 : w6.cell? ⟨gS + 1, 1, none⟩ = some (.slice aA r2.length aC) := (bA6.at' 1).trans hX5.cA
          have hus := use_step (i := r2.length) hE6 hS6 (by simp; omega) (by omega) (by rw [versOf_save, List.length_append, hvl]; simp)
          have al6 := hX5.al.ft hF6 hT6
          go_wp2_with fail
          go_at_call 11
          refine hus.mono ?_
          clear hus
          rintro _ w7 ⟨rfl, hA7⟩
          obtain ⟨F7, hF7, hT7⟩ := hA7.chg
          obtain ⟨rv7, hE7⟩ := hA7.env
          have bA7 := bA6.ft hF7 hT7 (by decide) (by decide) (by decide) (by decide) (by decide)
          have a7 : w7.cell? ⟨gS + 1, 1, none⟩ = some (.slice aA r2.length aC) := (bA7.at' 1).trans hX5.cA
          have al7 := al6.ft hF7 hT7
          have hlt7 := bA7.lt
          have hn1 : r2.length + 1 ≤ maxLen := by unfold maxLen; omega
          have hn2 : (r2.length + 1) * 24 ≤ 140737488355328 := by omega
          have hsee := sees_refs w7 (.slice xq rs.length xz)
          have hB7 := hE7.hB
          have HA6 := Lib.hid hA6
          have HA7 := Lib.hid hA7
          have HX5 := Lib.hid hX5
          clear hA6 hA7 hX5 a6 c6 bS6 hS6 al6 hE6 hx4 hX4 c4 c5 hr5
          go_wp2_with (first
            | (at_builtin; refine wpList_append_sees rfl _ _ 39 rfl i0 _ 24 Tryz.underlying39 hi0 hz0 hz1 hz2 rfl (by decide) (.slice aA r2.length aC) r2.length (r2.map Prod.fst) rfl (al7.row.alloc _) _ 1 _ rfl hsee rfl (by intro u hu; simp at hu; subst hu; rfl) hn1 hn2 (by simp; omega) ?_; intro v8 w8 hown1 hgrow hat; obtain ⟨A8, k8, rfl, _⟩ := row_form hown1; have hbl8 := (bA7.alloc (.cells #[.slice xq rs.length xz] 33)).grown hgrow (fun e => row_blk al7.row bA7 (by decide) e.symm); have q1 : w8.cell? ⟨gS + 1, 1, none⟩ = some (.slice aA r2.length aC) := (hbl8.at' 1).trans HX5.out.cA; have q2 := hbl8.thaw 1; have hsl8 := hbl8.lt)
            | go_in)
          obtain ⟨rv9, hN⟩ := HX5.out.next hG hx5 hwB HA6.out HA7.out hown1 hgrow hat
          have hN2 := hN.turn (kk2 := 0) rfl rfl
          go_roundw
          case rel => exact ⟨j + 1, _, _, _, _, _, _, _, _, _, _, _, _, by omega, by go_num, hN2⟩
          case measure => simp [intOf]; omega
        | false =>
          rw [hb] at hcy
          have hX := hI
          clear hI
          have hvl := hX.vlen
          obtain ⟨aA, aC, hae, _⟩ := row_form hX.al.row
          subst hae
          go_wp2_with fail
          go_at_call 8
          refine hfew.mono ?_
          clear hfew
          rintro _ w4 ⟨xv, rs, rfl, hx4, hx3, hfat, hB4⟩
          have hG := good_of hx3 hfat
          obtain ⟨xq, xz, rfl, _⟩ := row_form hx4
          have hX4 := hX.bel' hB4
          have hown := own_walk (w := w4.drew) (owns_bel hx4 (Below.refl _ _).drew) (by omega)
          have c4 := hX4.cellS
          clear hX hfat hcy
          go_wp2_with fail
          go_region_held3 (fun w' => w'.cell? ⟨gS, 0, none⟩ = some (.pointer (some ⟨sb, 0, none⟩)))
            (first
              | go_keep)
            (first
              | (go_at_call 10; refine hown.mono ?_; clear hown; rintro _ w5 ⟨v5, rfl, hr5, hB5⟩; have hX5 := hX4.bel' ((Below.refl w4.heap.size w4).drew.trans hB5); have c5 := hX5.cellS; have hx5 := owns_bel hx4 ((Below.refl w4.heap.size w4).drew.trans hB5); have hsv := save_step hX5.env hX5.sto (by omega) (by omega) hr5 hG; rw [hvl] at hsv)
              | (go_at_call 9; refine hsv.mono ?_; clear hsv; rintro _ w6 ⟨vv6, its6, rfl, hA6⟩; obtain ⟨F6, hF6, hT6⟩ := hA6.chg; have bS6 := hX5.bS.ft hF6 hT6 (by decide) (by decide) (by decide) (by decide) (by decide); have c6 : w6.cell? ⟨gS, 0, none⟩ = some (.pointer (some ⟨sb, 0, none⟩)) := (bS6.at' 0).trans hX5.cS))
          obtain ⟨rv6, hE6⟩ := hA6.env
          have hA6 := hA6
          have hS6 := hA6.sto
          have bA6 := hX5.bA.ft hF6 hT6 (by decide) (by decide) (by decide) (by decide) (by decide)
          have a6 : w6.cell? ⟨gS + 1, 0, none⟩ = some (.slice aA r.length aC) := (bA6.at' 0).trans hX5.cA
          have hus := use_step (i := r.length) hE6 hS6 (by simp; omega) (by omega) (by rw [versOf_save, List.length_append, hvl]; simp)
          have al6 := hX5.al.ft hF6 hT6
          go_wp2_with fail
          go_at_call 11
          refine hus.mono ?_
          clear hus
          rintro _ w7 ⟨rfl, hA7⟩
          obtain ⟨F7, hF7, hT7⟩ := hA7.chg
          obtain ⟨rv7, hE7⟩ := hA7.env
          have bA7 := bA6.ft hF7 hT7 (by decide) (by decide) (by decide) (by decide) (by decide)
          have a7 : w7.cell? ⟨gS + 1, 0, none⟩ = some (.slice aA r.length aC) := (bA7.at' 0).trans hX5.cA
          have al7 := al6.ft hF7 hT7
          have hlt7 := bA7.lt
          have hn1 : r.length + 1 ≤ maxLen := by unfold maxLen; omega
          have hn2 : (r.length + 1) * 24 ≤ 140737488355328 := by omega
          have hsee := sees_refs w7 (.slice xq rs.length xz)
          have hB7 := hE7.hB
          have HA6 := Lib.hid hA6
          have HA7 := Lib.hid hA7
          have HX5 := Lib.hid hX5
          clear hA6 hA7 hX5 a6 c6 bS6 hS6 al6 hE6 hx4 hX4 c4 c5 hr5
          go_wp2_with (first
            | (at_builtin; refine wpList_append_sees rfl _ _ 39 rfl i0 _ 24 Tryz.underlying39 hi0 hz0 hz1 hz2 rfl (by decide) (.slice aA r.length aC) r.length (r.map Prod.fst) rfl (al7.row.alloc _) _ 1 _ rfl hsee rfl (by intro u hu; simp at hu; subst hu; rfl) hn1 hn2 (by simp; omega) ?_; intro v8 w8 hown1 hgrow hat; obtain ⟨A8, k8, rfl, _⟩ := row_form hown1; have hbl8 := (bA7.alloc (.cells #[.slice xq rs.length xz] 33)).grown hgrow (fun e => row_blk al7.row bA7 (by decide) e.symm); have q1 : w8.cell? ⟨gS + 1, 0, none⟩ = some (.slice aA r.length aC) := (hbl8.at' 0).trans HX5.out.cA; have q2 := hbl8.thaw 0; have hsl8 := hbl8.lt)
            | go_in)
          obtain ⟨rv9, hN⟩ := HX5.out.next hG hx5 hwB HA6.out HA7.out hown1 hgrow hat
          go_roundw
          case rel => exact ⟨j + 1, _, _, _, _, _, _, _, _, _, _, _, _, by omega, by go_num, hN⟩
          case measure => simp [intOf]; omega
      · have hj9 : ¬ (j : Int) < 8 := by omega
        have hj10 : (j : Int) < (o.length : Int) := by omega
        go_wp2_with fail
        obtain ⟨w9, hw9⟩ : ∃ z, z = wr := ⟨_, rfl⟩
        rw [← hw9] at hI ⊢
        clear hw9
        go_loopw [18] (fun i wr => ∃ (kk : Nat) (rv : Nat → Value) (d : Dk), kk ≤ 2 ∧ i = .int .i64 kk ∧ One w wr w.heap.size db mb gS (gS + 1) 0 sb lg 7 sb2 lg2 8 (300 * j) j rv d vv vv2 its its2 l1 l2 a a2 r r2 #[.pointer (some ⟨sb, 0, none⟩), .pointer (some ⟨sb2, 0, none⟩)] #[a, a2]) (fun i _ => 2 - (intOf i).toNat)
        case atStart => exact ⟨0, rv, d, by omega, rfl, hI⟩
        case round =>
          clear hI
          obtain ⟨kk, rv, d, hk2, rfl, hI⟩ := hrel
          by_cases hkk : kk < 2
          · rcases (show kk = 0 ∨ kk = 1 by omega) with rfl | rfl
            · have hX := hI
              obtain ⟨aA, aC, hae, _⟩ := row_form hX.al.row
              subst hae
              have hop := open_step (k := 7) (l := l1) hX.env (by omega) hX.sto.ok hX.sto.bytes
              go_wp2_with fail
              go_at_call 7
              refine hop.mono ?_
              clear hop
              rintro _ w4 ⟨sn, ln, vn, itn, rfl, hO⟩
              obtain ⟨rv4, hX4⟩ := hX.opened hO
              have hN := hO.sto
              have hil : itn.length = r.length := by rw [hN.ilen, hX.vers, List.length_map]
              have hsn : itn.map Prod.snd = r.map Prod.snd := by rw [hN.its, hX.vers]
              have hle := len_walk hN.st.drew
              rw [hil] at hle
              have hac := active_walk hN.st.drew
              rw [hX.act] at hac
              have hlo := len_walk hX4.sto.st.drew
              rw [hX4.sto.ilen, hX4.vlen] at hlo
              have c4 := hX4.cellS
              have a4 : w4.cell? ⟨gS + 1, 0, none⟩ = some (.slice aA r.length aC) := (hX4.bA.at' 0).trans hX4.cA
              have hw1 : wrap64 ((r.length : Int) - 1) = (r.length : Int) - 1 := by have := hX.len; have := hX.sto.ok.len; unfold wrap64; omega
              have hw2 : IntKind.i64.wrap ((r.length : Int) - 1) = (r.length : Int) - 1 := by have := hX.len; have := hX.sto.ok.len; rw [wrapS (by omega) (by omega)]
              have hgr : r.length ≤ 1000 := by have := hX.len; have := hX.sto.ok.len; omega
              clear hX hO
              go_wp2_with fail
              go_region_held3 (fun w' => w'.cell? ⟨gS + 1, 0, none⟩ = some (.slice aA r.length aC) ∧ w'.cell? ⟨gS, 0, none⟩ = some (.pointer (some ⟨sb, 0, none⟩)))
                (first
                  | go_keep)
                (first
                  | (go_at_call 12; refine hle.mono ?_; clear hle; rintro _ wa ⟨rfl, rfl⟩)
                  | (go_at_call 13; refine hac.mono ?_; clear hac; rintro _ wb ⟨rfl, rfl⟩)
                  | (go_at_call 12; refine hlo.mono ?_; clear hlo; rintro _ wc ⟨rfl, rfl⟩))
              have HN := Lib.hid hN
              have HX4 := Lib.hid hX4
              clear hX4 hN
              go_wp2
              go_loopw [21] (fun i wr => ∃ q : Nat, q ≤ r.length ∧ i = .int .i64 q ∧ Below w4.heap.size w4 wr) (fun i _ => r.length - (intOf i).toNat)
              case atStart => exact ⟨0, Nat.zero_le _, rfl, (Below.refl _ _).drew⟩
              case round =>
                obtain ⟨q, hq, rfl, hbel⟩ := hrel
                have hX5 := HX4.out.bel' hbel
                have a5 : _ = some (Value.slice aA r.length aC) := (hX5.bA.at' 0).trans hX5.cA
                by_cases hql : q < r.length
                · have hN5 := HN.out.bel hbel
                  have hqi : q < itn.length := by omega
                  have heq : itn[q].2 = r[q].2 := by
                    have h1 : (itn.map Prod.snd)[q]'(by simpa using hqi) = (r.map Prod.snd)[q]'(by simpa using hql) := by simp only [hsn]
                    simpa using h1
                  have hx8 := hX5.good r[q] (List.getElem_mem hql)
                  have hld := load_walk hN5.st hqi (by omega) (by rw [heq]; omega)
                  rw [heq] at hld
                  obtain ⟨ag, ac, hage, haglt, hagc⟩ := row_at hX5.al.row hql
                  have hea := hX5.al.each r[q] (List.getElem_mem hql)
                  rw [List.getElem?_map, List.getElem?_eq_getElem hql] at hagc
                  obtain ⟨z, hz⟩ : ∃ z, r[q] = z := ⟨_, rfl⟩
                  rw [hz] at hld hx8 hea hagc
                  have hagc' : _ = some z.1 := hagc
                  obtain ⟨zA, zC, hze, _⟩ := row_form hea
                  rw [hze] at hagc' hea
                  cases hage
                  have c5 := hX5.cellS
                  have hgalt := hX5.bA.lt
                  have hq0 : (0 : Int) ≤ (q : Int) := Int.natCast_nonneg _
                  have hq1 : (q : Int) < (r.length : Int) := by omega
                  clear heq hagc hz hX5 hN5
                  go_wp2_with fail
                  go_at_call 14
                  refine hld.mono ?_
                  clear hld
                  rintro _ w5 ⟨u5, rfl, hr5, hB5⟩
                  have hea5 := owns_bel hea hB5
                  have hsame := same_walk hr5 hea5 (by omega)
                  have a6 := (hB5.cell (p := ⟨gS + 1, 0, none⟩) hgalt).trans a5
                  have g6 := (hB5.cell (p := ⟨ag, q, none⟩) haglt).trans hagc'
                  obtain ⟨uA, uC, rfl, _⟩ := row_form hr5
                  go_wp2_with fail
                  go_at_call 15
                  refine hsame.mono ?_
                  clear hsame
                  rintro _ w6 ⟨rfl, hB6⟩
                  go_wp2
                  go_roundw
                  case rel => exact ⟨q + 1, hql, by go_num, (hbel.trans (hB5.mono hbel.size)).trans (hB6.mono (Nat.le_trans hbel.size hB5.size))⟩
                  case measure => simp [intOf]; omega
                · have hqe : q = r.length := by omega
                  subst hqe
                  clear hX5
                  go_wp2_with fail
                  go_roundw
                  case rel =>
                    have hX6 := HX4.out.bel' hbel
                    first
                      | exact ⟨1, _, _, by omega, rfl, hX6⟩
                      | exact ⟨2, _, _, by omega, rfl, hX6.turn (kk2 := 0) rfl rfl⟩
                  case measure => simp [intOf]
            · have hX := hI.turn (kk2 := 1) rfl rfl
              obtain ⟨aA, aC, hae, _⟩ := row_form hX.al.row
              subst hae
              have hop := open_step (k := 8) (l := l2) hX.env (by omega) hX.sto.ok hX.sto.bytes
              go_wp2_with fail
              go_at_call 7
              refine hop.mono ?_
              clear hop
              rintro _ w4 ⟨sn, ln, vn, itn, rfl, hO⟩
              obtain ⟨rv4, hX4⟩ := hX.opened hO
              have hN := hO.sto
              have hil : itn.length = r2.length := by rw [hN.ilen, hX.vers, List.length_map]
              have hsn : itn.map Prod.snd = r2.map Prod.snd := by rw [hN.its, hX.vers]
              have hle := len_walk hN.st.drew
              rw [hil] at hle
              have hac := active_walk hN.st.drew
              rw [hX.act] at hac
              have hlo := len_walk hX4.sto.st.drew
              rw [hX4.sto.ilen, hX4.vlen] at hlo
              have c4 := hX4.cellS
              have a4 : w4.cell? ⟨gS + 1, 1, none⟩ = some (.slice aA r2.length aC) := (hX4.bA.at' 1).trans hX4.cA
              have hw1 : wrap64 ((r2.length : Int) - 1) = (r2.length : Int) - 1 := by have := hX.len; have := hX.sto.ok.len; unfold wrap64; omega
              have hw2 : IntKind.i64.wrap ((r2.length : Int) - 1) = (r2.length : Int) - 1 := by have := hX.len; have := hX.sto.ok.len; rw [wrapS (by omega) (by omega)]
              have hgr : r2.length ≤ 1000 := by have := hX.len; have := hX.sto.ok.len; omega
              clear hX hO
              go_wp2_with fail
              go_region_held3 (fun w' => w'.cell? ⟨gS + 1, 1, none⟩ = some (.slice aA r2.length aC) ∧ w'.cell? ⟨gS, 1, none⟩ = some (.pointer (some ⟨sb2, 0, none⟩)))
                (first
                  | go_keep)
                (first
                  | (go_at_call 12; refine hle.mono ?_; clear hle; rintro _ wa ⟨rfl, rfl⟩)
                  | (go_at_call 13; refine hac.mono ?_; clear hac; rintro _ wb ⟨rfl, rfl⟩)
                  | (go_at_call 12; refine hlo.mono ?_; clear hlo; rintro _ wc ⟨rfl, rfl⟩))
              have HN := Lib.hid hN
              have HX4 := Lib.hid hX4
              clear hX4 hN
              go_wp2
              go_loopw [21] (fun i wr => ∃ q : Nat, q ≤ r2.length ∧ i = .int .i64 q ∧ Below w4.heap.size w4 wr) (fun i _ => r2.length - (intOf i).toNat)
              case atStart => exact ⟨0, Nat.zero_le _, rfl, (Below.refl _ _).drew⟩
              case round =>
                obtain ⟨q, hq, rfl, hbel⟩ := hrel
                have hX5 := HX4.out.bel' hbel
                have a5 : _ = some (Value.slice aA r2.length aC) := (hX5.bA.at' 1).trans hX5.cA
                by_cases hql : q < r2.length
                · have hN5 := HN.out.bel hbel
                  have hqi : q < itn.length := by omega
                  have heq : itn[q].2 = r2[q].2 := by
                    have h1 : (itn.map Prod.snd)[q]'(by simpa using hqi) = (r2.map Prod.snd)[q]'(by simpa using hql) := by simp only [hsn]
                    simpa using h1
                  have hx8 := hX5.good r2[q] (List.getElem_mem hql)
                  have hld := load_walk hN5.st hqi (by omega) (by rw [heq]; omega)
                  rw [heq] at hld
                  obtain ⟨ag, ac, hage, haglt, hagc⟩ := row_at hX5.al.row hql
                  have hea := hX5.al.each r2[q] (List.getElem_mem hql)
                  rw [List.getElem?_map, List.getElem?_eq_getElem hql] at hagc
                  obtain ⟨z, hz⟩ : ∃ z, r2[q] = z := ⟨_, rfl⟩
                  rw [hz] at hld hx8 hea hagc
                  have hagc' : _ = some z.1 := hagc
                  obtain ⟨zA, zC, hze, _⟩ := row_form hea
                  rw [hze] at hagc' hea
                  cases hage
                  have c5 := hX5.cellS
                  have hgalt := hX5.bA.lt
                  have hq0 : (0 : Int) ≤ (q : Int) := Int.natCast_nonneg _
                  have hq1 : (q : Int) < (r2.length : Int) := by omega
                  clear heq hagc hz hX5 hN5
                  go_wp2_with fail
                  go_at_call 14
                  refine hld.mono ?_
                  clear hld
                  rintro _ w5 ⟨u5, rfl, hr5, hB5⟩
                  have hea5 := owns_bel hea hB5
                  have hsame := same_walk hr5 hea5 (by omega)
                  have a6 := (hB5.cell (p := ⟨gS + 1, 1, none⟩) hgalt).trans a5
                  have g6 := (hB5.cell (p := ⟨ag, q, none⟩) haglt).trans hagc'
                  obtain ⟨uA, uC, rfl, _⟩ := row_form hr5
                  go_wp2_with fail
                  go_at_call 15
                  refine hsame.mono ?_
                  clear hsame
                  rintro _ w6 ⟨rfl, hB6⟩
                  go_wp2
                  go_roundw
                  case rel => exact ⟨q + 1, hql, by go_num, (hbel.trans (hB5.mono hbel.size)).trans (hB6.mono (Nat.le_trans hbel.size hB5.size))⟩
                  case measure => simp [intOf]; omega
                · have hqe : q = r2.length := by omega
                  subst hqe
                  clear hX5
                  go_wp2_with fail
                  go_roundw
                  case rel =>
                    have hX6 := HX4.out.bel' hbel
                    first
                      | exact ⟨1, _, _, by omega, rfl, hX6⟩
                      | exact ⟨2, _, _, by omega, rfl, hX6.turn (kk2 := 0) rfl rfl⟩
                  case measure => simp [intOf]
          · have hke : kk = 2 := by omega
            subst hke
            have hlv := fun W => lives_walk W
            go_wp2_with fail
            go_at_call 16
            refine (hlv _).mono ?_
            clear hlv
            rintro _ wz ⟨rfl, hBz⟩
            go_wp2
            go_ret
            exact ⟨rfl, hI.bel.trans (hBz.mono hI.env.hB)⟩
    · by_cases hj8 : True
      · have hj9 : ¬ (j : Int) < (o.length : Int) := by omega
        go_wp2_with fail
        obtain ⟨w9, hw9⟩ : ∃ z, z = wr := ⟨_, rfl⟩
        rw [← hw9] at hI ⊢
        clear hw9
        go_loopw [18] (fun i wr => ∃ (kk : Nat) (rv : Nat → Value) (d : Dk), kk ≤ 2 ∧ i = .int .i64 kk ∧ One w wr w.heap.size db mb gS (gS + 1) 0 sb lg 7 sb2 lg2 8 (300 * j) j rv d vv vv2 its its2 l1 l2 a a2 r r2 #[.pointer (some ⟨sb, 0, none⟩), .pointer (some ⟨sb2, 0, none⟩)] #[a, a2]) (fun i _ => 2 - (intOf i).toNat)
        case atStart => exact ⟨0, rv, d, by omega, rfl, hI⟩
        case round =>
          clear hI
          obtain ⟨kk, rv, d, hk2, rfl, hI⟩ := hrel
          by_cases hkk : kk < 2
          · rcases (show kk = 0 ∨ kk = 1 by omega) with rfl | rfl
            · have hX := hI
              obtain ⟨aA, aC, hae, _⟩ := row_form hX.al.row
              subst hae
              have hop := open_step (k := 7) (l := l1) hX.env (by omega) hX.sto.ok hX.sto.bytes
              go_wp2_with fail
              go_at_call 7
              refine hop.mono ?_
              clear hop
              rintro _ w4 ⟨sn, ln, vn, itn, rfl, hO⟩
              obtain ⟨rv4, hX4⟩ := hX.opened hO
              have hN := hO.sto
              have hil : itn.length = r.length := by rw [hN.ilen, hX.vers, List.length_map]
              have hsn : itn.map Prod.snd = r.map Prod.snd := by rw [hN.its, hX.vers]
              have hle := len_walk hN.st.drew
              rw [hil] at hle
              have hac := active_walk hN.st.drew
              rw [hX.act] at hac
              have hlo := len_walk hX4.sto.st.drew
              rw [hX4.sto.ilen, hX4.vlen] at hlo
              have c4 := hX4.cellS
              have a4 : w4.cell? ⟨gS + 1, 0, none⟩ = some (.slice aA r.length aC) := (hX4.bA.at' 0).trans hX4.cA
              have hw1 : wrap64 ((r.length : Int) - 1) = (r.length : Int) - 1 := by have := hX.len; have := hX.sto.ok.len; unfold wrap64; omega
              have hw2 : IntKind.i64.wrap ((r.length : Int) - 1) = (r.length : Int) - 1 := by have := hX.len; have := hX.sto.ok.len; rw [wrapS (by omega) (by omega)]
              have hgr : r.length ≤ 1000 := by have := hX.len; have := hX.sto.ok.len; omega
              clear hX hO
              go_wp2_with fail
              go_region_held3 (fun w' => w'.cell? ⟨gS + 1, 0, none⟩ = some (.slice aA r.length aC) ∧ w'.cell? ⟨gS, 0, none⟩ = some (.pointer (some ⟨sb, 0, none⟩)))
                (first
                  | go_keep)
                (first
                  | (go_at_call 12; refine hle.mono ?_; clear hle; rintro _ wa ⟨rfl, rfl⟩)
                  | (go_at_call 13; refine hac.mono ?_; clear hac; rintro _ wb ⟨rfl, rfl⟩)
                  | (go_at_call 12; refine hlo.mono ?_; clear hlo; rintro _ wc ⟨rfl, rfl⟩))
              have HN := Lib.hid hN
              have HX4 := Lib.hid hX4
              clear hX4 hN
              go_wp2
              go_loopw [21] (fun i wr => ∃ q : Nat, q ≤ r.length ∧ i = .int .i64 q ∧ Below w4.heap.size w4 wr) (fun i _ => r.length - (intOf i).toNat)
              case atStart => exact ⟨0, Nat.zero_le _, rfl, (Below.refl _ _).drew⟩
              case round =>
                obtain ⟨q, hq, rfl, hbel⟩ := hrel
                have hX5 := HX4.out.bel' hbel
                have a5 : _ = some (Value.slice aA r.length aC) := (hX5.bA.at' 0).trans hX5.cA
                by_cases hql : q < r.length
                · have hN5 := HN.out.bel hbel
                  have hqi : q < itn.length := by omega
                  have heq : itn[q].2 = r[q].2 := by
                    have h1 : (itn.map Prod.snd)[q]'(by simpa using hqi) = (r.map Prod.snd)[q]'(by simpa using hql) := by simp only [hsn]
                    simpa using h1
                  have hx8 := hX5.good r[q] (List.getElem_mem hql)
                  have hld := load_walk hN5.st hqi (by omega) (by rw [heq]; omega)
                  rw [heq] at hld
                  obtain ⟨ag, ac, hage, haglt, hagc⟩ := row_at hX5.al.row hql
                  have hea := hX5.al.each r[q] (List.getElem_mem hql)
                  rw [List.getElem?_map, List.getElem?_eq_getElem hql] at hagc
                  obtain ⟨z, hz⟩ : ∃ z, r[q] = z := ⟨_, rfl⟩
                  rw [hz] at hld hx8 hea hagc
                  have hagc' : _ = some z.1 := hagc
                  obtain ⟨zA, zC, hze, _⟩ := row_form hea
                  rw [hze] at hagc' hea
                  cases hage
                  have c5 := hX5.cellS
                  have hgalt := hX5.bA.lt
                  have hq0 : (0 : Int) ≤ (q : Int) := Int.natCast_nonneg _
                  have hq1 : (q : Int) < (r.length : Int) := by omega
                  clear heq hagc hz hX5 hN5
                  go_wp2_with fail
                  go_at_call 14
                  refine hld.mono ?_
                  clear hld
                  rintro _ w5 ⟨u5, rfl, hr5, hB5⟩
                  have hea5 := owns_bel hea hB5
                  have hsame := same_walk hr5 hea5 (by omega)
                  have a6 := (hB5.cell (p := ⟨gS + 1, 0, none⟩) hgalt).trans a5
                  have g6 := (hB5.cell (p := ⟨ag, q, none⟩) haglt).trans hagc'
                  obtain ⟨uA, uC, rfl, _⟩ := row_form hr5
                  go_wp2_with fail
                  go_at_call 15
                  refine hsame.mono ?_
                  clear hsame
                  rintro _ w6 ⟨rfl, hB6⟩
                  go_wp2
                  go_roundw
                  case rel => exact ⟨q + 1, hql, by go_num, (hbel.trans (hB5.mono hbel.size)).trans (hB6.mono (Nat.le_trans hbel.size hB5.size))⟩
                  case measure => simp [intOf]; omega
                · have hqe : q = r.length := by omega
                  subst hqe
                  clear hX5
                  go_wp2_with fail
                  go_roundw
                  case rel =>
                    have hX6 := HX4.out.bel' hbel
                    first
                      | exact ⟨1, _, _, by omega, rfl, hX6⟩
                      | exact ⟨2, _, _, by omega, rfl, hX6.turn (kk2 := 0) rfl rfl⟩
                  case measure => simp [intOf]
            · have hX := hI.turn (kk2 := 1) rfl rfl
              obtain ⟨aA, aC, hae, _⟩ := row_form hX.al.row
              subst hae
              have hop := open_step (k := 8) (l := l2) hX.env (by omega) hX.sto.ok hX.sto.bytes
              go_wp2_with fail
              go_at_call 7
              refine hop.mono ?_
              clear hop
              rintro _ w4 ⟨sn, ln, vn, itn, rfl, hO⟩
              obtain ⟨rv4, hX4⟩ := hX.opened hO
              have hN := hO.sto
              have hil : itn.length = r2.length := by rw [hN.ilen, hX.vers, List.length_map]
              have hsn : itn.map Prod.snd = r2.map Prod.snd := by rw [hN.its, hX.vers]
              have hle := len_walk hN.st.drew
              rw [hil] at hle
              have hac := active_walk hN.st.drew
              rw [hX.act] at hac
              have hlo := len_walk hX4.sto.st.drew
              rw [hX4.sto.ilen, hX4.vlen] at hlo
              have c4 := hX4.cellS
              have a4 : w4.cell? ⟨gS + 1, 1, none⟩ = some (.slice aA r2.length aC) := (hX4.bA.at' 1).trans hX4.cA
              have hw1 : wrap64 ((r2.length : Int) - 1) = (r2.length : Int) - 1 := by have := hX.len; have := hX.sto.ok.len; unfold wrap64; omega
              have hw2 : IntKind.i64.wrap ((r2.length : Int) - 1) = (r2.length : Int) - 1 := by have := hX.len; have := hX.sto.ok.len; rw [wrapS (by omega) (by omega)]
              have hgr : r2.length ≤ 1000 := by have := hX.len; have := hX.sto.ok.len; omega
              clear hX hO
              go_wp2_with fail
              go_region_held3 (fun w' => w'.cell? ⟨gS + 1, 1, none⟩ = some (.slice aA r2.length aC) ∧ w'.cell? ⟨gS, 1, none⟩ = some (.pointer (some ⟨sb2, 0, none⟩)))
                (first
                  | go_keep)
                (first
                  | (go_at_call 12; refine hle.mono ?_; clear hle; rintro _ wa ⟨rfl, rfl⟩)
                  | (go_at_call 13; refine hac.mono ?_; clear hac; rintro _ wb ⟨rfl, rfl⟩)
                  | (go_at_call 12; refine hlo.mono ?_; clear hlo; rintro _ wc ⟨rfl, rfl⟩))
              have HN := Lib.hid hN
              have HX4 := Lib.hid hX4
              clear hX4 hN
              go_wp2
              go_loopw [21] (fun i wr => ∃ q : Nat, q ≤ r2.length ∧ i = .int .i64 q ∧ Below w4.heap.size w4 wr) (fun i _ => r2.length - (intOf i).toNat)
              case atStart => exact ⟨0, Nat.zero_le _, rfl, (Below.refl _ _).drew⟩
              case round =>
                obtain ⟨q, hq, rfl, hbel⟩ := hrel
                have hX5 := HX4.out.bel' hbel
                have a5 : _ = some (Value.slice aA r2.length aC) := (hX5.bA.at' 1).trans hX5.cA
                by_cases hql : q < r2.length
                · have hN5 := HN.out.bel hbel
                  have hqi : q < itn.length := by omega
                  have heq : itn[q].2 = r2[q].2 := by
                    have h1 : (itn.map Prod.snd)[q]'(by simpa using hqi) = (r2.map Prod.snd)[q]'(by simpa using hql) := by simp only [hsn]
                    simpa using h1
                  have hx8 := hX5.good r2[q] (List.getElem_mem hql)
                  have hld := load_walk hN5.st hqi (by omega) (by rw [heq]; omega)
                  rw [heq] at hld
                  obtain ⟨ag, ac, hage, haglt, hagc⟩ := row_at hX5.al.row hql
                  have hea := hX5.al.each r2[q] (List.getElem_mem hql)
                  rw [List.getElem?_map, List.getElem?_eq_getElem hql] at hagc
                  obtain ⟨z, hz⟩ : ∃ z, r2[q] = z := ⟨_, rfl⟩
                  rw [hz] at hld hx8 hea hagc
                  have hagc' : _ = some z.1 := hagc
                  obtain ⟨zA, zC, hze, _⟩ := row_form hea
                  rw [hze] at hagc' hea
                  cases hage
                  have c5 := hX5.cellS
                  have hgalt := hX5.bA.lt
                  have hq0 : (0 : Int) ≤ (q : Int) := Int.natCast_nonneg _
                  have hq1 : (q : Int) < (r2.length : Int) := by omega
                  clear heq hagc hz hX5 hN5
                  go_wp2_with fail
                  go_at_call 14
                  refine hld.mono ?_
                  clear hld
                  rintro _ w5 ⟨u5, rfl, hr5, hB5⟩
                  have hea5 := owns_bel hea hB5
                  have hsame := same_walk hr5 hea5 (by omega)
                  have a6 := (hB5.cell (p := ⟨gS + 1, 1, none⟩) hgalt).trans a5
                  have g6 := (hB5.cell (p := ⟨ag, q, none⟩) haglt).trans hagc'
                  obtain ⟨uA, uC, rfl, _⟩ := row_form hr5
                  go_wp2_with fail
                  go_at_call 15
                  refine hsame.mono ?_
                  clear hsame
                  rintro _ w6 ⟨rfl, hB6⟩
                  go_wp2
                  go_roundw
                  case rel => exact ⟨q + 1, hql, by go_num, (hbel.trans (hB5.mono hbel.size)).trans (hB6.mono (Nat.le_trans hbel.size hB5.size))⟩
                  case measure => simp [intOf]; omega
                · have hqe : q = r2.length := by omega
                  subst hqe
                  clear hX5
                  go_wp2_with fail
                  go_roundw
                  case rel =>
                    have hX6 := HX4.out.bel' hbel
                    first
                      | exact ⟨1, _, _, by omega, rfl, hX6⟩
                      | exact ⟨2, _, _, by omega, rfl, hX6.turn (kk2 := 0) rfl rfl⟩
                  case measure => simp [intOf]
          · have hke : kk = 2 := by omega
            subst hke
            have hlv := fun W => lives_walk W
            go_wp2_with fail
            go_at_call 16
            refine (hlv _).mono ?_
            clear hlv
            rintro _ wz ⟨rfl, hBz⟩
            go_wp2
            go_ret
            exact ⟨rfl, hI.bel.trans (hBz.mono hI.env.hB)⟩
      · exact absurd trivial hj8
end Go.Proofs.YtkndgmjlphppdaaGreatDoor
