/-
  The law RulesetBytes, walked: its first part.
-/
import Derived.Test.YtdacamjpcdbphaaGreatDoorBytG3a
import Derived.Test.YtdacamjpcdbphaaGreatDoorBytG0c
import Derived.Test.YtdacamjpcdbphaaGreatDoorDecGW
import Derived.Test.YtdacamjpcdbphaaGreatDoorBytG1a
import Derived.Deep.RegionHeld3
import Derived.Deep.DeepCutAuto
namespace Go.Proofs.YtdacamjpcdbphaaGreatDoor
open Go Go.RowKit

/-- the two lists of rules, from any later world -/
structure Two (w : World) (lb : Nat) (v1 v2 : Value) (r1 r2 : List Ru) : Prop where
  blk : Blk w lb 24 #[v1, v2]
  s1 : SeesR w v1 r1
  s2 : SeesR w v2 r2
theorem Two.bel {w w' : World} {lb : Nat} {v1 v2 : Value} {r1 r2 : List Ru} (h : Two w lb v1 v2 r1 r2) (hb : Below w.heap.size w w') : Two w' lb v1 v2 r1 r2 :=
  ⟨h.blk.bel hb h.blk.lt, h.s1.bel hb, h.s2.bel hb⟩
/-- more may be asked of the worlds of a region that draws, from some operation on -/
theorem anyH_more {P : Program} {md : Region.Mode} {ops : Array Oper} {Q : Exit → Act → World → Prop} {S S' : World → Prop} (h : ∀ w, S' w → S w) : ∀ (fuel : Nat) (l : Array Bool) (a : Act) (w : World), wpAnyH P md ops Q S' fuel l a w → wpAnyH P md ops Q S fuel l a w
  | 0, _, _, _, k => k
  | fuel + 1, _, _, _, k => ⟨k.1, fun i hi => wpOp_mono (fun a' w' k' => ⟨h w' k'.1, anyH_more h fuel _ a' w' k'.2⟩) (k.2 i hi)⟩
/-- an operation taken first, written out by the list of the operations -/
theorem held_take {P : Program} {md : Region.Mode} {ops : Array Oper} {Q : Exit → Act → World → Prop} {S : World → Prop} {i : Nat} {oi : Oper} {v : Value} {fuel : Nat} {listed : Array Bool} {a : Act} {w : World} (hi : ops.toList[i]? = some oi)
    (hs : Region.noSelect ops = true) (hf : Region.free md ops listed i = true) (hr : (Region.ready md ops listed).contains i = true)
    (hQ : ∀ c a w, Q (.panic c) (a.put oi.dst v) w → Q (.panic c) a w) (hy : YieldsIf P ops S oi v a) (hS : S w)
    (h : wpAnyH P md ops Q S fuel (listed.setIfInBounds i true) (a.put oi.dst v) w) : wpAnyH P md ops Q S (fuel + 1) listed a w :=
  wpAnyH_take (by rw [← Array.getElem?_toList]; exact hi) hs hf hr hQ hy hS h
theorem held_cons {P : Program} {md : Region.Mode} {ops : Array Oper} {Q : Exit → Act → World → Prop} {S : World → Prop} {fuel : Nat} {listed : Array Bool} {a : Act} {w : World} {i : Nat} {o : Oper} {rs : List Nat} (ho : ops.toList[i]? = some o)
    (h : ∀ K' : Act → World → Prop, Shut (∀ a w, S w → (S w → wpAnyH P md ops Q S fuel (listed.setIfInBounds i true) a w) → K' a w) → if Region.wanted o (yielded ops a.tmps) = true then Oper.wp P o a w K' Q else K' (a.put o.dst undef) w)
    (hs : AllReadyH P md ops Q S fuel listed a w rs) : AllReadyH P md ops Q S fuel listed a w (i :: rs) := AllReadyH.cons (by rw [← Array.getElem?_toList]; exact ho) h hs
theorem iN_enc {q : List Ru} (h : Fits q) : iN (some (encL q)) = (q.length : Int) := by
  have := h.len
  unfold iN encL
  show (match dI (encI (q.length : Int) ++ encMany q) with | some (z, _) => z | none => 0) = _
  rw [dI_enc ⟨by omega, by omega⟩]
/-- the four texts -/
structure Texts (w : World) (tb : Nat) : Prop where
  each : ∀ i, i < 4 → ∃ (A : Option Addr) (n c : Nat) (L : List UInt8), L.length ≤ 10000000 ∧ Sees w 1 (.slice A n c) (bv L) ∧ ∀ w', Below w.heap.size w w' → w'.cell? ⟨tb, i, none⟩ = some (.slice A n c)
theorem Texts.made {w : World} {tb : Nat} {A0 A1 A2 A3 : Option Addr} {n0 n1 n2 n3 c0 c1 c2 c3 : Nat} {L0 L1 L2 L3 : List UInt8} (hb : Blk w tb 23 #[.slice A0 n0 c0, .slice A1 n1 c1, .slice A2 n2 c2, .slice A3 n3 c3])
    (h0 : Sees w 1 (.slice A0 n0 c0) (bv L0)) (h1 : Sees w 1 (.slice A1 n1 c1) (bv L1)) (h2 : Sees w 1 (.slice A2 n2 c2) (bv L2)) (h3 : Sees w 1 (.slice A3 n3 c3) (bv L3)) (l0 : L0.length ≤ 10000000) (l1 : L1.length ≤ 10000000) (l2 : L2.length ≤ 10000000) (l3 : L3.length ≤ 10000000) : Texts w tb :=
  ⟨fun i hi => match i, hi with
    | 0, _ => ⟨_, _, _, L0, l0, h0, fun w' hw => (hb.bel hw hb.lt).at' 0⟩
    | 1, _ => ⟨_, _, _, L1, l1, h1, fun w' hw => (hb.bel hw hb.lt).at' 1⟩
    | 2, _ => ⟨_, _, _, L2, l2, h2, fun w' hw => (hb.bel hw hb.lt).at' 2⟩
    | 3, _ => ⟨_, _, _, L3, l3, h3, fun w' hw => (hb.bel hw hb.lt).at' 3⟩
    | n + 4, h => absurd h (by omega)⟩
theorem row_cell {w : World} {base : Nat} {e : TypeId} {g c n : Nat} {xs : List Value} (h : w.ownsRow base e 1 (.slice (some ⟨g, 0, none⟩) n c) n xs) {j : Nat} (hj : j < xs.length) : ∃ u, w.cell? ⟨g, j, none⟩ = some u := by
  obtain ⟨A, m, cp, e1, h1, h2, h3⟩ := Sees.row h
  cases e1
  obtain ⟨b, s, e2, -, hc⟩ := h3 (by omega)
  cases e2
  refine ⟨xs[j], ?_⟩
  have := hc j xs[j] (List.getElem?_eq_getElem hj)
  rwa [Nat.zero_add] at this
/-- what a slice reads as stays where another row grows -/
theorem sees_grown {w w2 : World} {g n c g0 m c' : Nat} {xs : List Value} (h : Sees w 1 (.slice (some ⟨g, 0, none⟩) n c) xs) (hg : w.grownBy w2 (Value.slice (some ⟨g0, 0, none⟩) m c').ownBlock) (hne : g ≠ g0) (hlt : g < w.heap.size) :
    Sees w2 1 (.slice (some ⟨g, 0, none⟩) n c) xs := by
  refine h.keep hg.size fun k hk => ?_
  have e : k = g := by
    cases n with
    | zero => cases hk
    | succ n => exact (Option.some.inj hk).symm
  subst e
  exact hg.block k hlt fun e => hne (Option.some.inj e)
set_option maxHeartbeats 16000000 in
set_option maxRecDepth 1000000 in
theorem law_walk {w : World} {x raw : Value} {l : List Int} {R : List UInt8} (hx : SlArg w x l) (at' how : Int) (ha : -9223372036854775808 ≤ at' ∧ at' ≤ 9223372036854775807) (hh : -9223372036854775808 ≤ how ∧ how ≤ 9223372036854775807) (s : ByteArray)
    (hraw : Sees w 1 raw (bv R)) (c : UInt8) (hlives : ∀ w', Calls Tryz.prog 17 #[] w' fun e w2 => e = .returned (.bool true) ∧ Below w'.heap.size w' w2) :
    Calls Tryz.prog 3 #[x, .int .i64 at', .int .i64 how, .string s, raw, .int .u8 (c.toNat : Int)] w fun e w' => e = .returned (.bool true) ∧ Below w.heap.size w w' := by
  obtain ⟨i0, hi0, hz0, hz1, hz2⟩ := info_parts' info5
  have hru := rules_walk hx
  obtain ⟨xA, xc, rfl, -⟩ := hx.val
  have hraw0 := hraw
  obtain ⟨rA, rn, rc, rfl, hrn, hrc, -⟩ := hraw
  clear hx
  go_enter Tryz.func3, Tryz.ntmps3
  go_wp2_with fail
  refine hru.mono ?_
  clear hru
  rintro _ w1 ⟨v, rfl, rs, hR, hr1, hr4, hsm⟩
  have hsee1 := SeesR.row hR.row
  obtain ⟨A1, c1, rfl, -⟩ := row_form hR.row
  have hsh := short_walk w1 s 30 (by omega)
  go_wp2_with fail
  refine (show Calls Tryz.prog 6 #[.string s, .int .i64 30] w1 _ from hsh).mono ?_
  clear hsh
  rintro _ w2 ⟨sh, rfl, hsh, rfl⟩
  have hsp := spoilt_walk hsee1 hr1 hr4 hsm at' how ha hh sh hsh
  go_wp2_with fail
  refine hsp.mono ?_
  clear hsp
  rintro _ w3 ⟨v2, rfl, rs2, hR2, hF2⟩
  have hsee2 := SeesR.row hR2.row
  obtain ⟨A2, c2, rfl, -⟩ := row_form hR2.row
  have hB3 := hR.bel.trans (hR2.bel.mono hR.bel.size)
  have hsee1 := hsee1.bel hR2.bel
  have hF1 := hsm.fits hr4
  have htwo : Two (w3.alloc (.cells #[.slice A1 rs.length c1, .slice A2 rs2.length c2] 24)) w3.heap.size (.slice A1 rs.length c1) (.slice A2 rs2.length c2) rs rs2 :=
    ⟨Blk.made w3 24 _, hsee1.bel ((Below.refl _ _).alloc (Nat.le_refl _) _), hsee2.bel ((Below.refl _ _).alloc (Nat.le_refl _) _)⟩
  have hB4 := hB3.alloc hB3.size (.cells #[.slice A1 rs.length c1, .slice A2 rs2.length c2] 24)
  obtain ⟨w4, hw4⟩ : ∃ x, w3.alloc (.cells #[.slice A1 rs.length c1, .slice A2 rs2.length c2] 24) = x := ⟨_, rfl⟩
  rw [hw4] at htwo hB4
  obtain ⟨lb, hlb⟩ : ∃ x, w3.heap.size = x := ⟨_, rfl⟩
  rw [hlb] at htwo
  clear hsee1 hsee2 hR hR2 hB3
  have hat : ∀ j, j < 2 → ∃ (A : Option Addr) (cc : Nat) (q : List Ru), Fits q ∧ SeesR w4 (.slice A q.length cc) q ∧ ∀ w', Below w4.heap.size w4 w' → w'.cell? ⟨lb, j, none⟩ = some (.slice A q.length cc) := by
    intro j hj
    match j, hj with
    | 0, _ => exact ⟨A1, c1, rs, hF1, htwo.s1, fun w' hb => (htwo.bel hb).blk.at' 0⟩
    | 1, _ => exact ⟨A2, c2, rs2, hF2, htwo.s2, fun w' hb => (htwo.bel hb).blk.at' 1⟩
    | n + 2, h => exact absurd h (by omega)
  have HAT := Lib.hid hat
  clear hat
  go_wp2_with fail
  go_loopw [15] (fun iv wr => ∃ j : Nat, j ≤ 2 ∧ iv = .int .i64 j ∧ Below w4.heap.size w4 wr) (fun iv _ => 2 - (intOf iv).toNat)
  case atStart => exact ⟨0, Nat.zero_le _, rfl, Below.refl _ _⟩
  case round =>
    obtain ⟨j, hj, rfl, hb⟩ := hrel
    by_cases hjl : j < 2
    · obtain ⟨A, cc, q, hF, hS, hcell⟩ := HAT.out j hjl
      have HC := Lib.hid hcell
      have k0 := hcell wr hb
      have hre := real_walk (hS.bel hb) (by have := hF.len; omega)
      have hjI : (j : Int) < 2 := by omega
      clear hcell HAT
      go_wp2_with fail
      refine hre.mono ?_
      clear hre
      rintro _ w5 ⟨v5, rfl, hr5, hb5⟩
      have hB5 := hb.trans (hb5.mono hb.size)
      have hs5 : SeesR w5 v5 q := SeesR.row hr5
      obtain ⟨A5, c5, rfl, -⟩ := row_form hr5
      by_cases hfm : formed q = true
      · have hen := encode_good hs5 hF hfm
        go_wp2_with fail
        refine hen.mono ?_
        clear hen
        rintro _ w6 ⟨u6, rfl, hr6, hb6⟩
        have hB6 := hB5.trans (hb6.mono hB5.size)
        obtain ⟨A6, c6, rfl, -⟩ := row_form hr6
        have k6 := HC.out w6 hB6
        have hfo := formed_walk (hS.bel hB6) (by have := hF.len; omega) (fun r hr => by have := hF.each r hr; omega)
        rw [hfm] at hfo
        go_wp2_with fail
        refine hfo.mono ?_
        clear hfo k6
        rintro _ w7 ⟨rfl, hb7⟩
        have hB7 := hB6.trans (hb7.mono hB6.size)
        have hs7 := (Sees.row hr6).bel hb7
        have hlen : (encL q).length ≤ 10000000 := by have := hF.encLen; omega
        have hde := decode_walk hs7 hlen
        go_wp2_with fail
        refine hde.mono ?_
        clear hde
        rintro _ w8 ⟨u8, cz, rfl, hD, hb8⟩
        obtain ⟨rfl, hr8⟩ := hD.good q (decL_enc hfm)
        have hB8 := hB7.trans (hb8.mono hB7.size)
        have hs8 := hs7.bel hb8
        have hd8 : SeesR w8 u8 q := SeesR.row hr8
        obtain ⟨A8, c8, rfl, -⟩ := row_form hr8
        have hrd := read_walk hs8 (by omega)
        go_wp2_with fail
        refine hrd.mono ?_
        clear hrd
        rintro _ w9 ⟨p, vr, rfl, hp, hRd, hb9⟩
        have hB9 := hB8.trans (hb9.mono hB8.size)
        have hin := rint_walk hRd.drew
        rw [iN_enc hF] at hin
        obtain ⟨SB, hSB⟩ : ∃ x, ofB (encL q) = x := ⟨_, rfl⟩
        have hS9 : ∀ w', Below w8.heap.size w8 w' → w'.cell? ⟨lb, j, none⟩ = some (.slice A q.length cc) ∧ (convert 23 9 (.slice A6 (encL q).length c6)).run Tryz.prog w' = .ok (.string SB) w' := by
          intro w' hb
          refine ⟨HC.out w' (hB8.trans (hb.mono hB8.size)), ?_⟩
          rw [← hSB]
          exact conv_str (hs8.bel hb)
        have hb9d := hb9.drew
        have HS := Lib.hid hS
        have HSB := Lib.hid hSB
        have HS9 := Lib.hid hS9
        have hlq : q.length ≤ 1000 := by have := hF.len; omega
        have hp9 : w8.heap.size ≤ w9.drew.heap.size := hb9d.size
        clear hS9 hs7 hs8 hr6 hs5 hr5 hRd hD hS hSB
        go_wp2_with fail
        refine wp_region_held_drew (S := fun w' => w'.cell? ⟨lb, j, none⟩ = some (.slice A q.length cc) ∧ (convert 23 9 (.slice A6 (encL q).length c6)).run Tryz.prog w' = .ok (.string SB) w') (by kernel_rfl) (HS9.out _ hb9d) (fun hHeld => ?_)
        refine held_take (i := 0) (v := ?_) rfl (by kernel_rfl) (by kernel_rfl) (by kernel_rfl) (fun _ _ _ h => h) (Or.inl ⟨by rfl, ?_⟩) (by assumption) ?_
        rotate_left
        · (intro w hSw; (try dsimp only at hSw); go_simp; try (with_reducible rfl))
        try simp only [Act.put, List.setIfInBounds_toArray, List.set_cons_zero, List.set_cons_succ]
        refine held_take (i := 1) (v := ?_) rfl (by kernel_rfl) (by kernel_rfl) (by kernel_rfl) (fun _ _ _ h => h) (Or.inl ⟨by rfl, ?_⟩) (by assumption) ?_
        rotate_left
        · (intro w hSw; (try dsimp only at hSw); go_simp; try (with_reducible rfl))
        try simp only [Act.put, List.setIfInBounds_toArray, List.set_cons_zero, List.set_cons_succ]
        refine held_take (i := 2) (v := ?_) rfl (by kernel_rfl) (by kernel_rfl) (by kernel_rfl) (fun _ _ _ h => h) (Or.inl ⟨by rfl, ?_⟩) (by assumption) ?_
        rotate_left
        · (intro w hSw; (try dsimp only at hSw); go_simp; try (with_reducible rfl))
        try simp only [Act.put, List.setIfInBounds_toArray, List.set_cons_zero, List.set_cons_succ]
        refine held_take (i := 3) (v := ?_) rfl (by kernel_rfl) (by kernel_rfl) (by kernel_rfl) (fun _ _ _ h => h) (Or.inl ⟨by rfl, ?_⟩) (by assumption) ?_
        rotate_left
        · (intro w hSw; (try dsimp only at hSw); go_simp; try (with_reducible rfl))
        try simp only [Act.put, List.setIfInBounds_toArray, List.set_cons_zero, List.set_cons_succ]
        refine held_take (i := 4) (v := ?_) rfl (by kernel_rfl) (by kernel_rfl) (by kernel_rfl) (fun _ _ _ h => h) (Or.inl ⟨by rfl, ?_⟩) (by assumption) ?_
        rotate_left
        · (intro w hSw; (try dsimp only at hSw); go_simp; try (with_reducible rfl))
        try simp only [Act.put, List.setIfInBounds_toArray, List.set_cons_zero, List.set_cons_succ]
        refine held_take (i := 5) (v := ?_) rfl (by kernel_rfl) (by kernel_rfl) (by kernel_rfl) (fun _ _ _ h => h) (Or.inl ⟨by rfl, ?_⟩) (by assumption) ?_
        rotate_left
        · (intro w hSw; (try dsimp only at hSw); go_simp; try (with_reducible rfl))
        try simp only [Act.put, List.setIfInBounds_toArray, List.set_cons_zero, List.set_cons_succ]
        refine held_take (i := 6) (v := ?_) rfl (by kernel_rfl) (by kernel_rfl) (by kernel_rfl) (fun _ _ _ h => h) (Or.inl ⟨by rfl, ?_⟩) (by assumption) ?_
        rotate_left
        · (intro w hSw; (try dsimp only at hSw); go_simp; try (with_reducible rfl))
        try simp only [Act.put, List.setIfInBounds_toArray, List.set_cons_zero, List.set_cons_succ]
        refine held_take (i := 7) (v := ?_) rfl (by kernel_rfl) (by kernel_rfl) (by kernel_rfl) (fun _ _ _ h => h) (Or.inl ⟨by rfl, ?_⟩) (by assumption) ?_
        rotate_left
        · (intro w hSw; (try dsimp only at hSw); go_simp; try (with_reducible rfl))
        try simp only [Act.put, List.setIfInBounds_toArray, List.set_cons_zero, List.set_cons_succ]
        refine held_take (i := 8) (v := ?_) rfl (by kernel_rfl) (by kernel_rfl) (by kernel_rfl) (fun _ _ _ h => h) (Or.inl ⟨by rfl, ?_⟩) (by assumption) ?_
        rotate_left
        · (intro w hSw; (try dsimp only at hSw); go_simp; try (with_reducible rfl))
        try simp only [Act.put, List.setIfInBounds_toArray, List.set_cons_zero, List.set_cons_succ]
        refine held_take (i := 9) (v := ?_) rfl (by kernel_rfl) (by kernel_rfl) (by kernel_rfl) (fun _ _ _ h => h) (Or.inl ⟨by rfl, ?_⟩) (by assumption) ?_
        rotate_left
        · (intro w hSw; (try dsimp only at hSw); go_simp; try (with_reducible rfl))
        try simp only [Act.put, List.setIfInBounds_toArray, List.set_cons_zero, List.set_cons_succ]
        refine held_take (i := 10) (v := ?_) rfl (by kernel_rfl) (by kernel_rfl) (by kernel_rfl) (fun _ _ _ h => h) (Or.inl ⟨by rfl, ?_⟩) (by assumption) ?_
        rotate_left
        · (intro w hSw; (try dsimp only at hSw); go_simp; try (with_reducible rfl))
        try simp only [Act.put, List.setIfInBounds_toArray, List.set_cons_zero, List.set_cons_succ]
        refine held_take (i := 11) (v := ?_) rfl (by kernel_rfl) (by kernel_rfl) (by kernel_rfl) (fun _ _ _ h => h) (Or.inl ⟨by rfl, ?_⟩) (by assumption) ?_
        rotate_left
        · (intro w hSw; (try dsimp only at hSw); go_simp; try (with_reducible rfl))
        try simp only [Act.put, List.setIfInBounds_toArray, List.set_cons_zero, List.set_cons_succ]
        refine held_take (i := 13) (v := ?_) rfl (by kernel_rfl) (by kernel_rfl) (by kernel_rfl) (fun _ _ _ h => h) (Or.inl ⟨by rfl, ?_⟩) (by assumption) ?_
        rotate_left
        · (intro w hSw; (try dsimp only at hSw); go_simp; try (with_reducible rfl))
        try simp only [Act.put, List.setIfInBounds_toArray, List.set_cons_zero, List.set_cons_succ]
        refine held_take (i := 14) (v := ?_) rfl (by kernel_rfl) (by kernel_rfl) (by kernel_rfl) (fun _ _ _ h => h) (Or.inl ⟨by rfl, ?_⟩) (by assumption) ?_
        rotate_left
        · (intro w hSw; (try dsimp only at hSw); go_simp; try (with_reducible rfl))
        try simp only [Act.put, List.setIfInBounds_toArray, List.set_cons_zero, List.set_cons_succ]
        refine held_take (i := 15) (v := ?_) rfl (by kernel_rfl) (by kernel_rfl) (by kernel_rfl) (fun _ _ _ h => h) (Or.inl ⟨by rfl, ?_⟩) (by assumption) ?_
        rotate_left
        · (intro w hSw; (try dsimp only at hSw); go_simp; try (with_reducible rfl))
        try simp only [Act.put, List.setIfInBounds_toArray, List.set_cons_zero, List.set_cons_succ]
        refine held_take (i := 16) (v := ?_) rfl (by kernel_rfl) (by kernel_rfl) (by kernel_rfl) (fun _ _ _ h => h) (Or.inl ⟨by rfl, ?_⟩) (by assumption) ?_
        rotate_left
        · (intro w hSw; (try dsimp only at hSw); go_simp; try (with_reducible rfl))
        try simp only [Act.put, List.setIfInBounds_toArray, List.set_cons_zero, List.set_cons_succ]
        refine held_take (i := 17) (v := ?_) rfl (by kernel_rfl) (by kernel_rfl) (by kernel_rfl) (fun _ _ _ h => h) (Or.inl ⟨by rfl, ?_⟩) (by assumption) ?_
        rotate_left
        · (intro w hSw; (try dsimp only at hSw); go_simp; try (with_reducible rfl))
        try simp only [Act.put, List.setIfInBounds_toArray, List.set_cons_zero, List.set_cons_succ]
        refine wpAnyH_ready (rs := [12]) (by kernel_rfl) (by simp) ?_
        refine held_cons rfl (fun K hK => ?_) AllReadyH.nil
        go_simp
        go_at_call 13
        refine hin.mono ?_
        clear hin
        rintro _ wa ⟨rfl, hRa, hCa⟩
        have hba := hb9d.trans (hCa.to_below hp9 (fun i _ e => by have e' : i = p := e; omega))
        have hfe := fencode_walk (HS.out.bel (hB8.trans (hba.mono hB8.size))) hF
        go_wp2_with fail
        refine hK.out _ _ (HS9.out _ hba) (fun hHeld => ?_)
        clear hK K
        try simp only [Act.put, List.setIfInBounds_toArray, List.set_cons_zero, List.set_cons_succ]
        refine held_take (i := 18) (v := ?_) rfl (by kernel_rfl) (by kernel_rfl) (by kernel_rfl) (fun _ _ _ h => h) (Or.inl ⟨by rfl, ?_⟩) (by assumption) ?_
        rotate_left
        · (intro w hSw; (try dsimp only at hSw); go_simp; try (with_reducible rfl))
        try simp only [Act.put, List.setIfInBounds_toArray, List.set_cons_zero, List.set_cons_succ]
        refine held_take (i := 19) (v := ?_) rfl (by kernel_rfl) (by kernel_rfl) (by kernel_rfl) (fun _ _ _ h => h) (Or.inl ⟨by rfl, ?_⟩) (by assumption) ?_
        rotate_left
        · (intro w hSw; (try dsimp only at hSw); go_simp; try (with_reducible rfl))
        try simp only [Act.put, List.setIfInBounds_toArray, List.set_cons_zero, List.set_cons_succ]
        refine held_take (i := 20) (v := ?_) rfl (by kernel_rfl) (by kernel_rfl) (by kernel_rfl) (fun _ _ _ h => h) (Or.inl ⟨by rfl, ?_⟩) (by assumption) ?_
        rotate_left
        · (intro w hSw; (try dsimp only at hSw); go_simp; try (with_reducible rfl))
        try simp only [Act.put, List.setIfInBounds_toArray, List.set_cons_zero, List.set_cons_succ]
        refine held_take (i := 21) (v := ?_) rfl (by kernel_rfl) (by kernel_rfl) (by kernel_rfl) (fun _ _ _ h => h) (Or.inl ⟨by rfl, ?_⟩) (by assumption) ?_
        rotate_left
        · (intro w hSw; (try dsimp only at hSw); go_simp; try (with_reducible rfl))
        try simp only [Act.put, List.setIfInBounds_toArray, List.set_cons_zero, List.set_cons_succ]
        refine held_take (i := 22) (v := ?_) rfl (by kernel_rfl) (by kernel_rfl) (by kernel_rfl) (fun _ _ _ h => h) (Or.inl ⟨by rfl, ?_⟩) (by assumption) ?_
        rotate_left
        · (intro w hSw; (try dsimp only at hSw); go_simp; try (with_reducible rfl))
        try simp only [Act.put, List.setIfInBounds_toArray, List.set_cons_zero, List.set_cons_succ]
        refine held_take (i := 23) (v := ?_) rfl (by kernel_rfl) (by kernel_rfl) (by kernel_rfl) (fun _ _ _ h => h) (Or.inl ⟨by rfl, ?_⟩) (by assumption) ?_
        rotate_left
        · (intro w hSw; (try dsimp only at hSw); go_simp; try (with_reducible rfl))
        try simp only [Act.put, List.setIfInBounds_toArray, List.set_cons_zero, List.set_cons_succ]
        refine held_take (i := 24) (v := ?_) rfl (by kernel_rfl) (by kernel_rfl) (by kernel_rfl) (fun _ _ _ h => h) (Or.inl ⟨by rfl, ?_⟩) (by assumption) ?_
        rotate_left
        · (intro w hSw; (try dsimp only at hSw); go_simp; try (with_reducible rfl))
        try simp only [Act.put, List.setIfInBounds_toArray, List.set_cons_zero, List.set_cons_succ]
        refine held_take (i := 25) (v := ?_) rfl (by kernel_rfl) (by kernel_rfl) (by kernel_rfl) (fun _ _ _ h => h) (Or.inl ⟨by rfl, ?_⟩) (by assumption) ?_
        rotate_left
        · (intro w hSw; (try dsimp only at hSw); go_simp; try (with_reducible rfl))
        try simp only [Act.put, List.setIfInBounds_toArray, List.set_cons_zero, List.set_cons_succ]
        refine held_take (i := 26) (v := ?_) rfl (by kernel_rfl) (by kernel_rfl) (by kernel_rfl) (fun _ _ _ h => h) (Or.inl ⟨by rfl, ?_⟩) (by assumption) ?_
        rotate_left
        · (intro w hSw; (try dsimp only at hSw); go_simp; try (with_reducible rfl))
        try simp only [Act.put, List.setIfInBounds_toArray, List.set_cons_zero, List.set_cons_succ]
        refine wpAnyH_ready (rs := [27]) (by kernel_rfl) (by simp) ?_
        refine held_cons rfl (fun K hK => ?_) AllReadyH.nil
        go_simp
        go_at_call 11
        refine hfe.mono ?_
        clear hfe
        rintro _ wb ⟨ub, rfl, hrb, hbb'⟩
        have hbb := hba.trans (hbb'.mono hba.size)
        have hsb := Sees.row hrb
        obtain ⟨Ab, cb, rfl, -⟩ := row_form hrb
        have hS10 : ∀ w', Below wb.heap.size wb w' → ((w'.cell? ⟨lb, j, none⟩ = some (.slice A q.length cc) ∧ (convert 23 9 (.slice A6 (encL q).length c6)).run Tryz.prog w' = .ok (.string SB) w') ∧ (convert 23 9 (.slice Ab (encL q).length cb)).run Tryz.prog w' = .ok (.string SB) w') := fun w' hb => ⟨HS9.out w' (hbb.trans (hb.mono hbb.size)), by rw [← HSB.out]; exact conv_str (hsb.bel hb)⟩
        have HS10 := Lib.hid hS10
        have hpl := plain_walk (hd8.bel hbb) hlq
        clear hsb hrb hS10
        go_wp2_with fail
        refine hK.out _ _ (HS9.out _ hbb) (fun hHeld => ?_)
        clear hK K
        try simp only [Act.put, List.setIfInBounds_toArray, List.set_cons_zero, List.set_cons_succ]
        refine anyH_more (S' := fun w' => (w'.cell? ⟨lb, j, none⟩ = some (.slice A q.length cc) ∧ (convert 23 9 (.slice A6 (encL q).length c6)).run Tryz.prog w' = .ok (.string SB) w') ∧ (convert 23 9 (.slice Ab (encL q).length cb)).run Tryz.prog w' = .ok (.string SB) w') (fun w' h => h.1) _ _ _ _ ?_
        replace hHeld := HS10.out _ (Below.refl _ wb)
        refine held_take (i := 28) (v := ?_) rfl (by kernel_rfl) (by kernel_rfl) (by kernel_rfl) (fun _ _ _ h => h) (Or.inl ⟨by rfl, ?_⟩) (by assumption) ?_
        rotate_left
        · (intro w hSw; (try dsimp only at hSw); go_simp; try (with_reducible rfl))
        try simp only [Act.put, List.setIfInBounds_toArray, List.set_cons_zero, List.set_cons_succ]
        refine held_take (i := 29) (v := ?_) rfl (by kernel_rfl) (by kernel_rfl) (by kernel_rfl) (fun _ _ _ h => h) (Or.inl ⟨by rfl, ?_⟩) (by assumption) ?_
        rotate_left
        · (intro w hSw; (try dsimp only at hSw); go_simp; try (with_reducible rfl))
        try simp only [Act.put, List.setIfInBounds_toArray, List.set_cons_zero, List.set_cons_succ]
        refine held_take (i := 30) (v := ?_) rfl (by kernel_rfl) (by kernel_rfl) (by kernel_rfl) (fun _ _ _ h => h) (Or.inl ⟨by rfl, ?_⟩) (by assumption) ?_
        rotate_left
        · (intro w hSw; (try dsimp only at hSw); go_simp; try (with_reducible rfl))
        try simp only [Act.put, List.setIfInBounds_toArray, List.set_cons_zero, List.set_cons_succ]
        refine held_take (i := 31) (v := ?_) rfl (by kernel_rfl) (by kernel_rfl) (by kernel_rfl) (fun _ _ _ h => h) (Or.inl ⟨by rfl, ?_⟩) (by assumption) ?_
        rotate_left
        · (intro w hSw; (try dsimp only at hSw); go_simp; try (with_reducible rfl))
        try simp only [Act.put, List.setIfInBounds_toArray, List.set_cons_zero, List.set_cons_succ]
        refine held_take (i := 32) (v := ?_) rfl (by kernel_rfl) (by kernel_rfl) (by kernel_rfl) (fun _ _ _ h => h) (Or.inl ⟨by rfl, ?_⟩) (by assumption) ?_
        rotate_left
        · (intro w hSw; (try dsimp only at hSw); go_simp; try (with_reducible rfl))
        try simp only [Act.put, List.setIfInBounds_toArray, List.set_cons_zero, List.set_cons_succ]
        refine held_take (i := 34) (v := ?_) rfl (by kernel_rfl) (by kernel_rfl) (by kernel_rfl) (fun _ _ _ h => h) (Or.inl ⟨by rfl, ?_⟩) (by assumption) ?_
        rotate_left
        · (intro w hSw; (try dsimp only at hSw); go_simp; try (with_reducible rfl))
        try simp only [Act.put, List.setIfInBounds_toArray, List.set_cons_zero, List.set_cons_succ]
        refine held_take (i := 35) (v := ?_) rfl (by kernel_rfl) (by kernel_rfl) (by kernel_rfl) (fun _ _ _ h => h) (Or.inl ⟨by rfl, ?_⟩) (by assumption) ?_
        rotate_left
        · (intro w hSw; (try dsimp only at hSw); go_simp; try (with_reducible rfl))
        try simp only [Act.put, List.setIfInBounds_toArray, List.set_cons_zero, List.set_cons_succ]
        refine held_take (i := 36) (v := ?_) rfl (by kernel_rfl) (by kernel_rfl) (by kernel_rfl) (fun _ _ _ h => h) (Or.inl ⟨by rfl, ?_⟩) (by assumption) ?_
        rotate_left
        · (intro w hSw; (try dsimp only at hSw); go_simp; try (with_reducible rfl))
        try simp only [Act.put, List.setIfInBounds_toArray, List.set_cons_zero, List.set_cons_succ]
        refine held_take (i := 37) (v := ?_) rfl (by kernel_rfl) (by kernel_rfl) (by kernel_rfl) (fun _ _ _ h => h) (Or.inl ⟨by rfl, ?_⟩) (by assumption) ?_
        rotate_left
        · (intro w hSw; (try dsimp only at hSw); go_simp; try (with_reducible rfl))
        try simp only [Act.put, List.setIfInBounds_toArray, List.set_cons_zero, List.set_cons_succ]
        refine wpAnyH_ready (rs := [33]) (by kernel_rfl) (by simp) ?_
        refine held_cons rfl (fun K hK => ?_) AllReadyH.nil
        go_simp
        go_at_call 15
        refine hpl.mono ?_
        clear hpl
        rintro _ wc ⟨vc, rfl, hrc, hbc0⟩
        have hbc := hbb.trans (hbc0.mono hbb.size)
        have hsa := same29_walk (SeesR.row hrc) (HS.out.bel (hB8.trans (hbc.mono hB8.size))) hlq
        go_wp2_with fail
        refine hK.out _ _ (HS10.out _ hbc0) (fun hHeld => ?_)
        clear hK K
        try simp only [Act.put, List.setIfInBounds_toArray, List.set_cons_zero, List.set_cons_succ]
        refine wpAnyH_ready (rs := [38]) (by kernel_rfl) (by simp) ?_
        refine held_cons rfl (fun K hK => ?_) AllReadyH.nil
        go_simp
        go_at_call 14
        refine hsa.mono ?_
        clear hsa
        rintro _ wd ⟨rfl, hbd0⟩
        have hbd := hbc.trans (hbd0.mono hbc.size)
        go_wp2_with fail
        refine hK.out _ _ (HS10.out _ (hbc0.trans (hbd0.mono hbc0.size))) (fun hHeld => ?_)
        clear hK K
        try simp only [Act.put, List.setIfInBounds_toArray, List.set_cons_zero, List.set_cons_succ]
        refine held_take (i := 39) (v := ?_) rfl (by kernel_rfl) (by kernel_rfl) (by kernel_rfl) (fun _ _ _ h => h) (Or.inl ⟨by rfl, ?_⟩) (by assumption) ?_
        rotate_left
        · (intro w hSw; (try dsimp only at hSw); go_simp; try (with_reducible rfl))
        try simp only [Act.put, List.setIfInBounds_toArray, List.set_cons_zero, List.set_cons_succ]
        refine held_take (i := 40) (v := ?_) rfl (by kernel_rfl) (by kernel_rfl) (by kernel_rfl) (fun _ _ _ h => h) (Or.inl ⟨by rfl, ?_⟩) (by assumption) ?_
        rotate_left
        · (intro w hSw; (try dsimp only at hSw); go_simp; try (with_reducible rfl))
        try simp only [Act.put, List.setIfInBounds_toArray, List.set_cons_zero, List.set_cons_succ]
        refine wpAnyH_done (by kernel_rfl) ?_ _
        go_wp2_with fail
        go_roundw
        case rel => exact ⟨j + 1, hjl, by go_num, hB8.trans (hbd.mono hB8.size)⟩
        case measure => simp [intOf]; omega
      · have hfm' : formed q = false := by simpa using hfm
        have hen := encode_bad hs5 hF hfm'
        go_wp2_with fail
        refine hen.mono ?_
        clear hen
        rintro _ w6 ⟨rfl, hb6⟩
        have hB6 := hB5.trans (hb6.mono hB5.size)
        have k6 := HC.out w6 hB6
        have hfo := formed_walk (hS.bel hB6) (by have := hF.len; omega) (fun r hr => by have := hF.each r hr; omega)
        rw [hfm'] at hfo
        go_wp2_with fail
        refine hfo.mono ?_
        clear hfo k6
        rintro _ w7 ⟨rfl, hb7⟩
        have hB7 := hB6.trans (hb7.mono hB6.size)
        have k7 := HC.out w7 hB7
        have hfe := fencode_walk (hS.bel hB7) hF
        go_wp2_with fail
        refine hfe.mono ?_
        clear hfe k7
        rintro _ w8 ⟨u8, rfl, hr8, hb8⟩
        have hB8 := hB7.trans (hb8.mono hB7.size)
        have hlen : (encL q).length ≤ 10000000 := by have := hF.encLen; omega
        have hde := decode_walk (Sees.row hr8) hlen
        obtain ⟨A8, c8, rfl, -⟩ := row_form hr8
        go_wp2_with fail
        refine hde.mono ?_
        clear hde
        rintro _ w9 ⟨u9, cz, rfl, hD, hb9⟩
        obtain ⟨rfl, rfl⟩ := hD.bad (decL_unformed hF hfm')
        have hB9 := hB8.trans (hb9.mono hB8.size)
        go_wp2_with fail
        go_roundw
        case rel => exact ⟨j + 1, hjl, by go_num, hB9⟩
        case measure => simp [intOf]; omega
    · have hje : j = 2 := by omega
      have hjI : ¬ (j : Int) < 2 := by omega
      clear hje hj HAT
      have htw := htwo.bel hb
      have hBw := hB4.trans (hb.mono hB4.size)
      obtain ⟨wo, rfl⟩ : ∃ x, x = wr := ⟨_, rfl⟩
      have hfe := fencode_walk htw.s1 hF1
      have hEl := hF1.encLen
      have hE0 : 0 < (encL rs).length := by
        rcases Nat.eq_zero_or_pos (encL rs).length with h | h
        · exfalso
          have h1 := iN_enc hF1
          rw [List.length_eq_zero_iff.1 h] at h1
          have h2 : iN (some []) = 0 := rfl
          rw [h2] at h1
          omega
        · exact h
      go_wp2_with fail
      refine hfe.mono ?_
      clear hfe
      rintro _ w5 ⟨ub, rfl, hrb, hb5⟩
      obtain ⟨E, hE⟩ : ∃ x, encL rs = x := ⟨_, rfl⟩
      rw [hE] at hEl hE0 hrb
      have HE := Lib.hid hE
      obtain ⟨gb, cb, rfl⟩ := row_ptr hrb hE0
      have hgb := World.ownsRow.lt hrb gb rfl
      obtain ⟨k, hk, hke⟩ := arnd_bd at' hE0
      have har := around_walk at' E.length w5 hE0 ha.1 ha.2 (by omega)
      rw [hke] at har
      clear hE hke
      go_wp2_with fail
      refine har.mono ?_
      clear har
      rintro _ w6 ⟨rfl, rfl⟩
      have hmade := World.ownsRow_made (e := 5) (size := 1) (base := w6.heap.size) w6 #[] 0 (Nat.le_refl _) (Nat.zero_le _) rfl
      have hseeb := (Sees.row hrb).alloc (.cells #[] 5)
      have hone : ∀ (l : List UInt8), ∀ u ∈ bv l, u.oneCell' = true := by
        intro l u hu
        unfold bv at hu
        obtain ⟨x, -, rfl⟩ := List.mem_map.1 hu
        rfl
      have h63 : 0 + E.length ≤ maxLen := by unfold maxLen; omega
      have hby : (0 + E.length) * 1 ≤ 140737488355328 := by omega
      have hkI : (k : Int) < (E.length : Int) := by omega
      go_wp2_with (first
        | (at_builtin; refine wpList_append_sees rfl _ _ 23 rfl i0 _ 1 Tryz.underlying23 hi0 hz0 hz1 hz2 rfl (by decide) _ _ _ rfl hmade _ E.length _ rfl hseeb (by rw [bv_len]; omega) (hone E) h63 hby (by simp) ?_; intro v7 w7 hrow7 hgrow7 hown7; rw [Nat.zero_add, List.nil_append] at hrow7; obtain ⟨g7, c7, rfl⟩ := row_ptr hrow7 hE0; have y7 := row_thaw hrow7 k; have z7 := row_cell hrow7 (j := k) (by rw [bv_len]; omega); obtain ⟨u7, z7⟩ := z7; have hlt7 := (World.ownsRow.lt hrow7 g7 rfl).2)
        | fail)
      have hB7 : Below w6.heap.size w6 w7 := grown_bel0 ((Below.refl _ w6).alloc (Nat.le_refl _) _) hmade (by simp) hgrow7
      have hg7 := (World.ownsRow.lt hrow7 g7 rfl).1
      have hrow8 := row_setAt hrow7 (j := k) (.int .u8 (c.toNat : Int))
      rw [show (bv E).set k (.int .u8 (c.toNat : Int)) = bv (E.set k c) by unfold bv; rw [List.map_set]] at hrow8
      have hB8 : Below w6.heap.size w6 (w7.setCell ⟨g7, k, none⟩ (.int .u8 (c.toNat : Int))) := hB7.setCell (p := ⟨g7, k, none⟩) hg7 _
      obtain ⟨w8, hw8⟩ : ∃ x, w7.setCell ⟨g7, k, none⟩ (.int .u8 (c.toNat : Int)) = x := ⟨_, rfl⟩
      rw [hw8] at hrow8 hB8
      have hcb : E.length ≤ cb := by
        obtain ⟨a, c', e1, h⟩ := row_form hrb
        cases e1
        exact h
      have hseeb8 := (Sees.row hrb).bel hB8
      have hsl1 : Sees w8 1 (.slice (some ⟨gb, 0, none⟩) k cb) (bv (E.take k)) := by
        obtain ⟨A, n, cc, e1, q1, q2, q3⟩ := hseeb8
        cases e1
        refine ⟨_, _, _, rfl, by rw [bv_len, List.length_take]; omega, by omega, fun h => ?_⟩
        obtain ⟨b, s, e2, hb, hc⟩ := q3 (by omega)
        refine ⟨b, s, e2, hb, fun i u hi => hc i u ?_⟩
        unfold bv at hi ⊢
        rw [List.map_take, List.getElem?_take] at hi
        split at hi
        · exact hi
        · cases hi
      have hn8 : ∀ (A : Option Addr) (n cc o : Nat), n = E.length - (k + 1) → n ≤ cc → (n ≠ 0 → A = some ⟨gb, k + 1, none⟩) → Sees w8 1 (.slice A n cc) (bv (E.drop (k + 1))) := by
        intro A n cc o hn hcc hA
        refine ⟨_, _, _, rfl, by rw [bv_len, List.length_drop]; omega, hcc, fun h => ?_⟩
        obtain ⟨A', n', cc', e1, q1, q2, q3⟩ := hseeb8
        cases e1
        obtain ⟨b, s, e2, hb, hc⟩ := q3 (by omega)
        cases e2
        refine ⟨gb, k + 1, hA h, hb, fun i u hi => ?_⟩
        have := hc (k + 1 + i) u (by
          unfold bv at hi ⊢
          rw [List.map_drop, List.getElem?_drop] at hi
          exact hi)
        rwa [Nat.zero_add] at this
      clear y7 hrow7 hgrow7 hown7 hmade hseeb hlt7
      have hnil8 : w8.drew.ownsRow w8.drew.heap.size 5 1 (.slice none 0 0) 0 [] := World.ownsRow_nil _ _ _ _
      have hsl1d := hsl1.bel (Below.refl _ w8).drew
      have hlk1 : (bv (E.take k)).length = k * 1 := by rw [bv_len, List.length_take]; omega
      have hk63 : 0 + k ≤ maxLen := by unfold maxLen; omega
      have hkby : (0 + k) * 1 ≤ 140737488355328 := by omega
      have hkcb : k ≤ cb := by omega
      have hk1 : k + 1 ≤ E.length := by omega
      have hk1I : (k : Int) + 1 ≤ (E.length : Int) := by omega
      have hk0I : (0 : Int) ≤ (k : Int) + 1 := by omega
      have hw1 : IntKind.i64.wrap ((k : Int) + 1) = (k : Int) + 1 := wrapS (by omega) (by omega)
      have hkcI : (k : Int) ≤ (cb : Int) := by omega
      go_wp2_with fail
      rw [hw8]
      refine wp_region_held_drew (S := fun w' => True) (by kernel_rfl) (trivial) (fun hHeld => ?_)
      refine held_take (i := 0) (v := ?_) rfl (by kernel_rfl) (by kernel_rfl) (by kernel_rfl) (fun _ _ _ h => h) (Or.inl ⟨by rfl, ?_⟩) (by assumption) ?_
      rotate_left
      · (intro w hSw; (try dsimp only at hSw); go_simp; try (with_reducible rfl))
      try simp only [Act.put, List.setIfInBounds_toArray, List.set_cons_zero, List.set_cons_succ]
      refine held_take (i := 1) (v := ?_) rfl (by kernel_rfl) (by kernel_rfl) (by kernel_rfl) (fun _ _ _ h => h) (Or.inl ⟨by rfl, ?_⟩) (by assumption) ?_
      rotate_left
      · (intro w hSw; (try dsimp only at hSw); go_simp; try (with_reducible rfl))
      try simp only [Act.put, List.setIfInBounds_toArray, List.set_cons_zero, List.set_cons_succ]
      refine held_take (i := 2) (v := ?_) rfl (by kernel_rfl) (by kernel_rfl) (by kernel_rfl) (fun _ _ _ h => h) (Or.inl ⟨by rfl, ?_⟩) (by assumption) ?_
      rotate_left
      · (intro w hSw; (try dsimp only at hSw); go_simp; try (with_reducible rfl))
      try simp only [Act.put, List.setIfInBounds_toArray, List.set_cons_zero, List.set_cons_succ]
      refine held_take (i := 3) (v := ?_) rfl (by kernel_rfl) (by kernel_rfl) (by kernel_rfl) (fun _ _ _ h => h) (Or.inl ⟨by rfl, ?_⟩) (by assumption) ?_
      rotate_left
      · (intro w hSw; (try dsimp only at hSw); go_simp; try (with_reducible rfl))
      try simp only [Act.put, List.setIfInBounds_toArray, List.set_cons_zero, List.set_cons_succ]
      refine held_take (i := 5) (v := ?_) rfl (by kernel_rfl) (by kernel_rfl) (by kernel_rfl) (fun _ _ _ h => h) (Or.inl ⟨by rfl, ?_⟩) (by assumption) ?_
      rotate_left
      · (intro w hSw; (try dsimp only at hSw); go_simp; try (with_reducible rfl))
      try simp only [Act.put, List.setIfInBounds_toArray, List.set_cons_zero, List.set_cons_succ]
      refine held_take (i := 6) (v := ?_) rfl (by kernel_rfl) (by kernel_rfl) (by kernel_rfl) (fun _ _ _ h => h) (Or.inl ⟨by rfl, ?_⟩) (by assumption) ?_
      rotate_left
      · (intro w hSw; (try dsimp only at hSw); go_simp; try (with_reducible rfl))
      try simp only [Act.put, List.setIfInBounds_toArray, List.set_cons_zero, List.set_cons_succ]
      refine held_take (i := 7) (v := ?_) rfl (by kernel_rfl) (by kernel_rfl) (by kernel_rfl) (fun _ _ _ h => h) (Or.inl ⟨by rfl, ?_⟩) (by assumption) ?_
      rotate_left
      · (intro w hSw; (try dsimp only at hSw); go_simp; try (with_reducible rfl))
      try simp only [Act.put, List.setIfInBounds_toArray, List.set_cons_zero, List.set_cons_succ]
      refine held_take (i := 8) (v := ?_) rfl (by kernel_rfl) (by kernel_rfl) (by kernel_rfl) (fun _ _ _ h => h) (Or.inl ⟨by rfl, ?_⟩) (by assumption) ?_
      rotate_left
      · (intro w hSw; (try dsimp only at hSw); go_simp; try (with_reducible rfl))
      try simp only [Act.put, List.setIfInBounds_toArray, List.set_cons_zero, List.set_cons_succ]
      refine wpAnyH_ready (rs := [4]) (by kernel_rfl) (by simp) ?_
      refine held_cons rfl (fun K hK => ?_) AllReadyH.nil
      refine step_append_sees rfl _ _ 23 rfl i0 _ 1 Tryz.underlying23 hi0 hz0 hz1 hz2 rfl (by omega) (.slice none 0 0) 0 [] (by rfl) hnil8 _ k (bv (E.take k)) (by rfl) hsl1d hlk1 (hone _) hk63 hkby (Nat.le_refl _) ?_
      intro v9 w9 hrow9 hgrow9 hown9
      rw [Nat.zero_add, List.nil_append] at hrow9
      obtain ⟨A9, c9, rfl, -⟩ := row_form hrow9
      have hB9 : Below w8.heap.size w8 w9 := (grown_bel0 (Below.refl _ w8).drew hnil8 (Nat.le_refl _) hgrow9)
      have hl2 : (bv (E.drop (k + 1))).length = (E.length - (k + 1)) * 1 := by rw [bv_len, List.length_drop]; omega
      have h263 : k + (E.length - (k + 1)) ≤ maxLen := by unfold maxLen; omega
      have h2by : (k + (E.length - (k + 1))) * 1 ≤ 140737488355328 := by omega
      have hbase9 : w8.drew.heap.size ≤ w9.heap.size := hB9.size
      refine hK.out _ _ (trivial) (fun hHeld => ?_)
      clear hK K
      try simp only [Act.put, List.setIfInBounds_toArray, List.set_cons_zero, List.set_cons_succ]
      refine wpAnyH_ready (rs := [9]) (by kernel_rfl) (by simp) ?_
      refine held_cons rfl (fun K hK => ?_) AllReadyH.nil
      refine step_append_sees rfl _ _ 23 rfl i0 _ 1 Tryz.underlying23 hi0 hz0 hz1 hz2 rfl (by omega) _ k (bv (E.take k)) (by rfl) hrow9 _ (E.length - (k + 1)) (bv (E.drop (k + 1))) (by rfl) ?_ hl2 (hone _) h263 h2by hbase9 ?_
      · refine (hn8 _ _ _ 0 ?_ ?_ ?_).bel hB9
        · omega
        · omega
        · intro h; exact if_neg (by omega)
      intro v10 w10 hrow10 hgrow10 hown10
      refine hK.out _ _ (trivial) (fun hHeld => ?_)
      clear hK K
      try simp only [Act.put, List.setIfInBounds_toArray, List.set_cons_zero, List.set_cons_succ]
      refine held_take (i := 10) (v := ?_) rfl (by kernel_rfl) (by kernel_rfl) (by kernel_rfl) (fun _ _ _ h => h) (Or.inl ⟨by rfl, ?_⟩) (by assumption) ?_
      rotate_left
      · (intro w hSw; (try dsimp only at hSw); go_simp; try (with_reducible rfl))
      try simp only [Act.put, List.setIfInBounds_toArray, List.set_cons_zero, List.set_cons_succ]
      refine wpAnyH_done (by kernel_rfl) ?_ _
      have hB10 : Below w8.heap.size w8 w10 := grown_bel0 hB9 hrow9 hB9.size hgrow10
      obtain ⟨A10, c10, rfl, -⟩ := row_form hrow10
      have hs2 := Sees.row hrow10
      rw [show bv (E.take k) ++ bv (E.drop (k + 1)) = bv (E.take k ++ E.drop (k + 1)) by unfold bv; rw [List.map_append]] at hs2
      have hs1 := (Sees.row hrow8).bel hB10
      have hsb := hseeb8.bel hB10
      have hBw10 := hBw.trans (((hb5.trans (hB8.mono hb5.size)).trans (hB10.mono (hb5.trans (hB8.mono hb5.size)).size)).mono hBw.size)
      have hs0 := hraw0.bel hBw10
      have hR60 : ∀ m : Nat, m ≤ rn → m ≤ 60 → Sees w10 1 (.slice rA m rc) (bv (R.take m)) := by
        intro m hm _
        obtain ⟨A, n, cc, e1, q1, q2, q3⟩ := hs0
        cases e1
        refine ⟨_, _, _, rfl, by rw [bv_len, List.length_take]; rw [bv_len] at q1; omega, by omega, fun h => ?_⟩
        obtain ⟨b, s, e2, hb, hc⟩ := q3 (by omega)
        refine ⟨b, s, e2, hb, fun i u hi => hc i u ?_⟩
        unfold bv at hi ⊢
        rw [List.map_take, List.getElem?_take] at hi
        split at hi
        · exact hi
        · cases hi
      obtain ⟨n10, hn10⟩ : ∃ x, k + (E.length - (k + 1)) = x := ⟨_, rfl⟩
      rw [hn10] at hs2 hrow10
      clear hrow9 hgrow9 hrow10 hgrow10 hsl1 hsl1d hn8 hseeb8 hB9 hown9 hown10
      go_upto_region 21 with fail
      rw [hn10]
      generalize (if cb = k + 1 then (some ⟨gb, 0, none⟩ : Option Addr) else some ⟨gb, k + 1, none⟩) = sA20
      clear hn10
      have hfull := fun (o1 o2 : Obj) => World.ownsRow_made (e := 5) (size := 1) (base := w10.heap.size) w10 #[] 0 (Nat.le_refl _) (Nat.zero_le _) rfl
      have hEE : (bv E).length = E.length * 1 := by rw [bv_len]; omega
      have h63 : 0 + E.length ≤ maxLen := by unfold maxLen; omega
      have hby : (0 + E.length) * 1 ≤ 140737488355328 := by omega
      have h631 : E.length + 1 ≤ maxLen := by unfold maxLen; omega
      have hby1 : (E.length + 1) * 1 ≤ 140737488355328 := by omega
      have hrn0 : (0 : Int) ≤ (rn : Int) := Int.natCast_nonneg _
      go_cut [27] (fun s27 wx => ∃ tb : Nat, s27 = .slice (some ⟨tb, 0, none⟩) 4 4 ∧ Texts wx tb ∧ Below w10.heap.size w10 wx)
      case first =>
        have hq0 := (Below.refl w10.heap.size w10).drew
        have hNew : ∀ v : World, Below w10.heap.size w10 v → (v.alloc (.cells #[] 5)).ownsRow w10.heap.size 5 1 (.slice (some ⟨v.heap.size, 0, none⟩) 0 0) 0 [] := fun v hv => World.ownsRow_made v #[] 0 hv.size (Nat.zero_le _) rfl
        have hOne : ∀ v : World, Below w10.heap.size w10 v → Sees (v.alloc (.cells #[.int .u8 (c.toNat : Int)] 5)) 1 (.slice (some ⟨v.heap.size, 0, none⟩) 1 1) (bv [c]) := fun v hv => Sees.row (World.ownsRow_lit (base := w10.heap.size) (e := 5) (size := 1) v #[.int .u8 (c.toNat : Int)] 1 hv.size (by unfold maxLen; omega) rfl)
        obtain ⟨m60, hm60, hm61, hmv⟩ : ∃ m : Nat, m ≤ rn ∧ m ≤ 60 ∧ ((if (60 : Int) < (rn : Int) then (60 : Int) else (rn : Int)) = (m : Int)) := by
          by_cases h60 : (60 : Int) < (rn : Int)
          · exact ⟨60, by omega, Nat.le_refl _, by rw [if_pos h60]; rfl⟩
          · exact ⟨rn, Nat.le_refl _, by omega, by rw [if_neg h60]⟩
        have hsr := hR60 m60 hm60 hm61
        have hm60c : m60 ≤ rc := by omega
        have hEnd : ∀ (wz : World) (A : Option Addr) (cz : Nat), Below w10.heap.size w10 wz → Sees wz 1 (.slice A (E.length + 1) cz) (bv (E ++ [c])) → Texts (wz.alloc (.cells #[.slice rA m60 rc, .slice (some ⟨g7, 0, none⟩) E.length c7, .slice A10 n10 c10, .slice A (E.length + 1) cz] 23)) wz.heap.size := by
          intro wz A cz hz hS
          refine Texts.made (Blk.made wz 23 _) ((hsr.bel hz).alloc _) ((hs1.bel hz).alloc _) ((hs2.bel hz).alloc _) (hS.alloc _) ?_ ?_ ?_ ?_
          · rw [List.length_take]; omega
          · rw [List.length_set]; omega
          · rw [List.length_append, List.length_take, List.length_drop]; omega
          · rw [List.length_append, List.length_singleton]; omega
        refine wp_region_held_drew (S := fun w' => True) (by kernel_rfl) (trivial) (fun hHeld => ?_)
        refine held_take (i := 0) (v := ?_) rfl (by kernel_rfl) (by kernel_rfl) (by kernel_rfl) (fun _ _ _ h => h) (Or.inl ⟨by rfl, ?_⟩) (by assumption) ?_
        rotate_left
        · (intro w hSw; (try dsimp only at hSw); go_simp; try (with_reducible rfl))
        try simp only [Act.put, List.setIfInBounds_toArray, List.set_cons_zero, List.set_cons_succ]
        refine held_take (i := 1) (v := ?_) rfl (by kernel_rfl) (by kernel_rfl) (by kernel_rfl) (fun _ _ _ h => h) (Or.inl ⟨by rfl, ?_⟩) (by assumption) ?_
        rotate_left
        · (intro w hSw; (try dsimp only at hSw); go_simp; try (with_reducible rfl))
        try simp only [Act.put, List.setIfInBounds_toArray, List.set_cons_zero, List.set_cons_succ]
        refine held_take (i := 2) (v := ?_) rfl (by kernel_rfl) (by kernel_rfl) (by kernel_rfl) (fun _ _ _ h => h) (Or.inl ⟨by rfl, ?_⟩) (by assumption) ?_
        rotate_left
        · (intro w hSw; (try dsimp only at hSw); go_simp; try (with_reducible rfl))
        try simp only [Act.put, List.setIfInBounds_toArray, List.set_cons_zero, List.set_cons_succ]
        refine held_take (i := 3) (v := ?_) rfl (by kernel_rfl) (by kernel_rfl) (by kernel_rfl) (fun _ _ _ h => h) (Or.inl ⟨by rfl, ?_⟩) (by assumption) ?_
        rotate_left
        · (intro w hSw; (try dsimp only at hSw); go_simp; try (with_reducible rfl))
        try simp only [Act.put, List.setIfInBounds_toArray, List.set_cons_zero, List.set_cons_succ]
        refine held_take (i := 4) (v := ?_) rfl (by kernel_rfl) (by kernel_rfl) (by kernel_rfl) (fun _ _ _ h => h) (Or.inl ⟨by rfl, ?_⟩) (by assumption) ?_
        rotate_left
        · (intro w hSw; (try dsimp only at hSw); go_simp; try (with_reducible rfl))
        try simp only [Act.put, List.setIfInBounds_toArray, List.set_cons_zero, List.set_cons_succ]
        refine held_take (i := 5) (v := ?_) rfl (by kernel_rfl) (by kernel_rfl) (by kernel_rfl) (fun _ _ _ h => h) (Or.inl ⟨by rfl, ?_⟩) (by assumption) ?_
        rotate_left
        · (intro w hSw; (try dsimp only at hSw); go_simp; try (with_reducible rfl))
        try simp only [Act.put, List.setIfInBounds_toArray, List.set_cons_zero, List.set_cons_succ]
        refine held_take (i := 6) (v := ?_) rfl (by kernel_rfl) (by kernel_rfl) (by kernel_rfl) (fun _ _ _ h => h) (Or.inl ⟨by rfl, ?_⟩) (by assumption) ?_
        rotate_left
        · (intro w hSw; (try dsimp only at hSw); go_simp; try (with_reducible rfl))
        try simp only [Act.put, List.setIfInBounds_toArray, List.set_cons_zero, List.set_cons_succ]
        refine held_take (i := 8) (v := ?_) rfl (by kernel_rfl) (by kernel_rfl) (by kernel_rfl) (fun _ _ _ h => h) (Or.inl ⟨by rfl, ?_⟩) (by assumption) ?_
        rotate_left
        · (intro w hSw; (try dsimp only at hSw); go_simp; try (with_reducible rfl))
        try simp only [Act.put, List.setIfInBounds_toArray, List.set_cons_zero, List.set_cons_succ]
        refine held_take (i := 10) (v := ?_) rfl (by kernel_rfl) (by kernel_rfl) (by kernel_rfl) (fun _ _ _ h => h) (Or.inl ⟨by rfl, ?_⟩) (by assumption) ?_
        rotate_left
        · (intro w hSw; (try dsimp only at hSw); go_simp; try (with_reducible rfl))
        try simp only [Act.put, List.setIfInBounds_toArray, List.set_cons_zero, List.set_cons_succ]
        refine wpAnyH_ready (rs := [7, 11]) (by kernel_rfl) (by simp) ?_
        refine held_cons rfl (fun K hK => ?_) (held_cons rfl (fun K hK => ?_) AllReadyH.nil)
        · go_simp
          refine hK.out _ _ (trivial) (fun hHeld => ?_)
          clear hK K
          try simp only [Act.put, List.setIfInBounds_toArray, List.set_cons_zero, List.set_cons_succ]
          have hq1 := hq0.alloc hq0.size (.cells #[] 5)
          have hr1 := hNew _ hq0
          refine wpAnyH_ready (rs := [9, 11]) (by kernel_rfl) (by simp) ?_
          refine held_cons rfl (fun K hK => ?_) (held_cons rfl (fun K hK => ?_) AllReadyH.nil)
          · refine step_append_sees rfl _ _ 23 rfl i0 _ 1 Tryz.underlying23 hi0 hz0 hz1 hz2 rfl (by omega) _ 0 [] (by rfl) hr1 _ E.length (bv E) (by rfl) (hsb.bel hq1) hEE (hone E) h63 hby hq1.size ?_
            intro x1 w1x hrx1 hgx1 hox1
            rw [Nat.zero_add, List.nil_append] at hrx1
            obtain ⟨A1x, c1x, rfl, -⟩ := row_form hrx1
            have hq2 := grown_bel0 hq1 hr1 hq1.size hgx1
            refine hK.out _ _ (trivial) (fun hHeld => ?_)
            clear hK K
            try simp only [Act.put, List.setIfInBounds_toArray, List.set_cons_zero, List.set_cons_succ]
            refine wpAnyH_ready (rs := [11]) (by kernel_rfl) (by simp) ?_
            refine held_cons rfl (fun K hK => ?_) AllReadyH.nil
            go_simp
            refine hK.out _ _ (trivial) (fun hHeld => ?_)
            clear hK K
            try simp only [Act.put, List.setIfInBounds_toArray, List.set_cons_zero, List.set_cons_succ]
            have hq3 := hq2.alloc hq2.size (.cells #[.int .u8 (c.toNat : Int)] 5)
            have hr3 := hrx1.alloc (.cells #[.int .u8 (c.toNat : Int)] 5)
            have ho3 := hOne _ hq2
            refine wpAnyH_ready (rs := [12]) (by kernel_rfl) (by simp) ?_
            refine held_cons rfl (fun K hK => ?_) AllReadyH.nil
            refine step_append_sees rfl _ _ 23 rfl i0 _ 1 Tryz.underlying23 hi0 hz0 hz1 hz2 rfl (by omega) _ E.length (bv E) (by rfl) hr3 _ 1 (bv [c]) (by rfl) ho3 rfl (hone [c]) h631 hby1 hq3.size ?_
            intro x2 w2x hrx2 hgx2 hox2
            rw [← bv_app] at hrx2
            obtain ⟨A2x, c2x, rfl, -⟩ := row_form hrx2
            have hzz := grown_bel0 hq3 hr3 hq3.size hgx2
            refine hK.out _ _ (trivial) (fun hHeld => ?_)
            clear hK K
            try simp only [Act.put, List.setIfInBounds_toArray, List.set_cons_zero, List.set_cons_succ]
            refine wpAnyH_ready (rs := [13]) (by kernel_rfl) (by simp) ?_
            refine held_cons rfl (fun K hK => ?_) AllReadyH.nil
            go_simp
            refine hK.out _ _ (trivial) (fun hHeld => ?_)
            clear hK K
            try simp only [Act.put, List.setIfInBounds_toArray, List.set_cons_zero, List.set_cons_succ]
            refine held_take (i := 14) (v := ?_) rfl (by kernel_rfl) (by kernel_rfl) (by kernel_rfl) (fun _ _ _ h => h) (Or.inl ⟨by rfl, ?_⟩) (by assumption) ?_
            rotate_left
            · (intro w hSw; (try dsimp only at hSw); go_simp; try (with_reducible rfl))
            try simp only [Act.put, List.setIfInBounds_toArray, List.set_cons_zero, List.set_cons_succ]
            refine wpAnyH_done (by kernel_rfl) ?_ _
            go_wp2_with fail
            go_meet
            case rel => exact ⟨_, rfl, hEnd _ _ _ hzz (Sees.row hrx2), hzz.alloc hzz.size _⟩
          · go_simp
            refine hK.out _ _ (trivial) (fun hHeld => ?_)
            clear hK K
            try simp only [Act.put, List.setIfInBounds_toArray, List.set_cons_zero, List.set_cons_succ]
            have hq2 := hq1.alloc hq1.size (.cells #[.int .u8 (c.toNat : Int)] 5)
            have hr2 := hr1.alloc (.cells #[.int .u8 (c.toNat : Int)] 5)
            have ho2 := hOne _ hq1
            rw [show (w10.drew.alloc (.cells #[] 5)).heap.size = w10.heap.size + 1 by rw [World.size_alloc, World.size_drew]] at ho2
            refine wpAnyH_ready (rs := [9]) (by kernel_rfl) (by simp) ?_
            refine held_cons rfl (fun K hK => ?_) AllReadyH.nil
            refine step_append_sees rfl _ _ 23 rfl i0 _ 1 Tryz.underlying23 hi0 hz0 hz1 hz2 rfl (by omega) _ 0 [] (by rfl) hr2 _ E.length (bv E) (by rfl) (hsb.bel hq2) hEE (hone E) h63 hby hq2.size ?_
            intro x1 w1x hrx1 hgx1 hox1
            rw [Nat.zero_add, List.nil_append] at hrx1
            obtain ⟨A1x, c1x, rfl, -⟩ := row_form hrx1
            have hq3 := grown_bel0 hq2 hr2 hq2.size hgx1
            refine hK.out _ _ (trivial) (fun hHeld => ?_)
            clear hK K
            try simp only [Act.put, List.setIfInBounds_toArray, List.set_cons_zero, List.set_cons_succ]
            have ho3 := sees_grown ho2 hgx1 (by show w10.heap.size + 1 ≠ w10.heap.size; omega) (by simp only [World.size_alloc, World.size_drew]; omega)
            refine wpAnyH_ready (rs := [12]) (by kernel_rfl) (by simp) ?_
            refine held_cons rfl (fun K hK => ?_) AllReadyH.nil
            refine step_append_sees rfl _ _ 23 rfl i0 _ 1 Tryz.underlying23 hi0 hz0 hz1 hz2 rfl (by omega) _ E.length (bv E) (by rfl) hrx1 _ 1 (bv [c]) (by rfl) ho3 rfl (hone [c]) h631 hby1 hq3.size ?_
            intro x2 w2x hrx2 hgx2 hox2
            rw [← bv_app] at hrx2
            obtain ⟨A2x, c2x, rfl, -⟩ := row_form hrx2
            have hzz := grown_bel0 hq3 hrx1 hq3.size hgx2
            refine hK.out _ _ (trivial) (fun hHeld => ?_)
            clear hK K
            try simp only [Act.put, List.setIfInBounds_toArray, List.set_cons_zero, List.set_cons_succ]
            refine wpAnyH_ready (rs := [13]) (by kernel_rfl) (by simp) ?_
            refine held_cons rfl (fun K hK => ?_) AllReadyH.nil
            go_simp
            refine hK.out _ _ (trivial) (fun hHeld => ?_)
            clear hK K
            try simp only [Act.put, List.setIfInBounds_toArray, List.set_cons_zero, List.set_cons_succ]
            refine held_take (i := 14) (v := ?_) rfl (by kernel_rfl) (by kernel_rfl) (by kernel_rfl) (fun _ _ _ h => h) (Or.inl ⟨by rfl, ?_⟩) (by assumption) ?_
            rotate_left
            · (intro w hSw; (try dsimp only at hSw); go_simp; try (with_reducible rfl))
            try simp only [Act.put, List.setIfInBounds_toArray, List.set_cons_zero, List.set_cons_succ]
            refine wpAnyH_done (by kernel_rfl) ?_ _
            go_wp2_with fail
            go_meet
            case rel => exact ⟨_, rfl, hEnd _ _ _ hzz (Sees.row hrx2), hzz.alloc hzz.size _⟩
        · go_simp
          refine hK.out _ _ (trivial) (fun hHeld => ?_)
          clear hK K
          try simp only [Act.put, List.setIfInBounds_toArray, List.set_cons_zero, List.set_cons_succ]
          have hq1 := hq0.alloc hq0.size (.cells #[.int .u8 (c.toNat : Int)] 5)
          have ho1 := hOne _ hq0
          refine wpAnyH_ready (rs := [7]) (by kernel_rfl) (by simp) ?_
          refine held_cons rfl (fun K hK => ?_) AllReadyH.nil
          go_simp
          refine hK.out _ _ (trivial) (fun hHeld => ?_)
          clear hK K
          try simp only [Act.put, List.setIfInBounds_toArray, List.set_cons_zero, List.set_cons_succ]
          have hq2 := hq1.alloc hq1.size (.cells #[] 5)
          have hr2 := hNew _ hq1
          rw [show (w10.drew.alloc (.cells #[.int .u8 (c.toNat : Int)] 5)).heap.size = w10.heap.size + 1 by rw [World.size_alloc, World.size_drew]] at hr2
          have ho2 := ho1.alloc (.cells #[] 5)
          refine wpAnyH_ready (rs := [9]) (by kernel_rfl) (by simp) ?_
          refine held_cons rfl (fun K hK => ?_) AllReadyH.nil
          refine step_append_sees rfl _ _ 23 rfl i0 _ 1 Tryz.underlying23 hi0 hz0 hz1 hz2 rfl (by omega) _ 0 [] (by rfl) hr2 _ E.length (bv E) (by rfl) (hsb.bel hq2) hEE (hone E) h63 hby hq2.size ?_
          intro x1 w1x hrx1 hgx1 hox1
          rw [Nat.zero_add, List.nil_append] at hrx1
          obtain ⟨A1x, c1x, rfl, -⟩ := row_form hrx1
          have hq3 := grown_bel0 hq2 hr2 hq2.size hgx1
          refine hK.out _ _ (trivial) (fun hHeld => ?_)
          clear hK K
          try simp only [Act.put, List.setIfInBounds_toArray, List.set_cons_zero, List.set_cons_succ]
          have ho3 := sees_grown ho2 hgx1 (by show w10.heap.size ≠ w10.heap.size + 1; omega) (by simp only [World.size_alloc, World.size_drew]; omega)
          refine wpAnyH_ready (rs := [12]) (by kernel_rfl) (by simp) ?_
          refine held_cons rfl (fun K hK => ?_) AllReadyH.nil
          refine step_append_sees rfl _ _ 23 rfl i0 _ 1 Tryz.underlying23 hi0 hz0 hz1 hz2 rfl (by omega) _ E.length (bv E) (by rfl) hrx1 _ 1 (bv [c]) (by rfl) ho3 rfl (hone [c]) h631 hby1 hq3.size ?_
          intro x2 w2x hrx2 hgx2 hox2
          rw [← bv_app] at hrx2
          obtain ⟨A2x, c2x, rfl, -⟩ := row_form hrx2
          have hzz := grown_bel0 hq3 hrx1 hq3.size hgx2
          refine hK.out _ _ (trivial) (fun hHeld => ?_)
          clear hK K
          try simp only [Act.put, List.setIfInBounds_toArray, List.set_cons_zero, List.set_cons_succ]
          refine wpAnyH_ready (rs := [13]) (by kernel_rfl) (by simp) ?_
          refine held_cons rfl (fun K hK => ?_) AllReadyH.nil
          go_simp
          refine hK.out _ _ (trivial) (fun hHeld => ?_)
          clear hK K
          try simp only [Act.put, List.setIfInBounds_toArray, List.set_cons_zero, List.set_cons_succ]
          refine held_take (i := 14) (v := ?_) rfl (by kernel_rfl) (by kernel_rfl) (by kernel_rfl) (fun _ _ _ h => h) (Or.inl ⟨by rfl, ?_⟩) (by assumption) ?_
          rotate_left
          · (intro w hSw; (try dsimp only at hSw); go_simp; try (with_reducible rfl))
          try simp only [Act.put, List.setIfInBounds_toArray, List.set_cons_zero, List.set_cons_succ]
          refine wpAnyH_done (by kernel_rfl) ?_ _
          go_wp2_with fail
          go_meet
          case rel => exact ⟨_, rfl, hEnd _ _ _ hzz (Sees.row hrx2), hzz.alloc hzz.size _⟩
      case rest =>
        obtain ⟨tb, rfl, hT, hBc⟩ := hcut
        go_wp2_with fail
        go_loopw [28] (fun iv wr => ∃ i : Nat, i ≤ 4 ∧ iv = .int .i64 i ∧ Below wc.heap.size wc wr) (fun iv _ => 4 - (intOf iv).toNat)
        case atStart => exact ⟨0, Nat.zero_le _, rfl, Below.refl _ _⟩
        case round =>
          obtain ⟨i, hi, rfl, hbi⟩ := hrel
          by_cases hil : i < 4
          · obtain ⟨A, n, cc, L, hL, hS, hcell⟩ := hT.each i hil
            have HC := Lib.hid hcell
            have k0 := hcell wr hbi
            have hde := decode_walk (hS.bel hbi) hL
            have hiI : (i : Int) < 4 := by omega
            clear hcell
            go_wp2_with fail
            refine hde.mono ?_
            clear hde
            rintro _ w11 ⟨u, cz, rfl, hD, hb11⟩
            have hB11 := hbi.trans (hb11.mono hbi.size)
            cases hdl : decL L with
            | none =>
              obtain ⟨rfl, rfl⟩ := hD.bad hdl
              clear hdl hD k0
              go_wp2_with fail
              refine wp_region_held_drew (S := fun w' => True) (by kernel_rfl) (trivial) (fun hHeld => ?_)
              refine held_take (i := 0) (v := ?_) rfl (by kernel_rfl) (by kernel_rfl) (by kernel_rfl) (fun _ _ _ h => h) (Or.inl ⟨by rfl, ?_⟩) (by assumption) ?_
              rotate_left
              · (intro w hSw; (try dsimp only at hSw); go_simp; try (with_reducible rfl))
              try simp only [Act.put, List.setIfInBounds_toArray, List.set_cons_zero, List.set_cons_succ]
              refine held_take (i := 1) (v := ?_) rfl (by kernel_rfl) (by kernel_rfl) (by kernel_rfl) (fun _ _ _ h => h) (Or.inl ⟨by rfl, ?_⟩) (by assumption) ?_
              rotate_left
              · (intro w hSw; (try dsimp only at hSw); go_simp; try (with_reducible rfl))
              try simp only [Act.put, List.setIfInBounds_toArray, List.set_cons_zero, List.set_cons_succ]
              refine held_take (i := 2) (v := ?_) rfl (by kernel_rfl) (by kernel_rfl) (by kernel_rfl) (fun _ _ _ h => h) (Or.inl ⟨by rfl, ?_⟩) (by assumption) ?_
              rotate_left
              · (intro w hSw; (try dsimp only at hSw); go_simp; try (with_reducible rfl))
              try simp only [Act.put, List.setIfInBounds_toArray, List.set_cons_zero, List.set_cons_succ]
              refine held_take (i := 3) (v := undef) rfl (by kernel_rfl) (by kernel_rfl) (by kernel_rfl) (fun _ _ _ h => h) (Or.inr ⟨by rfl, rfl⟩) (by assumption) ?_
              try simp only [Act.put, List.setIfInBounds_toArray, List.set_cons_zero, List.set_cons_succ]
              refine wpAnyH_ready (rs := [4]) (by kernel_rfl) (by simp) ?_
              refine held_cons rfl (fun K hK => ?_) AllReadyH.nil
              go_simp
              refine hK.out _ _ (trivial) (fun hHeld => ?_)
              clear hK K
              try simp only [Act.put, List.setIfInBounds_toArray, List.set_cons_zero, List.set_cons_succ]
              refine wpAnyH_ready (rs := [5]) (by kernel_rfl) (by simp) ?_
              refine held_cons rfl (fun K hK => ?_) AllReadyH.nil
              go_simp
              refine hK.out _ _ (trivial) (fun hHeld => ?_)
              clear hK K
              try simp only [Act.put, List.setIfInBounds_toArray, List.set_cons_zero, List.set_cons_succ]
              refine held_take (i := 6) (v := undef) rfl (by kernel_rfl) (by kernel_rfl) (by kernel_rfl) (fun _ _ _ h => h) (Or.inr ⟨by rfl, rfl⟩) (by assumption) ?_
              try simp only [Act.put, List.setIfInBounds_toArray, List.set_cons_zero, List.set_cons_succ]
              refine held_take (i := 7) (v := undef) rfl (by kernel_rfl) (by kernel_rfl) (by kernel_rfl) (fun _ _ _ h => h) (Or.inr ⟨by rfl, rfl⟩) (by assumption) ?_
              try simp only [Act.put, List.setIfInBounds_toArray, List.set_cons_zero, List.set_cons_succ]
              refine held_take (i := 8) (v := undef) rfl (by kernel_rfl) (by kernel_rfl) (by kernel_rfl) (fun _ _ _ h => h) (Or.inr ⟨by rfl, rfl⟩) (by assumption) ?_
              try simp only [Act.put, List.setIfInBounds_toArray, List.set_cons_zero, List.set_cons_succ]
              refine held_take (i := 12) (v := undef) rfl (by kernel_rfl) (by kernel_rfl) (by kernel_rfl) (fun _ _ _ h => h) (Or.inr ⟨by rfl, rfl⟩) (by assumption) ?_
              try simp only [Act.put, List.setIfInBounds_toArray, List.set_cons_zero, List.set_cons_succ]
              refine held_take (i := 13) (v := undef) rfl (by kernel_rfl) (by kernel_rfl) (by kernel_rfl) (fun _ _ _ h => h) (Or.inr ⟨by rfl, rfl⟩) (by assumption) ?_
              try simp only [Act.put, List.setIfInBounds_toArray, List.set_cons_zero, List.set_cons_succ]
              refine held_take (i := 14) (v := undef) rfl (by kernel_rfl) (by kernel_rfl) (by kernel_rfl) (fun _ _ _ h => h) (Or.inr ⟨by rfl, rfl⟩) (by assumption) ?_
              try simp only [Act.put, List.setIfInBounds_toArray, List.set_cons_zero, List.set_cons_succ]
              refine held_take (i := 15) (v := undef) rfl (by kernel_rfl) (by kernel_rfl) (by kernel_rfl) (fun _ _ _ h => h) (Or.inr ⟨by rfl, rfl⟩) (by assumption) ?_
              try simp only [Act.put, List.setIfInBounds_toArray, List.set_cons_zero, List.set_cons_succ]
              refine held_take (i := 16) (v := undef) rfl (by kernel_rfl) (by kernel_rfl) (by kernel_rfl) (fun _ _ _ h => h) (Or.inr ⟨by rfl, rfl⟩) (by assumption) ?_
              try simp only [Act.put, List.setIfInBounds_toArray, List.set_cons_zero, List.set_cons_succ]
              refine wpAnyH_ready (rs := [9]) (by kernel_rfl) (by simp) ?_
              refine held_cons rfl (fun K hK => ?_) AllReadyH.nil
              go_simp
              refine hK.out _ _ (trivial) (fun hHeld => ?_)
              clear hK K
              try simp only [Act.put, List.setIfInBounds_toArray, List.set_cons_zero, List.set_cons_succ]
              refine wpAnyH_ready (rs := [10]) (by kernel_rfl) (by simp) ?_
              refine held_cons rfl (fun K hK => ?_) AllReadyH.nil
              go_simp
              refine hK.out _ _ (trivial) (fun hHeld => ?_)
              clear hK K
              try simp only [Act.put, List.setIfInBounds_toArray, List.set_cons_zero, List.set_cons_succ]
              refine held_take (i := 11) (v := undef) rfl (by kernel_rfl) (by kernel_rfl) (by kernel_rfl) (fun _ _ _ h => h) (Or.inr ⟨by rfl, rfl⟩) (by assumption) ?_
              try simp only [Act.put, List.setIfInBounds_toArray, List.set_cons_zero, List.set_cons_succ]
              refine held_take (i := 17) (v := undef) rfl (by kernel_rfl) (by kernel_rfl) (by kernel_rfl) (fun _ _ _ h => h) (Or.inr ⟨by rfl, rfl⟩) (by assumption) ?_
              try simp only [Act.put, List.setIfInBounds_toArray, List.set_cons_zero, List.set_cons_succ]
              refine held_take (i := 18) (v := undef) rfl (by kernel_rfl) (by kernel_rfl) (by kernel_rfl) (fun _ _ _ h => h) (Or.inr ⟨by rfl, rfl⟩) (by assumption) ?_
              try simp only [Act.put, List.setIfInBounds_toArray, List.set_cons_zero, List.set_cons_succ]
              refine held_take (i := 19) (v := ?_) rfl (by kernel_rfl) (by kernel_rfl) (by kernel_rfl) (fun _ _ _ h => h) (Or.inl ⟨by rfl, ?_⟩) (by assumption) ?_
              rotate_left
              · (intro w hSw; (try dsimp only at hSw); go_simp; try (with_reducible rfl))
              try simp only [Act.put, List.setIfInBounds_toArray, List.set_cons_zero, List.set_cons_succ]
              refine held_take (i := 20) (v := ?_) rfl (by kernel_rfl) (by kernel_rfl) (by kernel_rfl) (fun _ _ _ h => h) (Or.inl ⟨by rfl, ?_⟩) (by assumption) ?_
              rotate_left
              · (intro w hSw; (try dsimp only at hSw); go_simp; try (with_reducible rfl))
              try simp only [Act.put, List.setIfInBounds_toArray, List.set_cons_zero, List.set_cons_succ]
              refine held_take (i := 21) (v := ?_) rfl (by kernel_rfl) (by kernel_rfl) (by kernel_rfl) (fun _ _ _ h => h) (Or.inl ⟨by rfl, ?_⟩) (by assumption) ?_
              rotate_left
              · (intro w hSw; (try dsimp only at hSw); go_simp; try (with_reducible rfl))
              try simp only [Act.put, List.setIfInBounds_toArray, List.set_cons_zero, List.set_cons_succ]
              refine held_take (i := 22) (v := ?_) rfl (by kernel_rfl) (by kernel_rfl) (by kernel_rfl) (fun _ _ _ h => h) (Or.inl ⟨by rfl, ?_⟩) (by assumption) ?_
              rotate_left
              · (intro w hSw; (try dsimp only at hSw); go_simp; try (with_reducible rfl))
              try simp only [Act.put, List.setIfInBounds_toArray, List.set_cons_zero, List.set_cons_succ]
              refine held_take (i := 23) (v := ?_) rfl (by kernel_rfl) (by kernel_rfl) (by kernel_rfl) (fun _ _ _ h => h) (Or.inl ⟨by rfl, ?_⟩) (by assumption) ?_
              rotate_left
              · (intro w hSw; (try dsimp only at hSw); go_simp; try (with_reducible rfl))
              try simp only [Act.put, List.setIfInBounds_toArray, List.set_cons_zero, List.set_cons_succ]
              refine held_take (i := 24) (v := ?_) rfl (by kernel_rfl) (by kernel_rfl) (by kernel_rfl) (fun _ _ _ h => h) (Or.inl ⟨by rfl, ?_⟩) (by assumption) ?_
              rotate_left
              · (intro w hSw; (try dsimp only at hSw); go_simp; try (with_reducible rfl))
              try simp only [Act.put, List.setIfInBounds_toArray, List.set_cons_zero, List.set_cons_succ]
              refine held_take (i := 25) (v := ?_) rfl (by kernel_rfl) (by kernel_rfl) (by kernel_rfl) (fun _ _ _ h => h) (Or.inl ⟨by rfl, ?_⟩) (by assumption) ?_
              rotate_left
              · (intro w hSw; (try dsimp only at hSw); go_simp; try (with_reducible rfl))
              try simp only [Act.put, List.setIfInBounds_toArray, List.set_cons_zero, List.set_cons_succ]
              refine held_take (i := 26) (v := ?_) rfl (by kernel_rfl) (by kernel_rfl) (by kernel_rfl) (fun _ _ _ h => h) (Or.inl ⟨by rfl, ?_⟩) (by assumption) ?_
              rotate_left
              · (intro w hSw; (try dsimp only at hSw); go_simp; try (with_reducible rfl))
              try simp only [Act.put, List.setIfInBounds_toArray, List.set_cons_zero, List.set_cons_succ]
              refine held_take (i := 27) (v := ?_) rfl (by kernel_rfl) (by kernel_rfl) (by kernel_rfl) (fun _ _ _ h => h) (Or.inl ⟨by rfl, ?_⟩) (by assumption) ?_
              rotate_left
              · (intro w hSw; (try dsimp only at hSw); go_simp; try (with_reducible rfl))
              try simp only [Act.put, List.setIfInBounds_toArray, List.set_cons_zero, List.set_cons_succ]
              refine held_take (i := 28) (v := ?_) rfl (by kernel_rfl) (by kernel_rfl) (by kernel_rfl) (fun _ _ _ h => h) (Or.inl ⟨by rfl, ?_⟩) (by assumption) ?_
              rotate_left
              · (intro w hSw; (try dsimp only at hSw); go_simp; try (with_reducible rfl))
              try simp only [Act.put, List.setIfInBounds_toArray, List.set_cons_zero, List.set_cons_succ]
              refine held_take (i := 29) (v := ?_) rfl (by kernel_rfl) (by kernel_rfl) (by kernel_rfl) (fun _ _ _ h => h) (Or.inl ⟨by rfl, ?_⟩) (by assumption) ?_
              rotate_left
              · (intro w hSw; (try dsimp only at hSw); go_simp; try (with_reducible rfl))
              try simp only [Act.put, List.setIfInBounds_toArray, List.set_cons_zero, List.set_cons_succ]
              refine held_take (i := 30) (v := ?_) rfl (by kernel_rfl) (by kernel_rfl) (by kernel_rfl) (fun _ _ _ h => h) (Or.inl ⟨by rfl, ?_⟩) (by assumption) ?_
              rotate_left
              · (intro w hSw; (try dsimp only at hSw); go_simp; try (with_reducible rfl))
              try simp only [Act.put, List.setIfInBounds_toArray, List.set_cons_zero, List.set_cons_succ]
              refine held_take (i := 31) (v := ?_) rfl (by kernel_rfl) (by kernel_rfl) (by kernel_rfl) (fun _ _ _ h => h) (Or.inl ⟨by rfl, ?_⟩) (by assumption) ?_
              rotate_left
              · (intro w hSw; (try dsimp only at hSw); go_simp; try (with_reducible rfl))
              try simp only [Act.put, List.setIfInBounds_toArray, List.set_cons_zero, List.set_cons_succ]
              refine held_take (i := 32) (v := ?_) rfl (by kernel_rfl) (by kernel_rfl) (by kernel_rfl) (fun _ _ _ h => h) (Or.inl ⟨by rfl, ?_⟩) (by assumption) ?_
              rotate_left
              · (intro w hSw; (try dsimp only at hSw); go_simp; try (with_reducible rfl))
              try simp only [Act.put, List.setIfInBounds_toArray, List.set_cons_zero, List.set_cons_succ]
              refine wpAnyH_done (by kernel_rfl) ?_ _
              go_wp2_with fail
              go_roundw
              case rel => exact ⟨i + 1, hil, by go_num, hB11.drew⟩
              case measure => simp [intOf]; omega
            | some q =>
              obtain ⟨rfl, hrq⟩ := hD.good q hdl
              obtain ⟨hLq, hfq⟩ := decL_sound hdl
              have hFq := formed_fits hfq
              have hq1000 : q.length ≤ 1000 := by have := hFq.len; omega
              have hd8 : SeesR w11 u q := SeesR.row hrq
              obtain ⟨Aq, cq, rfl, -⟩ := row_form hrq
              obtain ⟨SB, hSB⟩ : ∃ x, ofB (encL q) = x := ⟨_, rfl⟩
              have hS9 : ∀ w', Below w11.heap.size w11 w' → (w'.cell? ⟨tb, i, none⟩ = some (.slice A n cc) ∧ (convert 23 9 (.slice A n cc)).run Tryz.prog w' = .ok (.string SB) w') := by
                intro w' hb
                refine ⟨HC.out w' (hB11.trans (hb.mono hB11.size)), ?_⟩
                rw [← hSB, ← hLq]
                exact conv_str (hS.bel (hB11.trans (hb.mono hB11.size)))
              have HS9 := Lib.hid hS9
              have HSB := Lib.hid hSB
              have hp1 := plain_walk (hd8.bel (Below.refl _ w11).drew) hq1000
              clear hS9 hSB hLq hdl hD hrq k0
              go_wp2_with fail
              refine wp_region_held_drew (S := fun w' => w'.cell? ⟨tb, i, none⟩ = some (.slice A n cc) ∧ (convert 23 9 (.slice A n cc)).run Tryz.prog w' = .ok (.string SB) w') (by kernel_rfl) (HS9.out _ (Below.refl _ w11).drew) (fun hHeld => ?_)
              refine held_take (i := 0) (v := ?_) rfl (by kernel_rfl) (by kernel_rfl) (by kernel_rfl) (fun _ _ _ h => h) (Or.inl ⟨by rfl, ?_⟩) (by assumption) ?_
              rotate_left
              · (intro w hSw; (try dsimp only at hSw); go_simp; try (with_reducible rfl))
              try simp only [Act.put, List.setIfInBounds_toArray, List.set_cons_zero, List.set_cons_succ]
              refine held_take (i := 1) (v := ?_) rfl (by kernel_rfl) (by kernel_rfl) (by kernel_rfl) (fun _ _ _ h => h) (Or.inl ⟨by rfl, ?_⟩) (by assumption) ?_
              rotate_left
              · (intro w hSw; (try dsimp only at hSw); go_simp; try (with_reducible rfl))
              try simp only [Act.put, List.setIfInBounds_toArray, List.set_cons_zero, List.set_cons_succ]
              refine held_take (i := 2) (v := ?_) rfl (by kernel_rfl) (by kernel_rfl) (by kernel_rfl) (fun _ _ _ h => h) (Or.inl ⟨by rfl, ?_⟩) (by assumption) ?_
              rotate_left
              · (intro w hSw; (try dsimp only at hSw); go_simp; try (with_reducible rfl))
              try simp only [Act.put, List.setIfInBounds_toArray, List.set_cons_zero, List.set_cons_succ]
              refine held_take (i := 3) (v := ?_) rfl (by kernel_rfl) (by kernel_rfl) (by kernel_rfl) (fun _ _ _ h => h) (Or.inl ⟨by rfl, ?_⟩) (by assumption) ?_
              rotate_left
              · (intro w hSw; (try dsimp only at hSw); go_simp; try (with_reducible rfl))
              try simp only [Act.put, List.setIfInBounds_toArray, List.set_cons_zero, List.set_cons_succ]
              refine wpAnyH_ready (rs := [4]) (by kernel_rfl) (by simp) ?_
              refine held_cons rfl (fun K hK => ?_) AllReadyH.nil
              go_simp
              go_at_call 15
              refine hp1.mono ?_
              clear hp1
              rintro _ wa ⟨va, rfl, hra, hba⟩
              have hba' := (Below.refl w11.heap.size w11).drew.trans hba
              have hfo := formed_walk (SeesR.row hra) hq1000 (fun r hr => by have := hFq.each r hr; omega)
              rw [hfq] at hfo
              go_wp2_with fail
              refine hK.out _ _ (HS9.out _ hba') (fun hHeld => ?_)
              clear hK K
              try simp only [Act.put, List.setIfInBounds_toArray, List.set_cons_zero, List.set_cons_succ]
              refine wpAnyH_ready (rs := [5]) (by kernel_rfl) (by simp) ?_
              refine held_cons rfl (fun K hK => ?_) AllReadyH.nil
              go_simp
              go_at_call 9
              refine hfo.mono ?_
              clear hfo
              rintro _ wb ⟨rfl, hbb⟩
              have hbb' := hba'.trans (hbb.mono hba'.size)
              have hp2 := plain_walk (hd8.bel hbb') hq1000
              go_wp2_with fail
              refine hK.out _ _ (HS9.out _ hbb') (fun hHeld => ?_)
              clear hK K
              try simp only [Act.put, List.setIfInBounds_toArray, List.set_cons_zero, List.set_cons_succ]
              refine held_take (i := 6) (v := ?_) rfl (by kernel_rfl) (by kernel_rfl) (by kernel_rfl) (fun _ _ _ h => h) (Or.inl ⟨by rfl, ?_⟩) (by assumption) ?_
              rotate_left
              · (intro w hSw; (try dsimp only at hSw); go_simp; try (with_reducible rfl))
              try simp only [Act.put, List.setIfInBounds_toArray, List.set_cons_zero, List.set_cons_succ]
              refine held_take (i := 7) (v := ?_) rfl (by kernel_rfl) (by kernel_rfl) (by kernel_rfl) (fun _ _ _ h => h) (Or.inl ⟨by rfl, ?_⟩) (by assumption) ?_
              rotate_left
              · (intro w hSw; (try dsimp only at hSw); go_simp; try (with_reducible rfl))
              try simp only [Act.put, List.setIfInBounds_toArray, List.set_cons_zero, List.set_cons_succ]
              refine held_take (i := 8) (v := ?_) rfl (by kernel_rfl) (by kernel_rfl) (by kernel_rfl) (fun _ _ _ h => h) (Or.inl ⟨by rfl, ?_⟩) (by assumption) ?_
              rotate_left
              · (intro w hSw; (try dsimp only at hSw); go_simp; try (with_reducible rfl))
              try simp only [Act.put, List.setIfInBounds_toArray, List.set_cons_zero, List.set_cons_succ]
              refine held_take (i := 12) (v := ?_) rfl (by kernel_rfl) (by kernel_rfl) (by kernel_rfl) (fun _ _ _ h => h) (Or.inl ⟨by rfl, ?_⟩) (by assumption) ?_
              rotate_left
              · (intro w hSw; (try dsimp only at hSw); go_simp; try (with_reducible rfl))
              try simp only [Act.put, List.setIfInBounds_toArray, List.set_cons_zero, List.set_cons_succ]
              refine held_take (i := 13) (v := ?_) rfl (by kernel_rfl) (by kernel_rfl) (by kernel_rfl) (fun _ _ _ h => h) (Or.inl ⟨by rfl, ?_⟩) (by assumption) ?_
              rotate_left
              · (intro w hSw; (try dsimp only at hSw); go_simp; try (with_reducible rfl))
              try simp only [Act.put, List.setIfInBounds_toArray, List.set_cons_zero, List.set_cons_succ]
              refine held_take (i := 14) (v := ?_) rfl (by kernel_rfl) (by kernel_rfl) (by kernel_rfl) (fun _ _ _ h => h) (Or.inl ⟨by rfl, ?_⟩) (by assumption) ?_
              rotate_left
              · (intro w hSw; (try dsimp only at hSw); go_simp; try (with_reducible rfl))
              try simp only [Act.put, List.setIfInBounds_toArray, List.set_cons_zero, List.set_cons_succ]
              refine held_take (i := 15) (v := ?_) rfl (by kernel_rfl) (by kernel_rfl) (by kernel_rfl) (fun _ _ _ h => h) (Or.inl ⟨by rfl, ?_⟩) (by assumption) ?_
              rotate_left
              · (intro w hSw; (try dsimp only at hSw); go_simp; try (with_reducible rfl))
              try simp only [Act.put, List.setIfInBounds_toArray, List.set_cons_zero, List.set_cons_succ]
              refine held_take (i := 16) (v := ?_) rfl (by kernel_rfl) (by kernel_rfl) (by kernel_rfl) (fun _ _ _ h => h) (Or.inl ⟨by rfl, ?_⟩) (by assumption) ?_
              rotate_left
              · (intro w hSw; (try dsimp only at hSw); go_simp; try (with_reducible rfl))
              try simp only [Act.put, List.setIfInBounds_toArray, List.set_cons_zero, List.set_cons_succ]
              refine wpAnyH_ready (rs := [9]) (by kernel_rfl) (by simp) ?_
              refine held_cons rfl (fun K hK => ?_) AllReadyH.nil
              go_simp
              go_at_call 15
              refine hp2.mono ?_
              clear hp2
              rintro _ wd ⟨vd, rfl, hrd, hbd⟩
              have hbd' := hbb'.trans (hbd.mono hbb'.size)
              have hfe := fencode_walk (SeesR.row hrd) hFq
              go_wp2_with fail
              refine hK.out _ _ (HS9.out _ hbd') (fun hHeld => ?_)
              clear hK K
              try simp only [Act.put, List.setIfInBounds_toArray, List.set_cons_zero, List.set_cons_succ]
              refine wpAnyH_ready (rs := [10]) (by kernel_rfl) (by simp) ?_
              refine held_cons rfl (fun K hK => ?_) AllReadyH.nil
              go_simp
              go_at_call 11
              refine hfe.mono ?_
              clear hfe
              rintro _ we ⟨ue, rfl, hre, hbe⟩
              have hbe' := hbd'.trans (hbe.mono hbd'.size)
              have hse := Sees.row hre
              obtain ⟨Ab, cb', rfl, -⟩ := row_form hre
              have hcv : (convert 23 9 (.slice Ab (encL q).length cb')).run Tryz.prog we = .ok (.string SB) we := by rw [← HSB.out]; exact conv_str hse
              clear hse hre
              go_wp2_with fail
              refine hK.out _ _ (HS9.out _ hbe') (fun hHeld => ?_)
              clear hK K
              try simp only [Act.put, List.setIfInBounds_toArray, List.set_cons_zero, List.set_cons_succ]
              have hHeld2 : (we.cell? ⟨tb, i, none⟩ = some (.slice A n cc) ∧ (convert 23 9 (.slice A n cc)).run Tryz.prog we = .ok (.string SB) we) ∧ (convert 23 9 (.slice Ab (encL q).length cb')).run Tryz.prog we = .ok (.string SB) we := ⟨HS9.out _ hbe', hcv⟩
              refine anyH_more (S' := fun w' => (w'.cell? ⟨tb, i, none⟩ = some (.slice A n cc) ∧ (convert 23 9 (.slice A n cc)).run Tryz.prog w' = .ok (.string SB) w') ∧ (convert 23 9 (.slice Ab (encL q).length cb')).run Tryz.prog w' = .ok (.string SB) w') (fun w' h => h.1) _ _ _ _ ?_
              replace hHeld := hHeld2
              refine held_take (i := 11) (v := ?_) rfl (by kernel_rfl) (by kernel_rfl) (by kernel_rfl) (fun _ _ _ h => h) (Or.inl ⟨by rfl, ?_⟩) (by assumption) ?_
              rotate_left
              · (intro w hSw; (try dsimp only at hSw); go_simp; try (with_reducible rfl))
              try simp only [Act.put, List.setIfInBounds_toArray, List.set_cons_zero, List.set_cons_succ]
              refine held_take (i := 17) (v := ?_) rfl (by kernel_rfl) (by kernel_rfl) (by kernel_rfl) (fun _ _ _ h => h) (Or.inl ⟨by rfl, ?_⟩) (by assumption) ?_
              rotate_left
              · (intro w hSw; (try dsimp only at hSw); go_simp; try (with_reducible rfl))
              try simp only [Act.put, List.setIfInBounds_toArray, List.set_cons_zero, List.set_cons_succ]
              refine held_take (i := 18) (v := ?_) rfl (by kernel_rfl) (by kernel_rfl) (by kernel_rfl) (fun _ _ _ h => h) (Or.inl ⟨by rfl, ?_⟩) (by assumption) ?_
              rotate_left
              · (intro w hSw; (try dsimp only at hSw); go_simp; try (with_reducible rfl))
              try simp only [Act.put, List.setIfInBounds_toArray, List.set_cons_zero, List.set_cons_succ]
              refine held_take (i := 19) (v := ?_) rfl (by kernel_rfl) (by kernel_rfl) (by kernel_rfl) (fun _ _ _ h => h) (Or.inl ⟨by rfl, ?_⟩) (by assumption) ?_
              rotate_left
              · (intro w hSw; (try dsimp only at hSw); go_simp; try (with_reducible rfl))
              try simp only [Act.put, List.setIfInBounds_toArray, List.set_cons_zero, List.set_cons_succ]
              refine held_take (i := 20) (v := ?_) rfl (by kernel_rfl) (by kernel_rfl) (by kernel_rfl) (fun _ _ _ h => h) (Or.inl ⟨by rfl, ?_⟩) (by assumption) ?_
              rotate_left
              · (intro w hSw; (try dsimp only at hSw); go_simp; try (with_reducible rfl))
              try simp only [Act.put, List.setIfInBounds_toArray, List.set_cons_zero, List.set_cons_succ]
              refine held_take (i := 21) (v := ?_) rfl (by kernel_rfl) (by kernel_rfl) (by kernel_rfl) (fun _ _ _ h => h) (Or.inl ⟨by rfl, ?_⟩) (by assumption) ?_
              rotate_left
              · (intro w hSw; (try dsimp only at hSw); go_simp; try (with_reducible rfl))
              try simp only [Act.put, List.setIfInBounds_toArray, List.set_cons_zero, List.set_cons_succ]
              refine held_take (i := 22) (v := ?_) rfl (by kernel_rfl) (by kernel_rfl) (by kernel_rfl) (fun _ _ _ h => h) (Or.inl ⟨by rfl, ?_⟩) (by assumption) ?_
              rotate_left
              · (intro w hSw; (try dsimp only at hSw); go_simp; try (with_reducible rfl))
              try simp only [Act.put, List.setIfInBounds_toArray, List.set_cons_zero, List.set_cons_succ]
              refine held_take (i := 23) (v := ?_) rfl (by kernel_rfl) (by kernel_rfl) (by kernel_rfl) (fun _ _ _ h => h) (Or.inl ⟨by rfl, ?_⟩) (by assumption) ?_
              rotate_left
              · (intro w hSw; (try dsimp only at hSw); go_simp; try (with_reducible rfl))
              try simp only [Act.put, List.setIfInBounds_toArray, List.set_cons_zero, List.set_cons_succ]
              refine held_take (i := 24) (v := undef) rfl (by kernel_rfl) (by kernel_rfl) (by kernel_rfl) (fun _ _ _ h => h) (Or.inr ⟨by rfl, rfl⟩) (by assumption) ?_
              try simp only [Act.put, List.setIfInBounds_toArray, List.set_cons_zero, List.set_cons_succ]
              refine held_take (i := 25) (v := undef) rfl (by kernel_rfl) (by kernel_rfl) (by kernel_rfl) (fun _ _ _ h => h) (Or.inr ⟨by rfl, rfl⟩) (by assumption) ?_
              try simp only [Act.put, List.setIfInBounds_toArray, List.set_cons_zero, List.set_cons_succ]
              refine held_take (i := 26) (v := undef) rfl (by kernel_rfl) (by kernel_rfl) (by kernel_rfl) (fun _ _ _ h => h) (Or.inr ⟨by rfl, rfl⟩) (by assumption) ?_
              try simp only [Act.put, List.setIfInBounds_toArray, List.set_cons_zero, List.set_cons_succ]
              refine held_take (i := 27) (v := undef) rfl (by kernel_rfl) (by kernel_rfl) (by kernel_rfl) (fun _ _ _ h => h) (Or.inr ⟨by rfl, rfl⟩) (by assumption) ?_
              try simp only [Act.put, List.setIfInBounds_toArray, List.set_cons_zero, List.set_cons_succ]
              refine held_take (i := 28) (v := undef) rfl (by kernel_rfl) (by kernel_rfl) (by kernel_rfl) (fun _ _ _ h => h) (Or.inr ⟨by rfl, rfl⟩) (by assumption) ?_
              try simp only [Act.put, List.setIfInBounds_toArray, List.set_cons_zero, List.set_cons_succ]
              refine held_take (i := 29) (v := undef) rfl (by kernel_rfl) (by kernel_rfl) (by kernel_rfl) (fun _ _ _ h => h) (Or.inr ⟨by rfl, rfl⟩) (by assumption) ?_
              try simp only [Act.put, List.setIfInBounds_toArray, List.set_cons_zero, List.set_cons_succ]
              refine held_take (i := 30) (v := undef) rfl (by kernel_rfl) (by kernel_rfl) (by kernel_rfl) (fun _ _ _ h => h) (Or.inr ⟨by rfl, rfl⟩) (by assumption) ?_
              try simp only [Act.put, List.setIfInBounds_toArray, List.set_cons_zero, List.set_cons_succ]
              refine held_take (i := 31) (v := ?_) rfl (by kernel_rfl) (by kernel_rfl) (by kernel_rfl) (fun _ _ _ h => h) (Or.inl ⟨by rfl, ?_⟩) (by assumption) ?_
              rotate_left
              · (intro w hSw; (try dsimp only at hSw); go_simp; try (with_reducible rfl))
              try simp only [Act.put, List.setIfInBounds_toArray, List.set_cons_zero, List.set_cons_succ]
              refine held_take (i := 32) (v := ?_) rfl (by kernel_rfl) (by kernel_rfl) (by kernel_rfl) (fun _ _ _ h => h) (Or.inl ⟨by rfl, ?_⟩) (by assumption) ?_
              rotate_left
              · (intro w hSw; (try dsimp only at hSw); go_simp; try (with_reducible rfl))
              try simp only [Act.put, List.setIfInBounds_toArray, List.set_cons_zero, List.set_cons_succ]
              refine wpAnyH_done (by kernel_rfl) ?_ _
              go_wp2_with fail
              go_roundw
              case rel => exact ⟨i + 1, hil, by go_num, hB11.trans (hbe'.mono hB11.size)⟩
              case measure => simp [intOf]; omega
          · have hie : i = 4 := by omega
            have hiI : ¬ (i : Int) < 4 := by omega
            clear hie hi
            have hlv := hlives wr
            go_wp2_with fail
            refine hlv.mono ?_
            rintro _ w12 ⟨rfl, hb12⟩
            go_wp2_with fail
            go_ret
            have hBx := hBw10.trans (hBc.mono hBw10.size)
            have hBy := hBx.trans (hbi.mono hBx.size)
            exact ⟨rfl, hBy.trans (hb12.mono hBy.size)⟩
end Go.Proofs.YtdacamjpcdbphaaGreatDoor
