/-
  text.first, walked: the code point at the head of some bytes.
-/
import Derived.Test.YtahmcjdddcbhnaaGreatDoorRunG1a
namespace Go.Proofs.YtahmcjdddcbhnaaGreatDoor
open Go Go.RowKit Go.Utf

theorem or6 (a y : Nat) (ha : a < 1073741824) (hy : y < 64) : bits .or .i64 ((a : Int) * 64) (y : Int) = (a : Int) * 64 + y := by
  have e : (a : Int) * 64 = ((a * 64 : Nat) : Int) := by omega
  rw [e]
  have h1 : (BitVec.ofInt 64 ((a * 64 : Nat) : Int)).toNat = a * 64 := by
    rw [BitVec.ofInt_natCast, BitVec.toNat_ofNat]; exact Nat.mod_eq_of_lt (by omega)
  have h2 : (BitVec.ofInt 64 (y : Int)).toNat = y := by
    rw [BitVec.ofInt_natCast, BitVec.toNat_ofNat]; exact Nat.mod_eq_of_lt (by omega)
  have h3 : a * 64 ||| y = a * 64 + y := by
    have := Nat.shiftLeft_add_eq_or_of_lt (i := 6) (b := y) hy a
    rw [Nat.shiftLeft_eq] at this
    exact this.symm
  show IntKind.i64.wrap ((BitVec.ofInt 64 ((a * 64 : Nat) : Int) ||| BitVec.ofInt 64 (y : Int)).toNat : Int) = _
  rw [BitVec.toNat_or, h1, h2, h3, IntKind.wrap_i64]
  omega
theorem or6i (a : Int) (y : Nat) (h0 : 0 ≤ a) (ha : a < 1073741824) (hy : y < 64) : bits .or .i64 (a * 64) (y : Int) = a * 64 + y := by
  obtain ⟨m, rfl⟩ := Int.eq_ofNat_of_zero_le h0
  exact or6 m y (by omega) hy
theorem and63 (x : Nat) (hx : x < 256) : bits .and .u8 (x : Int) 63 = ((x % 64 : Nat) : Int) := by
  have key : ∀ x : Fin 256, bits .and .u8 ((x.val : Nat) : Int) 63 = ((x.val % 64 : Nat) : Int) := by decide +kernel
  exact key ⟨x, hx⟩
def formsL : List Int := [0, 127, 0, 0, 128, 2047, 192, 1, 2048, 65535, 224, 2, 65536, 1114111, 240, 3]
/-- the program's table of forms lies where it was laid -/
def Forms (w : World) : Prop := ∀ i v, formsL[i]? = some v → w.cell? ⟨0, i, none⟩ = some (.int .i64 v)
theorem Forms.below {w w' : World} (h : Forms w) (hb : Below w.heap.size w w') : Forms w' := fun i v hv => (hb.cell (p := ⟨0, i, none⟩) (lt_cell (h i v hv))).trans (h i v hv)
/-- what first says -/
def fstE (x : List UInt8) : Nat × Nat := match Utf.one x with
  | .ok c k => (c, k)
  | _ => (0, 0)
theorem form_at0 (W : World) : (Instr.index 72 (.agg #[.int .i64 0, .int .i64 127, .int .i64 0, .int .i64 0, .int .i64 128, .int .i64 2047, .int .i64 192, .int .i64 1, .int .i64 2048, .int .i64 65535, .int .i64 224, .int .i64 2, .int .i64 65536, .int .i64 1114111, .int .i64 240, .int .i64 3]) (.int .i64 0)).run Tryz.prog W = .ok (.agg #[.int .i64 0, .int .i64 127, .int .i64 0, .int .i64 0]) W := by kernel_rfl
theorem form_at1 (W : World) : (Instr.index 72 (.agg #[.int .i64 0, .int .i64 127, .int .i64 0, .int .i64 0, .int .i64 128, .int .i64 2047, .int .i64 192, .int .i64 1, .int .i64 2048, .int .i64 65535, .int .i64 224, .int .i64 2, .int .i64 65536, .int .i64 1114111, .int .i64 240, .int .i64 3]) (.int .i64 1)).run Tryz.prog W = .ok (.agg #[.int .i64 128, .int .i64 2047, .int .i64 192, .int .i64 1]) W := by kernel_rfl
theorem form_at2 (W : World) : (Instr.index 72 (.agg #[.int .i64 0, .int .i64 127, .int .i64 0, .int .i64 0, .int .i64 128, .int .i64 2047, .int .i64 192, .int .i64 1, .int .i64 2048, .int .i64 65535, .int .i64 224, .int .i64 2, .int .i64 65536, .int .i64 1114111, .int .i64 240, .int .i64 3]) (.int .i64 2)).run Tryz.prog W = .ok (.agg #[.int .i64 2048, .int .i64 65535, .int .i64 224, .int .i64 2]) W := by kernel_rfl
theorem form_at3 (W : World) : (Instr.index 72 (.agg #[.int .i64 0, .int .i64 127, .int .i64 0, .int .i64 0, .int .i64 128, .int .i64 2047, .int .i64 192, .int .i64 1, .int .i64 2048, .int .i64 65535, .int .i64 224, .int .i64 2, .int .i64 65536, .int .i64 1114111, .int .i64 240, .int .i64 3]) (.int .i64 3)).run Tryz.prog W = .ok (.agg #[.int .i64 65536, .int .i64 1114111, .int .i64 240, .int .i64 3]) W := by kernel_rfl
set_option maxRecDepth 1000000 in
theorem surr_walk (z : Int) (r : Bool) (hr : Hid (r = true ↔ 55296 ≤ z ∧ z ≤ 57343)) (w : World) : Calls Tryz.prog 59 #[.int .i64 z] w fun e w' => e = .returned (.bool r) ∧ w' = w := by
  by_cases h1 : (55296 : Int) ≤ z
  · by_cases h2 : z ≤ 57343
    · have e : r = true := hr.out.2 ⟨by omega, by omega⟩
      subst e
      clear hr
      go_enter Tryz.func59, Tryz.ntmps59
      go_wp2_with fail
      go_ret
      exact ⟨rfl, rfl⟩
    · have e : r = false := by
        rw [Bool.eq_false_iff]
        intro e
        have := hr.out.1 e
        omega
      subst e
      clear hr
      go_enter Tryz.func59, Tryz.ntmps59
      go_wp2_with fail
      go_ret
      exact ⟨rfl, rfl⟩
  · have e : r = false := by
      rw [Bool.eq_false_iff]
      intro e
      have := hr.out.1 e
      omega
    subst e
    clear hr
    go_enter Tryz.func59, Tryz.ntmps59
    go_wp2_with fail
    go_ret
    exact ⟨rfl, rfl⟩
set_option maxHeartbeats 16000000 in
set_option maxRecDepth 1000000 in
theorem first_walk {w : World} {b off n cp : Nat} {x : List UInt8} (hF : Forms w) (hn : x.length = n) (hc : ∀ i u, (bv x)[i]? = some u → w.cell? ⟨b, off + i, none⟩ = some u) (h1 : 1 ≤ n) (hbig : n ≤ 1000000000) (hcp : n ≤ cp) :
    Calls Tryz.prog 46 #[.slice (some ⟨b, off, none⟩) n cp] w fun e w' => e = .returned (.tuple #[.int .i64 ((fstE x).1 : Nat), .int .i64 ((fstE x).2 : Nat)]) ∧ Below w.heap.size w w' := by
  have hcell : ∀ i, i < n → w.cell? ⟨b, off + i, none⟩ = some (.int .u8 (byt x i : Nat)) := fun i hi => by
    refine hc i _ ?_
    unfold bv byt
    rw [List.getElem?_map, List.getElem?_eq_getElem (by omega)]
    simp
  have c0 := hcell 0 (by omega)
  rw [Nat.add_zero] at c0
  have g0 := hF 0 _ rfl
  have g1 := hF 1 _ rfl
  have g2 := hF 2 _ rfl
  have g3 := hF 3 _ rfl
  have g4 := hF 4 _ rfl
  have g5 := hF 5 _ rfl
  have g6 := hF 6 _ rfl
  have g7 := hF 7 _ rfl
  have g8 := hF 8 _ rfl
  have g9 := hF 9 _ rfl
  have g10 := hF 10 _ rfl
  have g11 := hF 11 _ rfl
  have g12 := hF 12 _ rfl
  have g13 := hF 13 _ rfl
  have g14 := hF 14 _ rfl
  have g15 := hF 15 _ rfl
  have hone : Utf.one x = oneN n (byt x 0) (byt x 1) (byt x 2) (byt x 3) := by unfold Utf.one; rw [hn]
  unfold fstE
  rw [hone]
  have hl0 := byt_lt x 0
  have hl1 := byt_lt x 1
  have hl2 := byt_lt x 2
  have hl3 := byt_lt x 3
  obtain ⟨b0, hb0⟩ : ∃ z, byt x 0 = z := ⟨_, rfl⟩
  obtain ⟨b1, hb1'⟩ : ∃ z, byt x 1 = z := ⟨_, rfl⟩
  obtain ⟨b2, hb2'⟩ : ∃ z, byt x 2 = z := ⟨_, rfl⟩
  obtain ⟨b3, hb3'⟩ : ∃ z, byt x 3 = z := ⟨_, rfl⟩
  rw [hb0] at c0 hl0 ⊢
  rw [hb1'] at hl1 ⊢
  rw [hb2'] at hl2 ⊢
  rw [hb3'] at hl3 ⊢
  have HC := Lib.hid hcell
  have i0 := form_at0
  have i1 := form_at1
  have i2 := form_at2
  have i3 := form_at3
  have hb00 : (0 : Int) ≤ (b0 : Int) := Int.natCast_nonneg _
  clear hF hc hcell hn hone hb0
  obtain ⟨R, hR⟩ : ∃ R, (match oneN n b0 b1 b2 b3 with | .ok c k => (c, k) | _ => (0, 0)) = R := ⟨_, rfl⟩
  rw [hR]
  have HR := Lib.hid hR
  clear hR
  by_cases a1 : b0 < 128
  case pos =>
    have pu0 : decide ((b0 : Int) < 0) = false := decide_eq_false (by omega)
    have pw0 : decide ((127 : Int) < (b0 : Int)) = false := decide_eq_false (by omega)
    have px0 : decide (127 < b0) = false := decide_eq_false (by omega)
    have hb0 : Below w.heap.size w w := Below.refl _ _
    go_enter Tryz.func46, Tryz.ntmps46
    go_wp2_with fail
    refine wp_loop_rounds 4 ?_
    rw [rounds_succ]
    go_wp2_with fail
    go_quiet (fail)
    obtain ⟨W1, hW1⟩ : ∃ z, (w.alloc (.cells #[.int .i64 0, .int .i64 127, .int .i64 0, .int .i64 0] 71)).drewN nq = z := ⟨_, rfl⟩
    have hb1 : Below w.heap.size w W1 := by rw [← hW1]; exact (hb0.alloc hb0.size _).trans ((belowN _ nq).mono (Nat.le_trans hb0.size (by simp)))
    have fb : Blk W1 w.heap.size 71 #[.int .i64 0, .int .i64 127, .int .i64 0, .int .i64 0] := by rw [← hW1]; exact Blk.made w _ _
    have y0 := fb.at' 0
    have y1 := fb.at' 1
    have y2 := fb.at' 2
    have y3 := fb.at' 3
    simp at y0 y1 y2 y3
    rw [hW1]
    clear hW1 fb
    have hn0 : ¬ (n : Int) ≤ 0 := by omega
    by_cases hc1 : cp = 1
    all_goals
      go_wp2_with fail
      refine wp_loop_rounds 1 ?_
      rw [rounds_succ]
      have hsu := fun W => surr_walk (b0 : Int) false (Lib.hid ⟨fun h => (by cases h), fun h => (by omega)⟩) W
      go_wp2_with (first | (go_at_call 59; refine (hsu _).mono ?_; clear hsu; rintro _ w9 ⟨rfl, rfl⟩) | fail)
      go_quiet (fail)
      go_wp2_with fail
      go_ret2
      have e : R = (b0, 1) := by
        rw [← HR.out]
        have ho : oneN n b0 b1 b2 b3 = .ok b0 1 := by unfold oneN; rw [if_pos (by omega)]
        rw [ho]
      refine ⟨?_, hb1.trans ((belowN _ _).mono hb1.size)⟩
      rw [e]
      rfl
  by_cases a2 : b0 < 192
  case pos =>
    have pu0 : decide ((b0 : Int) < 0) = false := decide_eq_false (by omega)
    have pw0 : decide ((127 : Int) < (b0 : Int)) = true := decide_eq_true (by omega)
    have px0 : decide (127 < b0) = true := decide_eq_true (by omega)
    have pu1 : decide ((b0 : Int) < 192) = true := decide_eq_true (by omega)
    have pv1 : decide (b0 < 192) = true := decide_eq_true (by omega)
    have pu2 : decide ((b0 : Int) < 224) = true := decide_eq_true (by omega)
    have pv2 : decide (b0 < 224) = true := decide_eq_true (by omega)
    have pu3 : decide ((b0 : Int) < 240) = true := decide_eq_true (by omega)
    have pv3 : decide (b0 < 240) = true := decide_eq_true (by omega)
    have e : R = (0, 0) := by
      rw [← HR.out]
      cases ho : oneN n b0 b1 b2 b3 with
      | more => rfl
      | bad => rfl
      | ok c k =>
        exfalso
        unfold oneN loB hiB at ho
        repeat' split at ho
        all_goals first | (cases ho; done) | (cases ho; omega) | omega
    have HE := Lib.hid e
    clear e HC
    have hb0 : Below w.heap.size w w := Below.refl _ _
    go_enter Tryz.func46, Tryz.ntmps46
    go_wp2_with fail
    refine wp_loop_rounds 5 ?_
    rw [rounds_succ]
    go_wp2_with fail
    go_quiet (fail)
    obtain ⟨W1, hW1⟩ : ∃ z, (w.alloc (.cells #[.int .i64 0, .int .i64 127, .int .i64 0, .int .i64 0] 71)).drewN nq = z := ⟨_, rfl⟩
    have hb1 : Below w.heap.size w W1 := by rw [← hW1]; exact (hb0.alloc hb0.size _).trans ((belowN _ nq).mono (Nat.le_trans hb0.size (by simp)))
    rw [hW1]
    clear hW1
    go_wp2_with fail
    rw [rounds_succ]
    go_wp2_with fail
    go_quiet (fail)
    obtain ⟨W2, hW2⟩ : ∃ z, (W1.alloc (.cells #[.int .i64 128, .int .i64 2047, .int .i64 192, .int .i64 1] 71)).drewN nq = z := ⟨_, rfl⟩
    have hb2 : Below w.heap.size w W2 := by rw [← hW2]; exact (hb1.alloc hb1.size _).trans ((belowN _ nq).mono (Nat.le_trans hb1.size (by simp)))
    rw [hW2]
    clear hW2
    go_wp2_with fail
    rw [rounds_succ]
    go_wp2_with fail
    go_quiet (fail)
    obtain ⟨W3, hW3⟩ : ∃ z, (W2.alloc (.cells #[.int .i64 2048, .int .i64 65535, .int .i64 224, .int .i64 2] 71)).drewN nq = z := ⟨_, rfl⟩
    have hb3 : Below w.heap.size w W3 := by rw [← hW3]; exact (hb2.alloc hb2.size _).trans ((belowN _ nq).mono (Nat.le_trans hb2.size (by simp)))
    rw [hW3]
    clear hW3
    go_wp2_with fail
    rw [rounds_succ]
    go_wp2_with fail
    go_quiet (fail)
    obtain ⟨W4, hW4⟩ : ∃ z, (W3.alloc (.cells #[.int .i64 65536, .int .i64 1114111, .int .i64 240, .int .i64 3] 71)).drewN nq = z := ⟨_, rfl⟩
    have hb4 : Below w.heap.size w W4 := by rw [← hW4]; exact (hb3.alloc hb3.size _).trans ((belowN _ nq).mono (Nat.le_trans hb3.size (by simp)))
    rw [hW4]
    clear hW4
    go_wp2_with fail
    rw [rounds_succ]
    go_wp2_with fail
    go_ret2
    refine ⟨?_, hb4⟩
    rw [HE.out]
    rfl
  by_cases a3 : b0 < 224
  case pos =>
    have pu0 : decide ((b0 : Int) < 0) = false := decide_eq_false (by omega)
    have pw0 : decide ((127 : Int) < (b0 : Int)) = true := decide_eq_true (by omega)
    have px0 : decide (127 < b0) = true := decide_eq_true (by omega)
    have pu1 : decide ((b0 : Int) < 192) = false := decide_eq_false (by omega)
    have pv1 : decide (b0 < 192) = false := decide_eq_false (by omega)
    have pw1 : decide ((223 : Int) < (b0 : Int)) = false := decide_eq_false (by omega)
    have px1 : decide (223 < b0) = false := decide_eq_false (by omega)
    have hb0 : Below w.heap.size w w := Below.refl _ _
    go_enter Tryz.func46, Tryz.ntmps46
    go_wp2_with fail
    refine wp_loop_rounds 4 ?_
    rw [rounds_succ]
    go_wp2_with fail
    go_quiet (fail)
    obtain ⟨W1, hW1⟩ : ∃ z, (w.alloc (.cells #[.int .i64 0, .int .i64 127, .int .i64 0, .int .i64 0] 71)).drewN nq = z := ⟨_, rfl⟩
    have hb1 : Below w.heap.size w W1 := by rw [← hW1]; exact (hb0.alloc hb0.size _).trans ((belowN _ nq).mono (Nat.le_trans hb0.size (by simp)))
    rw [hW1]
    clear hW1
    go_wp2_with fail
    rw [rounds_succ]
    go_wp2_with fail
    go_quiet (fail)
    obtain ⟨W2, hW2⟩ : ∃ z, (W1.alloc (.cells #[.int .i64 128, .int .i64 2047, .int .i64 192, .int .i64 1] 71)).drewN nq = z := ⟨_, rfl⟩
    have hb2 : Below w.heap.size w W2 := by rw [← hW2]; exact (hb1.alloc hb1.size _).trans ((belowN _ nq).mono (Nat.le_trans hb1.size (by simp)))
    have fb : Blk W2 W1.heap.size 71 #[.int .i64 128, .int .i64 2047, .int .i64 192, .int .i64 1] := by rw [← hW2]; exact Blk.made W1 _ _
    have y0 := fb.at' 0
    have y1 := fb.at' 1
    have y2 := fb.at' 2
    have y3 := fb.at' 3
    simp at y0 y1 y2 y3
    rw [hW2]
    clear hW2 fb
    by_cases nm : (n : Int) ≤ 1
    · clear HC
      have e : R = (0, 0) := by
        rw [← HR.out]
        cases ho : oneN n b0 b1 b2 b3 with
        | more => rfl
        | bad => rfl
        | ok c k =>
          exfalso
          unfold oneN loB hiB at ho
          repeat' split at ho
          all_goals first | (cases ho; done) | (cases ho; omega) | omega
      have HE := Lib.hid e
      clear e
      go_wp2_with fail
      go_ret2
      refine ⟨?_, hb2⟩
      rw [HE.out]
      rfl
    have hcp1 : ¬ cp = 1 := by omega
    have hcp2 : 2 ≤ cp := by omega
    have c1 := HC.out 1 (by omega)
    rw [hb1'] at c1
    have d1 := (hb2.cell (p := ⟨b, off + 1, none⟩) (lt_cell c1)).trans c1
    go_wp2_with fail
    refine wp_loop_rounds 2 ?_
    obtain ⟨s0, hs0⟩ : ∃ z, (b0 : Int) - 192 = z := ⟨_, rfl⟩
    rw [hs0]
    have HS0 := Lib.hid hs0
    have r0 : 0 ≤ s0 := by omega
    have r0' : s0 ≤ 31 := by omega
    clear hs0
    rw [rounds_succ]
    by_cases kl1 : (b1 : Int) < 128
    · have z0 := HS0.out
      have e : R = (0, 0) := by
        rw [← HR.out]
        cases ho : oneN n b0 b1 b2 b3 with
        | more => rfl
        | bad => rfl
        | ok c k =>
          exfalso
          unfold oneN loB hiB at ho
          repeat' split at ho
          all_goals first | (cases ho; done) | (cases ho; omega) | omega
      have HE := Lib.hid e
      clear e
      go_wp2_with fail
      go_ret2
      refine ⟨?_, hb2⟩
      rw [HE.out]
      rfl
    by_cases kh1 : (191 : Int) < (b1 : Int)
    · have z0 := HS0.out
      have e : R = (0, 0) := by
        rw [← HR.out]
        cases ho : oneN n b0 b1 b2 b3 with
        | more => rfl
        | bad => rfl
        | ok c k =>
          exfalso
          unfold oneN loB hiB at ho
          repeat' split at ho
          all_goals first | (cases ho; done) | (cases ho; omega) | omega
      have HE := Lib.hid e
      clear e
      go_wp2_with fail
      go_ret2
      refine ⟨?_, hb2⟩
      rw [HE.out]
      rfl
    have hl1I : (b1 : Int) < 256 := by omega
    have ha1 := and63 b1 hl1
    obtain ⟨v1, hv1⟩ : ∃ z, b1 % 64 = z := ⟨_, rfl⟩
    rw [hv1] at ha1
    have hvl1 : v1 < 64 := by omega
    have HV1 := Lib.hid hv1
    clear hv1
    have hor1 := or6i s0 v1 (by omega) (by omega) hvl1
    have hvI1 : (v1 : Int) < 64 := by omega
    have hvJ1 : (0 : Int) ≤ (v1 : Int) := Int.natCast_nonneg _
    go_wp2_with fail
    obtain ⟨s1, hs1⟩ : ∃ z, s0 * 64 + (v1 : Int) = z := ⟨_, rfl⟩
    rw [hs1]
    have HS1 := Lib.hid hs1
    have r1 : 0 ≤ s1 := by omega
    have r1' : s1 ≤ 2047 := by omega
    clear hs1 hor1 ha1
    rw [rounds_succ]
    by_cases lo1 : s1 < 128
    · have z0 := HS0.out
      have z1 := HS1.out
      have u1 := HV1.out
      have e : R = (0, 0) := by
        rw [← HR.out]
        cases ho : oneN n b0 b1 b2 b3 with
        | more => rfl
        | bad => rfl
        | ok c k =>
          exfalso
          unfold oneN loB hiB at ho
          repeat' split at ho
          all_goals first | (cases ho; done) | (cases ho; omega) | omega
      have HE := Lib.hid e
      clear e
      go_wp2_with fail
      go_ret2
      refine ⟨?_, hb2⟩
      rw [HE.out]
      rfl
    have hi1 : ¬ (2047 : Int) < s1 := by omega
    have hsu := fun W => surr_walk s1 false (Lib.hid ⟨fun h => (by cases h), fun h => (by omega)⟩) W
    go_wp2_with (first | (go_at_call 59; refine (hsu _).mono ?_; clear hsu; rintro _ w9 ⟨rfl, rfl⟩) | fail)
    go_quiet (fail)
    go_wp2_with fail
    go_ret2
    have z0 := HS0.out
    have z1 := HS1.out
    have u1 := HV1.out
    have e : R = (s1.toNat, 2) := by
      rw [← HR.out]
      have ho : oneN n b0 b1 b2 b3 = .ok s1.toNat 2 := by
        unfold oneN loB hiB
        repeat' split
        all_goals first | omega | (congr 1; omega)
      rw [ho]
    refine ⟨?_, hb2.trans ((belowN _ _).mono hb2.size)⟩
    rw [e]
    simp only [Int.toNat_of_nonneg r1]
    rfl
  by_cases a4 : b0 < 240
  case pos =>
    have pu0 : decide ((b0 : Int) < 0) = false := decide_eq_false (by omega)
    have pw0 : decide ((127 : Int) < (b0 : Int)) = true := decide_eq_true (by omega)
    have px0 : decide (127 < b0) = true := decide_eq_true (by omega)
    have pu1 : decide ((b0 : Int) < 192) = false := decide_eq_false (by omega)
    have pv1 : decide (b0 < 192) = false := decide_eq_false (by omega)
    have pw1 : decide ((223 : Int) < (b0 : Int)) = true := decide_eq_true (by omega)
    have px1 : decide (223 < b0) = true := decide_eq_true (by omega)
    have pu2 : decide ((b0 : Int) < 224) = false := decide_eq_false (by omega)
    have pv2 : decide (b0 < 224) = false := decide_eq_false (by omega)
    have pw2 : decide ((239 : Int) < (b0 : Int)) = false := decide_eq_false (by omega)
    have px2 : decide (239 < b0) = false := decide_eq_false (by omega)
    have hb0 : Below w.heap.size w w := Below.refl _ _
    go_enter Tryz.func46, Tryz.ntmps46
    go_wp2_with fail
    refine wp_loop_rounds 4 ?_
    rw [rounds_succ]
    go_wp2_with fail
    go_quiet (fail)
    obtain ⟨W1, hW1⟩ : ∃ z, (w.alloc (.cells #[.int .i64 0, .int .i64 127, .int .i64 0, .int .i64 0] 71)).drewN nq = z := ⟨_, rfl⟩
    have hb1 : Below w.heap.size w W1 := by rw [← hW1]; exact (hb0.alloc hb0.size _).trans ((belowN _ nq).mono (Nat.le_trans hb0.size (by simp)))
    rw [hW1]
    clear hW1
    go_wp2_with fail
    rw [rounds_succ]
    go_wp2_with fail
    go_quiet (fail)
    obtain ⟨W2, hW2⟩ : ∃ z, (W1.alloc (.cells #[.int .i64 128, .int .i64 2047, .int .i64 192, .int .i64 1] 71)).drewN nq = z := ⟨_, rfl⟩
    have hb2 : Below w.heap.size w W2 := by rw [← hW2]; exact (hb1.alloc hb1.size _).trans ((belowN _ nq).mono (Nat.le_trans hb1.size (by simp)))
    rw [hW2]
    clear hW2
    go_wp2_with fail
    rw [rounds_succ]
    go_wp2_with fail
    go_quiet (fail)
    obtain ⟨W3, hW3⟩ : ∃ z, (W2.alloc (.cells #[.int .i64 2048, .int .i64 65535, .int .i64 224, .int .i64 2] 71)).drewN nq = z := ⟨_, rfl⟩
    have hb3 : Below w.heap.size w W3 := by rw [← hW3]; exact (hb2.alloc hb2.size _).trans ((belowN _ nq).mono (Nat.le_trans hb2.size (by simp)))
    have fb : Blk W3 W2.heap.size 71 #[.int .i64 2048, .int .i64 65535, .int .i64 224, .int .i64 2] := by rw [← hW3]; exact Blk.made W2 _ _
    have y0 := fb.at' 0
    have y1 := fb.at' 1
    have y2 := fb.at' 2
    have y3 := fb.at' 3
    simp at y0 y1 y2 y3
    rw [hW3]
    clear hW3 fb
    by_cases nm : (n : Int) ≤ 2
    · clear HC
      have e : R = (0, 0) := by
        rw [← HR.out]
        cases ho : oneN n b0 b1 b2 b3 with
        | more => rfl
        | bad => rfl
        | ok c k =>
          exfalso
          unfold oneN loB hiB at ho
          repeat' split at ho
          all_goals first | (cases ho; done) | (cases ho; omega) | omega
      have HE := Lib.hid e
      clear e
      go_wp2_with fail
      go_ret2
      refine ⟨?_, hb3⟩
      rw [HE.out]
      rfl
    have hcp1 : ¬ cp = 1 := by omega
    have hcp2 : 3 ≤ cp := by omega
    have c1 := HC.out 1 (by omega)
    rw [hb1'] at c1
    have d1 := (hb3.cell (p := ⟨b, off + 1, none⟩) (lt_cell c1)).trans c1
    have c2 := HC.out 2 (by omega)
    rw [hb2'] at c2
    have d2 := (hb3.cell (p := ⟨b, off + 2, none⟩) (lt_cell c2)).trans c2
    have d2' : W3.cell? ⟨b, off + 1 + 1, none⟩ = some (.int .u8 (b2 : Nat)) := by rw [Nat.add_assoc]; exact d2
    go_wp2_with fail
    refine wp_loop_rounds 3 ?_
    obtain ⟨s0, hs0⟩ : ∃ z, (b0 : Int) - 224 = z := ⟨_, rfl⟩
    rw [hs0]
    have HS0 := Lib.hid hs0
    have r0 : 0 ≤ s0 := by omega
    have r0' : s0 ≤ 15 := by omega
    clear hs0
    rw [rounds_succ]
    by_cases kl1 : (b1 : Int) < 128
    · have z0 := HS0.out
      have e : R = (0, 0) := by
        rw [← HR.out]
        cases ho : oneN n b0 b1 b2 b3 with
        | more => rfl
        | bad => rfl
        | ok c k =>
          exfalso
          unfold oneN loB hiB at ho
          repeat' split at ho
          all_goals first | (cases ho; done) | (cases ho; omega) | omega
      have HE := Lib.hid e
      clear e
      go_wp2_with fail
      go_ret2
      refine ⟨?_, hb3⟩
      rw [HE.out]
      rfl
    by_cases kh1 : (191 : Int) < (b1 : Int)
    · have z0 := HS0.out
      have e : R = (0, 0) := by
        rw [← HR.out]
        cases ho : oneN n b0 b1 b2 b3 with
        | more => rfl
        | bad => rfl
        | ok c k =>
          exfalso
          unfold oneN loB hiB at ho
          repeat' split at ho
          all_goals first | (cases ho; done) | (cases ho; omega) | omega
      have HE := Lib.hid e
      clear e
      go_wp2_with fail
      go_ret2
      refine ⟨?_, hb3⟩
      rw [HE.out]
      rfl
    have hl1I : (b1 : Int) < 256 := by omega
    have ha1 := and63 b1 hl1
    obtain ⟨v1, hv1⟩ : ∃ z, b1 % 64 = z := ⟨_, rfl⟩
    rw [hv1] at ha1
    have hvl1 : v1 < 64 := by omega
    have HV1 := Lib.hid hv1
    clear hv1
    have hor1 := or6i s0 v1 (by omega) (by omega) hvl1
    have hvI1 : (v1 : Int) < 64 := by omega
    have hvJ1 : (0 : Int) ≤ (v1 : Int) := Int.natCast_nonneg _
    go_wp2_with fail
    obtain ⟨s1, hs1⟩ : ∃ z, s0 * 64 + (v1 : Int) = z := ⟨_, rfl⟩
    rw [hs1]
    have HS1 := Lib.hid hs1
    have r1 : 0 ≤ s1 := by omega
    have r1' : s1 ≤ 1023 := by omega
    clear hs1 hor1 ha1
    rw [rounds_succ]
    by_cases kl2 : (b2 : Int) < 128
    · have z0 := HS0.out
      have e : R = (0, 0) := by
        rw [← HR.out]
        cases ho : oneN n b0 b1 b2 b3 with
        | more => rfl
        | bad => rfl
        | ok c k =>
          exfalso
          unfold oneN loB hiB at ho
          repeat' split at ho
          all_goals first | (cases ho; done) | (cases ho; omega) | omega
      have HE := Lib.hid e
      clear e
      go_wp2_with fail
      go_ret2
      refine ⟨?_, hb3⟩
      rw [HE.out]
      rfl
    by_cases kh2 : (191 : Int) < (b2 : Int)
    · have z0 := HS0.out
      have e : R = (0, 0) := by
        rw [← HR.out]
        cases ho : oneN n b0 b1 b2 b3 with
        | more => rfl
        | bad => rfl
        | ok c k =>
          exfalso
          unfold oneN loB hiB at ho
          repeat' split at ho
          all_goals first | (cases ho; done) | (cases ho; omega) | omega
      have HE := Lib.hid e
      clear e
      go_wp2_with fail
      go_ret2
      refine ⟨?_, hb3⟩
      rw [HE.out]
      rfl
    have hl2I : (b2 : Int) < 256 := by omega
    have ha2 := and63 b2 hl2
    obtain ⟨v2, hv2⟩ : ∃ z, b2 % 64 = z := ⟨_, rfl⟩
    rw [hv2] at ha2
    have hvl2 : v2 < 64 := by omega
    have HV2 := Lib.hid hv2
    clear hv2
    have hor2 := or6i s1 v2 (by omega) (by omega) hvl2
    have hvI2 : (v2 : Int) < 64 := by omega
    have hvJ2 : (0 : Int) ≤ (v2 : Int) := Int.natCast_nonneg _
    go_wp2_with fail
    obtain ⟨s2, hs2⟩ : ∃ z, s1 * 64 + (v2 : Int) = z := ⟨_, rfl⟩
    rw [hs2]
    have HS2 := Lib.hid hs2
    have r2 : 0 ≤ s2 := by omega
    have r2' : s2 ≤ 65535 := by omega
    clear hs2 hor2 ha2
    rw [rounds_succ]
    by_cases lo1 : s2 < 2048
    · have z0 := HS0.out
      have z1 := HS1.out
      have z2 := HS2.out
      have u1 := HV1.out
      have u2 := HV2.out
      have e : R = (0, 0) := by
        rw [← HR.out]
        cases ho : oneN n b0 b1 b2 b3 with
        | more => rfl
        | bad => rfl
        | ok c k =>
          exfalso
          unfold oneN loB hiB at ho
          repeat' split at ho
          all_goals first | (cases ho; done) | (cases ho; omega) | omega
      have HE := Lib.hid e
      clear e
      go_wp2_with fail
      go_ret2
      refine ⟨?_, hb3⟩
      rw [HE.out]
      rfl
    have hi1 : ¬ (65535 : Int) < s2 := by omega
    by_cases su : 55296 ≤ s2 ∧ s2 ≤ 57343
    · have z0 := HS0.out
      have z1 := HS1.out
      have z2 := HS2.out
      have u1 := HV1.out
      have u2 := HV2.out
      have hsu := fun W => surr_walk s2 true (Lib.hid ⟨fun _ => su, fun _ => rfl⟩) W
      have e : R = (0, 0) := by
        rw [← HR.out]
        cases ho : oneN n b0 b1 b2 b3 with
        | more => rfl
        | bad => rfl
        | ok c k =>
          exfalso
          unfold oneN loB hiB at ho
          repeat' split at ho
          all_goals first | (cases ho; done) | (cases ho; omega) | omega
      have HE := Lib.hid e
      clear e su
      go_wp2_with (first | (go_at_call 59; refine (hsu _).mono ?_; clear hsu; rintro _ w9 ⟨rfl, rfl⟩) | fail)
      go_ret2
      refine ⟨?_, hb3⟩
      rw [HE.out]
      rfl
    have hsu := fun W => surr_walk s2 false (Lib.hid ⟨fun h => (by cases h), fun h => absurd h su⟩) W
    have SU := Lib.hid su
    clear su
    go_wp2_with (first | (go_at_call 59; refine (hsu _).mono ?_; clear hsu; rintro _ w9 ⟨rfl, rfl⟩) | fail)
    go_quiet (fail)
    go_wp2_with fail
    go_ret2
    have z0 := HS0.out
    have z1 := HS1.out
    have z2 := HS2.out
    have u1 := HV1.out
    have u2 := HV2.out
    have su := SU.out
    have e : R = (s2.toNat, 3) := by
      rw [← HR.out]
      have ho : oneN n b0 b1 b2 b3 = .ok s2.toNat 3 := by
        unfold oneN loB hiB
        repeat' split
        all_goals first | omega | (congr 1; omega)
      rw [ho]
    refine ⟨?_, hb3.trans ((belowN _ _).mono hb3.size)⟩
    rw [e]
    simp only [Int.toNat_of_nonneg r2]
    rfl
  by_cases a5 : b0 < 245
  case pos =>
    have pu0 : decide ((b0 : Int) < 0) = false := decide_eq_false (by omega)
    have pw0 : decide ((127 : Int) < (b0 : Int)) = true := decide_eq_true (by omega)
    have px0 : decide (127 < b0) = true := decide_eq_true (by omega)
    have pu1 : decide ((b0 : Int) < 192) = false := decide_eq_false (by omega)
    have pv1 : decide (b0 < 192) = false := decide_eq_false (by omega)
    have pw1 : decide ((223 : Int) < (b0 : Int)) = true := decide_eq_true (by omega)
    have px1 : decide (223 < b0) = true := decide_eq_true (by omega)
    have pu2 : decide ((b0 : Int) < 224) = false := decide_eq_false (by omega)
    have pv2 : decide (b0 < 224) = false := decide_eq_false (by omega)
    have pw2 : decide ((239 : Int) < (b0 : Int)) = true := decide_eq_true (by omega)
    have px2 : decide (239 < b0) = true := decide_eq_true (by omega)
    have pu3 : decide ((b0 : Int) < 240) = false := decide_eq_false (by omega)
    have pv3 : decide (b0 < 240) = false := decide_eq_false (by omega)
    have pw3 : decide ((244 : Int) < (b0 : Int)) = false := decide_eq_false (by omega)
    have px3 : decide (244 < b0) = false := decide_eq_false (by omega)
    have hb0 : Below w.heap.size w w := Below.refl _ _
    go_enter Tryz.func46, Tryz.ntmps46
    go_wp2_with fail
    refine wp_loop_rounds 4 ?_
    rw [rounds_succ]
    go_wp2_with fail
    go_quiet (fail)
    obtain ⟨W1, hW1⟩ : ∃ z, (w.alloc (.cells #[.int .i64 0, .int .i64 127, .int .i64 0, .int .i64 0] 71)).drewN nq = z := ⟨_, rfl⟩
    have hb1 : Below w.heap.size w W1 := by rw [← hW1]; exact (hb0.alloc hb0.size _).trans ((belowN _ nq).mono (Nat.le_trans hb0.size (by simp)))
    rw [hW1]
    clear hW1
    go_wp2_with fail
    rw [rounds_succ]
    go_wp2_with fail
    go_quiet (fail)
    obtain ⟨W2, hW2⟩ : ∃ z, (W1.alloc (.cells #[.int .i64 128, .int .i64 2047, .int .i64 192, .int .i64 1] 71)).drewN nq = z := ⟨_, rfl⟩
    have hb2 : Below w.heap.size w W2 := by rw [← hW2]; exact (hb1.alloc hb1.size _).trans ((belowN _ nq).mono (Nat.le_trans hb1.size (by simp)))
    rw [hW2]
    clear hW2
    go_wp2_with fail
    rw [rounds_succ]
    go_wp2_with fail
    go_quiet (fail)
    obtain ⟨W3, hW3⟩ : ∃ z, (W2.alloc (.cells #[.int .i64 2048, .int .i64 65535, .int .i64 224, .int .i64 2] 71)).drewN nq = z := ⟨_, rfl⟩
    have hb3 : Below w.heap.size w W3 := by rw [← hW3]; exact (hb2.alloc hb2.size _).trans ((belowN _ nq).mono (Nat.le_trans hb2.size (by simp)))
    rw [hW3]
    clear hW3
    go_wp2_with fail
    rw [rounds_succ]
    go_wp2_with fail
    go_quiet (fail)
    obtain ⟨W4, hW4⟩ : ∃ z, (W3.alloc (.cells #[.int .i64 65536, .int .i64 1114111, .int .i64 240, .int .i64 3] 71)).drewN nq = z := ⟨_, rfl⟩
    have hb4 : Below w.heap.size w W4 := by rw [← hW4]; exact (hb3.alloc hb3.size _).trans ((belowN _ nq).mono (Nat.le_trans hb3.size (by simp)))
    have fb : Blk W4 W3.heap.size 71 #[.int .i64 65536, .int .i64 1114111, .int .i64 240, .int .i64 3] := by rw [← hW4]; exact Blk.made W3 _ _
    have y0 := fb.at' 0
    have y1 := fb.at' 1
    have y2 := fb.at' 2
    have y3 := fb.at' 3
    simp at y0 y1 y2 y3
    rw [hW4]
    clear hW4 fb
    by_cases nm : (n : Int) ≤ 3
    · clear HC
      have e : R = (0, 0) := by
        rw [← HR.out]
        cases ho : oneN n b0 b1 b2 b3 with
        | more => rfl
        | bad => rfl
        | ok c k =>
          exfalso
          unfold oneN loB hiB at ho
          repeat' split at ho
          all_goals first | (cases ho; done) | (cases ho; omega) | omega
      have HE := Lib.hid e
      clear e
      go_wp2_with fail
      go_ret2
      refine ⟨?_, hb4⟩
      rw [HE.out]
      rfl
    have hcp1 : ¬ cp = 1 := by omega
    have hcp2 : 4 ≤ cp := by omega
    have c1 := HC.out 1 (by omega)
    rw [hb1'] at c1
    have d1 := (hb4.cell (p := ⟨b, off + 1, none⟩) (lt_cell c1)).trans c1
    have c2 := HC.out 2 (by omega)
    rw [hb2'] at c2
    have d2 := (hb4.cell (p := ⟨b, off + 2, none⟩) (lt_cell c2)).trans c2
    have d2' : W4.cell? ⟨b, off + 1 + 1, none⟩ = some (.int .u8 (b2 : Nat)) := by rw [Nat.add_assoc]; exact d2
    have c3 := HC.out 3 (by omega)
    rw [hb3'] at c3
    have d3 := (hb4.cell (p := ⟨b, off + 3, none⟩) (lt_cell c3)).trans c3
    have d3' : W4.cell? ⟨b, off + 1 + 2, none⟩ = some (.int .u8 (b3 : Nat)) := by rw [Nat.add_assoc]; exact d3
    go_wp2_with fail
    refine wp_loop_rounds 4 ?_
    obtain ⟨s0, hs0⟩ : ∃ z, (b0 : Int) - 240 = z := ⟨_, rfl⟩
    rw [hs0]
    have HS0 := Lib.hid hs0
    have r0 : 0 ≤ s0 := by omega
    have r0' : s0 ≤ 4 := by omega
    clear hs0
    rw [rounds_succ]
    by_cases kl1 : (b1 : Int) < 128
    · have z0 := HS0.out
      have e : R = (0, 0) := by
        rw [← HR.out]
        cases ho : oneN n b0 b1 b2 b3 with
        | more => rfl
        | bad => rfl
        | ok c k =>
          exfalso
          unfold oneN loB hiB at ho
          repeat' split at ho
          all_goals first | (cases ho; done) | (cases ho; omega) | omega
      have HE := Lib.hid e
      clear e
      go_wp2_with fail
      go_ret2
      refine ⟨?_, hb4⟩
      rw [HE.out]
      rfl
    by_cases kh1 : (191 : Int) < (b1 : Int)
    · have z0 := HS0.out
      have e : R = (0, 0) := by
        rw [← HR.out]
        cases ho : oneN n b0 b1 b2 b3 with
        | more => rfl
        | bad => rfl
        | ok c k =>
          exfalso
          unfold oneN loB hiB at ho
          repeat' split at ho
          all_goals first | (cases ho; done) | (cases ho; omega) | omega
      have HE := Lib.hid e
      clear e
      go_wp2_with fail
      go_ret2
      refine ⟨?_, hb4⟩
      rw [HE.out]
      rfl
    have hl1I : (b1 : Int) < 256 := by omega
    have ha1 := and63 b1 hl1
    obtain ⟨v1, hv1⟩ : ∃ z, b1 % 64 = z := ⟨_, rfl⟩
    rw [hv1] at ha1
    have hvl1 : v1 < 64 := by omega
    have HV1 := Lib.hid hv1
    clear hv1
    have hor1 := or6i s0 v1 (by omega) (by omega) hvl1
    have hvI1 : (v1 : Int) < 64 := by omega
    have hvJ1 : (0 : Int) ≤ (v1 : Int) := Int.natCast_nonneg _
    go_wp2_with fail
    obtain ⟨s1, hs1⟩ : ∃ z, s0 * 64 + (v1 : Int) = z := ⟨_, rfl⟩
    rw [hs1]
    have HS1 := Lib.hid hs1
    have r1 : 0 ≤ s1 := by omega
    have r1' : s1 ≤ 319 := by omega
    clear hs1 hor1 ha1
    rw [rounds_succ]
    by_cases kl2 : (b2 : Int) < 128
    · have z0 := HS0.out
      have e : R = (0, 0) := by
        rw [← HR.out]
        cases ho : oneN n b0 b1 b2 b3 with
        | more => rfl
        | bad => rfl
        | ok c k =>
          exfalso
          unfold oneN loB hiB at ho
          repeat' split at ho
          all_goals first | (cases ho; done) | (cases ho; omega) | omega
      have HE := Lib.hid e
      clear e
      go_wp2_with fail
      go_ret2
      refine ⟨?_, hb4⟩
      rw [HE.out]
      rfl
    by_cases kh2 : (191 : Int) < (b2 : Int)
    · have z0 := HS0.out
      have e : R = (0, 0) := by
        rw [← HR.out]
        cases ho : oneN n b0 b1 b2 b3 with
        | more => rfl
        | bad => rfl
        | ok c k =>
          exfalso
          unfold oneN loB hiB at ho
          repeat' split at ho
          all_goals first | (cases ho; done) | (cases ho; omega) | omega
      have HE := Lib.hid e
      clear e
      go_wp2_with fail
      go_ret2
      refine ⟨?_, hb4⟩
      rw [HE.out]
      rfl
    have hl2I : (b2 : Int) < 256 := by omega
    have ha2 := and63 b2 hl2
    obtain ⟨v2, hv2⟩ : ∃ z, b2 % 64 = z := ⟨_, rfl⟩
    rw [hv2] at ha2
    have hvl2 : v2 < 64 := by omega
    have HV2 := Lib.hid hv2
    clear hv2
    have hor2 := or6i s1 v2 (by omega) (by omega) hvl2
    have hvI2 : (v2 : Int) < 64 := by omega
    have hvJ2 : (0 : Int) ≤ (v2 : Int) := Int.natCast_nonneg _
    go_wp2_with fail
    obtain ⟨s2, hs2⟩ : ∃ z, s1 * 64 + (v2 : Int) = z := ⟨_, rfl⟩
    rw [hs2]
    have HS2 := Lib.hid hs2
    have r2 : 0 ≤ s2 := by omega
    have r2' : s2 ≤ 20479 := by omega
    clear hs2 hor2 ha2
    rw [rounds_succ]
    by_cases kl3 : (b3 : Int) < 128
    · have z0 := HS0.out
      have e : R = (0, 0) := by
        rw [← HR.out]
        cases ho : oneN n b0 b1 b2 b3 with
        | more => rfl
        | bad => rfl
        | ok c k =>
          exfalso
          unfold oneN loB hiB at ho
          repeat' split at ho
          all_goals first | (cases ho; done) | (cases ho; omega) | omega
      have HE := Lib.hid e
      clear e
      go_wp2_with fail
      go_ret2
      refine ⟨?_, hb4⟩
      rw [HE.out]
      rfl
    by_cases kh3 : (191 : Int) < (b3 : Int)
    · have z0 := HS0.out
      have e : R = (0, 0) := by
        rw [← HR.out]
        cases ho : oneN n b0 b1 b2 b3 with
        | more => rfl
        | bad => rfl
        | ok c k =>
          exfalso
          unfold oneN loB hiB at ho
          repeat' split at ho
          all_goals first | (cases ho; done) | (cases ho; omega) | omega
      have HE := Lib.hid e
      clear e
      go_wp2_with fail
      go_ret2
      refine ⟨?_, hb4⟩
      rw [HE.out]
      rfl
    have hl3I : (b3 : Int) < 256 := by omega
    have ha3 := and63 b3 hl3
    obtain ⟨v3, hv3⟩ : ∃ z, b3 % 64 = z := ⟨_, rfl⟩
    rw [hv3] at ha3
    have hvl3 : v3 < 64 := by omega
    have HV3 := Lib.hid hv3
    clear hv3
    have hor3 := or6i s2 v3 (by omega) (by omega) hvl3
    have hvI3 : (v3 : Int) < 64 := by omega
    have hvJ3 : (0 : Int) ≤ (v3 : Int) := Int.natCast_nonneg _
    go_wp2_with fail
    obtain ⟨s3, hs3⟩ : ∃ z, s2 * 64 + (v3 : Int) = z := ⟨_, rfl⟩
    rw [hs3]
    have HS3 := Lib.hid hs3
    have r3 : 0 ≤ s3 := by omega
    have r3' : s3 ≤ 1310719 := by omega
    clear hs3 hor3 ha3
    rw [rounds_succ]
    by_cases lo1 : s3 < 65536
    · have z0 := HS0.out
      have z1 := HS1.out
      have z2 := HS2.out
      have z3 := HS3.out
      have u1 := HV1.out
      have u2 := HV2.out
      have u3 := HV3.out
      have e : R = (0, 0) := by
        rw [← HR.out]
        cases ho : oneN n b0 b1 b2 b3 with
        | more => rfl
        | bad => rfl
        | ok c k =>
          exfalso
          unfold oneN loB hiB at ho
          repeat' split at ho
          all_goals first | (cases ho; done) | (cases ho; omega) | omega
      have HE := Lib.hid e
      clear e
      go_wp2_with fail
      go_ret2
      refine ⟨?_, hb4⟩
      rw [HE.out]
      rfl
    by_cases hi1 : (1114111 : Int) < s3
    · have z0 := HS0.out
      have z1 := HS1.out
      have z2 := HS2.out
      have z3 := HS3.out
      have u1 := HV1.out
      have u2 := HV2.out
      have u3 := HV3.out
      have e : R = (0, 0) := by
        rw [← HR.out]
        cases ho : oneN n b0 b1 b2 b3 with
        | more => rfl
        | bad => rfl
        | ok c k =>
          exfalso
          unfold oneN loB hiB at ho
          repeat' split at ho
          all_goals first | (cases ho; done) | (cases ho; omega) | omega
      have HE := Lib.hid e
      clear e
      go_wp2_with fail
      go_ret2
      refine ⟨?_, hb4⟩
      rw [HE.out]
      rfl
    have hsu := fun W => surr_walk s3 false (Lib.hid ⟨fun h => (by cases h), fun h => (by omega)⟩) W
    go_wp2_with (first | (go_at_call 59; refine (hsu _).mono ?_; clear hsu; rintro _ w9 ⟨rfl, rfl⟩) | fail)
    go_quiet (fail)
    go_wp2_with fail
    go_ret2
    have z0 := HS0.out
    have z1 := HS1.out
    have z2 := HS2.out
    have z3 := HS3.out
    have u1 := HV1.out
    have u2 := HV2.out
    have u3 := HV3.out
    have e : R = (s3.toNat, 4) := by
      rw [← HR.out]
      have ho : oneN n b0 b1 b2 b3 = .ok s3.toNat 4 := by
        unfold oneN loB hiB
        repeat' split
        all_goals first | omega | (congr 1; omega)
      rw [ho]
    refine ⟨?_, hb4.trans ((belowN _ _).mono hb4.size)⟩
    rw [e]
    simp only [Int.toNat_of_nonneg r3]
    rfl
  have pu0 : decide ((b0 : Int) < 0) = false := decide_eq_false (by omega)
  have pw0 : decide ((127 : Int) < (b0 : Int)) = true := decide_eq_true (by omega)
  have px0 : decide (127 < b0) = true := decide_eq_true (by omega)
  have pu1 : decide ((b0 : Int) < 192) = false := decide_eq_false (by omega)
  have pv1 : decide (b0 < 192) = false := decide_eq_false (by omega)
  have pw1 : decide ((223 : Int) < (b0 : Int)) = true := decide_eq_true (by omega)
  have px1 : decide (223 < b0) = true := decide_eq_true (by omega)
  have pu2 : decide ((b0 : Int) < 224) = false := decide_eq_false (by omega)
  have pv2 : decide (b0 < 224) = false := decide_eq_false (by omega)
  have pw2 : decide ((239 : Int) < (b0 : Int)) = true := decide_eq_true (by omega)
  have px2 : decide (239 < b0) = true := decide_eq_true (by omega)
  have pu3 : decide ((b0 : Int) < 240) = false := decide_eq_false (by omega)
  have pv3 : decide (b0 < 240) = false := decide_eq_false (by omega)
  have pw3 : decide ((244 : Int) < (b0 : Int)) = true := decide_eq_true (by omega)
  have px3 : decide (244 < b0) = true := decide_eq_true (by omega)
  have e : R = (0, 0) := by
    rw [← HR.out]
    cases ho : oneN n b0 b1 b2 b3 with
    | more => rfl
    | bad => rfl
    | ok c k =>
      exfalso
      unfold oneN loB hiB at ho
      repeat' split at ho
      all_goals first | (cases ho; done) | (cases ho; omega) | omega
  have HE := Lib.hid e
  clear e HC
  have hb0 : Below w.heap.size w w := Below.refl _ _
  go_enter Tryz.func46, Tryz.ntmps46
  go_wp2_with fail
  refine wp_loop_rounds 5 ?_
  rw [rounds_succ]
  go_wp2_with fail
  go_quiet (fail)
  obtain ⟨W1, hW1⟩ : ∃ z, (w.alloc (.cells #[.int .i64 0, .int .i64 127, .int .i64 0, .int .i64 0] 71)).drewN nq = z := ⟨_, rfl⟩
  have hb1 : Below w.heap.size w W1 := by rw [← hW1]; exact (hb0.alloc hb0.size _).trans ((belowN _ nq).mono (Nat.le_trans hb0.size (by simp)))
  rw [hW1]
  clear hW1
  go_wp2_with fail
  rw [rounds_succ]
  go_wp2_with fail
  go_quiet (fail)
  obtain ⟨W2, hW2⟩ : ∃ z, (W1.alloc (.cells #[.int .i64 128, .int .i64 2047, .int .i64 192, .int .i64 1] 71)).drewN nq = z := ⟨_, rfl⟩
  have hb2 : Below w.heap.size w W2 := by rw [← hW2]; exact (hb1.alloc hb1.size _).trans ((belowN _ nq).mono (Nat.le_trans hb1.size (by simp)))
  rw [hW2]
  clear hW2
  go_wp2_with fail
  rw [rounds_succ]
  go_wp2_with fail
  go_quiet (fail)
  obtain ⟨W3, hW3⟩ : ∃ z, (W2.alloc (.cells #[.int .i64 2048, .int .i64 65535, .int .i64 224, .int .i64 2] 71)).drewN nq = z := ⟨_, rfl⟩
  have hb3 : Below w.heap.size w W3 := by rw [← hW3]; exact (hb2.alloc hb2.size _).trans ((belowN _ nq).mono (Nat.le_trans hb2.size (by simp)))
  rw [hW3]
  clear hW3
  go_wp2_with fail
  rw [rounds_succ]
  go_wp2_with fail
  go_quiet (fail)
  obtain ⟨W4, hW4⟩ : ∃ z, (W3.alloc (.cells #[.int .i64 65536, .int .i64 1114111, .int .i64 240, .int .i64 3] 71)).drewN nq = z := ⟨_, rfl⟩
  have hb4 : Below w.heap.size w W4 := by rw [← hW4]; exact (hb3.alloc hb3.size _).trans ((belowN _ nq).mono (Nat.le_trans hb3.size (by simp)))
  rw [hW4]
  clear hW4
  go_wp2_with fail
  rw [rounds_succ]
  go_wp2_with fail
  go_ret2
  refine ⟨?_, hb4⟩
  rw [HE.out]
  rfl
end Go.Proofs.YtahmcjdddcbhnaaGreatDoor
