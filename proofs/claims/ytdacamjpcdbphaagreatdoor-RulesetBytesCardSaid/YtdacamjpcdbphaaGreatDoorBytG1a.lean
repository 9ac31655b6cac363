/-
  The printer of trees, walked: digits.
  The printer of trees, walked: Punctuation, Letter.
  The printer of trees, walked: class.
  The printer of trees, walked: asCat, asItem over Tree.
  Has and Numbers, walked at trees that a generator makes.
  Nullable, walked at trees that a generator makes.
  whole and Valid, walked at trees that a generator makes.
  Decimal of small numbers, walked.
  The encoders of the reference, walked at any rules.
  Short, walked.
-/
import Derived.Test.YtdacamjpcdbphaaGreatDoorNodeWW
import Derived.Laws.Concat
import Derived.Laws.BytesArg
import Derived.Deep.QuietTactic
import Derived.Test.YtdacamjpcdbphaaGreatDoorBytG0b
import Derived.Test.YtdacamjpcdbphaaGreatDoorDecGW
namespace Go.Proofs.YtdacamjpcdbphaaGreatDoor
open Go Go.RowKit

/-- the answer of a call that only makes new blocks: a string no longer than that -/
def SomeStr (w : World) (n : Nat) (e : Ending) (w' : World) : Prop := ∃ s : ByteArray, e = .returned (.string s) ∧ s.size ≤ n ∧ Below w.heap.size w w'
theorem emp_eq (s : ByteArray) : s.toList.isEmpty = decide (s.size = 0) := by
  rw [ByteArray.toList_eq]
  cases s with
  | mk a =>
    cases a with
    | mk l => cases l <;> rfl
def hexs : ByteArray := { data := #[48, 49, 50, 51, 52, 53, 54, 55, 56, 57, 97, 98, 99, 100, 101, 102] }
theorem hex_slice : ∀ r : Nat, r < 16 → (hexs.extract r (r + 1)).size = 1 ∧ ∀ w : World, (Instr.slice 9 (.string { data := #[48, 49, 50, 51, 52, 53, 54, 55, 56, 57, 97, 98, 99, 100, 101, 102] }) (some (.int .i64 (r : Int))) (some (.int .i64 ((r : Int) + 1))) none).run Tryz.prog w = .ok (.string (hexs.extract r (r + 1))) w := by
  intro r hr
  match r, hr with
  | 0, _ => exact ⟨by decide, fun w => by kernel_rfl⟩
  | 1, _ => exact ⟨by decide, fun w => by kernel_rfl⟩
  | 2, _ => exact ⟨by decide, fun w => by kernel_rfl⟩
  | 3, _ => exact ⟨by decide, fun w => by kernel_rfl⟩
  | 4, _ => exact ⟨by decide, fun w => by kernel_rfl⟩
  | 5, _ => exact ⟨by decide, fun w => by kernel_rfl⟩
  | 6, _ => exact ⟨by decide, fun w => by kernel_rfl⟩
  | 7, _ => exact ⟨by decide, fun w => by kernel_rfl⟩
  | 8, _ => exact ⟨by decide, fun w => by kernel_rfl⟩
  | 9, _ => exact ⟨by decide, fun w => by kernel_rfl⟩
  | 10, _ => exact ⟨by decide, fun w => by kernel_rfl⟩
  | 11, _ => exact ⟨by decide, fun w => by kernel_rfl⟩
  | 12, _ => exact ⟨by decide, fun w => by kernel_rfl⟩
  | 13, _ => exact ⟨by decide, fun w => by kernel_rfl⟩
  | 14, _ => exact ⟨by decide, fun w => by kernel_rfl⟩
  | 15, _ => exact ⟨by decide, fun w => by kernel_rfl⟩
  | n + 16, h => exact absurd h (by omega)
set_option maxHeartbeats 4000000 in
set_option maxRecDepth 1000000 in
theorem digits_same (w : World) (n b : Nat) (hn : n ≤ 255) (hb : b = 10 ∨ b = 16) :
    Calls Tryz.prog 43 #[.int .i64 (n : Int), .int .i64 (b : Int)] w fun e w' => ∃ s : ByteArray, e = .returned (.string s) ∧ s.size ≤ 3 ∧ w' = w := by
  have hb1 : 10 ≤ (b : Int) := by omega
  have hb2 : (b : Int) ≤ 16 := by omega
  have hb0 : ¬ (b : Int) = 0 := by omega
  go_enter Tryz.func43, Tryz.ntmps43
  go_wp2
  go_loopw [0, 5] (fun nv sv wr => ∃ (i m : Nat) (s : ByteArray), nv = .int .i64 (m : Int) ∧ sv = .string s ∧ s.size = i ∧ m * 10 ^ i ≤ 255 ∧ i ≤ 3 ∧ wr = w) (fun nv sv _ => (intOf nv).toNat + (match sv with | .string s => if s.size = 0 then 1 else 0 | _ => 0))
  case atStart => exact ⟨0, n, ByteArray.empty, rfl, rfl, rfl, by omega, by omega, rfl⟩
  case round =>
    obtain ⟨i, m, s, rfl, rfl, hs, hm, hi3, rfl⟩ := hrel
    have hE := emp_eq s
    rw [hs] at hE
    have hi2 : m = 0 ∨ i ≤ 2 := by
      by_cases h : i ≤ 2
      · exact .inr h
      · have : i = 3 := by omega
        subst this
        omega
    have hm2 : m ≤ 255 := by
      have : 1 ≤ 10 ^ i := Nat.one_le_pow _ _ (by omega)
      calc m = m * 1 := by omega
        _ ≤ m * 10 ^ i := Nat.mul_le_mul_left _ this
        _ ≤ 255 := hm
    by_cases hgo : 0 < m ∨ i = 0
    · obtain ⟨r, hr⟩ : ∃ r, m % b = r := ⟨_, rfl⟩
      obtain ⟨q, hq⟩ : ∃ q, m / b = q := ⟨_, rfl⟩
      have hr16 : r < 16 := by have := Nat.mod_lt m (show 0 < b by omega); omega
      have hrI : (m : Int).tmod (b : Int) = (r : Int) := by rw [← hr]; rfl
      have hqI : (m : Int).tdiv (b : Int) = (q : Int) := by rw [← hq]; rfl
      obtain ⟨hc1, hsl⟩ := hex_slice r hr16
      obtain ⟨c, hc⟩ : ∃ c, hexs.extract r (r + 1) = c := ⟨_, rfl⟩
      rw [hc] at hc1 hsl
      have hq255 : q * 10 ^ (i + 1) ≤ 255 := by
        have h1 : q * 10 ≤ m := by
          have h2 := Nat.div_mul_le_self m b
          rw [hq] at h2
          exact Nat.le_trans (Nat.mul_le_mul_left q (by omega)) h2
        calc q * 10 ^ (i + 1) = (q * 10) * 10 ^ i := by rw [Nat.pow_succ, Nat.mul_comm (10 ^ i) 10, Nat.mul_assoc]
          _ ≤ m * 10 ^ i := Nat.mul_le_mul_right _ h1
          _ ≤ 255 := hm
      have hsz : (c ++ s).size = i + 1 := by simp [hc1, hs]; omega
      have hi31 : i ≤ 2 := by
        rcases hi2 with h | h
        · omega
        · exact h
      have hqm : q ≤ m ∧ (m = 0 → q = 0) ∧ (0 < m → q < m) := by
        refine ⟨by rw [← hq]; exact Nat.div_le_self _ _, fun h => by rw [← hq, h]; exact Nat.zero_div _, fun h => by rw [← hq]; exact Nat.div_lt_self h (by omega)⟩
      have hcs : c.size + s.size ≤ 9223372036854775807 := by omega
      by_cases h0 : m = 0
      · have hi : i = 0 := by omega
        rw [hi] at hE
        subst h0
        have hr0 : r = 0 := by rw [← hr]; exact Nat.zero_mod _
        subst hr0
        have hq0 : q = 0 := hqm.2.1 rfl
        subst hq0
        go_wp2_with fail
        go_roundw
        case rel => exact ⟨i + 1, 0, c ++ s, by go_num, by rw [← hc]; rfl, hsz, by omega, by omega, trivial⟩
        case measure =>
          have hsz' : (hexs.extract 0 1 ++ s).size = i + 1 := by rw [← hsz, ← hc]
          show (intOf (.int .i64 0)).toNat + (if (hexs.extract 0 1 ++ s).size = 0 then 1 else 0) < (intOf (.int .i64 ((0 : Nat) : Int))).toNat + (if s.size = 0 then 1 else 0)
          rw [hsz', hs, hi]
          decide
      · have hm0 : 0 < m := by omega
        go_wp2_with fail
        go_roundw
        case rel => exact ⟨i + 1, q, c ++ s, by go_num, rfl, hsz, hq255, by omega, trivial⟩
        case measure => simp [intOf, hsz, hs]; omega
    · have h0 : m = 0 := by omega
      subst h0
      have hi0 : decide (i = 0) = false := by simp; omega
      rw [hi0] at hE
      go_wp2_with fail
      go_ret
      exact ⟨s, rfl, by omega, rfl⟩
theorem digits_walk (w : World) (n b : Nat) (hn : n ≤ 255) (hb : b = 10 ∨ b = 16) :
    Calls Tryz.prog 43 #[.int .i64 (n : Int), .int .i64 (b : Int)] w (SomeStr w 3) := by
  refine (digits_same w n b hn hb).mono ?_
  rintro _ w1 ⟨s, rfl, hs, rfl⟩
  exact ⟨s, rfl, hs, Below.refl _ _⟩
end Go.Proofs.YtdacamjpcdbphaaGreatDoor
namespace Go.Proofs.YtdacamjpcdbphaaGreatDoor
open Go Go.RowKit

/-- the symbols of a generator's sets -/
def syms : List Int := [0, 10, 96, 97, 98, 99, 255]
set_option maxHeartbeats 4000000 in
set_option maxRecDepth 1000000 in
theorem punct_walk (w : World) (c : Int) (hc : c ∈ syms) : Calls Tryz.prog 105 #[.int .i64 c] w fun e w' => e = .returned (.bool (c == 96)) ∧ w' = w := by
  simp only [syms, List.mem_cons, List.not_mem_nil, or_false] at hc
  rcases hc with rfl | rfl | rfl | rfl | rfl | rfl | rfl
  all_goals
    go_enter Tryz.func105, Tryz.ntmps105
    go_wp2
    go_ret
    exact ⟨rfl, rfl⟩
theorem conv_one (w : World) (c : Int) : (convert 23 9 (.slice (some ⟨w.heap.size, 0, none⟩) 1 1)).run Tryz.prog (w.alloc (.cells #[.int .u8 c] 5)) = .ok (.string (strOfNums [c])) (w.alloc (.cells #[.int .u8 c] 5)) :=
  run_convert_bytes_arg _ 23 5 Tryz.underlying23 Tryz.underlying5 w.heap.size 0 1 1 [c] rfl (fun i hi => by
    have : i = 0 := by omega
    subst this
    simp) 9 Tryz.underlying9
theorem one_size (c : Int) : (strOfNums [c]).size = 1 := rfl
set_option maxHeartbeats 8000000 in
set_option maxRecDepth 1000000 in
theorem letter_walk (w : World) (c : Int) (hc : c ∈ syms) : Calls Tryz.prog 85 #[.int .i64 c] w (SomeStr w 6) := by
  have hp := punct_walk w c hc
  simp only [syms, List.mem_cons, List.not_mem_nil, or_false] at hc
  rcases hc with rfl | rfl | rfl | rfl | rfl | rfl | rfl
  · go_enter Tryz.func85, Tryz.ntmps85
    have hd := digits_walk w 0 16 (by omega) (by omega)
    go_wp2_with fail
    refine hp.mono ?_
    rintro _ w1 ⟨rfl, rfl⟩
    go_wp2_with fail
    refine hd.mono ?_
    rintro _ w2 ⟨s, rfl, hs, hB⟩
    go_wp2_with fail
    go_ret
    exact ⟨_, rfl, by simp [ByteArray.size_append', ByteArray.size_mk']; omega, hB⟩
  · go_enter Tryz.func85, Tryz.ntmps85
    go_wp2_with fail
    refine hp.mono ?_
    rintro _ w1 ⟨rfl, rfl⟩
    go_wp2_with fail
    go_ret
    exact ⟨_, rfl, by decide, Below.refl _ _⟩
  · go_enter Tryz.func85, Tryz.ntmps85
    go_wp2_with fail
    refine hp.mono ?_
    rintro _ w1 ⟨rfl, rfl⟩
    have hcv := conv_one w1 96
    have h1 := one_size 96
    obtain ⟨q, hq⟩ : ∃ q, strOfNums [96] = q := ⟨_, rfl⟩
    rw [hq] at hcv h1
    have h2 : q.size ≤ 9223372036854775800 := by omega
    go_wp2_with fail
    go_ret
    exact ⟨_, rfl, by simp [ByteArray.size_append', ByteArray.size_mk', h1], (Below.refl _ _).alloc (Nat.le_refl _) _⟩
  · go_enter Tryz.func85, Tryz.ntmps85
    go_wp2_with fail
    refine hp.mono ?_
    rintro _ w1 ⟨rfl, rfl⟩
    have hcv := conv_one w1 97
    go_wp2_with fail
    go_ret
    exact ⟨_, rfl, by rw [one_size]; omega, (Below.refl _ _).alloc (Nat.le_refl _) _⟩
  · go_enter Tryz.func85, Tryz.ntmps85
    go_wp2_with fail
    refine hp.mono ?_
    rintro _ w1 ⟨rfl, rfl⟩
    have hcv := conv_one w1 98
    go_wp2_with fail
    go_ret
    exact ⟨_, rfl, by rw [one_size]; omega, (Below.refl _ _).alloc (Nat.le_refl _) _⟩
  · go_enter Tryz.func85, Tryz.ntmps85
    go_wp2_with fail
    refine hp.mono ?_
    rintro _ w1 ⟨rfl, rfl⟩
    have hcv := conv_one w1 99
    go_wp2_with fail
    go_ret
    exact ⟨_, rfl, by rw [one_size]; omega, (Below.refl _ _).alloc (Nat.le_refl _) _⟩
  · go_enter Tryz.func85, Tryz.ntmps85
    have hd := digits_walk w 255 16 (by omega) (by omega)
    go_wp2_with fail
    refine hp.mono ?_
    rintro _ w1 ⟨rfl, rfl⟩
    go_wp2_with fail
    refine hd.mono ?_
    rintro _ w2 ⟨s, rfl, hs, hB⟩
    go_wp2_with fail
    go_ret
    exact ⟨_, rfl, by simp [ByteArray.size_append', ByteArray.size_mk']; omega, hB⟩
end Go.Proofs.YtdacamjpcdbphaaGreatDoor
namespace Go.Proofs.YtdacamjpcdbphaaGreatDoor
open Go Go.RowKit

theorem sets8_syms : ∀ l ∈ sets8, ∀ s ∈ l, s.1 ∈ syms ∧ s.2 ∈ syms := by decide
theorem SomeStr.more {w : World} {n m : Nat} {e : Ending} {w' : World} (h : SomeStr w n e w') (hm : n ≤ m) : SomeStr w m e w' := by
  obtain ⟨s, h1, h2, h3⟩ := h
  exact ⟨s, h1, Nat.le_trans h2 hm, h3⟩
set_option maxHeartbeats 8000000 in
set_option maxRecDepth 1000000 in
theorem class_walk {w : World} {v : Value} {l : List (Int × Int)} (h : SeesP w v l) (hl : l ∈ sets8) :
    Calls Tryz.prog 61 #[v] w (SomeStr w 30) := by
  obtain ⟨h2, -, -⟩ := sets8_ok l hl
  have hsy := sets8_syms l hl
  obtain ⟨A, cp, rfl, _, _⟩ := h.shape
  have hlet := fun (w' : World) (c : Int) (hc : c ∈ syms) => letter_walk w' c hc
  by_cases h1 : l.length = 1
  · have hh := h
    have h1i : (l.length : Int) = 1 := by omega
    have h1d : ((l.length : Int) == 1) = true := by rw [h1i]; rfl
    obtain ⟨b, s, rfl, q0, q1⟩ := h.load (Below.refl _ w) (show 0 < l.length by omega)
    obtain ⟨i1, i2⟩ := hsy _ (List.getElem_mem (show 0 < l.length by omega))
    obtain ⟨lo, hlo⟩ : ∃ x, l[0].1 = x := ⟨_, rfl⟩
    obtain ⟨hi, hhi⟩ : ∃ x, l[0].2 = x := ⟨_, rfl⟩
    rw [hlo] at q0 i1
    rw [hhi] at q1 i2
    simp at q0 q1
    by_cases he : lo = hi
    · subst he
      go_enter Tryz.func61, Tryz.ntmps61
      go_wp2_with fail
      refine wp_region_quiet_lit (by kernel_rfl) (by kernel_rfl) ?_
      repeat (with_reducible refine wpQuiet_step (fun K hK => ?_); go_simp; with_reducible refine hK _ ?_; clear hK K)
      with_reducible refine wpQuiet_nil ?_
      rintro _ ⟨nq, rfl⟩
      go_wp2_with fail
      refine (hlet _ lo i1).mono ?_
      rintro _ w1 ⟨s1, rfl, hs1, hB1⟩
      go_wp2_with fail
      go_ret
      exact ⟨s1, rfl, by omega, ((Below.refl _ w).drewN nq).trans (hB1.mono (Nat.le_refl _))⟩
    · have hed : (lo == hi) = false := beq_eq_false_iff_ne.2 he
      go_enter Tryz.func61, Tryz.ntmps61
      go_wp2_with fail
      refine wp_region_quiet_lit (by kernel_rfl) (by kernel_rfl) ?_
      repeat (with_reducible refine wpQuiet_step (fun K hK => ?_); go_simp; with_reducible refine hK _ ?_; clear hK K)
      with_reducible refine wpQuiet_nil ?_
      rintro _ ⟨nq, rfl⟩
      obtain ⟨w0, hw0⟩ : ∃ x, w.drewN nq = x := ⟨_, rfl⟩
      have hB0 : Below w.heap.size w w0 := by rw [← hw0]; exact (Below.refl _ w).drewN nq
      rw [hw0]
      go_wp2_with fail
      go_loopw [3, 4] (fun sv iv wr => ∃ (j : Nat) (s : ByteArray), j ≤ l.length ∧ iv = .int .i64 j ∧ sv = .string s ∧ s.size ≤ 1 + 13 * j ∧ Below w.heap.size w wr) (fun _ iv _ => l.length - (intOf iv).toNat)
      case atStart => exact ⟨0, _, Nat.zero_le _, rfl, rfl, by decide, hB0⟩
      case round =>
        obtain ⟨j, s, hj, rfl, rfl, hss, hbel⟩ := hrel
        by_cases hjl : j < l.length
        · obtain ⟨b, o, hA, q0, q1⟩ := h.load hbel hjl
          cases hA
          obtain ⟨i1, i2⟩ := hsy _ (List.getElem_mem hjl)
          obtain ⟨lo, hlo⟩ : ∃ x, l[j].1 = x := ⟨_, rfl⟩
          obtain ⟨hi, hhi⟩ : ∃ x, l[j].2 = x := ⟨_, rfl⟩
          rw [hlo] at q0 i1
          rw [hhi] at q1 i2
          have hj1 : (j : Int) < (l.length : Int) := by omega
          go_wp2_with fail
          refine (hlet wr lo i1).mono ?_
          rintro _ w1 ⟨s1, rfl, hs1, hB1⟩
          have hbel1 := hbel.trans (hB1.mono hbel.size)
          obtain ⟨b', o', hA', p0, p1⟩ := h.load hbel1 hjl
          cases hA'
          rw [hlo] at p0
          rw [hhi] at p1
          have k1 : s.size + s1.size ≤ 9223372036854775807 := by omega
          have hsz : (s ++ s1).size ≤ 7 + 13 * j := by simp; omega
          obtain ⟨s2, hs2⟩ : ∃ x, s ++ s1 = x := ⟨_, rfl⟩
          rw [hs2] at hsz
          by_cases hq : hi = lo
          · have hqd : (!(hi == lo)) = false := by simp [hq]
            go_wp2_with fail
            refine wp_region_quiet_lit (by kernel_rfl) (by kernel_rfl) ?_
            repeat (with_reducible refine wpQuiet_step (fun K hK => ?_); go_simp; with_reducible refine hK _ ?_; clear hK K)
            with_reducible refine wpQuiet_nil ?_
            rintro _ ⟨nq, rfl⟩
            have hbel2 := hbel1.drewN nq
            go_wp2_with fail
            go_roundw
            case rel => exact ⟨j + 1, s2, hjl, by go_num, rfl, by omega, hbel2⟩
            case measure => simp [intOf]; omega
          · have hqd : (!(hi == lo)) = true := by simp [hq]
            go_wp2_with fail
            refine wp_region_quiet_lit (by kernel_rfl) (by kernel_rfl) ?_
            repeat (with_reducible refine wpQuiet_step (fun K hK => ?_); go_simp; with_reducible refine hK _ ?_; clear hK K)
            with_reducible refine wpQuiet_nil ?_
            rintro _ ⟨nq, rfl⟩
            have hbel2 := hbel1.drewN nq
            obtain ⟨w2, hw2⟩ : ∃ x, w1.drewN nq = x := ⟨_, rfl⟩
            rw [hw2] at hbel2
            rw [hw2]
            obtain ⟨b', o', hA', r0, r1⟩ := h.load hbel2 hjl
            cases hA'
            rw [hlo] at r0
            rw [hhi] at r1
            clear p0 p1 q0 q1
            have k3 : s2.size + 1 ≤ 9223372036854775807 := by omega
            go_wp2_with fail
            refine (hlet w2 hi i2).mono ?_
            rintro _ w3 ⟨s3, rfl, hs3, hB3⟩
            have hbel3 := hbel2.trans (hB3.mono hbel2.size)
            have k4 : s2.size + 1 + s3.size ≤ 9223372036854775807 := by omega
            go_wp2_with fail
            go_roundw
            case rel => exact ⟨j + 1, _, hjl, by go_num, rfl, by simp [ByteArray.size_append', ByteArray.size_mk']; omega, hbel3⟩
            case measure => simp [intOf]; omega
        · have hje : j = l.length := by omega
          subst hje
          have k5 : s.size + 1 ≤ 9223372036854775807 := by omega
          go_wp2_with fail
          go_ret
          exact ⟨_, rfl, by simp [ByteArray.size_append', ByteArray.size_mk']; omega, hbel⟩
  · have h1d : ((l.length : Int) == 1) = false := beq_eq_false_iff_ne.2 (by omega)
    go_enter Tryz.func61, Tryz.ntmps61
    go_wp2_with fail
    refine wp_region_quiet_lit (by kernel_rfl) (by kernel_rfl) ?_
    repeat (with_reducible refine wpQuiet_step (fun K hK => ?_); go_simp; with_reducible refine hK _ ?_; clear hK K)
    with_reducible refine wpQuiet_nil ?_
    rintro _ ⟨nq, rfl⟩
    obtain ⟨w0, hw0⟩ : ∃ x, w.drewN nq = x := ⟨_, rfl⟩
    have hB0 : Below w.heap.size w w0 := by rw [← hw0]; exact (Below.refl _ w).drewN nq
    rw [hw0]
    go_wp2_with fail
    go_loopw [3, 4] (fun sv iv wr => ∃ (j : Nat) (s : ByteArray), j ≤ l.length ∧ iv = .int .i64 j ∧ sv = .string s ∧ s.size ≤ 1 + 13 * j ∧ Below w.heap.size w wr) (fun _ iv _ => l.length - (intOf iv).toNat)
    case atStart => exact ⟨0, _, Nat.zero_le _, rfl, rfl, by decide, hB0⟩
    case round =>
      obtain ⟨j, s, hj, rfl, rfl, hss, hbel⟩ := hrel
      by_cases hjl : j < l.length
      · obtain ⟨b, o, hA, q0, q1⟩ := h.load hbel hjl
        cases hA
        obtain ⟨i1, i2⟩ := hsy _ (List.getElem_mem hjl)
        obtain ⟨lo, hlo⟩ : ∃ x, l[j].1 = x := ⟨_, rfl⟩
        obtain ⟨hi, hhi⟩ : ∃ x, l[j].2 = x := ⟨_, rfl⟩
        rw [hlo] at q0 i1
        rw [hhi] at q1 i2
        have hj1 : (j : Int) < (l.length : Int) := by omega
        go_wp2_with fail
        refine (hlet wr lo i1).mono ?_
        rintro _ w1 ⟨s1, rfl, hs1, hB1⟩
        have hbel1 := hbel.trans (hB1.mono hbel.size)
        obtain ⟨b', o', hA', p0, p1⟩ := h.load hbel1 hjl
        cases hA'
        rw [hlo] at p0
        rw [hhi] at p1
        have k1 : s.size + s1.size ≤ 9223372036854775807 := by omega
        have hsz : (s ++ s1).size ≤ 7 + 13 * j := by simp; omega
        obtain ⟨s2, hs2⟩ : ∃ x, s ++ s1 = x := ⟨_, rfl⟩
        rw [hs2] at hsz
        by_cases hq : hi = lo
        · have hqd : (!(hi == lo)) = false := by simp [hq]
          go_wp2_with fail
          refine wp_region_quiet_lit (by kernel_rfl) (by kernel_rfl) ?_
          repeat (with_reducible refine wpQuiet_step (fun K hK => ?_); go_simp; with_reducible refine hK _ ?_; clear hK K)
          with_reducible refine wpQuiet_nil ?_
          rintro _ ⟨nq, rfl⟩
          have hbel2 := hbel1.drewN nq
          go_wp2_with fail
          go_roundw
          case rel => exact ⟨j + 1, s2, hjl, by go_num, rfl, by omega, hbel2⟩
          case measure => simp [intOf]; omega
        · have hqd : (!(hi == lo)) = true := by simp [hq]
          go_wp2_with fail
          refine wp_region_quiet_lit (by kernel_rfl) (by kernel_rfl) ?_
          repeat (with_reducible refine wpQuiet_step (fun K hK => ?_); go_simp; with_reducible refine hK _ ?_; clear hK K)
          with_reducible refine wpQuiet_nil ?_
          rintro _ ⟨nq, rfl⟩
          have hbel2 := hbel1.drewN nq
          obtain ⟨w2, hw2⟩ : ∃ x, w1.drewN nq = x := ⟨_, rfl⟩
          rw [hw2] at hbel2
          rw [hw2]
          obtain ⟨b', o', hA', r0, r1⟩ := h.load hbel2 hjl
          cases hA'
          rw [hlo] at r0
          rw [hhi] at r1
          clear p0 p1 q0 q1
          have k3 : s2.size + 1 ≤ 9223372036854775807 := by omega
          go_wp2_with fail
          refine (hlet w2 hi i2).mono ?_
          rintro _ w3 ⟨s3, rfl, hs3, hB3⟩
          have hbel3 := hbel2.trans (hB3.mono hbel2.size)
          have k4 : s2.size + 1 + s3.size ≤ 9223372036854775807 := by omega
          go_wp2_with fail
          go_roundw
          case rel => exact ⟨j + 1, _, hjl, by go_num, rfl, by simp [ByteArray.size_append', ByteArray.size_mk']; omega, hbel3⟩
          case measure => simp [intOf]; omega
      · have hje : j = l.length := by omega
        subst hje
        have k5 : s.size + 1 ≤ 9223372036854775807 := by omega
        go_wp2_with fail
        go_ret
        exact ⟨_, rfl, by simp [ByteArray.size_append', ByteArray.size_mk']; omega, hbel⟩
end Go.Proofs.YtdacamjpcdbphaaGreatDoor
namespace Go.Proofs.YtdacamjpcdbphaaGreatDoor
open Go Go.RowKit

/-- what is printed of a node, from any later world -/
def Prints (w : World) (f : Nat) (v : Value) (n : Nat) : Prop := ∀ w', Below w.heap.size w w' → Calls Tryz.prog f #[v] w' (SomeStr w' n)
theorem SomeStr.boxed {w : World} {o : Obj} {n : Nat} {e : Ending} {w' : World} (h : SomeStr (w.alloc o) n e w') : SomeStr w n e w' := by
  obtain ⟨s, h1, h2, h3⟩ := h
  exact ⟨s, h1, h2, bel_box (h3.mono (by simp))⟩
set_option maxHeartbeats 4000000 in
set_option maxRecDepth 1000000 in
theorem asCat_walk {w : World} {op mn mx mo n : Int} {neg : Bool} {set kidv : Value} {N : Nat} (hN : N ≤ 1000000) (hp : Prints w 40 (.agg #[.int .i64 op, set, kidv, .int .i64 mn, .int .i64 mx, .int .i64 mo, .int .i64 n, .bool neg]) N) :
    Calls Tryz.prog 63 #[.agg #[.int .i64 op, set, kidv, .int .i64 mn, .int .i64 mx, .int .i64 mo, .int .i64 n, .bool neg]] w (SomeStr w (N + 4)) := by
  have hb0 := Blk.made w 51 #[.int .i64 op, set, kidv, .int .i64 mn, .int .i64 mx, .int .i64 mo, .int .i64 n, .bool neg]
  have hB0 := (Below.refl _ w).alloc (Nat.le_refl _) (.cells #[.int .i64 op, set, kidv, .int .i64 mn, .int .i64 mx, .int .i64 mo, .int .i64 n, .bool neg] 51)
  obtain ⟨W0, hW0⟩ : ∃ x, w.alloc (.cells #[.int .i64 op, set, kidv, .int .i64 mn, .int .i64 mx, .int .i64 mo, .int .i64 n, .bool neg] 51) = x := ⟨_, rfl⟩
  rw [hW0] at hb0 hB0
  obtain ⟨z0, z1, z2, z3, z4, z5, z6, z7⟩ := hb0.eight
  have hq : Calls Tryz.prog 40 #[.agg #[.int .i64 op, set, kidv, .int .i64 mn, .int .i64 mx, .int .i64 mo, .int .i64 n, .bool neg]] W0 (SomeStr W0 N) := hp W0 hB0
  clear hp
  by_cases h3 : op = 3
  · subst h3
    go_enter Tryz.func63, Tryz.ntmps63
    go_wp2_with fail
    refine hq.mono ?_
    clear hq
    rintro _ w1 ⟨s, rfl, hs, hB1⟩
    have hB := hB0.trans (hB1.mono hB0.size)
    have k1 : s.size + 3 ≤ 9223372036854775807 := by omega
    have k2 : 3 + s.size + 1 ≤ 9223372036854775807 := by omega
    have k3 : 3 + s.size ≤ 9223372036854775807 := by omega
    go_wp2_with fail
    go_ret
    exact ⟨_, rfl, by simp [ByteArray.size_append', ByteArray.size_mk']; omega, hB⟩
  · have h3d : (op == 3) = false := beq_eq_false_iff_ne.2 h3
    go_enter Tryz.func63, Tryz.ntmps63
    go_wp2_with fail
    refine hq.mono ?_
    clear hq
    rintro _ w1 ⟨s, rfl, hs, hB1⟩
    have hB := hB0.trans (hB1.mono hB0.size)
    go_wp2_with fail
    go_ret
    exact ⟨_, rfl, by omega, hB⟩
set_option maxHeartbeats 4000000 in
set_option maxRecDepth 1000000 in
theorem asItem_walk {w : World} {op mn mx mo n : Int} {neg : Bool} {set kidv : Value} {N : Nat} (hN : N ≤ 1000000) (hp : Prints w 40 (.agg #[.int .i64 op, set, kidv, .int .i64 mn, .int .i64 mx, .int .i64 mo, .int .i64 n, .bool neg]) N) :
    Calls Tryz.prog 62 #[.agg #[.int .i64 op, set, kidv, .int .i64 mn, .int .i64 mx, .int .i64 mo, .int .i64 n, .bool neg]] w (SomeStr w (N + 4)) := by
  have hb0 := Blk.made w 51 #[.int .i64 op, set, kidv, .int .i64 mn, .int .i64 mx, .int .i64 mo, .int .i64 n, .bool neg]
  have hB0 := (Below.refl _ w).alloc (Nat.le_refl _) (.cells #[.int .i64 op, set, kidv, .int .i64 mn, .int .i64 mx, .int .i64 mo, .int .i64 n, .bool neg] 51)
  obtain ⟨W0, hW0⟩ : ∃ x, w.alloc (.cells #[.int .i64 op, set, kidv, .int .i64 mn, .int .i64 mx, .int .i64 mo, .int .i64 n, .bool neg] 51) = x := ⟨_, rfl⟩
  rw [hW0] at hb0 hB0
  obtain ⟨z0, z1, z2, z3, z4, z5, z6, z7⟩ := hb0.eight
  have hq : Calls Tryz.prog 40 #[.agg #[.int .i64 op, set, kidv, .int .i64 mn, .int .i64 mx, .int .i64 mo, .int .i64 n, .bool neg]] W0 (SomeStr W0 N) := hp W0 hB0
  clear hp
  by_cases h0 : op = 0
  · subst h0
    go_enter Tryz.func62, Tryz.ntmps62
    go_wp2_with fail
    refine hq.mono ?_
    clear hq
    rintro _ w1 ⟨s, rfl, hs, hB1⟩
    have hB := hB0.trans (hB1.mono hB0.size)
    have k1 : s.size + 3 ≤ 9223372036854775807 := by omega
    have k2 : 3 + s.size + 1 ≤ 9223372036854775807 := by omega
    have k3 : 3 + s.size ≤ 9223372036854775807 := by omega
    go_wp2_with fail
    go_ret
    exact ⟨_, rfl, by simp [ByteArray.size_append', ByteArray.size_mk']; omega, hB⟩
  have h0d : (op == 0) = false := beq_eq_false_iff_ne.2 h0
  by_cases h2 : op = 2
  · subst h2
    go_enter Tryz.func62, Tryz.ntmps62
    go_wp2_with fail
    refine hq.mono ?_
    clear hq
    rintro _ w1 ⟨s, rfl, hs, hB1⟩
    have hB := hB0.trans (hB1.mono hB0.size)
    have k1 : s.size + 3 ≤ 9223372036854775807 := by omega
    have k2 : 3 + s.size + 1 ≤ 9223372036854775807 := by omega
    have k3 : 3 + s.size ≤ 9223372036854775807 := by omega
    go_wp2_with fail
    go_ret
    exact ⟨_, rfl, by simp [ByteArray.size_append', ByteArray.size_mk']; omega, hB⟩
  have h2d : (op == 2) = false := beq_eq_false_iff_ne.2 h2
  by_cases h3 : op = 3
  · subst h3
    go_enter Tryz.func62, Tryz.ntmps62
    go_wp2_with fail
    refine hq.mono ?_
    clear hq
    rintro _ w1 ⟨s, rfl, hs, hB1⟩
    have hB := hB0.trans (hB1.mono hB0.size)
    have k1 : s.size + 3 ≤ 9223372036854775807 := by omega
    have k2 : 3 + s.size + 1 ≤ 9223372036854775807 := by omega
    have k3 : 3 + s.size ≤ 9223372036854775807 := by omega
    go_wp2_with fail
    go_ret
    exact ⟨_, rfl, by simp [ByteArray.size_append', ByteArray.size_mk']; omega, hB⟩
  · have h3d : (op == 3) = false := beq_eq_false_iff_ne.2 h3
    go_enter Tryz.func62, Tryz.ntmps62
    go_wp2_with fail
    refine hq.mono ?_
    clear hq
    rintro _ w1 ⟨s, rfl, hs, hB1⟩
    have hB := hB0.trans (hB1.mono hB0.size)
    go_wp2_with fail
    go_ret
    exact ⟨_, rfl, by omega, hB⟩
end Go.Proofs.YtdacamjpcdbphaaGreatDoor
namespace Go.Proofs.YtdacamjpcdbphaaGreatDoor
open Go Go.RowKit

theorem SlArg.of_sees {w : World} {v : Value} {l : List Int} (h : Sees w 1 v (l.map (.int .i64))) (hl : l.length ≤ 9223372036854775807) (hb : ∀ z ∈ l, 0 ≤ z ∧ z ≤ 2000000) : SlArg w v l := by
  obtain ⟨A, n, c, rfl, h1, h2, h3⟩ := h
  have hn : n = l.length := by simpa using h1.symm
  subst hn
  refine ⟨⟨A, c, rfl, fun hne => ?_⟩, hl, fun z hz => by have := hb z hz; omega⟩
  obtain ⟨b, s, rfl, hlt, hc⟩ := h3 (by intro e; exact hne (List.length_eq_zero_iff.1 e))
  exact ⟨b, s, rfl, hlt, fun i z hz => hc i _ (by rw [List.getElem?_map, hz]; rfl)⟩
set_option maxHeartbeats 4000000 in
set_option maxRecDepth 1000000 in
theorem has_walk {w : World} {x : Value} {l : List Int} (h : SlArg w x l) (z : Int) :
    Calls Tryz.prog 41 #[x, .int .i64 z] w fun e w' => ∃ b : Bool, e = .returned (.bool b) ∧ w' = w := by
  obtain ⟨a, c, rfl, h1⟩ := h.val
  have hlen := h.len
  go_enter Tryz.func41, Tryz.ntmps41
  go_wp2
  go_loopw [5] (fun iv wr => ∃ j : Nat, j ≤ l.length ∧ iv = .int .i64 j ∧ wr = w) (fun iv _ => l.length - (intOf iv).toNat)
  case atStart => exact ⟨0, Nat.zero_le _, rfl, rfl⟩
  case round =>
    obtain ⟨j, hj, rfl, rfl⟩ := hrel
    by_cases hjl : j < l.length
    · obtain ⟨b, off, rfl, hb, h2⟩ := h1 (by intro e; rw [e] at hjl; simp at hjl)
      have hc := h2 j l[j] (List.getElem?_eq_getElem hjl)
      obtain ⟨y, hy⟩ : ∃ y, l[j] = y := ⟨_, rfl⟩
      rw [hy] at hc
      have hj1 : (j : Int) < (l.length : Int) := by omega
      clear hy h1 h2
      by_cases he : y = z
      · have hed : (y == z) = true := by simpa using he
        go_wp2_with fail
        go_ret
        exact ⟨_, rfl, rfl⟩
      · have hed : (y == z) = false := beq_eq_false_iff_ne.2 he
        go_wp2_with fail
        go_roundw
        case rel => exact ⟨j + 1, hjl, by go_num, trivial⟩
        case measure => simp [intOf]; omega
    · have hje : j = l.length := by omega
      subst hje
      go_wp2_with fail
      go_ret
      exact ⟨_, rfl, rfl⟩
theorem infoInt' : (Tryz.prog.info? 3).map (fun i => (i.zero, i.size, i.bytes)) = some (some (.int .i64 0), 1, 8) := by kernel_rfl
/-- numbers in a row that is new -/
structure NumsAt (w wr : World) (v : Value) (l : List Int) : Prop where
  row : wr.ownsRow w.heap.size 3 1 v l.length (l.map (.int .i64))
  bd : ∀ z ∈ l, 0 ≤ z ∧ z ≤ 2000000
  bel : Below w.heap.size w wr
theorem NumsAt.arg {w wr : World} {v : Value} {l : List Int} (h : NumsAt w wr v l) (hl : l.length ≤ 100000) : SlArg wr v l := SlArg.of_sees (Sees.row h.row) (by omega) h.bd
theorem NumsAt.next {w wr w' : World} {v : Value} {l : List Int} (h : NumsAt w wr v l) (hb : Below wr.heap.size wr w') : NumsAt w w' v l :=
  ⟨row_chg h.row (Chg.of_below (F := fun _ => False) hb) fun _ _ h => h, h.bd, h.bel.trans (hb.mono h.bel.size)⟩
theorem leads_own {w : World} {base : Nat} {e : TypeId} {size : Nat} {v : Value} {n : Nat} {xs : List Value} (h : w.ownsRow base e size v n xs) {g : Nat} (hg : Value.leads v = some g) : v.ownBlock = some g := by
  obtain ⟨A, c, rfl, _⟩ := row_form h
  cases n with
  | zero => cases A <;> cases hg
  | succ m =>
    cases A with
    | none => cases hg
    | some a => cases hg; rfl
/-- a number put behind a row -/
theorem NumsAt.push {w wr w3 : World} {A : Option Addr} {c : Nat} {l : List Int} {z : Int} {v3 : Value} (h : NumsAt w wr (.slice A l.length c) l) (hz : 0 ≤ z ∧ z ≤ 2000000)
    (hrow : w3.ownsRow w.heap.size 3 1 v3 (l.length + 1) (l.map (.int .i64) ++ [.int .i64 z])) (hg : (wr.alloc (.cells #[.int .i64 z] 3)).grownBy w3 (Value.ownBlock (.slice A l.length c))) :
    NumsAt w w3 v3 (l ++ [z]) := by
  have hc := Chg.grown (F := fun g => Value.ownBlock (.slice A l.length c) = some g) ((Chg.refl (fun g => Value.ownBlock (.slice A l.length c) = some g) wr).alloc (.cells #[.int .i64 z] 3)) hg (fun k hk => .inr hk)
  have hlo := fun g hg => (World.ownsRow.lt h.row g hg).1
  refine ⟨by rw [List.length_append, List.map_append]; exact hrow, fun y hy => ?_, ?_⟩
  · rcases List.mem_append.1 hy with hy | hy
    · exact h.bd y hy
    · have : y = z := by simpa using hy
      subst this; exact hz
  · have h1 : Chg (fun g => Value.ownBlock (.slice A l.length c) = some g) w w3 := (Chg.of_below h.bel).trans hc fun _ _ h => h
    exact h1.to_below (Nat.le_refl _) fun i hi e => hlo i e
theorem Chg.push {wr w3 : World} {row : Option Nat} {z : Int} (hg : (wr.alloc (.cells #[.int .i64 z] 3)).grownBy w3 row) : Chg (fun g => row = some g) wr w3 :=
  Chg.grown (F := fun g => row = some g) ((Chg.refl (fun g => row = some g) wr).alloc (.cells #[.int .i64 z] 3)) hg (fun k hk => .inr hk)
set_option maxHeartbeats 8000000 in
set_option maxRecDepth 1000000 in
theorem numbers_walk {B : Nat → Prop} : ∀ (N : Nat) {w : World} {t : VT}, t.num = N → N ≤ 2000 → TreeAt w B t →
    Calls Tryz.prog 42 #[t.val] w fun e w' => ∃ v l, e = .returned v ∧ NumsAt w w' v l ∧ l.length ≤ N := by
  intro N
  induction N using Nat.strongRecOn with
  | _ N ih =>
  intro w t hN hN2 hT
  obtain ⟨i0, hi0, hz0, hz1, hz2⟩ := info_parts' infoInt'
  have hl0 := hT.len
  have hlt := fun j hj => VT.num_le (t := t) (j := j) hj
  have hnum := VT.num_eq t
  have hnode := hT.node
  obtain ⟨op, set, kidv, mn, mx, mo, n, neg, spans, kids⟩ := t
  have hl3 : kids.length ≤ 3 := hl0
  have hK : SeesT w kidv kids := hT.kids
  have hn5 : op = 5 → 0 ≤ n ∧ n ≤ 2000000 := fun h => by
    have h1 : Shape op mn mx mo n neg spans kids.length := hnode
    subst h
    generalize kids.length = m at h1
    cases h1; omega
  obtain ⟨A, cp, rfl, hcp, -⟩ := hK.shape
  have hnum' : N = 1 + VT.sum kids := by rw [← hN]; exact hnum
  have hlt' : ∀ (j : Nat) (hj : j < kids.length), kids[j].num < N := fun j hj => by have := hlt j hj; rw [hN] at this; exact this
  have hkid : ∀ k ∈ kids, TreeAt w B k := hT.kid
  have hcall : ∀ (wr : World) (j : Nat) (hj : j < kids.length), Below w.heap.size w wr → Calls Tryz.prog 42 #[.agg #[.int .i64 kids[j].op, kids[j].set, kids[j].kidv, .int .i64 kids[j].mn, .int .i64 kids[j].mx, .int .i64 kids[j].mo, .int .i64 kids[j].n, .bool kids[j].neg]] wr fun e w' => ∃ v l, e = .returned v ∧ NumsAt wr w' v l ∧ l.length ≤ kids[j].num := fun wr j hj hb =>
    ih _ (hlt' j hj) rfl (by have := hlt' j hj; omega) ((hkid _ (List.getElem_mem hj)).bel hb)
  have hbox := fun (wr : World) (hb : Below (w.heap.size + 1) (w.alloc (.cells #[.int .i64 op, set, .slice A kids.length cp, .int .i64 mn, .int .i64 mx, .int .i64 mo, .int .i64 n, .bool neg] 51)) wr) =>
    ((Blk.made w 51 #[.int .i64 op, set, .slice A kids.length cp, .int .i64 mn, .int .i64 mx, .int .i64 mo, .int .i64 n, .bool neg]).bel hb (by omega)).eight
  clear hlt hN hT ih hlt' hkid hnum hl0 hnode
  show Calls Tryz.prog 42 #[.agg #[.int .i64 op, set, .slice A kids.length cp, .int .i64 mn, .int .i64 mx, .int .i64 mo, .int .i64 n, .bool neg]] w _
  obtain ⟨W0, hW0⟩ : ∃ x, w.alloc (.cells #[.int .i64 op, set, .slice A kids.length cp, .int .i64 mn, .int .i64 mx, .int .i64 mo, .int .i64 n, .bool neg] 51) = x := ⟨_, rfl⟩
  have hB0 : Below w.heap.size w W0 := by rw [← hW0]; exact (Below.refl _ w).alloc (Nat.le_refl _) _
  have hs0 : w.heap.size + 1 ≤ W0.heap.size := by rw [← hW0]; simp
  rw [hW0] at hbox
  obtain ⟨z0, z1, z2, z3, z4, z5, z6, z7⟩ := hbox W0 (Below.refl _ _)
  have hfin : ∀ {wr : World} {v : Value} {l : List Int}, NumsAt W0 wr v l → NumsAt w wr v l := fun h => ⟨row_base h.row (by omega), h.bd, hB0.trans (h.bel.mono (by omega))⟩
  by_cases h5 : op = 5
  · subst h5
    have hz := hn5 rfl
    have hnil : W0.ownsRow W0.heap.size 3 1 (.slice none 0 0) 0 [] := World.ownsRow_nil _ _ _ _
    have hA0 : NumsAt W0 W0 (.slice none ([] : List Int).length 0) [] := ⟨World.ownsRow_nil _ _ _ _, (fun z hz => by cases hz), Below.refl _ _⟩
    have hrowA := row_chg hnil ((Chg.refl (fun _ => False) W0).alloc (.cells #[.int .i64 n] 3)) fun _ _ h => h
    have hseeA : Sees (W0.alloc (.cells #[.int .i64 n] 3)) 1 (.slice (some ⟨W0.heap.size, 0, none⟩) 1 1) [.int .i64 n] := sees_blk (Blk.made W0 3 _) rfl
    have hbs : W0.heap.size ≤ (W0.alloc (.cells #[.int .i64 n] 3)).heap.size := by simp
    go_enter Tryz.func42, Tryz.ntmps42
    go_wp2_with (first
      | (at_builtin; refine wpList_append_sees rfl _ _ 22 rfl i0 _ 8 Tryz.underlying22 hi0 hz0 hz1 hz2 rfl (by decide) _ _ _ rfl hrowA _ 1 _ rfl hseeA rfl (by intro u hu; simp at hu; subst hu; rfl) (by decide) (by decide) hbs ?_; intro v5 w5 hrow5 hgrow5 hown5)
      | go_in)
    have hst : NumsAt W0 w5 v5 [n] := hA0.push hz hrow5 hgrow5
    go_loopw [3, 4] (fun ov iv wr => ∃ (j : Nat) (l : List Int), j ≤ kids.length ∧ iv = .int .i64 j ∧ NumsAt W0 wr ov l ∧ l.length ≤ 1 + VT.sum (kids.take j)) (fun _ iv _ => kids.length - (intOf iv).toNat)
    case atStart => first | exact ⟨0, [], Nat.zero_le _, rfl, ⟨World.ownsRow_nil _ _ _ _, (fun z hz => by cases hz), Below.refl _ _⟩, by simp⟩ | exact ⟨0, [n], Nat.zero_le _, rfl, hst, by simp⟩
    case round =>
      obtain ⟨j, l, hj, rfl, hA, hll⟩ := hrel
      obtain ⟨-, -, k2, -⟩ := hbox wr (hA.bel.mono (by omega))
      have hBw := hB0.trans (hA.bel.mono (by omega))
      have hs1 := VT.sum_le kids j
      have hrow0 := hA.row
      obtain ⟨Ao, co, rfl, _⟩ := row_form hrow0
      by_cases hjl : j < kids.length
      · obtain ⟨b, o, rfl, q0, q1, q2, q3, q4, q5, q6, q7⟩ := hK.load hBw hjl
        have hs2 := VT.sum_take kids hjl
        have hs3 := VT.sum_le kids (j + 1)
        have hj1 : (j : Int) < (kids.length : Int) := by omega
        have hi := hcall wr j hjl hBw
        obtain ⟨k, hk⟩ : ∃ k, kids[j] = k := ⟨_, rfl⟩
        rw [hk] at q0 q1 q2 q3 q4 q5 q6 q7 hi hs2
        have hlN : l.length + k.num ≤ 4000 := by omega
        have HS := Lib.hid hs2
        have HN := Lib.hid hnum'
        clear hk hcall hbox hs2 hnum' hs1 hs3
        go_wp2_with fail
        refine hi.mono ?_
        clear hi
        rintro _ w2 ⟨v2, l2, rfl, hN2', hl2⟩
        have hA2 := hA.next (hN2'.bel)
        have harg2 := hN2'.arg (by omega)
        have hle2 : ∀ g, Value.leads v2 = some g → Value.ownBlock (.slice Ao l.length co) ≠ some g ∧ g < w2.heap.size := fun g hg => by
          have h1 := World.ownsRow.lt hN2'.row g (leads_own hN2'.row hg)
          refine ⟨fun e => ?_, h1.2⟩
          have h2 := (World.ownsRow.lt hrow0 g e).2
          omega
        have hrow2 := hN2'.row
        obtain ⟨Ak, ck, rfl, _⟩ := row_form hrow2
        go_wp2_with fail
        go_loopw [3, 6] (fun ov kv wr => ∃ (q : Nat) (l' : List Int), q ≤ l2.length ∧ kv = .int .i64 q ∧ NumsAt W0 wr ov l' ∧ l'.length ≤ l.length + q ∧ SlArg wr (.slice Ak l2.length ck) l2 ∧ (∀ g, Value.leads (.slice Ak l2.length ck) = some g → Value.ownBlock ov ≠ some g ∧ g < wr.heap.size)) (fun _ kv _ => l2.length - (intOf kv).toNat)
        case atStart => exact ⟨0, l, Nat.zero_le _, rfl, hA2, by omega, harg2, hle2⟩
        case round =>
          obtain ⟨q, l', hq, rfl, hA3, hl3', harg3, hle3⟩ := hrel
          have hrow3 := hA3.row
          obtain ⟨Ap, cq, rfl, _⟩ := row_form hrow3
          by_cases hql : q < l2.length
          · obtain ⟨a', c', e', h1⟩ := harg3.val
            obtain ⟨b', off', rfl, hb', h2⟩ := h1 (by intro e; rw [e] at hql; simp at hql)
            cases e'
            have hcz := h2 q l2[q] (List.getElem?_eq_getElem hql)
            have hbz := hN2'.bd _ (List.getElem_mem hql)
            obtain ⟨z, hz⟩ : ∃ z, l2[q] = z := ⟨_, rfl⟩
            rw [hz] at hcz hbz
            have hq1 : (q : Int) < (l2.length : Int) := by omega
            have hhas := has_walk (hA3.arg (by omega)) z
            have hlead := hle3 b' (by
              cases hl : l2.length with
              | zero => omega
              | succ m => rfl)
            clear hz h1 h2
            go_wp2_with fail
            refine hhas.mono ?_
            clear hhas
            rintro _ w4 ⟨b4, rfl, rfl⟩
            cases b4 with
            | true =>
              go_wp2_with fail
              go_roundw
              case rel => exact ⟨q + 1, l', hql, by go_num, hA3, by omega, harg3, hle3⟩
              case measure => simp [intOf]; omega
            | false =>
              have hrowA := row_chg hrow3 ((Chg.refl (fun _ => False) w4).alloc (.cells #[.int .i64 z] 3)) fun _ _ h => h
              have hseeA : Sees (w4.alloc (.cells #[.int .i64 z] 3)) 1 (.slice (some ⟨w4.heap.size, 0, none⟩) 1 1) [.int .i64 z] := sees_blk (Blk.made w4 3 _) rfl
              have h63 : l'.length + 1 ≤ maxLen := by unfold maxLen; omega
              have hby : (l'.length + 1) * 8 ≤ 140737488355328 := by omega
              have hbs : W0.heap.size ≤ (w4.alloc (.cells #[.int .i64 z] 3)).heap.size := by have := hA3.bel.size; simp; omega
              go_wp2_with (first
                | (at_builtin; refine wpList_append_sees rfl _ _ 22 rfl i0 _ 8 Tryz.underlying22 hi0 hz0 hz1 hz2 rfl (by decide) _ _ _ rfl hrowA _ 1 _ rfl hseeA rfl (by intro u hu; simp at hu; subst hu; rfl) h63 hby hbs ?_; intro v5 w5 hrow5 hgrow5 hown5)
                | go_in)
              have hA5 := hA3.push hbz hrow5 hgrow5
              have hch := Chg.push hgrow5
              have harg5 := harg3.chg hch fun g hg e => (hle3 g hg).1 e
              go_roundw
              case rel =>
                refine ⟨q + 1, l' ++ [z], hql, by go_num, hA5, by simp; omega, harg5, fun g hg => ?_⟩
                obtain ⟨g1, g2⟩ := hle3 g hg
                refine ⟨fun e => ?_, Nat.lt_of_lt_of_le g2 hch.size⟩
                rcases hown5 with e3 | ⟨g3, e3, hg3⟩
                · rw [e3] at e; exact g1 e
                · rw [e3] at e; cases e; simp at hg3; omega
              case measure => simp [intOf]; omega
          · have hqe : q = l2.length := by omega
            subst hqe
            go_wp2_with fail
            go_roundw
            case rel =>
              exact ⟨j + 1, l', hjl, by go_num, hA3, by rw [HS.out]; omega⟩
            case measure => simp [intOf]; omega
      · have hje : j = kids.length := by omega
        subst hje
        go_wp2_with fail
        go_ret
        exact ⟨_, l, rfl, hfin hA, by rw [List.take_length] at hll; omega⟩
  · have h5d : (op == 5) = false := beq_eq_false_iff_ne.2 h5
    go_enter Tryz.func42, Tryz.ntmps42
    go_wp2
    go_loopw [3, 4] (fun ov iv wr => ∃ (j : Nat) (l : List Int), j ≤ kids.length ∧ iv = .int .i64 j ∧ NumsAt W0 wr ov l ∧ l.length ≤ 1 + VT.sum (kids.take j)) (fun _ iv _ => kids.length - (intOf iv).toNat)
    case atStart => first | exact ⟨0, [], Nat.zero_le _, rfl, ⟨World.ownsRow_nil _ _ _ _, (fun z hz => by cases hz), Below.refl _ _⟩, by simp⟩ | exact ⟨0, [n], Nat.zero_le _, rfl, hst, by simp⟩
    case round =>
      obtain ⟨j, l, hj, rfl, hA, hll⟩ := hrel
      obtain ⟨-, -, k2, -⟩ := hbox wr (hA.bel.mono (by omega))
      have hBw := hB0.trans (hA.bel.mono (by omega))
      have hs1 := VT.sum_le kids j
      have hrow0 := hA.row
      obtain ⟨Ao, co, rfl, _⟩ := row_form hrow0
      by_cases hjl : j < kids.length
      · obtain ⟨b, o, rfl, q0, q1, q2, q3, q4, q5, q6, q7⟩ := hK.load hBw hjl
        have hs2 := VT.sum_take kids hjl
        have hs3 := VT.sum_le kids (j + 1)
        have hj1 : (j : Int) < (kids.length : Int) := by omega
        have hi := hcall wr j hjl hBw
        obtain ⟨k, hk⟩ : ∃ k, kids[j] = k := ⟨_, rfl⟩
        rw [hk] at q0 q1 q2 q3 q4 q5 q6 q7 hi hs2
        have hlN : l.length + k.num ≤ 4000 := by omega
        have HS := Lib.hid hs2
        have HN := Lib.hid hnum'
        clear hk hcall hbox hs2 hnum' hs1 hs3
        go_wp2_with fail
        refine hi.mono ?_
        clear hi
        rintro _ w2 ⟨v2, l2, rfl, hN2', hl2⟩
        have hA2 := hA.next (hN2'.bel)
        have harg2 := hN2'.arg (by omega)
        have hle2 : ∀ g, Value.leads v2 = some g → Value.ownBlock (.slice Ao l.length co) ≠ some g ∧ g < w2.heap.size := fun g hg => by
          have h1 := World.ownsRow.lt hN2'.row g (leads_own hN2'.row hg)
          refine ⟨fun e => ?_, h1.2⟩
          have h2 := (World.ownsRow.lt hrow0 g e).2
          omega
        have hrow2 := hN2'.row
        obtain ⟨Ak, ck, rfl, _⟩ := row_form hrow2
        go_wp2_with fail
        go_loopw [3, 6] (fun ov kv wr => ∃ (q : Nat) (l' : List Int), q ≤ l2.length ∧ kv = .int .i64 q ∧ NumsAt W0 wr ov l' ∧ l'.length ≤ l.length + q ∧ SlArg wr (.slice Ak l2.length ck) l2 ∧ (∀ g, Value.leads (.slice Ak l2.length ck) = some g → Value.ownBlock ov ≠ some g ∧ g < wr.heap.size)) (fun _ kv _ => l2.length - (intOf kv).toNat)
        case atStart => exact ⟨0, l, Nat.zero_le _, rfl, hA2, by omega, harg2, hle2⟩
        case round =>
          obtain ⟨q, l', hq, rfl, hA3, hl3', harg3, hle3⟩ := hrel
          have hrow3 := hA3.row
          obtain ⟨Ap, cq, rfl, _⟩ := row_form hrow3
          by_cases hql : q < l2.length
          · obtain ⟨a', c', e', h1⟩ := harg3.val
            obtain ⟨b', off', rfl, hb', h2⟩ := h1 (by intro e; rw [e] at hql; simp at hql)
            cases e'
            have hcz := h2 q l2[q] (List.getElem?_eq_getElem hql)
            have hbz := hN2'.bd _ (List.getElem_mem hql)
            obtain ⟨z, hz⟩ : ∃ z, l2[q] = z := ⟨_, rfl⟩
            rw [hz] at hcz hbz
            have hq1 : (q : Int) < (l2.length : Int) := by omega
            have hhas := has_walk (hA3.arg (by omega)) z
            have hlead := hle3 b' (by
              cases hl : l2.length with
              | zero => omega
              | succ m => rfl)
            clear hz h1 h2
            go_wp2_with fail
            refine hhas.mono ?_
            clear hhas
            rintro _ w4 ⟨b4, rfl, rfl⟩
            cases b4 with
            | true =>
              go_wp2_with fail
              go_roundw
              case rel => exact ⟨q + 1, l', hql, by go_num, hA3, by omega, harg3, hle3⟩
              case measure => simp [intOf]; omega
            | false =>
              have hrowA := row_chg hrow3 ((Chg.refl (fun _ => False) w4).alloc (.cells #[.int .i64 z] 3)) fun _ _ h => h
              have hseeA : Sees (w4.alloc (.cells #[.int .i64 z] 3)) 1 (.slice (some ⟨w4.heap.size, 0, none⟩) 1 1) [.int .i64 z] := sees_blk (Blk.made w4 3 _) rfl
              have h63 : l'.length + 1 ≤ maxLen := by unfold maxLen; omega
              have hby : (l'.length + 1) * 8 ≤ 140737488355328 := by omega
              have hbs : W0.heap.size ≤ (w4.alloc (.cells #[.int .i64 z] 3)).heap.size := by have := hA3.bel.size; simp; omega
              go_wp2_with (first
                | (at_builtin; refine wpList_append_sees rfl _ _ 22 rfl i0 _ 8 Tryz.underlying22 hi0 hz0 hz1 hz2 rfl (by decide) _ _ _ rfl hrowA _ 1 _ rfl hseeA rfl (by intro u hu; simp at hu; subst hu; rfl) h63 hby hbs ?_; intro v5 w5 hrow5 hgrow5 hown5)
                | go_in)
              have hA5 := hA3.push hbz hrow5 hgrow5
              have hch := Chg.push hgrow5
              have harg5 := harg3.chg hch fun g hg e => (hle3 g hg).1 e
              go_roundw
              case rel =>
                refine ⟨q + 1, l' ++ [z], hql, by go_num, hA5, by simp; omega, harg5, fun g hg => ?_⟩
                obtain ⟨g1, g2⟩ := hle3 g hg
                refine ⟨fun e => ?_, Nat.lt_of_lt_of_le g2 hch.size⟩
                rcases hown5 with e3 | ⟨g3, e3, hg3⟩
                · rw [e3] at e; exact g1 e
                · rw [e3] at e; cases e; simp at hg3; omega
              case measure => simp [intOf]; omega
          · have hqe : q = l2.length := by omega
            subst hqe
            go_wp2_with fail
            go_roundw
            case rel =>
              exact ⟨j + 1, l', hjl, by go_num, hA3, by rw [HS.out]; omega⟩
            case measure => simp [intOf]; omega
      · have hje : j = kids.length := by omega
        subst hje
        go_wp2_with fail
        go_ret
        exact ⟨_, l, rfl, hfin hA, by rw [List.take_length] at hll; omega⟩
end Go.Proofs.YtdacamjpcdbphaaGreatDoor
namespace Go.Proofs.YtdacamjpcdbphaaGreatDoor
open Go Go.RowKit

set_option maxHeartbeats 8000000 in
set_option maxRecDepth 1000000 in
theorem nullable_walk {B : Nat → Prop} : ∀ (N : Nat) {w : World} {t : VT}, t.num = N → TreeAt w B t →
    Calls Tryz.prog 83 #[t.val] w (SomeBool w) := by
  intro N
  induction N using Nat.strongRecOn with
  | _ N ih =>
  intro w t hN hT
  have hl0 := hT.len
  have hlt := fun j hj => VT.num_le (t := t) (j := j) hj
  have hSh0 := hT.node
  obtain ⟨op, set, kidv, mn, mx, mo, n, neg, spans, kids⟩ := t
  have hS2 : Shape op mn mx mo n neg spans kids.length := hSh0
  have hl3 : kids.length ≤ 3 := hl0
  have hK : SeesT w kidv kids := hT.kids
  obtain ⟨A, cp, rfl, hcp, -⟩ := hK.shape
  have hlt' : ∀ (j : Nat) (hj : j < kids.length), kids[j].num < N := fun j hj => by have := hlt j hj; rw [hN] at this; exact this
  have hkid : ∀ k ∈ kids, TreeAt w B k := hT.kid
  -- a kid's call
  have hcall : ∀ (wr : World) (j : Nat) (hj : j < kids.length), Below w.heap.size w wr → Calls Tryz.prog 83 #[.agg #[.int .i64 kids[j].op, kids[j].set, kids[j].kidv, .int .i64 kids[j].mn, .int .i64 kids[j].mx, .int .i64 kids[j].mo, .int .i64 kids[j].n, .bool kids[j].neg]] wr (SomeBool wr) := fun wr j hj hb =>
    ih _ (hlt' j hj) rfl ((hkid _ (List.getElem_mem hj)).bel hb)
  have hbox := fun (wr : World) (hb : Below (w.heap.size + 1) (w.alloc (.cells #[.int .i64 op, set, .slice A kids.length cp, .int .i64 mn, .int .i64 mx, .int .i64 mo, .int .i64 n, .bool neg] 51)) wr) =>
    ((Blk.made w 51 #[.int .i64 op, set, .slice A kids.length cp, .int .i64 mn, .int .i64 mx, .int .i64 mo, .int .i64 n, .bool neg]).bel hb (by omega)).eight
  clear hlt hN hT ih hlt' hkid hSh0 hl0
  show Calls Tryz.prog 83 #[.agg #[.int .i64 op, set, .slice A kids.length cp, .int .i64 mn, .int .i64 mx, .int .i64 mo, .int .i64 n, .bool neg]] w _
  obtain ⟨m, hm⟩ : ∃ m, kids.length = m := ⟨_, rfl⟩
  rw [hm] at hS2
  cases hS2
  case cat h1 h2 =>
    subst hm
    go_enter Tryz.func83, Tryz.ntmps83
    go_wp2
    go_loopw [3] (fun iv wr => ∃ j : Nat, j ≤ kids.length ∧ iv = .int .i64 j ∧ Below (w.heap.size + 1) (w.alloc (.cells #[.int .i64 2, set, .slice A kids.length cp, .int .i64 0, .int .i64 0, .int .i64 0, .int .i64 0, .bool false] 51)) wr) (fun iv _ => kids.length - (intOf iv).toNat)
    case atStart => exact ⟨0, Nat.zero_le _, rfl, Below.refl _ _⟩
    case round =>
      obtain ⟨j, hj, rfl, hbel⟩ := hrel
      obtain ⟨-, -, k2, -⟩ := hbox wr hbel
      have hBw := bel_box hbel
      have hsz := hbel.size
      simp at hsz
      by_cases hjl : j < kids.length
      · obtain ⟨b, s, rfl, q0, q1, q2, q3, q4, q5, q6, q7⟩ := hK.load hBw hjl
        have hc := hcall wr j hjl hBw
        have hj1 : (j : Int) < (kids.length : Int) := by omega
        obtain ⟨k, hk⟩ : ∃ k, kids[j] = k := ⟨_, rfl⟩
        rw [hk] at q0 q1 q2 q3 q4 q5 q6 q7 hc
        clear hk hcall hbox
        go_wp2_with fail
        refine hc.mono ?_
        clear hc
        rintro _ w2 ⟨b2, rfl, hB2⟩
        cases b2 with
        | false =>
          go_wp2
          go_ret
          exact ⟨_, rfl, hBw.trans (hB2.mono (by omega))⟩
        | true =>
          go_wp2
          go_roundw
          case rel => exact ⟨j + 1, hjl, by go_num, hbel.trans (hB2.mono (by omega))⟩
          case measure => simp [intOf]; omega
      · have hje : j = kids.length := by omega
        subst hje
        clear hcall hbox
        go_wp2_with fail
        go_ret
        exact ⟨_, rfl, hBw⟩
  case alt h1 h2 =>
    subst hm
    go_enter Tryz.func83, Tryz.ntmps83
    go_wp2
    go_loopw [4] (fun iv wr => ∃ j : Nat, j ≤ kids.length ∧ iv = .int .i64 j ∧ Below (w.heap.size + 1) (w.alloc (.cells #[.int .i64 3, set, .slice A kids.length cp, .int .i64 0, .int .i64 0, .int .i64 0, .int .i64 0, .bool false] 51)) wr) (fun iv _ => kids.length - (intOf iv).toNat)
    case atStart => exact ⟨0, Nat.zero_le _, rfl, Below.refl _ _⟩
    case round =>
      obtain ⟨j, hj, rfl, hbel⟩ := hrel
      obtain ⟨-, -, k2, -⟩ := hbox wr hbel
      have hBw := bel_box hbel
      have hsz := hbel.size
      simp at hsz
      by_cases hjl : j < kids.length
      · obtain ⟨b, s, rfl, q0, q1, q2, q3, q4, q5, q6, q7⟩ := hK.load hBw hjl
        have hc := hcall wr j hjl hBw
        have hj1 : (j : Int) < (kids.length : Int) := by omega
        obtain ⟨k, hk⟩ : ∃ k, kids[j] = k := ⟨_, rfl⟩
        rw [hk] at q0 q1 q2 q3 q4 q5 q6 q7 hc
        clear hk hcall hbox
        go_wp2_with fail
        refine hc.mono ?_
        clear hc
        rintro _ w2 ⟨b2, rfl, hB2⟩
        cases b2 with
        | false =>
          go_wp2
          go_roundw
          case rel => exact ⟨j + 1, hjl, by go_num, hbel.trans (hB2.mono (by omega))⟩
          case measure => simp [intOf]; omega
        | true =>
          go_wp2
          go_ret
          exact ⟨_, rfl, hBw.trans (hB2.mono (by omega))⟩
      · have hje : j = kids.length := by omega
        subst hje
        clear hcall hbox
        go_wp2_with fail
        go_ret
        exact ⟨_, rfl, hBw⟩
  case cond n h1 h2 =>
    clear hm
    go_enter Tryz.func83, Tryz.ntmps83
    go_wp2
    go_loopw [4] (fun iv wr => ∃ j : Nat, j ≤ kids.length ∧ iv = .int .i64 j ∧ Below (w.heap.size + 1) (w.alloc (.cells #[.int .i64 10, set, .slice A kids.length cp, .int .i64 0, .int .i64 0, .int .i64 0, .int .i64 (n : Int), .bool false] 51)) wr) (fun iv _ => kids.length - (intOf iv).toNat)
    case atStart => exact ⟨0, Nat.zero_le _, rfl, Below.refl _ _⟩
    case round =>
      obtain ⟨j, hj, rfl, hbel⟩ := hrel
      obtain ⟨-, -, k2, -⟩ := hbox wr hbel
      have hBw := bel_box hbel
      have hsz := hbel.size
      simp at hsz
      by_cases hjl : j < kids.length
      · obtain ⟨b, s, rfl, q0, q1, q2, q3, q4, q5, q6, q7⟩ := hK.load hBw hjl
        have hc := hcall wr j hjl hBw
        have hj1 : (j : Int) < (kids.length : Int) := by omega
        obtain ⟨k, hk⟩ : ∃ k, kids[j] = k := ⟨_, rfl⟩
        rw [hk] at q0 q1 q2 q3 q4 q5 q6 q7 hc
        clear hk hcall hbox
        go_wp2_with fail
        refine hc.mono ?_
        clear hc
        rintro _ w2 ⟨b2, rfl, hB2⟩
        cases b2 with
        | false =>
          go_wp2
          go_roundw
          case rel => exact ⟨j + 1, hjl, by go_num, hbel.trans (hB2.mono (by omega))⟩
          case measure => simp [intOf]; omega
        | true =>
          go_wp2
          go_ret
          exact ⟨_, rfl, hBw.trans (hB2.mono (by omega))⟩
      · have hje : j = kids.length := by omega
        subst hje
        clear hcall hbox
        go_wp2_with fail
        go_ret
        exact ⟨_, rfl, hBw⟩
  case cap n h1 h2 =>
    obtain ⟨b, s, rfl, q0, q1, q2, q3, q4, q5, q6, q7⟩ := hK.load (wr := w.alloc (.cells #[.int .i64 5, set, .slice A kids.length cp, .int .i64 0, .int .i64 0, .int .i64 0, .int .i64 (n : Int), .bool false] 51)) ((Below.refl _ w).alloc (Nat.le_refl _) _) (show 0 < kids.length by omega)
    have hc := hcall (w.alloc (.cells #[.int .i64 5, set, .slice (some ⟨b, s, none⟩) kids.length cp, .int .i64 0, .int .i64 0, .int .i64 0, .int .i64 (n : Int), .bool false] 51)) 0 (by omega) ((Below.refl _ w).alloc (Nat.le_refl _) _)
    obtain ⟨k, hk⟩ : ∃ k, kids[0]'(by omega) = k := ⟨_, rfl⟩
    rw [hk] at q0 q1 q2 q3 q4 q5 q6 q7 hc
    simp only [Nat.zero_mul, Nat.add_zero] at q0 q1 q2 q3 q4 q5 q6 q7
    have hp1 : (0 : Int) < (kids.length : Int) := by omega
    have hp2 : 0 < kids.length := by omega
    clear hk hcall hbox hK hl3 hm
    go_enter Tryz.func83, Tryz.ntmps83
    go_wp2_with fail
    refine hc.mono ?_
    rintro _ w2 ⟨b2, rfl, hB2⟩
    cases b2 with
    | false =>
      go_wp2
      go_ret
      exact ⟨_, rfl, SomeBool.after hB2⟩
    | true =>
      go_wp2
      go_ret
      exact ⟨_, rfl, SomeBool.after hB2⟩
  case atom =>
    obtain ⟨b, s, rfl, q0, q1, q2, q3, q4, q5, q6, q7⟩ := hK.load (wr := w.alloc (.cells #[.int .i64 9, set, .slice A kids.length cp, .int .i64 0, .int .i64 0, .int .i64 0, .int .i64 0, .bool false] 51)) ((Below.refl _ w).alloc (Nat.le_refl _) _) (show 0 < kids.length by omega)
    have hc := hcall (w.alloc (.cells #[.int .i64 9, set, .slice (some ⟨b, s, none⟩) kids.length cp, .int .i64 0, .int .i64 0, .int .i64 0, .int .i64 0, .bool false] 51)) 0 (by omega) ((Below.refl _ w).alloc (Nat.le_refl _) _)
    obtain ⟨k, hk⟩ : ∃ k, kids[0]'(by omega) = k := ⟨_, rfl⟩
    rw [hk] at q0 q1 q2 q3 q4 q5 q6 q7 hc
    simp only [Nat.zero_mul, Nat.add_zero] at q0 q1 q2 q3 q4 q5 q6 q7
    have hp1 : (0 : Int) < (kids.length : Int) := by omega
    have hp2 : 0 < kids.length := by omega
    clear hk hcall hbox hK hl3 hm
    go_enter Tryz.func83, Tryz.ntmps83
    go_wp2_with fail
    refine hc.mono ?_
    rintro _ w2 ⟨b2, rfl, hB2⟩
    cases b2 with
    | false =>
      go_wp2
      go_ret
      exact ⟨_, rfl, SomeBool.after hB2⟩
    | true =>
      go_wp2
      go_ret
      exact ⟨_, rfl, SomeBool.after hB2⟩
  case rep mn' mx' mo' h1 h2 h3 h4 =>
    by_cases h0 : mn' = 0
    · subst h0
      clear hcall hbox hK
      go_enter Tryz.func83, Tryz.ntmps83
      go_wp2
      go_ret
      exact ⟨_, rfl, (Below.refl _ _).alloc (Nat.le_refl _) _⟩
    · have hmn : ¬ (mn' : Int) ≤ 0 := by omega
      obtain ⟨b, s, rfl, q0, q1, q2, q3, q4, q5, q6, q7⟩ := hK.load (wr := w.alloc (.cells #[.int .i64 4, set, .slice A kids.length cp, .int .i64 (mn' : Int), .int .i64 (mx' : Int), .int .i64 (mo' : Int), .int .i64 0, .bool false] 51)) ((Below.refl _ w).alloc (Nat.le_refl _) _) (show 0 < kids.length by omega)
      have hc := hcall (w.alloc (.cells #[.int .i64 4, set, .slice (some ⟨b, s, none⟩) kids.length cp, .int .i64 (mn' : Int), .int .i64 (mx' : Int), .int .i64 (mo' : Int), .int .i64 0, .bool false] 51)) 0 (by omega) ((Below.refl _ w).alloc (Nat.le_refl _) _)
      obtain ⟨k, hk⟩ : ∃ k, kids[0]'(by omega) = k := ⟨_, rfl⟩
      rw [hk] at q0 q1 q2 q3 q4 q5 q6 q7 hc
      simp only [Nat.zero_mul, Nat.add_zero] at q0 q1 q2 q3 q4 q5 q6 q7
      have hp1 : (0 : Int) < (kids.length : Int) := by omega
      have hp2 : 0 < kids.length := by omega
      clear hk hcall hbox hK hl3 hm
      go_enter Tryz.func83, Tryz.ntmps83
      go_wp2_with fail
      refine hc.mono ?_
      rintro _ w2 ⟨b2, rfl, hB2⟩
      cases b2 with
      | false =>
        go_wp2
        go_ret
        exact ⟨_, rfl, SomeBool.after hB2⟩
      | true =>
        go_wp2
        go_ret
        exact ⟨_, rfl, SomeBool.after hB2⟩
  case star mn' mo' h1 h4 =>
    by_cases h0 : mn' = 0
    · subst h0
      clear hcall hbox hK
      go_enter Tryz.func83, Tryz.ntmps83
      go_wp2
      go_ret
      exact ⟨_, rfl, (Below.refl _ _).alloc (Nat.le_refl _) _⟩
    · have hmn : ¬ (mn' : Int) ≤ 0 := by omega
      obtain ⟨b, s, rfl, q0, q1, q2, q3, q4, q5, q6, q7⟩ := hK.load (wr := w.alloc (.cells #[.int .i64 4, set, .slice A kids.length cp, .int .i64 (mn' : Int), .int .i64 (-1), .int .i64 (mo' : Int), .int .i64 0, .bool false] 51)) ((Below.refl _ w).alloc (Nat.le_refl _) _) (show 0 < kids.length by omega)
      have hc := hcall (w.alloc (.cells #[.int .i64 4, set, .slice (some ⟨b, s, none⟩) kids.length cp, .int .i64 (mn' : Int), .int .i64 (-1), .int .i64 (mo' : Int), .int .i64 0, .bool false] 51)) 0 (by omega) ((Below.refl _ w).alloc (Nat.le_refl _) _)
      obtain ⟨k, hk⟩ : ∃ k, kids[0]'(by omega) = k := ⟨_, rfl⟩
      rw [hk] at q0 q1 q2 q3 q4 q5 q6 q7 hc
      simp only [Nat.zero_mul, Nat.add_zero] at q0 q1 q2 q3 q4 q5 q6 q7
      have hp1 : (0 : Int) < (kids.length : Int) := by omega
      have hp2 : 0 < kids.length := by omega
      clear hk hcall hbox hK hl3 hm
      go_enter Tryz.func83, Tryz.ntmps83
      go_wp2_with fail
      refine hc.mono ?_
      rintro _ w2 ⟨b2, rfl, hB2⟩
      cases b2 with
      | false =>
        go_wp2
        go_ret
        exact ⟨_, rfl, SomeBool.after hB2⟩
      | true =>
        go_wp2
        go_ret
        exact ⟨_, rfl, SomeBool.after hB2⟩
  all_goals
    clear hcall hbox hK
    go_enter Tryz.func83, Tryz.ntmps83
    go_wp2
    go_ret
    exact ⟨_, rfl, (Below.refl _ _).alloc (Nat.le_refl _) _⟩
end Go.Proofs.YtdacamjpcdbphaaGreatDoor
namespace Go.Proofs.YtdacamjpcdbphaaGreatDoor
open Go Go.RowKit

set_option maxHeartbeats 4000000 in
set_option maxRecDepth 1000000 in
theorem whole_walk {B : Nat → Prop} (caps top : Int) (ht : 255 ≤ top) : ∀ (N : Nat) {w : World} {t : VT}, t.num = N → TreeAt w B t →
    Calls Tryz.prog 60 #[t.val, .int .i64 caps, .int .i64 top] w (SomeBool w) := by
  intro N
  induction N using Nat.strongRecOn with
  | _ N ih =>
  intro w t hN hT
  have hnode := fun o => node_walk (hT.bel ((Below.refl _ w).alloc (Nat.le_refl _) o)) caps top ht
  have hl3 := hT.len
  have hlt := fun j hj => VT.num_le (t := t) (j := j) hj
  obtain ⟨op, set, kidv, mn, mx, mo, n, neg, spans, kids⟩ := t
  have hl3 : kids.length ≤ 3 := hl3
  have hK : SeesT w kidv kids := hT.kids
  obtain ⟨A, cp, rfl, hcp, _⟩ := hK.shape
  have hlt' : ∀ (j : Nat) (hj : j < kids.length), kids[j].num < N := fun j hj => by have := hlt j hj; rw [hN] at this; exact this
  have hkid : ∀ k ∈ kids, TreeAt w B k := hT.kid
  clear hlt hN
  show Calls Tryz.prog 60 #[.agg #[.int .i64 op, set, .slice A kids.length cp, .int .i64 mn, .int .i64 mx, .int .i64 mo, .int .i64 n, .bool neg], .int .i64 caps, .int .i64 top] w _
  go_enter Tryz.func60, Tryz.ntmps60
  go_wp2_with fail
  refine (hnode _).mono ?_
  clear hnode
  rintro _ w1 ⟨b1, rfl, hB1⟩
  have hb1 := (Blk.made w 51 #[.int .i64 op, set, .slice A kids.length cp, .int .i64 mn, .int .i64 mx, .int .i64 mo, .int .i64 n, .bool neg]).bel hB1 (by simp)
  have hBw1 := SomeBool.after hB1
  have hs1 := hB1.size
  simp at hs1
  clear hB1
  cases b1 with
  | false =>
    go_wp2
    go_ret
    exact ⟨_, rfl, hBw1⟩
  | true =>
    go_wp2
    go_loopw [7] (fun iv wr => ∃ j : Nat, j ≤ kids.length ∧ iv = .int .i64 j ∧ Below w1.heap.size w1 wr) (fun iv _ => kids.length - (intOf iv).toNat)
    case atStart => exact ⟨0, Nat.zero_le _, rfl, Below.refl _ _⟩
    case round =>
      obtain ⟨j, hj, rfl, hbel⟩ := hrel
      have hb0 := hb1.bel hbel hb1.lt
      have k2 := hb0.at' 2
      simp at k2
      have hBw := hBw1.trans (hbel.mono (by omega))
      by_cases hjl : j < kids.length
      · obtain ⟨b, s, rfl, q0, q1, q2, q3, q4, q5, q6, q7⟩ := hK.load hBw hjl
        have hkT := (hkid _ (List.getElem_mem hjl)).bel hBw
        have hl := hlt' j hjl
        have hj1 : (j : Int) < (kids.length : Int) := by omega
        obtain ⟨k, hk⟩ : ∃ k, kids[j] = k := ⟨_, rfl⟩
        rw [hk] at q0 q1 q2 q3 q4 q5 q6 q7 hkT hl
        have hcall := ih k.num hl rfl hkT
        have hsz := hbel.size
        clear hk ih hkT hlt' hkid
        go_wp2_with fail
        refine (show Calls Tryz.prog 60 #[.agg #[.int .i64 k.op, k.set, k.kidv, .int .i64 k.mn, .int .i64 k.mx, .int .i64 k.mo, .int .i64 k.n, .bool k.neg], .int .i64 caps, .int .i64 top] wr (SomeBool wr) from hcall).mono ?_
        clear hcall
        rintro _ w2 ⟨b2, rfl, hB2⟩
        cases b2 with
        | false =>
          go_wp2
          go_ret
          exact ⟨_, rfl, hBw.trans (hB2.mono (by omega))⟩
        | true =>
          go_wp2
          go_roundw
          case rel => exact ⟨j + 1, hjl, by go_num, hbel.trans (hB2.mono (by omega))⟩
          case measure => simp [intOf]; omega
      · have hje : j = kids.length := by omega
        subst hje
        go_wp2_with fail
        go_ret
        exact ⟨_, rfl, hBw⟩
/-- a pattern's value -/
def patV (t : VT) (caps : Int) (runes : Bool) : Value := .agg #[.int .i64 t.op, t.set, t.kidv, .int .i64 t.mn, .int .i64 t.mx, .int .i64 t.mo, .int .i64 t.n, .bool t.neg, .int .i64 caps, .bool runes]
set_option maxHeartbeats 4000000 in
set_option maxRecDepth 1000000 in
theorem valid_walk {w : World} {B : Nat → Prop} {t : VT} (hT : TreeAt w B t) (hn : t.num ≤ 100000) (caps : Int) :
    Calls Tryz.prog 39 #[patV t caps false] w fun e w' => ∃ c : Int, e = .returned (.int .i64 c) ∧ Below w.heap.size w w' := by
  have hsz := fun (w' : World) (hb : Below w.heap.size w w') => size_walk t.num rfl (hT.bel hb) hn
  have hdp := fun (w' : World) (hb : Below w.heap.size w w') => depth_walk t.num rfl (hT.bel hb) hn
  have hwh := fun (w' : World) (hb : Below w.heap.size w w') => whole_walk caps 255 (by omega) t.num rfl (hT.bel hb)
  obtain ⟨op, set, kidv, mn, mx, mo, n, neg, spans, kids⟩ := t
  obtain ⟨N, hN⟩ : ∃ N, (VT.mk op set kidv mn mx mo n neg spans kids).num = N := ⟨_, rfl⟩
  rw [hN] at hsz hdp hn
  show Calls Tryz.prog 39 #[.agg #[.int .i64 op, set, kidv, .int .i64 mn, .int .i64 mx, .int .i64 mo, .int .i64 n, .bool neg, .int .i64 caps, .bool false]] w _
  have hsz' : ∀ (w' : World) (hb : Below w.heap.size w w'), Calls Tryz.prog 58 #[.agg #[.int .i64 op, set, kidv, .int .i64 mn, .int .i64 mx, .int .i64 mo, .int .i64 n, .bool neg]] w' fun e w2 => e = .returned (.int .i64 (N : Int)) ∧ Below w'.heap.size w' w2 := hsz
  have hdp' : ∀ (w' : World) (hb : Below w.heap.size w w'), Calls Tryz.prog 59 #[.agg #[.int .i64 op, set, kidv, .int .i64 mn, .int .i64 mx, .int .i64 mo, .int .i64 n, .bool neg]] w' fun e w2 => ∃ d : Nat, d ≤ N ∧ e = .returned (.int .i64 (d : Int)) ∧ Below w'.heap.size w' w2 := hdp
  have hwh' : ∀ (w' : World) (hb : Below w.heap.size w w'), Calls Tryz.prog 60 #[.agg #[.int .i64 op, set, kidv, .int .i64 mn, .int .i64 mx, .int .i64 mo, .int .i64 n, .bool neg], .int .i64 caps, .int .i64 255] w' (SomeBool w') := hwh
  clear hsz hdp hwh hN hT
  have hbox := fun (w' : World) (hb : Below (w.heap.size + 1) (w.alloc (.cells #[.int .i64 op, set, kidv, .int .i64 mn, .int .i64 mx, .int .i64 mo, .int .i64 n, .bool neg, .int .i64 caps, .bool false] 53)) w') =>
    (Blk.made w 53 #[.int .i64 op, set, kidv, .int .i64 mn, .int .i64 mx, .int .i64 mo, .int .i64 n, .bool neg, .int .i64 caps, .bool false]).bel hb (by omega)
  go_enter Tryz.func39, Tryz.ntmps39
  go_wp2_with fail
  refine (hsz' _ ((Below.refl _ _).alloc (Nat.le_refl _) _)).mono ?_
  clear hsz'
  rintro _ w1 ⟨rfl, hB1⟩
  have e1 : Below (w.heap.size + 1) (w.alloc (.cells #[.int .i64 op, set, kidv, .int .i64 mn, .int .i64 mx, .int .i64 mo, .int .i64 n, .bool neg, .int .i64 caps, .bool false] 53)) w1 := hB1.mono (by simp)
  clear hB1
  have s1 := e1.size
  simp at s1
  have b1 := hbox _ e1
  have r0 := b1.at' 0
  have r1 := b1.at' 1
  have r2 := b1.at' 2
  have r3 := b1.at' 3
  have r4 := b1.at' 4
  have r5 := b1.at' 5
  have r6 := b1.at' 6
  have r7 := b1.at' 7
  have r8 := b1.at' 8
  have r9 := b1.at' 9
  simp at r0 r1 r2 r3 r4 r5 r6 r7 r8 r9
  by_cases hbig : 256 < N
  · have hbig' : (256 : Int) < (N : Int) := by omega
    go_wp2_with fail
    go_ret
    exact ⟨_, rfl, bel_box e1⟩
  have hbig' : ¬ (256 : Int) < (N : Int) := by omega
  go_wp2_with fail
  refine (hdp' _ (bel_box e1)).mono ?_
  clear hdp'
  rintro _ w2 ⟨d, hd, rfl, hB2⟩
  have e2 := e1.trans (hB2.mono (by omega))
  clear hB2 b1 r0 r1 r2 r3 r4 r5 r6 r7 r8 r9
  have s2 := e2.size
  simp at s2
  have b1 := hbox _ e2
  have r0 := b1.at' 0
  have r1 := b1.at' 1
  have r2 := b1.at' 2
  have r3 := b1.at' 3
  have r4 := b1.at' 4
  have r5 := b1.at' 5
  have r6 := b1.at' 6
  have r7 := b1.at' 7
  have r8 := b1.at' 8
  have r9 := b1.at' 9
  simp at r0 r1 r2 r3 r4 r5 r6 r7 r8 r9
  by_cases hdeep : 24 < d
  · have hd' : (24 : Int) < (d : Int) := by omega
    go_wp2_with fail
    go_ret
    exact ⟨_, rfl, bel_box e2⟩
  have hd' : ¬ (24 : Int) < (d : Int) := by omega
  by_cases hc0 : caps < 0
  · go_wp2_with fail
    go_ret
    exact ⟨_, rfl, bel_box e2⟩
  by_cases hc9 : 9 < caps
  · go_wp2_with fail
    go_ret
    exact ⟨_, rfl, bel_box e2⟩
  go_wp2_with fail
  refine (hwh' _ (bel_box e2)).mono ?_
  clear hwh'
  rintro _ w3 ⟨b3, rfl, hB3⟩
  cases b3 with
  | false =>
    go_wp2
    go_ret
    exact ⟨_, rfl, (bel_box e2).trans (hB3.mono (by omega))⟩
  | true =>
    go_wp2
    go_ret
    exact ⟨_, rfl, (bel_box e2).trans (hB3.mono (by omega))⟩
end Go.Proofs.YtdacamjpcdbphaaGreatDoor
namespace Go.Proofs.YtdacamjpcdbphaaGreatDoor
open Go Go.RowKit

def decs : ByteArray := { data := #[48, 49, 50, 51, 52, 53, 54, 55, 56, 57] }
theorem dec_slice : ∀ r : Nat, r < 10 → (decs.extract r (r + 1)).size = 1 ∧ ∀ w : World, (Instr.slice 9 (.string { data := #[48, 49, 50, 51, 52, 53, 54, 55, 56, 57] }) (some (.int .i64 (r : Int))) (some (.int .i64 ((r : Int) + 1))) none).run Tryz.prog w = .ok (.string (decs.extract r (r + 1))) w := by
  intro r hr
  match r, hr with
  | 0, _ => exact ⟨by decide, fun w => by kernel_rfl⟩
  | 1, _ => exact ⟨by decide, fun w => by kernel_rfl⟩
  | 2, _ => exact ⟨by decide, fun w => by kernel_rfl⟩
  | 3, _ => exact ⟨by decide, fun w => by kernel_rfl⟩
  | 4, _ => exact ⟨by decide, fun w => by kernel_rfl⟩
  | 5, _ => exact ⟨by decide, fun w => by kernel_rfl⟩
  | 6, _ => exact ⟨by decide, fun w => by kernel_rfl⟩
  | 7, _ => exact ⟨by decide, fun w => by kernel_rfl⟩
  | 8, _ => exact ⟨by decide, fun w => by kernel_rfl⟩
  | 9, _ => exact ⟨by decide, fun w => by kernel_rfl⟩
  | n + 10, h => exact absurd h (by omega)
set_option maxHeartbeats 4000000 in
set_option maxRecDepth 1000000 in
theorem decimal_small (w : World) (n : Nat) (hn : n ≤ 999) :
    Calls Tryz.prog 21 #[.int .i64 (n : Int)] w fun e w' => ∃ s : ByteArray, e = .returned (.string s) ∧ s.size ≤ 3 ∧ w' = w := by
  by_cases hn0 : n = 0
  · subst hn0
    go_enter Tryz.func21, Tryz.ntmps21
    go_wp2_with fail
    go_ret
    exact ⟨_, rfl, by decide, rfl⟩
  have hn1 : ((n : Int) == 0) = false := beq_eq_false_iff_ne.2 (by omega)
  have hn2 : ¬ (n : Int) < 0 := by omega
  go_enter Tryz.func21, Tryz.ntmps21
  go_wp2
  go_loopw [4, 5] (fun sv nv wr => ∃ (i m : Nat) (s : ByteArray), nv = .int .i64 (m : Int) ∧ sv = .string s ∧ s.size = i ∧ m * 10 ^ i ≤ 999 ∧ i ≤ 3 ∧ wr = w) (fun _ nv _ => (intOf nv).toNat)
  case atStart => exact ⟨0, n, ByteArray.empty, rfl, rfl, rfl, by omega, by omega, rfl⟩
  case round =>
    obtain ⟨i, m, s, rfl, rfl, hs, hm, hi3, rfl⟩ := hrel
    by_cases h0 : m = 0
    · subst h0
      go_wp2_with fail
      go_ret
      exact ⟨s, rfl, by omega, rfl⟩
    · have hm2 : m ≤ 999 := by
        have : 1 ≤ 10 ^ i := Nat.one_le_pow _ _ (by omega)
        calc m = m * 1 := by omega
          _ ≤ m * 10 ^ i := Nat.mul_le_mul_left _ this
          _ ≤ 999 := hm
      have hi2 : i ≤ 2 := by
        by_cases h : i ≤ 2
        · exact h
        · have : i = 3 := by omega
          subst this
          omega
      have hm0 : 0 < m := by omega
      have hmd : (!((m : Int) == 0)) = true := by simp; omega
      obtain ⟨r, hr⟩ : ∃ r, m % 10 = r := ⟨_, rfl⟩
      obtain ⟨q, hq⟩ : ∃ q, m / 10 = q := ⟨_, rfl⟩
      have hr16 : r < 10 := by omega
      have hrI : (m : Int).tmod 10 = (r : Int) := by rw [← hr]; rfl
      have hqI : (m : Int).tdiv 10 = (q : Int) := by rw [← hq]; rfl
      obtain ⟨hc1, hsl⟩ := dec_slice r hr16
      obtain ⟨c, hc⟩ : ∃ c, decs.extract r (r + 1) = c := ⟨_, rfl⟩
      rw [hc] at hc1 hsl
      have hq999 : q * 10 ^ (i + 1) ≤ 999 := by
        have h1 : q * 10 ≤ m := by omega
        calc q * 10 ^ (i + 1) = (q * 10) * 10 ^ i := by rw [Nat.pow_succ, Nat.mul_comm (10 ^ i) 10, Nat.mul_assoc]
          _ ≤ m * 10 ^ i := Nat.mul_le_mul_right _ h1
          _ ≤ 999 := hm
      have hsz : (c ++ s).size = i + 1 := by simp [hc1, hs]; omega
      have hqm : q < m := by omega
      have hcs : c.size + s.size ≤ 9223372036854775807 := by omega
      have hr0 : ¬ (r : Int) < 0 := by omega
      have HQ := Lib.hid hq
      have HR := Lib.hid hr
      clear hq hr
      go_wp2_with fail
      go_roundw
      case rel => exact ⟨i + 1, q, c ++ s, by go_num, rfl, hsz, hq999, by omega, trivial⟩
      case measure => simp [intOf]; omega
end Go.Proofs.YtdacamjpcdbphaaGreatDoor
namespace Go.Proofs.YtdacamjpcdbphaaGreatDoor
open Go Go.RowKit Go.Smap

theorem grown_bel {w wr w2 : World} {B : Nat} {e : TypeId} {size n : Nat} {v : Value} {xs : List Value} (hb : Below B w wr) (hown : wr.ownsRow B e size v n xs) (hB : B ≤ wr.heap.size) (o : Obj) (hg : (wr.alloc o).grownBy w2 v.ownBlock) : Below B w w2 :=
  (hb.alloc hB o).grown hg (by simp; omega) fun k hk => (World.ownsRow.lt hown k hk).1
theorem grown_bel0 {w wr w2 : World} {B : Nat} {e : TypeId} {size n : Nat} {v : Value} {xs : List Value} (hb : Below B w wr) (hown : wr.ownsRow B e size v n xs) (hB : B ≤ wr.heap.size) (hg : wr.grownBy w2 v.ownBlock) : Below B w w2 :=
  hb.grown hg hB fun k hk => (World.ownsRow.lt hown k hk).1
theorem or128' (m : Nat) : (((UInt8.ofNat (m % 128 + 128)).toNat : Nat) : Int) = 128 + (m : Int) % 128 := by rw [toNat_ofNat (by omega)]; omega
set_option maxRecDepth 1000000 in
theorem fuint_walk {n : Nat} (hn : n < 18446744073709551616) (w : World) :
    Calls Tryz.prog 48 #[.int .u64 n] w fun e w' => ∃ v, e = .returned v ∧ w'.ownsRow w.heap.size 5 1 v (uv n).length (bv (uv n)) ∧ Below w.heap.size w w' := by
  obtain ⟨i0, hi0, hz0, hz1, hz2⟩ := info_parts' info5
  have hten := uv_ten hn
  go_enter Tryz.func48, Tryz.ntmps48
  go_wp2
  go_loopw [0, 3] (fun nv sv wr => ∃ (m : Nat) (l1 : List UInt8), nv = .int .u64 m ∧ m < 18446744073709551616 ∧ wr.ownsRow w.heap.size 5 1 sv l1.length (bv l1) ∧ Below w.heap.size w wr ∧ Hid (l1 ++ uv m = uv n)) (fun nv _ _ => (intOf nv).toNat)
  case atStart => exact ⟨n, [], rfl, hn, World.ownsRow_nil _ _ _ _, Below.refl _ _, Lib.hid (List.nil_append _)⟩
  case round =>
    obtain ⟨m, l1, rfl, hm, hown, hbel, hid⟩ := hrel
    have hsee := sees_one wr
    have hlen : l1.length ≤ 10 := by
      have := congrArg List.length hid.out
      simp only [List.length_append] at this
      omega
    have h63 : l1.length + 1 ≤ maxLen := by unfold maxLen; omega
    have hby : (l1.length + 1) * 1 ≤ 140737488355328 := by omega
    have hsz := hbel.size
    obtain ⟨A1, c1, rfl, _⟩ := row_form hown
    by_cases h128 : 127 < m
    · have hm2 : (127 : Int) < (m : Int) := by omega
      have hmm : (128 + (m : Int) % 128) % 256 = 128 + (m : Int) % 128 := by omega
      have hor := Lib.hid (or128' m)
      go_wp2_with (first
        | (at_builtin; refine wpList_append_sees rfl _ _ 23 rfl i0 _ 1 Tryz.underlying23 hi0 hz0 hz1 hz2 rfl (by decide) _ _ _ rfl (hown.alloc _) _ 1 _ rfl (hsee _) rfl (by intro u hu; simp at hu; subst hu; rfl) h63 hby (by simp; omega) ?_; intro v2 w2 hrow2 hgrow2 hown2; obtain ⟨A2, k2, rfl, _⟩ := row_form hrow2)
        | go_in)
      have hB2 := grown_bel hbel hown hsz _ hgrow2
      go_roundw
      case rel =>
        refine ⟨m / 128, l1 ++ [UInt8.ofNat (m % 128 + 128)], by go_num, by omega, ?_, hB2, Lib.hid ?_⟩
        · rw [bv_app, List.length_append, List.length_singleton]
          show w2.ownsRow _ _ _ _ _ (bv l1 ++ [.int .u8 (((UInt8.ofNat (m % 128 + 128)).toNat : Nat) : Int)])
          rw [hor.out]
          exact hrow2
        · have h1 := hid.out
          rw [uv_big (by omega)] at h1
          rw [← h1]
          simp only [List.append_assoc]
          rfl
      case measure => simp [intOf]; omega
    · have hm2 : ¬ (127 : Int) < (m : Int) := by omega
      have hmm : (m : Int) % 256 = m := by omega
      go_wp2_with (first
        | (at_builtin; refine wpList_append_sees rfl _ _ 23 rfl i0 _ 1 Tryz.underlying23 hi0 hz0 hz1 hz2 rfl (by decide) _ _ _ rfl (hown.alloc _) _ 1 _ rfl (hsee _) rfl (by intro u hu; simp at hu; subst hu; rfl) h63 hby (by simp; omega) ?_; intro v2 w2 hrow2 hgrow2 hown2; obtain ⟨A2, k2, rfl, _⟩ := row_form hrow2)
        | go_in)
      go_ret
      have hB2 := grown_bel hbel hown hsz _ hgrow2
      have e1 : ((UInt8.ofNat m).toNat : Int) = m := by rw [toNat_ofNat (by omega)]
      have h1 := hid.out
      rw [uv_small (by omega)] at h1
      refine ⟨_, rfl, ?_, hB2⟩
      rw [← h1, bv_app, List.length_append, List.length_singleton]
      show w2.ownsRow _ _ _ _ _ (bv l1 ++ [.int .u8 ((UInt8.ofNat m).toNat : Int)])
      rw [e1]
      exact hrow2
set_option maxRecDepth 1000000 in
theorem fint_walk {k : Nat} (hk : k ≤ 1000000) (w : World) :
    Calls Tryz.prog 31 #[.int .i64 (k : Int)] w fun e w' => ∃ v, e = .returned v ∧ w'.ownsRow w.heap.size 5 1 v (encI (k : Int)).length (bv (encI (k : Int))) ∧ Below w.heap.size w w' := by
  have hz : zz (k : Int) = 2 * k := by unfold zz; rw [if_neg (by omega)]; omega
  have hu := fuint_walk (n := 2 * k) (by omega) w
  have e2 : ((2 * k : Nat) : Int) = 2 * (k : Int) := by omega
  rw [e2] at hu
  have h0 : ¬ (k : Int) < 0 := by omega
  have m1 : (k : Int) % 18446744073709551616 = k := by omega
  have m2 : (2 * (k : Int)) % 18446744073709551616 = 2 * k := by omega
  unfold encI
  rw [hz]
  clear hz e2
  go_enter Tryz.func31, Tryz.ntmps31
  go_wp2_with (first
    | (go_at_call 48; refine hu.mono ?_; rintro _ w2 ⟨v2, rfl, hr2, hB2⟩)
    | go_in)
  go_ret
  exact ⟨_, rfl, hr2, hB2⟩
set_option maxRecDepth 1000000 in
theorem fraw_walk {w : World} {b : Value} {x : List UInt8} (hb : Sees w 1 b (bv x)) (hx : x.length ≤ 1000000) :
    Calls Tryz.prog 32 #[b] w fun e w' => ∃ v, e = .returned v ∧ w'.ownsRow w.heap.size 5 1 v (encR x).length (bv (encR x)) ∧ Below w.heap.size w w' := by
  obtain ⟨i0, hi0, hz0, hz1, hz2⟩ := info_parts' info5
  obtain ⟨A, m, c, rfl, hxm, hmc, hA⟩ := id hb
  have hxn : x.length = m := by rw [bv_len] at hxm; omega
  subst hxn
  have hu := fuint_walk (n := x.length) (by omega) w
  have hten := uv_ten (n := x.length) (by omega)
  have m1 : (x.length : Int) % 18446744073709551616 = x.length := by omega
  go_enter Tryz.func32, Tryz.ntmps32
  go_wp2_with fail
  refine hu.mono ?_
  clear hu
  rintro _ w2 ⟨v2, rfl, hr2, hB2⟩
  obtain ⟨A2, c2, rfl, _⟩ := row_form hr2
  have hb2 := hb.bel hB2
  have h63 : (uv x.length).length + x.length ≤ maxLen := by unfold maxLen; omega
  have hby : ((uv x.length).length + x.length) * 1 ≤ 140737488355328 := by omega
  have hsz := hB2.size
  have hone := bv_one x
  have hl1 : (bv x).length = x.length * 1 := by rw [bv_len]; omega
  go_wp2_with (first
    | (at_builtin; refine wpList_append_sees rfl _ _ 23 rfl i0 _ 1 Tryz.underlying23 hi0 hz0 hz1 hz2 rfl (by decide) _ _ _ rfl hr2 _ x.length _ rfl hb2 hl1 hone h63 hby hsz ?_; intro v3 w3 hrow3 hgrow3 hown3; obtain ⟨A3, k3, rfl, _⟩ := row_form hrow3)
    | go_in)
  go_ret
  refine ⟨_, rfl, ?_, grown_bel0 hB2 hr2 hsz hgrow3⟩
  unfold encR
  rw [bv_app, List.length_append]
  exact hrow3
set_option maxRecDepth 1000000 in
theorem fraw_str (w : World) (x : List UInt8) (hx : x.length ≤ 1000000) {c : Nat} (hc : x.length ≤ c) :
    Calls Tryz.prog 32 #[.slice (some ⟨w.heap.size, 0, none⟩) x.length c] (Lib.bytesWorld w 5 (ofB x)) fun e w' => ∃ v, e = .returned v ∧ w'.ownsRow w.heap.size 5 1 v (encR x).length (bv (encR x)) ∧ Below w.heap.size w w' := by
  have hb := below_bytes (n := w.heap.size) w 5 (ofB x) (Nat.le_refl _)
  have hsz := Lib.bytesWorld_size w 5 (ofB x)
  have hsee : Sees (Lib.bytesWorld w 5 (ofB x)) 1 (.slice (some ⟨w.heap.size, 0, none⟩) x.length c) (bv x) := by
    refine ⟨_, _, _, rfl, by rw [bv_len]; omega, hc, fun _ => ⟨w.heap.size, 0, rfl, by omega, fun i u hu => ?_⟩⟩
    exact bytes_cell w 5 (ofB x) i u (by rw [toB_ofB]; exact hu)
  refine (fraw_walk hsee hx).mono ?_
  rintro e w' ⟨v, rfl, hr, hB⟩
  exact ⟨v, rfl, row_base hr (by omega), hb.trans (hB.mono (by omega))⟩
set_option maxRecDepth 1000000 in
theorem fbool_walk (b : Bool) (w : World) :
    Calls Tryz.prog 33 #[.bool b] w fun e w' => ∃ v, e = .returned v ∧ w'.ownsRow w.heap.size 5 1 v (encB b).length (bv (encB b)) ∧ Below w.heap.size w w' := by
  have hrow : ∀ x : UInt8, (w.alloc (.cells #[.int .u8 (x.toNat : Int)] 5)).ownsRow w.heap.size 5 1 (.slice (some ⟨w.heap.size, 0, none⟩) 1 1) [x].length (bv [x]) := fun x =>
    ⟨rfl, .inr ⟨_, 1, _, rfl, Nat.le_refl _, heap_alloc_new _ _, Nat.le_refl _, by unfold maxLen; omega, rfl, rfl⟩⟩
  have hB : ∀ x : Value, Below w.heap.size w (w.alloc (.cells #[x] 5)) := fun x => (Below.refl _ _).alloc (Nat.le_refl _) _
  cases b with
  | true =>
    go_enter Tryz.func33, Tryz.ntmps33
    go_wp2
    go_ret
    exact ⟨_, rfl, hrow 1, hB _⟩
  | false =>
    go_enter Tryz.func33, Tryz.ntmps33
    go_wp2
    go_ret
    exact ⟨_, rfl, hrow 0, hB _⟩
set_option maxHeartbeats 8000000 in
set_option maxRecDepth 1000000 in
theorem fencode_walk {w : World} {v : Value} {rs : List Ru} (h0 : SeesR w v rs) (hG : Fits rs) :
    Calls Tryz.prog 11 #[v] w fun e w' => ∃ u, e = .returned u ∧ w'.ownsRow w.heap.size 5 1 u (encL rs).length (bv (encL rs)) ∧ Below w.heap.size w w' := by
  obtain ⟨i0, hi0, hz0, hz1, hz2⟩ := info_parts' info5
  have hlen := hG.len
  have hconv := conv_bytes
  have hi1 := fint_walk (k := rs.length) (by omega) w
  obtain ⟨A0, vc, rfl, hcap0, hva⟩ := h0.shape
  go_enter Tryz.func11, Tryz.ntmps11
  go_wp2_with fail
  refine hi1.mono ?_
  clear hi1
  rintro _ w1 ⟨v1, rfl, hr1, hB1⟩
  have s1 := hB1.size
  go_wp2
  go_loopw [3, 4] (fun ov i wr => ∃ (j : Nat), j ≤ rs.length ∧ i = .int .i64 j ∧ wr.ownsRow w.heap.size 5 1 ov (encI (rs.length : Int) ++ encMany (rs.take j)).length (bv (encI (rs.length : Int) ++ encMany (rs.take j))) ∧ Below w.heap.size w wr) (fun _ i _ => rs.length - (intOf i).toNat)
  case atStart => exact ⟨0, Nat.zero_le _, rfl, by simpa [encMany] using hr1, hB1⟩
  case round =>
    obtain ⟨j, hj, rfl, hown, hbel⟩ := hrel
    have hsz := hbel.size
    by_cases hjl : j < rs.length
    · obtain ⟨g, so, rfl, hg, hcells⟩ := hva (by omega)
      obtain ⟨c0, c1, c2⟩ := hcells j hjl
      have c0' := (hbel.cell (p := ⟨g, so + j * 3, none⟩) hg).trans c0
      have htk := hG.take j
      have hsn := encMany_snoc rs hjl
      obtain ⟨hn2, hn6⟩ := hG.at hjl
      obtain ⟨nm, hnm⟩ : ∃ s, rs[j].name = s := ⟨_, rfl⟩
      obtain ⟨tx, htx⟩ : ∃ s, rs[j].text = s := ⟨_, rfl⟩
      obtain ⟨ru, hru⟩ : ∃ s, rs[j].runes = s := ⟨_, rfl⟩
      rw [hnm] at c0 c0' hsn hn2
      rw [htx] at c1 hsn hn6
      rw [hru] at c2 hsn
      have hI1 : (encI (rs.length : Int)).length ≤ 10 := uv_ten (zz_lt ⟨by omega, by omega⟩)
      obtain ⟨P, hP⟩ : ∃ P, encI (rs.length : Int) ++ encMany (rs.take j) = P := ⟨_, rfl⟩
      have hPl : P.length ≤ 7000000 := by rw [← hP, List.length_append]; omega
      have hfin : encI (rs.length : Int) ++ encMany (rs.take (j + 1)) = P ++ encR nm ++ encR tx ++ encB ru := by rw [← hP, hsn]; simp
      have hNR : (encR nm).length ≤ 110 := by have := encR_len (l := nm) (by omega); omega
      have hTR : (encR tx).length ≤ 10010 := by have := encR_len (l := tx) (by omega); omega
      have hBR : (encB ru).length = 1 := rfl
      rw [hP] at hown
      have HF := Lib.hid hfin
      clear hnm htx hru hsn hP hfin htk hG hcells hva
      have hNS : (ofB nm).size = nm.length := ofB_size nm
      have hTS : (ofB tx).size = tx.length := ofB_size tx
      have hcap1 := cap_le wr (ofB nm)
      rw [hNS] at hcap1
      have hr1 := fraw_str wr nm (by omega) hcap1
      obtain ⟨A1, k1, rfl, _⟩ := row_form hown
      have hj0 : (0 : Int) ≤ (j : Int) := Int.natCast_nonneg _
      have hj1 : (j : Int) < (rs.length : Int) := by omega
      go_wp2_with fail
      refine hr1.mono ?_
      clear hr1 hcap1
      rintro _ w3 ⟨v3, rfl, hr3, hB3⟩
      obtain ⟨A3, k3, rfl, _⟩ := row_form hr3
      have s3 := hB3.size
      have hown3 := owns_bel hown hB3
      have hs3 := Sees.row hr3
      have z3 : P.length + (encR nm).length ≤ maxLen := by unfold maxLen; omega
      have y3 : (P.length + (encR nm).length) * 1 ≤ 140737488355328 := by omega
      have l3 : (bv (encR nm)).length = (encR nm).length * 1 := by rw [bv_len]; omega
      have o3 := bv_one (encR nm)
      have b3 : w.heap.size ≤ w3.heap.size := by omega
      have hBw3 := hbel.trans (hB3.mono hsz)
      go_wp2_with (first
        | (at_builtin; refine wpList_append_sees rfl _ _ 23 rfl i0 _ 1 Tryz.underlying23 hi0 hz0 hz1 hz2 rfl (by decide) _ _ _ rfl hown3 _ (encR nm).length _ rfl hs3 l3 o3 z3 y3 b3 ?_; intro va3 wa3 hrowa3 hgrowa3 howna3; obtain ⟨Aa3, ka3, rfl, _⟩ := row_form hrowa3; have hBa3 := grown_bel0 hBw3 hown3 b3 hgrowa3; have d1 := (hBa3.cell (p := ⟨g, so + j * 3 + 1, none⟩) hg).trans c1))
      have sa3 := hBa3.size
      have hrowb3 : wa3.ownsRow w.heap.size 5 1 (.slice Aa3 (P.length + (encR nm).length) ka3) (P.length + (encR nm).length) (bv (P ++ encR nm)) := by rw [bv_app]; exact hrowa3
      have hcap2 := cap_le wa3 (ofB tx)
      rw [hTS] at hcap2
      have hr2 := fraw_str wa3 tx (by omega) hcap2
      clear hown3 hs3 z3 y3 l3 o3 hgrowa3 hrowa3 c0' hr3 howna3
      go_wp2_with fail
      refine hr2.mono ?_
      clear hr2 hcap2
      rintro _ w4 ⟨v4, rfl, hr4, hB4⟩
      obtain ⟨A4, k4, rfl, _⟩ := row_form hr4
      have s4 := hB4.size
      have hown4 := owns_bel hrowb3 hB4
      have hs4 := Sees.row hr4
      have z4 : P.length + (encR nm).length + (encR tx).length ≤ maxLen := by unfold maxLen; omega
      have y4 : (P.length + (encR nm).length + (encR tx).length) * 1 ≤ 140737488355328 := by omega
      have l4 : (bv (encR tx)).length = (encR tx).length * 1 := by rw [bv_len]; omega
      have o4 := bv_one (encR tx)
      have b4 : w.heap.size ≤ w4.heap.size := by omega
      have hBw4 := hBa3.trans (hB4.mono (by omega))
      go_wp2_with (first
        | (at_builtin; refine wpList_append_sees rfl _ _ 23 rfl i0 _ 1 Tryz.underlying23 hi0 hz0 hz1 hz2 rfl (by decide) _ _ _ rfl hown4 _ (encR tx).length _ rfl hs4 l4 o4 z4 y4 b4 ?_; intro va4 wa4 hrowa4 hgrowa4 howna4; obtain ⟨Aa4, ka4, rfl, _⟩ := row_form hrowa4; have hBa4 := grown_bel0 hBw4 hown4 b4 hgrowa4; have d2 := (hBa4.cell (p := ⟨g, so + j * 3 + 2, none⟩) hg).trans c2))
      have sa4 := hBa4.size
      have hrowb4 : wa4.ownsRow w.heap.size 5 1 (.slice Aa4 (P.length + (encR nm).length + (encR tx).length) ka4) (P.length + (encR nm).length + (encR tx).length) (bv (P ++ encR nm ++ encR tx)) := by rw [bv_app]; exact hrowa4
      have hr5 := fbool_walk ru wa4
      clear hown4 hs4 z4 y4 l4 o4 hgrowa4 hrowa4 d1 hr4 howna4
      go_wp2_with fail
      refine hr5.mono ?_
      clear hr5
      rintro _ w5 ⟨v5, rfl, hr5, hB5⟩
      obtain ⟨A5, k5, rfl, _⟩ := row_form hr5
      have s5 := hB5.size
      have hown5 := owns_bel hrowb4 hB5
      have hs5 := Sees.row hr5
      have z5 : P.length + (encR nm).length + (encR tx).length + (encB ru).length ≤ maxLen := by unfold maxLen; omega
      have y5 : (P.length + (encR nm).length + (encR tx).length + (encB ru).length) * 1 ≤ 140737488355328 := by omega
      have l5 : (bv (encB ru)).length = (encB ru).length * 1 := by rw [bv_len]; omega
      have o5 := bv_one (encB ru)
      have b5 : w.heap.size ≤ w5.heap.size := by omega
      have hBw5 := hBa4.trans (hB5.mono (by omega))
      go_wp2_with (first
        | (at_builtin; refine wpList_append_sees rfl _ _ 23 rfl i0 _ 1 Tryz.underlying23 hi0 hz0 hz1 hz2 rfl (by decide) _ _ _ rfl hown5 _ (encB ru).length _ rfl hs5 l5 o5 z5 y5 b5 ?_; intro va5 wa5 hrowa5 hgrowa5 howna5; obtain ⟨Aa5, ka5, rfl, _⟩ := row_form hrowa5))
      have hBa5 := grown_bel0 hBw5 hown5 b5 hgrowa5
      have hrowb5 : wa5.ownsRow w.heap.size 5 1 (.slice Aa5 (P.length + (encR nm).length + (encR tx).length + (encB ru).length) ka5) (encI (rs.length : Int) ++ encMany (rs.take (j + 1))).length (bv (encI (rs.length : Int) ++ encMany (rs.take (j + 1)))) := by
        rw [HF.out, bv_app, List.length_append, List.length_append, List.length_append]
        exact hrowa5
      clear hown5 hs5 z5 y5 l5 o5 hgrowa5 hrowa5 d2 hr5 howna5
      go_roundw
      case rel => exact ⟨j + 1, hjl, by go_num, hrowb5, hBa5⟩
      case measure => simp [intOf]; omega
    · have hje : j = rs.length := by omega
      subst hje
      rw [List.take_length] at hown
      obtain ⟨A1, k1, rfl, _⟩ := row_form hown
      go_wp2
      go_ret
      exact ⟨_, rfl, hown, hbel⟩
end Go.Proofs.YtdacamjpcdbphaaGreatDoor
namespace Go.Proofs.YtdacamjpcdbphaaGreatDoor
open Go Go.RowKit

set_option maxHeartbeats 4000000 in
set_option maxRecDepth 1000000 in
theorem short_walk (w : World) (s : ByteArray) (m : Nat) (hm : m ≤ 1000) :
    Calls Tryz.prog 6 #[.string s, .int .i64 (m : Int)] w fun e w' => ∃ r : ByteArray, e = .returned (.string r) ∧ r.size ≤ m ∧ w' = w := by
  by_cases h : m < s.size
  · have hI : (m : Int) < (s.size : Int) := by omega
    go_enter Tryz.func6, Tryz.ntmps6
    go_wp2_with fail
    go_ret
    exact ⟨_, rfl, by simp [ByteArray.size_extract]; omega, rfl⟩
  · have hI : ¬ (m : Int) < (s.size : Int) := by omega
    go_enter Tryz.func6, Tryz.ntmps6
    go_wp2_with fail
    go_ret
    exact ⟨s, rfl, by omega, rfl⟩
end Go.Proofs.YtdacamjpcdbphaaGreatDoor
