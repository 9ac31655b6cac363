/-
  Varints, byte slices and lists of rules as bytes: what is written, what is read back, and that what is read is written just so. No program stands here.
  Frames of records: the first one that bytes begin with, and all of them, one after the other. No program stands here.
  The hash of bytes: its words, how they are mixed, and that bytes of one length that differ in one word alone have different hashes. No program stands here.
  Frames, blocks and rows: the words that the walks below use.
  The writer of encodings, walked: each of its functions appends what it should.
  The reader of encodings, walked: each of its functions reads what is left, or goes wrong.
  The reader of encodings, walked: Int, Raw, Bool, End and Read.
  The reader of encodings, walked: Raw.
  A map keyed by strings, said as a function: what a look-up gives, what a store leaves. (Of no program.)
-/
import Derived.KernelRfl
import Derived.Tactics
import Derived.Tactics2
import Derived.StillTactics
import Derived.WalkKit
import Derived.LoopTactic
import Derived.LoopN
import Derived.Lib.Hide
import Derived.Laws.OwnMore
import Derived.Deep.AppendLies
import Derived.Maps.AppendAt
import Derived.Test.YtdacamjpcdbphaaGreatDoorProg
import Derived.Lib.Zigzag
import Derived.Laws.Bits64
import Derived.Lib.VarintBits
import Derived.Maps.Own
import Derived.StringKeys
namespace Go.Proofs.YtdacamjpcdbphaaGreatDoor

/-- the varint of a number -/
def uv (n : Nat) : List UInt8 := if n < 128 then [UInt8.ofNat n] else UInt8.ofNat (n % 128 + 128) :: uv (n / 128)
termination_by n
decreasing_by omega
theorem uv_small {n : Nat} (h : n < 128) : uv n = [UInt8.ofNat n] := by rw [uv, if_pos h]
theorem uv_big {n : Nat} (h : ¬ n < 128) : uv n = UInt8.ofNat (n % 128 + 128) :: uv (n / 128) := by rw [uv, if_neg h]
theorem uv_pos (n : Nat) : 1 ≤ (uv n).length := by
  rw [uv]; split <;> simp
theorem uv_len : ∀ (k n : Nat), n < 128 ^ (k + 1) → (uv n).length ≤ k + 1
  | 0, n, h => by rw [uv_small (by simpa using h)]; simp
  | k + 1, n, h => by
    by_cases h1 : n < 128
    · rw [uv_small h1]; simp
    · rw [uv_big h1]
      have : n / 128 < 128 ^ (k + 1) := Nat.div_lt_of_lt_mul (by rw [Nat.pow_succ] at h; omega)
      have := uv_len k (n / 128) this
      simp; omega
theorem uv_ten {n : Nat} (h : n < 18446744073709551616) : (uv n).length ≤ 10 := uv_len 9 n (by omega)
/-- the zigzag form of a number -/
def zz (z : Int) : Nat := if z < 0 then 2 * (-(z + 1)).toNat + 1 else 2 * z.toNat
/-- the number with a zigzag form -/
def unzz (n : Nat) : Int := if n % 2 = 1 then -(n / 2 : Nat) - 1 else (n / 2 : Nat)
theorem unzz_zz (z : Int) : unzz (zz z) = z := by
  unfold zz unzz
  split
  · rename_i h
    have : (2 * (-(z + 1)).toNat + 1) % 2 = 1 := by omega
    rw [if_pos this]
    have : (2 * (-(z + 1)).toNat + 1) / 2 = (-(z + 1)).toNat := by omega
    rw [this]; omega
  · rename_i h
    have : ¬ (2 * z.toNat) % 2 = 1 := by omega
    rw [if_neg this]
    have : (2 * z.toNat) / 2 = z.toNat := by omega
    rw [this]; omega
theorem zz_unzz (n : Nat) : zz (unzz n) = n := by
  unfold zz unzz
  by_cases h : n % 2 = 1
  · rw [if_pos h, if_pos (by omega)]; omega
  · rw [if_neg h, if_neg (by omega)]; omega
def In64 (z : Int) : Prop := -9223372036854775808 ≤ z ∧ z ≤ 9223372036854775807
theorem zz_lt {z : Int} (h : In64 z) : zz z < 18446744073709551616 := by
  obtain ⟨h1, h2⟩ := h
  unfold zz; split <;> omega
theorem unzz_in {n : Nat} (h : n < 18446744073709551616) : In64 (unzz n) := by
  unfold unzz In64; split <;> omega
def encI (z : Int) : List UInt8 := uv (zz z)
def encR (l : List UInt8) : List UInt8 := uv l.length ++ l
def encB (b : Bool) : List UInt8 := [if b then 1 else 0]
theorem encI_pos (z : Int) : 1 ≤ (encI z).length := uv_pos _

/- reading: what is read, and what is left -/
def dgo : Nat → Nat → Nat → List UInt8 → Option (Nat × List UInt8)
  | 0, _, acc, l => some (acc, l)
  | _ + 1, _, _, [] => none
  | k + 1, i, acc, b :: t => if (i = 9 ∧ 1 < b.toNat) ∨ (0 < i ∧ b.toNat = 0) then none else if b.toNat < 128 then some (acc + b.toNat % 128 * 128 ^ i, t) else dgo k (i + 1) (acc + b.toNat % 128 * 128 ^ i) t
def dU (l : List UInt8) : Option (Nat × List UInt8) := dgo 10 0 0 l
theorem toNat_ofNat {n : Nat} (h : n < 256) : (UInt8.ofNat n).toNat = n := by
  rw [UInt8.toNat_ofNat']; omega
theorem dgo_uv : ∀ (k i acc n : Nat) (t : List UInt8), k + i = 10 → 0 < k → n * 128 ^ i < 18446744073709551616 → (0 < i → 0 < n) → dgo k i acc (uv n ++ t) = some (acc + n * 128 ^ i, t)
  | 0, _, _, _, _, _, h, _, _ => by omega
  | k + 1, i, acc, n, t, hk, _, hn, h0 => by
    have h9 : i = 9 → n ≤ 1 := by
      rintro rfl
      rcases Nat.lt_or_ge 1 n with h | h
      · have : 2 * 128 ^ 9 ≤ n * 128 ^ 9 := Nat.mul_le_mul_right _ h
        omega
      · exact h
    by_cases h1 : n < 128
    · rw [uv_small h1]
      show dgo (k + 1) i acc (UInt8.ofNat n :: t) = _
      rw [dgo, toNat_ofNat (by omega), if_neg (by rintro (⟨a, b⟩ | ⟨a, b⟩); exact absurd (h9 a) (by omega); exact absurd (h0 a) (by omega)), if_pos h1, Nat.mod_eq_of_lt h1]
    · rw [uv_big h1]
      show dgo (k + 1) i acc (UInt8.ofNat (n % 128 + 128) :: (uv (n / 128) ++ t)) = _
      have hi : i ≠ 9 := fun e => by have := h9 e; omega
      rw [dgo, toNat_ofNat (by omega), if_neg (by omega), if_neg (by omega)]
      have e1 : (n % 128 + 128) % 128 = n % 128 := by omega
      rw [e1]
      have e2 : n / 128 * 128 ^ (i + 1) ≤ n * 128 ^ i := by
        have : n / 128 * 128 ^ (i + 1) = (n / 128 * 128) * 128 ^ i := by rw [Nat.pow_succ]; ac_rfl
        rw [this]
        exact Nat.mul_le_mul_right _ (Nat.div_mul_le_self n 128)
      rw [dgo_uv k (i + 1) _ (n / 128) t (by omega) (by omega) (by omega) (fun _ => by omega)]
      congr 2
      have : n / 128 * 128 ^ (i + 1) = (n / 128 * 128) * 128 ^ i := by rw [Nat.pow_succ]; ac_rfl
      rw [this, Nat.add_assoc, ← Nat.add_mul]
      congr 2; omega
theorem dU_uv {n : Nat} (h : n < 18446744073709551616) (t : List UInt8) : dU (uv n ++ t) = some (n, t) := by
  unfold dU
  rw [dgo_uv 10 0 0 n t rfl (by omega) (by simpa using h) (fun h => absurd h (by omega))]
  simp
theorem dgo_sound : ∀ (k i acc : Nat) (l : List UInt8) (m : Nat) (t : List UInt8), k + i = 10 → 0 < k → dgo k i acc l = some (m, t) → ∃ n, m = acc + n * 128 ^ i ∧ l = uv n ++ t ∧ (0 < i → 0 < n) ∧ n * 128 ^ i < 18446744073709551616
  | 0, _, _, _, _, _, _, h, _ => by omega
  | k + 1, i, acc, [], m, t, _, _, h => by simp [dgo] at h
  | k + 1, i, acc, b :: l, m, t, hk, _, h => by
    have hb : b.toNat < 256 := b.toNat_lt
    rw [dgo] at h
    split at h
    · cases h
    rename_i hn
    have hpow : ∀ j, j ≤ 9 → (128 : Nat) ^ j ≤ 128 ^ 9 := fun j hj => Nat.pow_le_pow_right (by omega) hj
    split at h
    · rename_i h1
      cases h
      refine ⟨b.toNat, by rw [Nat.mod_eq_of_lt h1], ?_, fun h0 => by omega, ?_⟩
      · rw [uv_small h1]
        show b :: l = UInt8.ofNat b.toNat :: l
        rw [UInt8.ofNat_toNat]
      · by_cases h9 : i = 9
        · have : b.toNat ≤ 1 := by omega
          subst h9
          have := Nat.mul_le_mul_right (128 ^ 9) this
          omega
        · have h8 : (128 : Nat) ^ i ≤ 128 ^ 8 := Nat.pow_le_pow_right (by omega) (by omega)
          have : b.toNat * 128 ^ i ≤ 128 * 128 ^ 8 := Nat.mul_le_mul (by omega) h8
          omega
    · rename_i h1
      have hi : i ≠ 9 := by omega
      obtain ⟨n, e1, e2, e3, e4⟩ := dgo_sound k (i + 1) _ l m t (by omega) (by omega) h
      have hn0 := e3 (by omega)
      have hp : n * 128 ^ (i + 1) = (n * 128) * 128 ^ i := by rw [Nat.pow_succ]; ac_rfl
      refine ⟨n * 128 + b.toNat % 128, ?_, ?_, fun _ => by omega, ?_⟩
      · rw [e1, hp, Nat.add_mul]; omega
      · rw [uv_big (by omega)]
        have d1 : (n * 128 + b.toNat % 128) % 128 + 128 = b.toNat := by omega
        have d2 : (n * 128 + b.toNat % 128) / 128 = n := by omega
        rw [d1, d2, UInt8.ofNat_toNat, e2]; rfl
      · -- the digits behind fit, so all do
        rw [Nat.add_mul, ← hp]
        have hq : n * 128 ^ (i + 1) < 18446744073709551616 := e4
        have hd : 18446744073709551616 = 2 * 128 ^ (8 - i) * 128 ^ (i + 1) := by
          rw [Nat.mul_assoc, ← Nat.pow_add, show 8 - i + (i + 1) = 9 by omega]
        have hlt : n < 2 * 128 ^ (8 - i) := by
          rcases Nat.lt_or_ge n (2 * 128 ^ (8 - i)) with h | h
          · exact h
          · have := Nat.mul_le_mul_right (128 ^ (i + 1)) h
            omega
        have hle : (n + 1) * 128 ^ (i + 1) ≤ 18446744073709551616 := by rw [hd]; exact Nat.mul_le_mul_right _ hlt
        have hlt2 : b.toNat % 128 * 128 ^ i < 128 ^ (i + 1) := by
          rw [Nat.pow_succ, Nat.mul_comm (128 ^ i)]
          exact Nat.mul_lt_mul_of_pos_right (by omega) (Nat.pow_pos (by omega))
        rw [Nat.add_mul] at hle
        omega
theorem dU_sound {l : List UInt8} {n : Nat} {t : List UInt8} (h : dU l = some (n, t)) : l = uv n ++ t ∧ n < 18446744073709551616 := by
  obtain ⟨m, e1, e2, _, e4⟩ := dgo_sound 10 0 0 l n t rfl (by omega) h
  have : n = m := by omega
  subst this
  exact ⟨e2, by simpa using e4⟩
def dI (l : List UInt8) : Option (Int × List UInt8) := match dU l with | some (n, t) => some (unzz n, t) | none => none
theorem dI_enc {z : Int} (h : In64 z) (t : List UInt8) : dI (encI z ++ t) = some (z, t) := by
  unfold dI encI; rw [dU_uv (zz_lt h)]; simp [unzz_zz]
theorem dI_sound {l : List UInt8} {z : Int} {t : List UInt8} (h : dI l = some (z, t)) : l = encI z ++ t ∧ In64 z := by
  unfold dI at h
  split at h
  · rename_i n u e
    cases h
    obtain ⟨h1, h2⟩ := dU_sound e
    exact ⟨by unfold encI; rw [zz_unzz]; exact h1, unzz_in h2⟩
  · cases h
def dR (l : List UInt8) : Option (List UInt8 × List UInt8) := match dU l with | some (n, t) => if n ≤ t.length then some (t.take n, t.drop n) else none | none => none
theorem dR_enc {x : List UInt8} (h : x.length < 18446744073709551616) (t : List UInt8) : dR (encR x ++ t) = some (x, t) := by
  unfold dR encR; rw [List.append_assoc, dU_uv h]; simp
theorem dR_sound {l x t : List UInt8} (h : dR l = some (x, t)) : l = encR x ++ t ∧ x.length < 18446744073709551616 := by
  unfold dR at h
  split at h
  · rename_i n u e
    split at h
    · rename_i hle
      cases h
      obtain ⟨h1, h2⟩ := dU_sound e
      have hl : (u.take n).length = n := by simp; omega
      exact ⟨by unfold encR; rw [hl, List.append_assoc, List.take_append_drop]; exact h1, by rw [hl]; exact h2⟩
    · cases h
  · cases h
def dB (l : List UInt8) : Option (Bool × List UInt8) := match l with | [] => none | b :: t => if 1 < b.toNat then none else some (b.toNat == 1, t)
theorem dB_enc (b : Bool) (t : List UInt8) : dB (encB b ++ t) = some (b, t) := by cases b <;> rfl
theorem dB_sound {l : List UInt8} {b : Bool} {t : List UInt8} (h : dB l = some (b, t)) : l = encB b ++ t := by
  cases l with
  | nil => cases h
  | cons c u =>
    unfold dB at h
    simp only at h
    split at h
    · cases h
    · rename_i hc
      cases h
      have : c.toNat = 0 ∨ c.toNat = 1 := by omega
      rcases this with e | e
      · have : c = 0 := UInt8.toNat_inj.1 e
        subst this; rfl
      · have : c = 1 := UInt8.toNat_inj.1 e
        subst this; rfl

/- rules -/
structure Ru where
  name : List UInt8
  text : List UInt8
  runes : Bool
  deriving DecidableEq
def encOne (r : Ru) : List UInt8 := encR r.name ++ encR r.text ++ encB r.runes
def encMany (l : List Ru) : List UInt8 := l.flatMap encOne
def encL (l : List Ru) : List UInt8 := encI l.length ++ encMany l
def lower (b : UInt8) : Bool := decide (97 ≤ b.toNat) && decide (b.toNat ≤ 122)
def other (b : UInt8) : Bool := decide (48 ≤ b.toNat) && decide (b.toNat ≤ 57) || b.toNat == 45
/-- the symbols of a name, from the place i on -/
def nameFrom : Nat → List UInt8 → Bool
  | _, [] => true
  | i, b :: t => (lower b || (i != 0 && other b)) && nameFrom (i + 1) t
def named (s : List UInt8) : Bool := decide (1 ≤ s.length) && decide (s.length ≤ 16) && nameFrom 0 s
/-- names that differ from those seen and from one another, and texts that are not too long -/
def formedFrom : List (List UInt8) → List Ru → Bool
  | _, [] => true
  | seen, r :: t => named r.name && !(decide (r.name ∈ seen)) && decide (r.text.length ≤ 2048) && formedFrom (seen ++ [r.name]) t
def formed (l : List Ru) : Bool := decide (l.length ≤ 500) && formedFrom [] l
theorem formedFrom_len : ∀ {seen : List (List UInt8)} {l : List Ru}, formedFrom seen l = true → ∀ r ∈ l, r.name.length ≤ 16 ∧ r.text.length ≤ 2048
  | _, [], _, r, hr => by cases hr
  | seen, x :: t, h, r, hr => by
    unfold formedFrom at h
    simp only [Bool.and_eq_true, decide_eq_true_eq] at h
    rcases List.mem_cons.1 hr with rfl | hr
    · have := h.1.1.1
      unfold named at this
      simp only [Bool.and_eq_true, decide_eq_true_eq] at this
      exact ⟨this.1.2, h.1.2⟩
    · exact formedFrom_len h.2 r hr
def dOne (l : List UInt8) : Option (Ru × List UInt8) := match dR l with
  | none => none
  | some (a, t) => match dR t with
    | none => none
    | some (b, u) => match dB u with
      | none => none
      | some (c, v) => some (⟨a, b, c⟩, v)
def dMany : Nat → List UInt8 → Option (List Ru × List UInt8)
  | 0, l => some ([], l)
  | k + 1, l => match dOne l with
    | none => none
    | some (r, t) => match dMany k t with
      | none => none
      | some (rs, u) => some (r :: rs, u)
theorem dOne_enc {r : Ru} (h : r.name.length ≤ 16 ∧ r.text.length ≤ 2048) (t : List UInt8) : dOne (encOne r ++ t) = some (r, t) := by
  unfold dOne encOne
  rw [List.append_assoc, List.append_assoc, dR_enc (by omega)]
  simp only
  rw [dR_enc (by omega)]
  simp only
  rw [dB_enc]
theorem dOne_sound {l : List UInt8} {r : Ru} {t : List UInt8} (h : dOne l = some (r, t)) : l = encOne r ++ t := by
  unfold dOne at h
  split at h
  · cases h
  rename_i a u e1
  split at h
  · cases h
  rename_i b v e2
  split at h
  · cases h
  rename_i c x e3
  cases h
  rw [(dR_sound e1).1, (dR_sound e2).1, dB_sound e3]
  simp [encOne]
theorem dMany_enc : ∀ (l : List Ru) (t : List UInt8), (∀ r ∈ l, r.name.length ≤ 16 ∧ r.text.length ≤ 2048) → dMany l.length (encMany l ++ t) = some (l, t)
  | [], t, _ => rfl
  | r :: l, t, h => by
    show dMany (l.length + 1) ((encOne r ++ encMany l) ++ t) = _
    rw [dMany, List.append_assoc, dOne_enc (h r (List.mem_cons_self ..))]
    simp only
    rw [dMany_enc l t fun x hx => h x (List.mem_cons_of_mem _ hx)]
theorem dMany_sound : ∀ (k : Nat) (l : List UInt8) (rs : List Ru) (t : List UInt8), dMany k l = some (rs, t) → l = encMany rs ++ t ∧ rs.length = k
  | 0, l, rs, t, h => by cases h; exact ⟨rfl, rfl⟩
  | k + 1, l, rs, t, h => by
    rw [dMany] at h
    split at h
    · cases h
    rename_i r u e1
    split at h
    · cases h
    rename_i rs' v e2
    cases h
    obtain ⟨h1, h2⟩ := dMany_sound k u rs' t e2
    refine ⟨?_, by simp [h2]⟩
    rw [dOne_sound e1, h1]
    simp [encMany]
/-- the well-formed list of rules with the given bytes -/
def decL (b : List UInt8) : Option (List Ru) := match dI b with
  | none => none
  | some (n, t) => if n < 0 ∨ 500 < n then none else match dMany n.toNat t with
    | none => none
    | some (l, u) => if u = [] ∧ formed l = true then some l else none
theorem decL_enc {l : List Ru} (h : formed l = true) : decL (encL l) = some l := by
  have h' := h
  unfold formed at h'
  simp only [Bool.and_eq_true, decide_eq_true_eq] at h'
  unfold decL encL
  rw [dI_enc ⟨by omega, by omega⟩]
  simp only
  rw [if_neg (by omega)]
  have e : (l.length : Int).toNat = l.length := by omega
  have := dMany_enc l [] (formedFrom_len h'.2)
  rw [List.append_nil] at this
  rw [e, this]
  simp [h]
theorem decL_sound {b : List UInt8} {l : List Ru} (h : decL b = some l) : b = encL l ∧ formed l = true := by
  unfold decL at h
  split at h
  · cases h
  rename_i n t e1
  split at h
  · cases h
  rename_i hn
  split at h
  · cases h
  rename_i rs u e2
  split at h
  · rename_i hu
    cases h
    obtain ⟨h1, h2⟩ := dMany_sound _ _ _ _ e2
    obtain ⟨h3, h4⟩ := dI_sound e1
    rw [hu.1, List.append_nil] at h1
    refine ⟨?_, hu.2⟩
    have : (l.length : Int) = n := by omega
    rw [h3, h1, encL, this]
  · cases h
end Go.Proofs.YtdacamjpcdbphaaGreatDoor
namespace Go.Proofs.YtdacamjpcdbphaaGreatDoor

def core (k : Nat) (r : List UInt8) : List UInt8 := encI k ++ encR r
/-- the frame of a record with its number, H being the hash -/
def frame (H : List UInt8 → Nat) (k : Nat) (r : List UInt8) : List UInt8 := encR (core k r) ++ uv (H (core k r))
theorem frame_pos (H : List UInt8 → Nat) (k : Nat) (r : List UInt8) : 1 ≤ (frame H k r).length := by
  unfold frame encR
  have := uv_pos (core k r).length
  simp only [List.length_append]; omega
theorem core_len (k : Nat) (r : List UInt8) (hk : k < 4611686018427387904) (hr : r.length < 4611686018427387904) : (core k r).length ≤ r.length + 20 := by
  unfold core encR encI
  have h1 := uv_ten (n := zz k) (by unfold zz; split <;> omega)
  have h2 := uv_ten (n := r.length) (by omega)
  simp only [List.length_append]; omega
theorem frame_len (H : List UInt8 → Nat) (hH : ∀ l, H l < 18446744073709551616) (k : Nat) (r : List UInt8) (hk : k < 4611686018427387904) (hr : r.length < 4611686018427387000) : (frame H k r).length ≤ r.length + 40 := by
  unfold frame encR
  have h0 := core_len k r hk (by omega)
  have h1 := uv_ten (n := (core k r).length) (by omega)
  have h2 := uv_ten (hH (core k r))
  simp only [List.length_append]; omega
/-- the length that bytes begin with -/
def headN (b : List UInt8) : Nat := match dU (b.take 10) with | some (n, _) => n | none => 0
/-- the record with a number whose frame the bytes begin with, and the frame's size -/
def fst (H : List UInt8 → Nat) (b : List UInt8) (k : Nat) : Option (List UInt8 × Nat) :=
  if b.length < (uv (headN b)).length ∨ b.length - (uv (headN b)).length < headN b then none
  else match dI ((b.drop (uv (headN b)).length).take (headN b)) with
    | none => none
    | some (i, t) => match dR t with
      | none => none
      | some (raw, u) => if u = [] ∧ i = (k : Int) ∧ (frame H k raw).isPrefixOf b = true then some (raw, (frame H k raw).length) else none
theorem fst_sound {H : List UInt8 → Nat} {b : List UInt8} {k : Nat} {r : List UInt8} {s : Nat} (h : fst H b k = some (r, s)) : frame H k r <+: b ∧ s = (frame H k r).length := by
  unfold fst at h
  split at h
  · cases h
  split at h
  · cases h
  split at h
  · cases h
  split at h
  · rename_i hc
    cases h
    exact ⟨List.isPrefixOf_iff_prefix.1 hc.2.2, rfl⟩
  · cases h
theorem fst_complete {H : List UInt8 → Nat} {b : List UInt8} {k : Nat} {r : List UInt8} (hk : k < 4611686018427387904) (hr : r.length < 4611686018427387000) (h : frame H k r <+: b) : fst H b k = some (r, (frame H k r).length) := by
  obtain ⟨t, rfl⟩ := h
  have hc := core_len k r hk (by omega)
  have hn : headN (frame H k r ++ t) = (core k r).length := by
    unfold headN frame encR
    have h10 := uv_ten (n := (core k r).length) (by omega)
    rw [List.append_assoc, List.append_assoc, List.take_append, List.take_of_length_le h10, dU_uv (by omega)]
  have hsp : frame H k r ++ t = uv (core k r).length ++ (core k r ++ (uv (H (core k r)) ++ t)) := by unfold frame encR; simp only [List.append_assoc]
  have hcut : ((frame H k r ++ t).drop (uv (core k r).length).length).take (core k r).length = core k r := by
    rw [hsp, List.drop_left, List.take_left]
  unfold fst
  rw [hn, hcut]
  rw [if_neg (by rw [hsp]; simp only [List.length_append]; omega)]
  have e1 : dI (core k r) = some ((k : Int), encR r) := dI_enc ⟨by omega, by omega⟩ _
  have e2 : dR (encR r) = some (r, []) := by
    have := dR_enc (x := r) (by omega) []
    rwa [List.append_nil] at this
  rw [e1]
  simp only
  rw [e2]
  simp only
  have hp : (frame H k r).isPrefixOf (frame H k r ++ t) = true := List.isPrefixOf_iff_prefix.2 (List.prefix_append _ _)
  simp [hp]
theorem fst_none {H : List UInt8 → Nat} {b : List UInt8} {k : Nat} (h : ∀ r : List UInt8, ¬ frame H k r <+: b) : fst H b k = none := by
  cases e : fst H b k with
  | none => rfl
  | some p => exact absurd (fst_sound (r := p.1) (s := p.2) e).1 (h _)
/-- frames that bytes begin with are one -/
theorem frame_one {H : List UInt8 → Nat} {b : List UInt8} {k : Nat} {r r' : List UInt8} (hk : k < 4611686018427387904) (hr : r.length < 4611686018427387000) (hr' : r'.length < 4611686018427387000) (h : frame H k r <+: b) (h' : frame H k r' <+: b) : r = r' := by
  have e := (fst_complete hk hr h).symm.trans (fst_complete hk hr' h')
  cases e; rfl
/-- a part of a frame begins with no frame -/
theorem fst_part {H : List UInt8 → Nat} (hH : ∀ l, H l < 18446744073709551616) {b : List UInt8} {k : Nat} {r : List UInt8} (hk : k < 4611686018427387904) (hr : r.length < 1000000000000) (h : b <+: frame H k r) (hl : b.length < (frame H k r).length) : fst H b k = none := by
  refine fst_none fun r' h' => ?_
  have h2 : frame H k r' <+: frame H k r := h'.trans h
  have hr' : r'.length < 4611686018427387000 := by
    have h3 := h2.length_le
    have h4 : r'.length ≤ (frame H k r').length := by unfold frame encR core encR; simp only [List.length_append]; omega
    have h6 := frame_len H hH k r hk (by omega)
    omega
  have := frame_one hk (by omega) hr' (List.prefix_refl _) h2
  subst this
  have := h'.length_le
  omega

/- all of them -/
/-- the frames of records, numbered from k on -/
def framesFrom (H : List UInt8 → Nat) : Nat → List (List UInt8) → List UInt8
  | _, [] => []
  | k, r :: t => frame H k r ++ framesFrom H (k + 1) t
theorem framesFrom_app (H : List UInt8 → Nat) : ∀ (k : Nat) (a b : List (List UInt8)), framesFrom H k (a ++ b) = framesFrom H k a ++ framesFrom H (k + a.length) b
  | k, [], b => by simp [framesFrom]
  | k, r :: a, b => by
    simp only [List.cons_append, framesFrom, List.length_cons, List.append_assoc]
    rw [framesFrom_app H (k + 1) a b, show k + 1 + a.length = k + (a.length + 1) by omega]
/-- the records of bytes from the number k on -/
def scan (H : List UInt8 → Nat) : Nat → List UInt8 → Nat → List (List UInt8)
  | 0, _, _ => []
  | f + 1, b, k => match fst H b k with
    | none => []
    | some (r, s) => r :: scan H f (b.drop s) (k + 1)
theorem scan_frames {H : List UInt8 → Nat} : ∀ (f k : Nat) (rs : List (List UInt8)) (t : List UInt8), rs.length < f → k + rs.length < 4611686018427387904 → (∀ r ∈ rs, r.length < 1000000000000) → fst H t (k + rs.length) = none → scan H f (framesFrom H k rs ++ t) k = rs
  | 0, _, _, _, h, _, _, _ => by omega
  | f + 1, k, [], t, _, _, _, h => by
    show scan H (f + 1) t k = []
    rw [scan]
    rw [show k + ([] : List (List UInt8)).length = k from rfl] at h
    rw [h]
  | f + 1, k, r :: rs, t, hf, hk, hr, h => by
    have hlen : (r :: rs).length = rs.length + 1 := rfl
    rw [hlen] at hf hk h
    show scan H (f + 1) ((frame H k r ++ framesFrom H (k + 1) rs) ++ t) k = _
    rw [List.append_assoc, scan, fst_complete (by omega) (by have := hr r (List.mem_cons_self ..); omega) (List.prefix_append _ _)]
    simp only
    rw [List.drop_left, scan_frames f (k + 1) rs t (by omega) (by omega) (fun x hx => hr x (List.mem_cons_of_mem _ hx)) (by rw [show k + 1 + rs.length = k + (rs.length + 1) by omega]; exact h)]
theorem fst_nil (H : List UInt8 → Nat) (k : Nat) : fst H [] k = none := by
  refine fst_none fun r h => ?_
  have h1 : (frame H k r).length ≤ 0 := h.length_le
  have := frame_pos H k r
  omega
end Go.Proofs.YtdacamjpcdbphaaGreatDoor
namespace Go.Proofs.YtdacamjpcdbphaaGreatDoor

def mix64 (s w : BitVec 64) : BitVec 64 := ((s ^^^ w) * 0x9E3779B97F4A7C15#64) ^^^ (((s ^^^ w) * 0x9E3779B97F4A7C15#64) >>> 32)
theorem shift_inj {x y : BitVec 64} (h : x ^^^ (x >>> 32) = y ^^^ (y >>> 32)) : x = y := by
  have e : ∀ z : BitVec 64, (z ^^^ (z >>> 32)) >>> 32 = z >>> 32 := fun z => by
    rw [BitVec.ushiftRight_xor_distrib, ← BitVec.shiftRight_add]
    have : z >>> (32 + 32) = 0#64 := BitVec.ushiftRight_eq_zero (by omega)
    rw [this, BitVec.xor_zero]
  have h1 : x >>> 32 = y >>> 32 := by rw [← e x, ← e y, h]
  rw [h1] at h
  have h2 := congrArg (· ^^^ (y >>> 32)) h
  simpa [BitVec.xor_assoc] using h2
theorem mul_inj {x y : BitVec 64} (h : x * 0x9E3779B97F4A7C15#64 = y * 0x9E3779B97F4A7C15#64) : x = y := by
  have e : 0x9E3779B97F4A7C15#64 * 0xf1de83e19937733d#64 = 1#64 := by decide
  have h2 := congrArg (· * 0xf1de83e19937733d#64) h
  simpa only [BitVec.mul_assoc, e, BitVec.mul_one] using h2
theorem mix_inj {s w s' w' : BitVec 64} (h : mix64 s w = mix64 s' w') : s ^^^ w = s' ^^^ w' := mul_inj (shift_inj h)
theorem mix_state {s s' w : BitVec 64} (h : mix64 s w = mix64 s' w) : s = s' := by
  have := congrArg (· ^^^ w) (mix_inj h)
  simpa [BitVec.xor_assoc] using this
theorem mix_word {s w w' : BitVec 64} (h : mix64 s w = mix64 s w') : w = w' := by
  have := congrArg (s ^^^ ·) (mix_inj h)
  simpa [← BitVec.xor_assoc] using this
/-- all words, one after the other -/
def mixAll (s : BitVec 64) (l : List (BitVec 64)) : BitVec 64 := l.foldl mix64 s
theorem mixAll_state {s s' : BitVec 64} : ∀ {l : List (BitVec 64)}, mixAll s l = mixAll s' l → s = s'
  | [], h => h
  | w :: l, h => mix_state (mixAll_state (l := l) h)
/-- lists that differ in one place alone -/
theorem mixAll_one {s : BitVec 64} {a b : List (BitVec 64)} {x y : BitVec 64} (h : mixAll s (a ++ x :: b) = mixAll s (a ++ y :: b)) : x = y := by
  unfold mixAll at h
  rw [List.foldl_append, List.foldl_append] at h
  exact mix_word (mixAll_state (l := b) h)
/-- a word of bytes, the least significant one first -/
def word : List UInt8 → Nat
  | [] => 0
  | b :: t => b.toNat + 256 * word t
theorem word_lt : ∀ (l : List UInt8), word l < 256 ^ l.length
  | [] => by simp [word]
  | b :: t => by
    have := word_lt t
    have hb := b.toNat_lt
    simp only [word, List.length_cons, Nat.pow_succ]
    omega
theorem word_inj : ∀ {a b : List UInt8}, a.length = b.length → word a = word b → a = b
  | [], [], _, _ => rfl
  | x :: a, y :: b, hl, h => by
    have hx := x.toNat_lt
    have hy := y.toNat_lt
    simp only [word] at h
    have h1 : x.toNat = y.toNat := by omega
    have h2 : word a = word b := by omega
    rw [UInt8.toNat_inj.1 h1, word_inj (by simpa using hl) h2]
  | [], _ :: _, h, _ => by simp at h
  | _ :: _, [], h, _ => by simp at h
/-- the words of bytes, eight bytes a word -/
def wordsOf : List UInt8 → List Nat
  | [] => []
  | b :: t => word ((b :: t).take 8) :: wordsOf ((b :: t).drop 8)
termination_by l => l.length
decreasing_by simp; omega
theorem wordsOf_nil : wordsOf [] = [] := by rw [wordsOf]
theorem wordsOf_cons {l : List UInt8} (h : l ≠ []) : wordsOf l = word (l.take 8) :: wordsOf (l.drop 8) := by
  cases l with
  | nil => exact absurd rfl h
  | cons b t => rw [wordsOf]
theorem wordsOf_eight {a : List UInt8} (h : a.length = 8) (t : List UInt8) : wordsOf (a ++ t) = word a :: wordsOf t := by
  rw [wordsOf_cons (by intro e; have e := congrArg List.length e; rw [List.length_append] at e; simp only [List.length_nil] at e; omega), List.take_append_of_le_length (by omega), List.take_of_length_le (by omega)]
  rw [List.drop_append_of_le_length (by omega), List.drop_of_length_le (by omega), List.nil_append]
theorem wordsOf_lt : ∀ (n : Nat) (l : List UInt8), l.length ≤ n → ∀ w ∈ wordsOf l, w < 18446744073709551616
  | _, [], _, w, hw => by rw [wordsOf_nil] at hw; cases hw
  | 0, _ :: _, h, _, _ => by simp at h
  | n + 1, b :: t, h, w, hw => by
    rw [wordsOf] at hw
    rcases List.mem_cons.1 hw with rfl | hw
    · have := word_lt ((b :: t).take 8)
      have h2 : 256 ^ ((b :: t).take 8).length ≤ 256 ^ 8 := Nat.pow_le_pow_right (by omega) (List.length_take_le _ _)
      omega
    · exact wordsOf_lt n _ (by simp at h ⊢; omega) w hw
/-- bytes of one length: one byte changed changes one word -/
theorem wordsOf_one : ∀ (n : Nat) (l m : List UInt8), l.length ≤ n → l.length = m.length → (∃ i, i < l.length ∧ (∀ j, j ≠ i → l[j]? = m[j]?) ∧ l[i]? ≠ m[i]?) → ∃ a x y b, wordsOf l = a ++ x :: b ∧ wordsOf m = a ++ y :: b ∧ x ≠ y
  | n, [], _, _, _, ⟨i, hi, _⟩ => by simp at hi
  | 0, _ :: _, _, h, _, _ => by simp at h
  | n + 1, p :: t, [], _, h, _ => by simp at h
  | n + 1, p :: t, q :: u, hn, hl, ⟨i, hi, h1, h2⟩ => by
    rw [wordsOf_cons (l := p :: t) (by simp), wordsOf_cons (l := q :: u) (by simp)]
    by_cases h8 : i < 8
    · have hd : (p :: t).drop 8 = (q :: u).drop 8 := List.ext_getElem? fun j => by rw [List.getElem?_drop, List.getElem?_drop]; exact h1 _ (by omega)
      refine ⟨[], _, _, _, rfl, by rw [← hd]; rfl, fun e => h2 ?_⟩
      have := word_inj (by simp only [List.length_take]; rw [hl]) e
      have e5 : ((p :: t).take 8)[i]? = ((q :: u).take 8)[i]? := congrArg (fun z : List UInt8 => z[i]?) this
      rw [List.getElem?_take, List.getElem?_take, if_pos h8, if_pos h8] at e5
      exact e5
    · have ht : (p :: t).take 8 = (q :: u).take 8 := List.ext_getElem? fun j => by
        rw [List.getElem?_take, List.getElem?_take]
        split
        · exact h1 _ (by omega)
        · rfl
      obtain ⟨a, x, y, b, e1, e2, e3⟩ := wordsOf_one n ((p :: t).drop 8) ((q :: u).drop 8) (by simp at hn ⊢; omega) (by simp only [List.length_drop]; rw [hl])
        ⟨i - 8, by simp only [List.length_drop]; omega, fun j hj => by rw [List.getElem?_drop, List.getElem?_drop]; exact h1 _ (by omega), by rw [List.getElem?_drop, List.getElem?_drop]; rw [show 8 + (i - 8) = i by omega]; exact h2⟩
      refine ⟨word ((p :: t).take 8) :: a, x, y, b, by rw [e1]; rfl, by rw [ht, e2]; rfl, e3⟩
/-- the hash of a label and words -/
def sum64 (label : List UInt8) (l : List Nat) : BitVec 64 :=
  mix64 (mixAll (mix64 (mix64 (mixAll 0#64 ((wordsOf label).map (BitVec.ofNat 64))) (BitVec.ofNat 64 label.length)) (BitVec.ofNat 64 l.length)) (l.map (BitVec.ofNat 64))) 0#64
/-- the hash of a label and bytes -/
def hashB (label l : List UInt8) : Nat := (sum64 label (wordsOf l ++ [l.length])).toNat
theorem hashB_lt (label l : List UInt8) : hashB label l < 18446744073709551616 := (sum64 label _).isLt
theorem hashB_one {label l m : List UInt8} (hl : l.length = m.length) (h : ∃ i, i < l.length ∧ (∀ j, j ≠ i → l[j]? = m[j]?) ∧ l[i]? ≠ m[i]?) : hashB label l ≠ hashB label m := by
  obtain ⟨a, x, y, b, e1, e2, e3⟩ := wordsOf_one _ l m (Nat.le_refl _) hl h
  intro e
  unfold hashB at e
  have e := BitVec.eq_of_toNat_eq e
  unfold sum64 at e
  have e := mix_state e
  rw [e1, e2, hl] at e
  have hlen : (a ++ x :: b ++ [m.length]).length = (a ++ y :: b ++ [m.length]).length := by simp
  rw [hlen] at e
  simp only [List.map_append, List.map_cons, List.append_assoc, List.cons_append] at e
  have e := mixAll_one e
  have hx : x < 18446744073709551616 := wordsOf_lt _ l (Nat.le_refl _) x (by rw [e1]; simp)
  have hy : y < 18446744073709551616 := wordsOf_lt _ m (Nat.le_refl _) y (by rw [e2]; simp)
  have e := congrArg BitVec.toNat e
  simp only [BitVec.toNat_ofNat] at e
  rw [Nat.mod_eq_of_lt hx, Nat.mod_eq_of_lt hy] at e
  exact e3 e
end Go.Proofs.YtdacamjpcdbphaaGreatDoor
namespace Go.Proofs.YtdacamjpcdbphaaGreatDoor
open Go Go.RowKit

/-- nothing has changed but the blocks F, and what is new -/
structure Chg (F : Nat → Prop) (w w' : World) : Prop where
  os : w'.os = w.os
  tape : w'.tape = w.tape
  output : w'.output = w.output
  size : w.heap.size ≤ w'.heap.size
  block : ∀ k, k < w.heap.size → ¬ F k → w'.heap[k]? = w.heap[k]?
section
variable {F G : Nat → Prop} {a b c : World}
theorem Chg.refl (F : Nat → Prop) (w : World) : Chg F w w := ⟨rfl, rfl, rfl, Nat.le_refl _, fun _ _ _ => rfl⟩
theorem Chg.trans (h : Chg F a b) (k : Chg G b c) (hG : ∀ i, i < a.heap.size → G i → F i) : Chg F a c :=
  ⟨k.os.trans h.os, k.tape.trans h.tape, k.output.trans h.output, Nat.le_trans h.size k.size, fun i hi hf => (k.block i (Nat.lt_of_lt_of_le hi h.size) fun e => hf (hG i hi e)).trans (h.block i hi hf)⟩
theorem Chg.more (h : Chg F a b) (hG : ∀ i, i < a.heap.size → F i → G i) : Chg G a b := ⟨h.os, h.tape, h.output, h.size, fun k hk hf => h.block k hk fun e => hf (hG k hk e)⟩
theorem Chg.of_below (h : Below a.heap.size a b) : Chg F a b := ⟨h.os, h.tape, h.output, h.size, fun k hk _ => h.block k hk⟩
theorem Chg.to_below (h : Chg F a b) {B : Nat} (hB : B ≤ a.heap.size) (hF : ∀ i, i < a.heap.size → F i → B ≤ i) : Below B a b :=
  ⟨h.os, h.tape, h.output, h.size, fun k hk => h.block k (Nat.lt_of_lt_of_le hk hB) fun e => by have := hF k (Nat.lt_of_lt_of_le hk hB) e; omega⟩
theorem Chg.then_below (h : Chg F a b) {B : Nat} (k : Below B b c) (hB : a.heap.size ≤ B) : Chg F a c :=
  ⟨k.os.trans h.os, k.tape.trans h.tape, k.output.trans h.output, Nat.le_trans h.size k.size, fun i hi hf => (k.block i (Nat.lt_of_lt_of_le hi hB)).trans (h.block i hi hf)⟩
theorem Chg.alloc (h : Chg F a b) (o : Obj) : Chg F a (b.alloc o) := h.then_below ((Below.refl a.heap.size b).alloc h.size o) (Nat.le_refl _)
theorem Chg.drew (h : Chg F a b) : Chg F a b.drew := h.then_below (Below.refl a.heap.size b).drew (Nat.le_refl _)
theorem Chg.setCell (h : Chg F a b) {p : Addr} (hp : a.heap.size ≤ p.block ∨ F p.block) (u : Value) : Chg F a (b.setCell p u) :=
  ⟨h.os, h.tape, h.output, by simp only [World.setCell, Array.size_modify]; exact h.size, fun k hk hf => (Below.heap_setCell b p u k (fun e => by subst e; rcases hp with hp | hp; omega; exact hf hp)).trans (h.block k hk hf)⟩
theorem Chg.grown {row : Option Nat} (h : Chg F a b) (hg : b.grownBy c row) (hr : ∀ k, row = some k → a.heap.size ≤ k ∨ F k) : Chg F a c :=
  ⟨hg.os.trans h.os, hg.tape.trans h.tape, hg.output.trans h.output, Nat.le_trans h.size hg.size, fun k hk hf => (hg.block k (Nat.lt_of_lt_of_le hk h.size) (fun e => by rcases hr k e.symm with h1 | h1; omega; exact hf h1)).trans (h.block k hk hf)⟩
theorem Chg.cell (h : Chg F a b) {p : Addr} (hp : p.block < a.heap.size) (hf : ¬ F p.block) : b.cell? p = a.cell? p := World.cell?_of_block (w := a) (h.block _ hp hf)
theorem Chg.frozen (h : Chg F a b) {p : Addr} (hp : p.block < a.heap.size) (hf : ¬ F p.block) : b.frozen? p = a.frozen? p := World.frozen?_of_block (w := a) (h.block _ hp hf)
end

/-- block g is the cells cs -/
def Blk (w : World) (g : Nat) (t : TypeId) (cs : Array Value) : Prop := w.heap[g]? = some (.cells cs t (0, 0))
section
variable {F : Nat → Prop} {w w' : World} {g : Nat} {t : TypeId} {cs : Array Value}
theorem Blk.lt (h : Blk w g t cs) : g < w.heap.size := (Array.getElem?_eq_some_iff.1 h).1
theorem Blk.at' (h : Blk w g t cs) (i : Nat) : w.cell? ⟨g, i, none⟩ = cs[i]? := by simp [World.cell?, show w.heap[g]? = _ from h]
theorem Blk.thaw (h : Blk w g t cs) (i : Nat) : w.frozen? ⟨g, i, none⟩ = false := by simp [World.frozen?, show w.heap[g]? = _ from h]
theorem Blk.made (w : World) (t : TypeId) (cs : Array Value) : Blk (w.alloc (.cells cs t)) w.heap.size t cs := heap_alloc_new w _
theorem Blk.chg (h : Blk w g t cs) (hc : Chg F w w') (hf : ¬ F g) : Blk w' g t cs := (hc.block g h.lt hf).trans h
theorem Blk.bel {B : Nat} (h : Blk w g t cs) (hc : Below B w w') (hf : g < B) : Blk w' g t cs := (hc.block g hf).trans h
theorem Blk.alloc (h : Blk w g t cs) (o : Obj) : Blk (w.alloc o) g t cs := (Below.heap_alloc w o g h.lt).trans h
theorem Blk.put (h : Blk w g t cs) (i : Nat) (u : Value) : Blk (w.setCell ⟨g, i, none⟩ u) g t (cs.setIfInBounds i u) := by
  unfold Blk at h ⊢
  simp [World.setCell, Array.getElem?_modify, h]
theorem Blk.away (h : Blk w g t cs) {p : Addr} (hp : g ≠ p.block) (u : Value) : Blk (w.setCell p u) g t cs := (Below.heap_setCell w p u g hp).trans h
theorem Blk.grown {row : Option Nat} (h : Blk w g t cs) (hb : w.grownBy w' row) (hg : some g ≠ row) : Blk w' g t cs := (hb.block g h.lt hg).trans h
/-- blocks of two types are two -/
theorem Blk.two {g' : Nat} {t' : TypeId} {cs' : Array Value} (h : Blk w g t cs) (h' : Blk w g' t' cs') (hne : t ≠ t') : g ≠ g' := by
  rintro rfl
  have e := (show w.heap[g]? = _ from h).symm.trans h'
  cases e
  exact hne rfl
end
section
variable {F : Nat → Prop} {w w' : World} {base : Nat} {e : TypeId} {size : Nat} {v : Value} {n : Nat} {xs : List Value}
theorem row_chg (h : w.ownsRow base e size v n xs) (hc : Chg F w w') (hf : ∀ g, v.ownBlock = some g → ¬ F g) : w'.ownsRow base e size v n xs := by
  refine ⟨h.1, h.2.imp id ?_⟩
  rintro ⟨g, cap, cur, rfl, h2, h3, h4⟩
  exact ⟨g, cap, cur, rfl, h2, (hc.block g (Array.getElem?_eq_some_iff.1 h3).1 (hf g rfl)).trans h3, h4⟩
theorem row_set (h : w.ownsRow base e size v n xs) {p : Addr} (hp : v.ownBlock ≠ some p.block) (u : Value) : (w.setCell p u).ownsRow base e size v n xs := by
  refine ⟨h.1, h.2.imp id ?_⟩
  rintro ⟨g, cap, cur, rfl, h2, h3, h4⟩
  exact ⟨g, cap, cur, rfl, h2, (Below.heap_setCell w p u g (fun e => hp (by rw [← e]; rfl))).trans h3, h4⟩
theorem row_blk (h : w.ownsRow base e size v n xs) {g : Nat} {t : TypeId} {cs : Array Value} (hb : Blk w g t cs) (hne : e ≠ t) : v.ownBlock ≠ some g := by
  rcases h.2 with ⟨rfl, _⟩ | ⟨g', cap, cur, rfl, _, h3, _⟩
  · intro e; cases e
  · intro he
    cases he
    have e := h3.symm.trans hb
    cases e
    exact hne rfl
theorem row_form (h : w.ownsRow base e size v n xs) : ∃ A c, v = .slice A n c ∧ n ≤ c := by
  rcases h.2 with ⟨rfl, rfl⟩ | ⟨g, cap, cur, rfl, _, _, h4, _⟩
  · exact ⟨_, _, rfl, Nat.le_refl _⟩
  · exact ⟨_, _, rfl, h4⟩
theorem row_base {B : Nat} (h : w.ownsRow base e size v n xs) (hB : B ≤ base) : w.ownsRow B e size v n xs := by
  refine ⟨h.1, h.2.imp id ?_⟩
  rintro ⟨g, cap, cur, rfl, h2, h3⟩
  exact ⟨g, cap, cur, rfl, by omega, h3⟩
end
theorem add_flat (b s i : Nat) : (⟨b, s, none⟩ : Addr).add i = ⟨b, s + i, none⟩ := by
  unfold Addr.add
  split
  · rename_i h; subst h; rfl
  · rfl
/-- a slice that reads as the cells xs, wherever it lies -/
def Sees (w : World) (size : Nat) (v : Value) (xs : List Value) : Prop :=
  ∃ A n c, v = .slice A n c ∧ xs.length = n * size ∧ n ≤ c ∧ (n ≠ 0 → ∃ b s, A = some ⟨b, s, none⟩ ∧ b < w.heap.size ∧ ∀ i u, xs[i]? = some u → w.cell? ⟨b, s + i, none⟩ = some u)
section
variable {F : Nat → Prop} {w w' : World} {size : Nat} {v : Value} {xs : List Value}
/-- the block that a slice leads to, where it has an element -/
def Value.leads : Value → Option Nat
  | .slice (some a) (_ + 1) _ => some a.block
  | _ => none
theorem Sees.row {base : Nat} {e : TypeId} {n : Nat} (h : w.ownsRow base e size v n xs) : Sees w size v xs := by
  rcases h.2 with ⟨rfl, rfl⟩ | ⟨g, cap, cur, rfl, h2, h3, h4, _⟩
  · exact ⟨_, _, _, rfl, h.1, Nat.le_refl _, fun h => absurd rfl h⟩
  · refine ⟨_, _, _, rfl, h.1, h4, fun _ => ⟨g, 0, rfl, (Array.getElem?_eq_some_iff.1 h3).1, fun i u hi => ?_⟩⟩
    have := h.cells (g := g) rfl i u hi
    rw [add_flat] at this
    simpa using this
theorem Sees.keep (h : Sees w size v xs) (hs : w.heap.size ≤ w'.heap.size) (hc : ∀ g, Value.leads v = some g → w'.heap[g]? = w.heap[g]?) : Sees w' size v xs := by
  obtain ⟨A, n, c, rfl, h1, h2, h3⟩ := h
  refine ⟨A, n, c, rfl, h1, h2, fun hn => ?_⟩
  obtain ⟨b, s, rfl, hb, hcell⟩ := h3 hn
  obtain ⟨m, rfl⟩ : ∃ m, n = m + 1 := ⟨n - 1, by omega⟩
  exact ⟨b, s, rfl, by omega, fun i u hi => (World.cell?_of_block (hc b rfl)).trans (hcell i u hi)⟩
theorem Sees.chg (h : Sees w size v xs) (hc : Chg F w w') (hf : ∀ g, Value.leads v = some g → ¬ F g) : Sees w' size v xs := by
  refine h.keep hc.size fun g hg => hc.block g ?_ (hf g hg)
  obtain ⟨A, n, c, rfl, h1, h2, h3⟩ := h
  cases n with
  | zero => cases A <;> cases hg
  | succ m =>
    obtain ⟨b, s, rfl, hb, _⟩ := h3 (by omega)
    cases hg
    exact hb
theorem Sees.bel (h : Sees w size v xs) (hc : Below w.heap.size w w') : Sees w' size v xs := h.chg (F := fun _ => False) (Chg.of_below hc) fun _ _ h => h
theorem Sees.alloc (h : Sees w size v xs) (o : Obj) : Sees (w.alloc o) size v xs := h.bel ((Below.refl _ _).alloc (Nat.le_refl _) o)
theorem Sees.nil (w : World) (size : Nat) : Sees w size (.slice none 0 0) [] := ⟨_, _, _, rfl, by simp, Nat.le_refl _, fun h => absurd rfl h⟩
end
/-- bytes as cells -/
def bv (l : List UInt8) : List Value := l.map fun b => .int .u8 (b.toNat : Int)
theorem bv_len (l : List UInt8) : (bv l).length = l.length := List.length_map ..
theorem bv_app (a b : List UInt8) : bv (a ++ b) = bv a ++ bv b := List.map_append ..
theorem bv_one (l : List UInt8) : ∀ u ∈ bv l, u.oneCell' = true := fun u hu => by
  obtain ⟨b, _, rfl⟩ := List.mem_map.1 hu; rfl
theorem info_parts' {P : Program} {t : TypeId} {z : Value} {n m : Nat} (h : (P.info? t).map (fun i => (i.zero, i.size, i.bytes)) = some (some z, n, m)) : ∃ i, P.info? t = some i ∧ i.zero = some z ∧ i.size = n ∧ i.bytes = m := by
  cases hi : P.info? t with
  | none => rw [hi] at h; cases h
  | some i =>
    rw [hi] at h
    simp only [Option.map_some, Option.some.injEq, Prod.mk.injEq] at h
    exact ⟨i, rfl, h.1, h.2.1, h.2.2⟩

section
variable {P : Program} {w : World} {base : Nat} {e : TypeId} {size : Nat}
theorem grown_refl (w : World) (r : Option Nat) : w.grownBy w r := ⟨rfl, rfl, rfl, Nat.le_refl _, fun _ _ _ => rfl⟩
/-- append of what a slice reads as: the row is the old one or a new one -/
theorem wpList_append_sees {ops : Array Oper} {rest : List Oper} {o : Oper} {a : Act} {Q : Exit → Act → World → Prop} (hgd : o.guard = none) (s x : Operand) (t : TypeId)
    (ho : o.op = .call { callee := .builtin .append, args := #[s, x], argTypes := #[t, t] })
    (i : TypeInfo) (z : Value) (bytes : Nat) (ht : P.underlying t = some (.slice e)) (hi : P.info? e = some i) (hz : i.zero = some z)
    (hsize : i.size = size) (hby : i.bytes = bytes) (hzs : z.cells.size = size) (hsz : 0 < size)
    (v : Value) (n : Nat) (xs : List Value) (hs : a.eval s = v) (hown : w.ownsRow base e size v n xs)
    (u : Value) (m : Nat) (news : List Value) (hx : a.eval x = u) (hrow : Sees w size u news) (hm : news.length = m * size) (h1 : ∀ u ∈ news, u.oneCell' = true)
    (h63 : n + m ≤ maxLen) (hbytes : (n + m) * bytes ≤ 140737488355328) (hbase : base ≤ w.heap.size)
    (h : ∀ v' w', w'.ownsRow base e size v' (n + m) (xs ++ news) → w.grownBy w' v.ownBlock → (v'.ownBlock = v.ownBlock ∨ ∃ g, v'.ownBlock = some g ∧ w.heap.size ≤ g) → wpList P ops Q rest (a.put o.dst v') w') :
    wpList P ops Q (o :: rest) a w := by
  have key : ∃ v' w', (Builtin.append_ #[t, t] o.type #[v, u]).run P w = .ok v' w' ∧ w'.ownsRow base e size v' (n + m) (xs ++ news) ∧ w.grownBy w' v.ownBlock ∧ (v'.ownBlock = v.ownBlock ∨ ∃ g, v'.ownBlock = some g ∧ w.heap.size ≤ g) := by
    obtain ⟨A, m', c, rfl, k1, k2, k3⟩ := hrow
    have hmm : m' = m := Nat.eq_of_mul_eq_mul_right hsz (k1.symm.trans hm)
    subst hmm
    cases A with
    | none =>
      have hm0 : m' = 0 := by
        rcases Nat.eq_zero_or_pos m' with h0 | h0
        · exact h0
        · obtain ⟨b, s, hb, _⟩ := k3 (by omega)
          cases hb
      subst hm0
      have hn : news = [] := List.length_eq_zero_iff.1 (by simpa using k1)
      subst hn
      refine ⟨v, w, ?_, by simpa using hown, grown_refl _ _, .inl rfl⟩
      rcases hown.2 with ⟨rfl, rfl⟩ | ⟨g, cap, cur, rfl, _, _, hnc, _⟩
      · simp [Builtin.append_, run_underlying ht, sizeOf, typeInfo, hi, Builtin.lenOf, Builtin.firstCells]
      · simp [Builtin.append_, run_underlying ht, sizeOf, typeInfo, hi, Builtin.lenOf, Builtin.firstCells, hnc, storeCells]
    | some ad =>
      have hcells : ∀ j u, news[j]? = some u → w.cell? (ad.add j) = some u := by
        intro j u hj
        have hlen := (List.getElem?_eq_some_iff.1 hj).1
        obtain ⟨b, s, hb, _, hc⟩ := k3 (fun e => by subst e; rw [Nat.zero_mul] at k1; omega)
        cases hb
        rw [add_flat]
        exact hc j u hj
      obtain ⟨v', w', h2, h3, h4, _, h5⟩ := run_append_own_at w base t o.type e i z size bytes ht hi hz hsize hby hzs hsz v n xs hown ad m' c news k1 hcells h1 h63 hbytes hbase
      exact ⟨v', w', h2, h3, h4, h5.imp id fun h => ⟨_, h, Nat.le_refl _⟩⟩
  obtain ⟨v', w', hr, h3, h4, h5⟩ := key
  refine wpList_plain hgd fun K hK => ?_
  unfold Oper.wp execOp
  simp only [ho, resolve, invoke, builtin, Sem.run_bind, Sem.run_pure, Result.andThen_ok, List.map_toArray, List.map_cons, List.map_nil, hs, hx, hr]
  exact hK _ _ (h v' w' h3 h4 h5)
end
end Go.Proofs.YtdacamjpcdbphaaGreatDoor
namespace Go.Proofs.YtdacamjpcdbphaaGreatDoor
open Go Go.RowKit

theorem info5 : (Tryz.prog.info? 5).map (fun i => (i.zero, i.size, i.bytes)) = some (some (.int .u8 0), 1, 1) := by kernel_rfl
/-- a writer in the block p, which has the bytes l in the slice v -/
structure WrAt (w : World) (B p : Nat) (v : Value) (l : List UInt8) : Prop where
  blk : Blk w p 63 #[v]
  row : w.ownsRow B 5 1 v l.length (bv l)
/-- the writer's blocks: its own one, and that of its bytes -/
def WrF (p : Nat) (v : Value) (k : Nat) : Prop := k = p ∨ v.ownBlock = some k
/-- what one of the writer's functions leaves: its bytes, in the old block or a new one -/
structure Wrote (w : World) (B p : Nat) (v : Value) (w' : World) (v' : Value) (l : List UInt8) : Prop where
  wr : WrAt w' B p v' l
  chg : Chg (WrF p v) w w'
  own : v'.ownBlock = v.ownBlock ∨ ∃ g, v'.ownBlock = some g ∧ w.heap.size ≤ g
section
variable {w w1 w2 : World} {B p : Nat} {v v1 v2 : Value} {l l1 l2 : List UInt8}
theorem WrAt.refl (h : WrAt w B p v l) : Wrote w B p v w v l := ⟨h, Chg.refl _ _, .inl rfl⟩
theorem Wrote.trans (h : Wrote w B p v w1 v1 l1) (k : Wrote w1 B p v1 w2 v2 l2) : Wrote w B p v w2 v2 l2 := by
  refine ⟨k.wr, h.chg.trans k.chg fun i hi hf => ?_, ?_⟩
  · rcases hf with rfl | hf
    · exact .inl rfl
    · rcases h.own with e | ⟨g, e, hg⟩
      · exact .inr (by rw [← e]; exact hf)
      · rw [e] at hf; cases hf; omega
  · rcases k.own with e | ⟨g, e, hg⟩
    · rw [e]; exact h.own
    · exact .inr ⟨g, e, Nat.le_trans h.chg.size hg⟩
theorem WrAt.alloc (h : WrAt w B p v l) (o : Obj) : WrAt (w.alloc o) B p v l := ⟨h.blk.alloc o, row_chg h.row ((Chg.refl (fun _ => False) w).alloc o) fun _ _ h => h⟩
theorem Wrote.alloc (h : Wrote w B p v w1 v1 l1) (o : Obj) : Wrote w B p v (w1.alloc o) v1 l1 := ⟨h.wr.alloc o, h.chg.alloc o, h.own⟩
theorem WrAt.ne (h : WrAt w B p v l) : v.ownBlock ≠ some p := row_blk h.row h.blk (by decide)
/-- bytes more -/
theorem WrAt.more (h : WrAt w B p v l) (x : List UInt8) (hrow : w1.ownsRow B 5 1 v1 (l.length + x.length) (bv l ++ bv x)) (hg : w.grownBy w1 v.ownBlock) (hv : v1.ownBlock = v.ownBlock ∨ ∃ g, v1.ownBlock = some g ∧ w.heap.size ≤ g) :
    Wrote w B p v (w1.setCell ⟨p, 0, none⟩ v1) v1 (l ++ x) := by
  have hb1 : Blk w1 p 63 #[v] := h.blk.grown hg fun e => h.ne e.symm
  have hpr' : v1.ownBlock ≠ some p := row_blk hrow hb1 (by decide)
  refine ⟨⟨by simpa using hb1.put 0 v1, ?_⟩, ((Chg.refl _ w).grown hg fun k hk => .inr (.inr hk)).setCell (.inr (.inl rfl)) _, hv⟩
  have := row_set hrow (p := ⟨p, 0, none⟩) hpr' v1
  rw [List.length_append, bv_app]
  exact this
end
/-- a slice literal of one byte -/
theorem sees_one (wr : World) (x : Value) : Sees (wr.alloc (.cells #[x] 5)) 1 (.slice (some ⟨wr.heap.size, 0, none⟩) 1 1) [x] :=
  Sees.row (base := 0) (e := 5) (n := 1) ⟨rfl, .inr ⟨_, 1, _, rfl, Nat.zero_le _, heap_alloc_new _ _, Nat.le_refl _, by unfold maxLen; omega, rfl, rfl⟩⟩
set_option maxRecDepth 100000 in
theorem or128 (m : Nat) : bits .or .u8 ((m : Int) % 256) 128 = ((UInt8.ofNat (m % 128 + 128)).toNat : Int) := by
  have key : ∀ x : Fin 256, bits .or .u8 ((x.val : Nat) : Int) 128 = ((x.val % 128 + 128 : Nat) : Int) := by decide
  have h := key ⟨m % 256, Nat.mod_lt _ (by omega)⟩
  have e : ((m : Int) % 256) = ((m % 256 : Nat) : Int) := by omega
  rw [e, h, toNat_ofNat (by omega)]
  have : m % 256 % 128 = m % 128 := by omega
  show ((m % 256 % 128 + 128 : Nat) : Int) = _
  rw [this]
set_option maxRecDepth 1000000 in
theorem uint_walk {w : World} {B p : Nat} {v : Value} {l : List UInt8} (h : WrAt w B p v l) (hB : B ≤ w.heap.size) (hl : l.length ≤ 1000000000) {n : Nat} (hn : n < 18446744073709551616) :
    Calls Tryz.prog 45 #[.pointer (some ⟨p, 0, none⟩), .int .u64 n] w fun e w' => e = .returned (.tuple #[]) ∧ ∃ v', Wrote w B p v w' v' (l ++ uv n) := by
  obtain ⟨i0, hi0, hz0, hz1, hz2⟩ := info_parts' info5
  have hten := uv_ten hn
  go_enter Tryz.func45, Tryz.ntmps45
  go_wp2
  go_loopw [1] (fun nv wr => ∃ (m : Nat) (v1 : Value) (l1 : List UInt8), nv = .int .u64 m ∧ m < 18446744073709551616 ∧ Wrote w B p v wr v1 l1 ∧ Hid (l1 ++ uv m = l ++ uv n)) (fun nv _ => (intOf nv).toNat)
  case atStart => exact ⟨n, v, l, rfl, hn, h.refl, rfl⟩
  case round =>
    obtain ⟨m, v1, l1, rfl, hm, hW, hid⟩ := hrel
    have hp := hW.wr.blk.at' 0
    have hpt := hW.wr.blk.thaw 0
    have hplt := hW.wr.blk.lt
    simp only [List.getElem?_toArray, List.getElem?_cons_zero] at hp
    have hsee := sees_one wr
    have hwa := fun (x : Value) => hW.alloc (.cells #[x] 5)
    have hlen : l1.length ≤ 1000000010 := by
      have := congrArg List.length hid.out
      simp only [List.length_append] at this
      omega
    have h63 : l1.length + 1 ≤ maxLen := by unfold maxLen; omega
    have hby : (l1.length + 1) * 1 ≤ 140737488355328 := by omega
    have hbs : ∀ x : Value, B ≤ (wr.alloc (.cells #[x] 5)).heap.size := fun x => by have := hW.chg.size; simp; omega
    have hne := hW.wr.ne
    by_cases h128 : 128 ≤ m
    · have hm2 : (m : Int) ≤ 18446744073709551615 := by omega
      have hor := Lib.hid (or128 m)
      go_wp2_with (first | (at_builtin; refine wpList_append_sees rfl _ _ 23 rfl i0 _ 1 Tryz.underlying23 hi0 hz0 hz1 hz2 rfl (by decide) v1 _ _ rfl (hwa _).wr.row _ 1 _ rfl (hsee _) rfl (by intro u hu; simp at hu; subst hu; rfl) h63 hby (hbs _) ?_; intro v2 w2 hrow2 hgrow2 hown2; obtain ⟨A2, k2, rfl, _⟩ := row_form hrow2; have hbk2 := (hwa _).wr.blk.grown hgrow2 (fun e => hne e.symm); have hp2 := hbk2.at' 0; have hpt2 := hbk2.thaw 0; simp only [List.getElem?_toArray, List.getElem?_cons_zero] at hp2) | go_in)
      go_roundw
      case rel =>
        rw [hor.out] at hrow2
        have hfin := (hwa _).trans ((hwa _).wr.more [UInt8.ofNat (m % 128 + 128)] hrow2 hgrow2 hown2)
        refine ⟨m / 128, _, _, by go_num, by omega, hfin, ?_⟩
        have h1 := hid.out
        rw [uv_big (by omega)] at h1
        rw [← h1]
        simp only [List.append_assoc]
        rfl
      case measure => simp [intOf]; omega
    · have hm2 : (m : Int) < 128 := by omega
      have hmm : (m : Int) % 256 = m := by omega
      go_wp2_with (first | (at_builtin; refine wpList_append_sees rfl _ _ 23 rfl i0 _ 1 Tryz.underlying23 hi0 hz0 hz1 hz2 rfl (by decide) v1 _ _ rfl (hwa _).wr.row _ 1 _ rfl (hsee _) rfl (by intro u hu; simp at hu; subst hu; rfl) h63 hby (hbs _) ?_; intro v2 w2 hrow2 hgrow2 hown2; obtain ⟨A2, k2, rfl, _⟩ := row_form hrow2; have hbk2 := (hwa _).wr.blk.grown hgrow2 (fun e => hne e.symm); have hp2 := hbk2.at' 0; have hpt2 := hbk2.thaw 0; simp only [List.getElem?_toArray, List.getElem?_cons_zero] at hp2) | go_in)
      go_end0
      refine ⟨rfl, ?_⟩
      have e1 : ((UInt8.ofNat m).toNat : Int) = m := by rw [toNat_ofNat (by omega)]
      have hfin := (hwa _).trans ((hwa _).wr.more [UInt8.ofNat m] (by show World.ownsRow _ _ _ _ _ _ (bv l1 ++ [.int .u8 ((UInt8.ofNat m).toNat : Int)]); rw [e1]; exact hrow2) hgrow2 hown2)
      have h1 := hid.out
      rw [uv_small (by omega)] at h1
      rw [← h1]
      exact ⟨_, hfin⟩
set_option maxRecDepth 1000000 in
theorem bool_walk {w : World} {B p : Nat} {v1 : Value} {l : List UInt8} (h : WrAt w B p v1 l) (hB : B ≤ w.heap.size) (hl : l.length ≤ 1000000000) (b : Bool) :
    Calls Tryz.prog 25 #[.pointer (some ⟨p, 0, none⟩), .bool b] w fun e w' => e = .returned (.tuple #[]) ∧ ∃ v', Wrote w B p v1 w' v' (l ++ encB b) := by
  obtain ⟨i0, hi0, hz0, hz1, hz2⟩ := info_parts' info5
  have hp := h.blk.at' 0
  have hpt := h.blk.thaw 0
  have hplt := h.blk.lt
  simp only [List.getElem?_toArray, List.getElem?_cons_zero] at hp
  have hsee := sees_one w
  have hwa := fun (x : Value) => h.refl.alloc (.cells #[x] 5)
  have h63 : l.length + 1 ≤ maxLen := by unfold maxLen; omega
  have hby : (l.length + 1) * 1 ≤ 140737488355328 := by omega
  have hbs : ∀ x : Value, B ≤ (w.alloc (.cells #[x] 5)).heap.size := fun x => by simp; omega
  have hne := h.ne
  cases b with
  | true =>
    go_enter Tryz.func25, Tryz.ntmps25
    go_wp2_with (first | (at_builtin; refine wpList_append_sees rfl _ _ 23 rfl i0 _ 1 Tryz.underlying23 hi0 hz0 hz1 hz2 rfl (by decide) v1 _ _ rfl (hwa _).wr.row _ 1 _ rfl (hsee _) rfl (by intro u hu; simp at hu; subst hu; rfl) h63 hby (hbs _) ?_; intro v2 w2 hrow2 hgrow2 hown2; obtain ⟨A2, k2, rfl, _⟩ := row_form hrow2; have hbk2 := (hwa _).wr.blk.grown hgrow2 (fun e => hne e.symm); have hp2 := hbk2.at' 0; have hpt2 := hbk2.thaw 0; simp only [List.getElem?_toArray, List.getElem?_cons_zero] at hp2) | go_in)
    refine bodyPost_ret (results_none rfl _ _ _) rfl ?_
    exact ⟨rfl, _, (hwa _).trans ((hwa _).wr.more [1] hrow2 hgrow2 hown2)⟩
  | false =>
    go_enter Tryz.func25, Tryz.ntmps25
    go_wp2_with (first | (at_builtin; refine wpList_append_sees rfl _ _ 23 rfl i0 _ 1 Tryz.underlying23 hi0 hz0 hz1 hz2 rfl (by decide) v1 _ _ rfl (hwa _).wr.row _ 1 _ rfl (hsee _) rfl (by intro u hu; simp at hu; subst hu; rfl) h63 hby (hbs _) ?_; intro v2 w2 hrow2 hgrow2 hown2; obtain ⟨A2, k2, rfl, _⟩ := row_form hrow2; have hbk2 := (hwa _).wr.blk.grown hgrow2 (fun e => hne e.symm); have hp2 := hbk2.at' 0; have hpt2 := hbk2.thaw 0; simp only [List.getElem?_toArray, List.getElem?_cons_zero] at hp2) | go_in)
    go_end0
    exact ⟨rfl, _, (hwa _).trans ((hwa _).wr.more [0] hrow2 hgrow2 hown2)⟩
theorem zz_bits (z : Int) (h : In64 z) : bits .xor .u64 (IntKind.u64.wrap (IntKind.u64.wrap z * 2)) (IntKind.u64.wrap (z / 9223372036854775808)) = (zz z : Int) := by
  obtain ⟨h1, h2⟩ := h
  by_cases hz : z < 0
  · have e1 : z / 9223372036854775808 = -1 := by omega
    have hk := Lib.zigzag_neg h1 hz
    obtain ⟨y, hy⟩ : ∃ y : Nat, IntKind.u64.wrap (IntKind.u64.wrap z * 2) = (y : Int) := Int.eq_ofNat_of_zero_le (by rw [IntKind.wrap_u64]; omega)
    have hy2 : y < 18446744073709551616 := by rw [IntKind.wrap_u64] at hy; omega
    rw [e1, show IntKind.u64.wrap (-1) = ((18446744073709551615 : Nat) : Int) by rw [IntKind.wrap_u64]; omega, hy, bits_xor_u64_nat _ _ hy2 (by omega), Nat.xor_comm]
    rw [show IntKind.u64.max = ((18446744073709551615 : Nat) : Int) by rfl, hy, bits_xor_u64_nat _ _ (by omega) hy2] at hk
    rw [hk]
    unfold Lib.zigzag zz
    rw [if_neg (by omega), if_pos hz]
    omega
  · have e1 : z / 9223372036854775808 = 0 := by omega
    obtain ⟨y, hy⟩ : ∃ y : Nat, z = (y : Int) := Int.eq_ofNat_of_zero_le (by omega)
    subst hy
    rw [e1, show IntKind.u64.wrap 0 = ((0 : Nat) : Int) by rw [IntKind.wrap_u64]; omega, show IntKind.u64.wrap (IntKind.u64.wrap (y : Int) * 2) = ((2 * y : Nat) : Int) by rw [IntKind.wrap_u64, IntKind.wrap_u64]; omega, bits_xor_u64_nat _ _ (by omega) (by omega)]
    unfold zz
    rw [if_neg hz]
    simp
set_option maxRecDepth 1000000 in
theorem int_walk {w : World} {B p : Nat} {v1 : Value} {l : List UInt8} (h : WrAt w B p v1 l) (hB : B ≤ w.heap.size) (hl : l.length ≤ 1000000000) {z : Int} (hz : In64 z) :
    Calls Tryz.prog 23 #[.pointer (some ⟨p, 0, none⟩), .int .i64 z] w fun e w' => e = .returned (.tuple #[]) ∧ ∃ v', Wrote w B p v1 w' v' (l ++ encI z) := by
  have hu := uint_walk h hB hl (zz_lt hz)
  rw [← zz_bits z hz] at hu
  obtain ⟨z1, z2⟩ := hz
  go_enter Tryz.func23, Tryz.ntmps23
  go_wp2_with (first
    | (go_at_call 45; refine hu.mono ?_; rintro _ w1 ⟨rfl, v2, hW⟩)
    | go_in)
  go_end0
  exact ⟨rfl, _, hW⟩
set_option maxRecDepth 1000000 in
theorem raw_walk {w : World} {B p : Nat} {v1 b : Value} {l x : List UInt8} (h : WrAt w B p v1 l) (hB : B ≤ w.heap.size) (hl : l.length ≤ 900000000) (hx : x.length ≤ 90000000) (hb : Sees w 1 b (bv x)) (hbf : ∀ g, Value.leads b = some g → ¬ WrF p v1 g) :
    Calls Tryz.prog 24 #[.pointer (some ⟨p, 0, none⟩), b] w fun e w' => e = .returned (.tuple #[]) ∧ ∃ v', Wrote w B p v1 w' v' (l ++ encR x) := by
  obtain ⟨i0, hi0, hz0, hz1, hz2⟩ := info_parts' info5
  have hten := uv_ten (n := x.length) (by omega)
  have hu := uint_walk h hB (by omega) (n := x.length) (by omega)
  obtain ⟨m, hm⟩ : ∃ m, l ++ uv x.length = m := ⟨_, rfl⟩
  have hml : m.length ≤ 900000010 := by rw [← hm, List.length_append]; omega
  have hme : l ++ encR x = m ++ x := by rw [← hm, List.append_assoc]; rfl
  rw [hm] at hu
  rw [hme]
  clear hm hme
  obtain ⟨A, n, c, rfl, hn, hnc, hrd⟩ := id hb
  have hxn : x.length = n := by have := hn; rw [bv_len] at this; omega
  subst hxn
  go_enter Tryz.func24, Tryz.ntmps24
  go_wp2_with (first
    | (go_at_call 45; refine hu.mono ?_; rintro _ w1 ⟨rfl, v2, hW⟩; have hp := hW.wr.blk.at' 0; have hpt := hW.wr.blk.thaw 0; have hplt := hW.wr.blk.lt; simp only [List.getElem?_toArray, List.getElem?_cons_zero] at hp; have hsz := hW.chg.size; have hbs := hb.chg hW.chg hbf)
    | (at_builtin; refine wpList_append_sees rfl _ _ 23 rfl i0 _ 1 Tryz.underlying23 hi0 hz0 hz1 hz2 rfl (by decide) v2 _ _ rfl hW.wr.row _ x.length _ rfl hbs hn (bv_one x) (by unfold maxLen; omega) (by omega) (by omega) ?_; intro v3 w2 hrow2 hgrow2 hown2; obtain ⟨A2, k2, rfl, _⟩ := row_form hrow2; have hbk2 := hW.wr.blk.grown hgrow2 (fun e => hW.wr.ne e.symm); have hp2 := hbk2.at' 0; have hpt2 := hbk2.thaw 0; simp only [List.getElem?_toArray, List.getElem?_cons_zero] at hp2)
    | go_in)
  go_end0
  exact ⟨rfl, _, hW.trans (hW.wr.more x hrow2 hgrow2 hown2)⟩
set_option maxRecDepth 1000000 in
theorem done_walk {w : World} {B p : Nat} {v1 : Value} {l : List UInt8} (h : WrAt w B p v1 l) (hl : l.length ≤ 1000000000) :
    Calls Tryz.prog 26 #[.pointer (some ⟨p, 0, none⟩)] w fun e w' => ∃ u, e = .returned u ∧ w'.ownsRow w.heap.size 5 1 u l.length (bv l) ∧ Below w.heap.size w w' := by
  obtain ⟨i0, hi0, hz0, hz1, hz2⟩ := info_parts' info5
  have hp := h.blk.at' 0
  have hplt := h.blk.lt
  simp only [List.getElem?_toArray, List.getElem?_cons_zero] at hp
  have h63 : 0 + l.length ≤ maxLen := by unfold maxLen; omega
  have hby : (0 + l.length) * 1 ≤ 140737488355328 := by omega
  have hs1 := (Sees.row h.row).alloc (.cells #[] 5)
  have hmade := World.ownsRow_made (e := 5) (size := 1) (base := w.heap.size) w #[] 0 (Nat.le_refl _) (Nat.zero_le _) rfl
  go_enter Tryz.func26, Tryz.ntmps26
  go_wp2_with (first
    | (at_builtin; refine wpList_append_sees rfl _ _ 23 rfl i0 _ 1 Tryz.underlying23 hi0 hz0 hz1 hz2 rfl (by decide) _ 0 [] rfl hmade v1 l.length _ rfl hs1 h.row.1 (bv_one l) h63 hby (by simp) ?_; intro v2 w2 hrow2 hgrow2 hown2)
    | go_in)
  go_ret
  refine ⟨_, rfl, ?_, ((Below.refl _ _).alloc (Nat.le_refl _) _).grown hgrow2 (by simp) fun k hk => by cases hk; exact Nat.le_refl _⟩
  simpa using hrow2
end Go.Proofs.YtdacamjpcdbphaaGreatDoor
namespace Go.Proofs.YtdacamjpcdbphaaGreatDoor
open Go Go.RowKit

theorem row_at {w : World} {B : Nat} {e : TypeId} {v : Value} {n : Nat} {xs : List Value} (h : w.ownsRow B e 1 v n xs) {i : Nat} (hi : i < n) :
    ∃ g c, v = .slice (some ⟨g, 0, none⟩) n c ∧ g < w.heap.size ∧ w.cell? ⟨g, i, none⟩ = xs[i]? := by
  rcases h.2 with ⟨rfl, rfl⟩ | ⟨g, cap, cur, rfl, h2, h3, h4, _⟩
  · omega
  · refine ⟨g, cap, rfl, (Array.getElem?_eq_some_iff.1 h3).1, ?_⟩
    have := h.cellAt i (by omega)
    exact this
/-- how a reader stands: what is left to read, or that it went wrong -/
structure RdAt (w : World) (B p : Nat) (v : Value) (l : List UInt8) (s : Option (List UInt8)) : Prop where
  row : w.ownsRow B 5 1 v l.length (bv l)
  st : ∃ (i : Nat) (e : Int), Blk w p 75 #[v, .int .i64 i, .int .i64 e] ∧ i ≤ l.length ∧ (∀ t, s = some t → e = 0 ∧ l.drop i = t) ∧ (s = none → e ≠ 0)
  len : l.length ≤ 100000000
/-- the block p alone -/
def Only (p k : Nat) : Prop := k = p
def oV : Option (List UInt8) → Int
  | some (b :: _) => (b.toNat : Int)
  | _ => 0
def oS : Option (List UInt8) → Option (List UInt8)
  | some (_ :: t) => some t
  | _ => none
section
variable {w w1 : World} {B p : Nat} {v : Value} {l : List UInt8} {s : Option (List UInt8)}
theorem RdAt.ne (h : RdAt w B p v l s) : v.ownBlock ≠ some p := by
  obtain ⟨i, e, hb, _⟩ := h.st
  exact row_blk h.row hb (by decide)
theorem RdAt.put1 (h : RdAt w B p v l s) {i' : Nat} {e : Int} {s' : Option (List UInt8)} (i : Nat) (hb : Blk w p 75 #[v, .int .i64 i, .int .i64 e]) (hi : i' ≤ l.length) (h1 : ∀ t, s' = some t → e = 0 ∧ l.drop i' = t) (h2 : s' = none → e ≠ 0) :
    RdAt (w.setCell ⟨p, 1, none⟩ (.int .i64 i')) B p v l s' := by
  refine ⟨row_set h.row h.ne _, ⟨i', e, ?_, hi, h1, h2⟩, h.len⟩
  have := hb.put 1 (.int .i64 i')
  simpa using this
theorem RdAt.put2 (h : RdAt w B p v l s) {e : Int} (e' : Int) (i : Nat) (hb : Blk w p 75 #[v, .int .i64 i, .int .i64 e]) (hi : i ≤ l.length) (h2 : e' ≠ 0) :
    RdAt (w.setCell ⟨p, 2, none⟩ (.int .i64 e')) B p v l none := by
  refine ⟨row_set h.row h.ne _, ⟨i, e', ?_, hi, (fun t ht => by cases ht), (fun _ => h2)⟩, h.len⟩
  have := hb.put 2 (.int .i64 e')
  simpa using this
theorem RdAt.alloc (h : RdAt w B p v l s) (o : Obj) : RdAt (w.alloc o) B p v l s := by
  obtain ⟨i, e, hb, hi, h1, h2⟩ := h.st
  exact ⟨row_chg h.row ((Chg.refl (fun _ => False) w).alloc o) fun _ _ h => h, ⟨i, e, hb.alloc o, hi, h1, h2⟩, h.len⟩
theorem Blk.drew {g : Nat} {ty : TypeId} {cs : Array Value} (h : Blk w g ty cs) : Blk w.drew g ty cs := h
theorem RdAt.drew (h : RdAt w B p v l s) : RdAt w.drew B p v l s := by
  obtain ⟨i, e, hb, hi, h1, h2⟩ := h.st
  exact ⟨row_chg h.row (Chg.refl (fun _ => False) w).drew fun _ _ h => h, ⟨i, e, hb.drew, hi, h1, h2⟩, h.len⟩
theorem setCell_cell_far (w : World) (a p : Addr) {u : Value} (h : p.block ≠ a.block) : (w.setCell a u).cell? p = w.cell? p := World.cell?_of_block (w := w) (Below.heap_setCell _ _ _ _ h)
end
set_option maxRecDepth 1000000 in
theorem octet_walk {w : World} {B p : Nat} {v : Value} {l : List UInt8} {s : Option (List UInt8)} (h : RdAt w B p v l s) :
    Calls Tryz.prog 47 #[.pointer (some ⟨p, 0, none⟩)] w fun e w' => e = .returned (.int .u8 (oV s)) ∧ RdAt w' B p v l (oS s) ∧ Chg (Only p) w w' := by
  obtain ⟨i, e, hb, hi, hs, hn⟩ := h.st
  have hrow := h.row
  have hlen := h.len
  have c0 := hb.at' 0
  have c1 := hb.at' 1
  have c2 := hb.at' 2
  have f1 := hb.thaw 1
  have f2 := hb.thaw 2
  have hplt := hb.lt
  simp at c0 c1 c2
  obtain ⟨A, c, rfl, hnc⟩ := row_form hrow
  match s, hs, hn, h with
  | none, hs, hn, h =>
    have he : (e != 0) = true := by simpa using hn rfl
    go_enter Tryz.func47, Tryz.ntmps47
    go_wp2
    go_ret
    exact ⟨rfl, h, Chg.refl _ _⟩
  | some [], hs, hn, h =>
    obtain ⟨rfl, hd⟩ := hs [] rfl
    have hil : i = l.length := by have := List.drop_eq_nil_iff.1 hd; omega
    subst hil
    have hfin := h.put2 3 l.length hb (Nat.le_refl _) (by decide)
    go_enter Tryz.func47, Tryz.ntmps47
    go_wp2
    go_region
    go_wp2
    go_ret
    exact ⟨rfl, hfin.drew, ((Chg.refl (Only p) _).setCell (p := ⟨p, 2, none⟩) (.inr rfl) _).drew⟩
  | some (b :: t), hs, hn, h =>
    obtain ⟨rfl, hd⟩ := hs (b :: t) rfl
    have hil : i < l.length := by
      rcases Nat.lt_or_ge i l.length with h1 | h1
      · exact h1
      · rw [List.drop_eq_nil_iff.2 h1] at hd; cases hd
    have hli : l[i] = b ∧ l.drop (i + 1) = t := by
      rw [List.drop_eq_getElem_cons hil] at hd
      cases hd
      exact ⟨rfl, rfl⟩
    obtain ⟨g, c', hv, hglt, hcell⟩ := row_at hrow hil
    cases hv
    have hcell : w.cell? ⟨g, i, none⟩ = some (.int .u8 (b.toNat : Int)) := by
      rw [hcell]; simp [bv, List.getElem?_eq_getElem hil, hli.1]
    have hpg : ¬ p = g := fun e => h.ne (by rw [e]; rfl)
    have hcell2 : (w.setCell ⟨p, 1, none⟩ (.int .i64 ((i : Int) + 1))).drew.drew.cell? ⟨g, i, none⟩ = some (.int .u8 (b.toNat : Int)) :=
      (setCell_cell_far w ⟨p, 1, none⟩ ⟨g, i, none⟩ (fun e => hpg e.symm)).trans hcell
    have hfin : RdAt (w.setCell ⟨p, 1, none⟩ (.int .i64 (i + 1 : Nat))) B p _ l (some t) := h.put1 i hb (by omega) (fun t' ht => by cases ht; exact ⟨rfl, hli.2⟩) (fun h => by cases h)
    go_enter Tryz.func47, Tryz.ntmps47
    go_wp2
    go_region
    go_wp2
    go_region
    go_wp2
    go_ret
    exact ⟨rfl, hfin.drew.drew, ((Chg.refl (Only p) _).setCell (p := ⟨p, 1, none⟩) (.inr rfl) _).drew.drew⟩
theorem oS_app (b : UInt8) (t : List UInt8) : oS (some (b :: t)) = some t := rfl
def uN (s : Option (List UInt8)) : Nat := match s.bind dU with | some (n, _) => n | none => 0
def uS (s : Option (List UInt8)) : Option (List UInt8) := match s.bind dU with | some (_, t) => some t | none => none
/-- what the loop has read so far, and what is to come -/
def Mid (s : Option (List UInt8)) (i acc : Nat) (cur : Option (List UInt8)) : Prop :=
  (i = 0 ∧ acc = 0 ∧ cur = s) ∨ (0 < i ∧ acc < 128 ^ i ∧ ∃ t0 t, s = some t0 ∧ cur = some t ∧ dU t0 = dgo (10 - i) i acc t)
theorem or_bits {i acc m : Nat} (hi : i < 10) (ha : acc < 128 ^ i) (hb : m < 256) (h9 : i = 9 → m ≤ 1) :
    bits .or .u64 (acc : Int) (IntKind.u64.wrap (IntKind.u64.wrap (bits .and .u8 (m : Int) 127) * 2 ^ (7 * i))) = ((acc + m % 128 * 128 ^ i : Nat) : Int) := by
  rw [u8_and127 (x := (m : Int)) (by omega) (by omega), IntKind.wrap_u64]
  rcases (show i = 0 ∨ i = 1 ∨ i = 2 ∨ i = 3 ∨ i = 4 ∨ i = 5 ∨ i = 6 ∨ i = 7 ∨ i = 8 ∨ i = 9 by omega) with rfl | rfl | rfl | rfl | rfl | rfl | rfl | rfl | rfl | rfl
  · simp only [Nat.reduceMul, Int.reducePow, Nat.reducePow, IntKind.wrap_u64] at ha ⊢
    rw [show (m : Int) % 128 % 18446744073709551616 * 1 % 18446744073709551616 = (m : Int) % 128 * 1 by omega, u64_orv0 (x := (m : Int) % 128 * 1) (y := (acc : Int)) (by omega) (by omega) (by omega) (by omega) (by omega)]
    omega
  · simp only [Nat.reduceMul, Int.reducePow, Nat.reducePow, IntKind.wrap_u64] at ha ⊢
    rw [show (m : Int) % 128 % 18446744073709551616 * 128 % 18446744073709551616 = (m : Int) % 128 * 128 by omega, u64_orv7 (x := (m : Int) % 128 * 128) (y := (acc : Int)) (by omega) (by omega) (by omega) (by omega) (by omega)]
    omega
  · simp only [Nat.reduceMul, Int.reducePow, Nat.reducePow, IntKind.wrap_u64] at ha ⊢
    rw [show (m : Int) % 128 % 18446744073709551616 * 16384 % 18446744073709551616 = (m : Int) % 128 * 16384 by omega, u64_orv14 (x := (m : Int) % 128 * 16384) (y := (acc : Int)) (by omega) (by omega) (by omega) (by omega) (by omega)]
    omega
  · simp only [Nat.reduceMul, Int.reducePow, Nat.reducePow, IntKind.wrap_u64] at ha ⊢
    rw [show (m : Int) % 128 % 18446744073709551616 * 2097152 % 18446744073709551616 = (m : Int) % 128 * 2097152 by omega, u64_orv21 (x := (m : Int) % 128 * 2097152) (y := (acc : Int)) (by omega) (by omega) (by omega) (by omega) (by omega)]
    omega
  · simp only [Nat.reduceMul, Int.reducePow, Nat.reducePow, IntKind.wrap_u64] at ha ⊢
    rw [show (m : Int) % 128 % 18446744073709551616 * 268435456 % 18446744073709551616 = (m : Int) % 128 * 268435456 by omega, u64_orv28 (x := (m : Int) % 128 * 268435456) (y := (acc : Int)) (by omega) (by omega) (by omega) (by omega) (by omega)]
    omega
  · simp only [Nat.reduceMul, Int.reducePow, Nat.reducePow, IntKind.wrap_u64] at ha ⊢
    rw [show (m : Int) % 128 % 18446744073709551616 * 34359738368 % 18446744073709551616 = (m : Int) % 128 * 34359738368 by omega, u64_orv35 (x := (m : Int) % 128 * 34359738368) (y := (acc : Int)) (by omega) (by omega) (by omega) (by omega) (by omega)]
    omega
  · simp only [Nat.reduceMul, Int.reducePow, Nat.reducePow, IntKind.wrap_u64] at ha ⊢
    rw [show (m : Int) % 128 % 18446744073709551616 * 4398046511104 % 18446744073709551616 = (m : Int) % 128 * 4398046511104 by omega, u64_orv42 (x := (m : Int) % 128 * 4398046511104) (y := (acc : Int)) (by omega) (by omega) (by omega) (by omega) (by omega)]
    omega
  · simp only [Nat.reduceMul, Int.reducePow, Nat.reducePow, IntKind.wrap_u64] at ha ⊢
    rw [show (m : Int) % 128 % 18446744073709551616 * 562949953421312 % 18446744073709551616 = (m : Int) % 128 * 562949953421312 by omega, u64_orv49 (x := (m : Int) % 128 * 562949953421312) (y := (acc : Int)) (by omega) (by omega) (by omega) (by omega) (by omega)]
    omega
  · simp only [Nat.reduceMul, Int.reducePow, Nat.reducePow, IntKind.wrap_u64] at ha ⊢
    rw [show (m : Int) % 128 % 18446744073709551616 * 72057594037927936 % 18446744073709551616 = (m : Int) % 128 * 72057594037927936 by omega, u64_orv56 (x := (m : Int) % 128 * 72057594037927936) (y := (acc : Int)) (by omega) (by omega) (by omega) (by omega) (by omega)]
    omega
  · simp only [Nat.reduceMul, Int.reducePow, Nat.reducePow, IntKind.wrap_u64] at ha ⊢
    rw [show (m : Int) % 128 % 18446744073709551616 * 9223372036854775808 % 18446744073709551616 = (m : Int) % 128 * 9223372036854775808 by omega, u64_orv63 (x := (m : Int) % 128 * 9223372036854775808) (y := (acc : Int)) (by omega) (by omega) (by omega) (by omega) (by omega)]
    omega
theorem mid_bad {s cur : Option (List UInt8)} {i acc : Nat} (h : Mid s i acc cur) (hi : i < 10) (hc : cur = none ∨ cur = some []) : uN s = 0 ∧ uS s = none := by
  have key : s.bind dU = none := by
    rcases h with ⟨rfl, rfl, rfl⟩ | ⟨h0, _, t0, t, rfl, rfl, hd⟩
    · rcases hc with rfl | rfl
      · rfl
      · rfl
    · rcases hc with hc | hc
      · cases hc
      · cases hc
        obtain ⟨k, hk⟩ : ∃ k, 10 - i = k + 1 := ⟨9 - i, by omega⟩
        show dU t0 = none
        rw [hd, hk]; rfl
  unfold uN uS
  rw [key]
  exact ⟨rfl, rfl⟩
theorem mid_step {s : Option (List UInt8)} {i acc : Nat} {b : UInt8} {t : List UInt8} (h : Mid s i acc (some (b :: t))) (hi : i < 10) :
    s.bind dU = (if (i = 9 ∧ 1 < b.toNat) ∨ (0 < i ∧ b.toNat = 0) then none else if b.toNat < 128 then some (acc + b.toNat % 128 * 128 ^ i, t) else dgo (9 - i) (i + 1) (acc + b.toNat % 128 * 128 ^ i) t) ∧ acc < 128 ^ i ∧ ∃ t0, s = some t0 := by
  obtain ⟨k, hk⟩ : ∃ k, 10 - i = k + 1 := ⟨9 - i, by omega⟩
  have hk' : 9 - i = k := by omega
  rcases h with ⟨rfl, rfl, rfl⟩ | ⟨h0, h1, t0, t', rfl, hc, hd⟩
  · exact ⟨rfl, by simp, _, rfl⟩
  · cases hc
    refine ⟨?_, h1, _, rfl⟩
    show dU t0 = _
    rw [hd, hk, hk']; rfl
theorem mid_wrong {s : Option (List UInt8)} {i acc : Nat} {b : UInt8} {t : List UInt8} (h : Mid s i acc (some (b :: t))) (hi : i < 10) (hb : (i = 9 ∧ 1 < b.toNat) ∨ (0 < i ∧ b.toNat = 0)) : uN s = 0 ∧ uS s = none := by
  have := (mid_step h hi).1
  rw [if_pos hb] at this
  unfold uN uS
  rw [this]
  exact ⟨rfl, rfl⟩
theorem mid_last {s : Option (List UInt8)} {i acc : Nat} {b : UInt8} {t : List UInt8} (h : Mid s i acc (some (b :: t))) (hi : i < 10) (hb : ¬ ((i = 9 ∧ 1 < b.toNat) ∨ (0 < i ∧ b.toNat = 0))) (h1 : b.toNat < 128) : uN s = acc + b.toNat % 128 * 128 ^ i ∧ uS s = some t := by
  have := (mid_step h hi).1
  rw [if_neg hb, if_pos h1] at this
  unfold uN uS
  rw [this]
  exact ⟨rfl, rfl⟩
theorem mid_next {s : Option (List UInt8)} {i acc : Nat} {b : UInt8} {t : List UInt8} (h : Mid s i acc (some (b :: t))) (hi : i < 10) (hb : ¬ ((i = 9 ∧ 1 < b.toNat) ∨ (0 < i ∧ b.toNat = 0))) (h1 : 128 ≤ b.toNat) : Mid s (i + 1) (acc + b.toNat % 128 * 128 ^ i) (some t) := by
  obtain ⟨h2, h3, t0, rfl⟩ := mid_step h hi
  rw [if_neg hb, if_neg (by omega)] at h2
  refine .inr ⟨by omega, ?_, t0, t, rfl, rfl, ?_⟩
  · have : b.toNat % 128 * 128 ^ i ≤ 127 * 128 ^ i := Nat.mul_le_mul_right _ (by omega)
    rw [Nat.pow_succ]
    omega
  · rw [show 10 - (i + 1) = 9 - i by omega]; exact h2
theorem hid_mid_wrong {s : Option (List UInt8)} {i acc : Nat} {b : UInt8} {t : List UInt8} (h : Hid (Mid s i acc (some (b :: t)))) (hi : i < 10) (hb : (i = 9 ∧ 1 < b.toNat) ∨ (0 < i ∧ b.toNat = 0)) : Hid (uN s = 0 ∧ uS s = none) := mid_wrong h.out hi hb
theorem hid_mid_last {s : Option (List UInt8)} {i acc : Nat} {b : UInt8} {t : List UInt8} (h : Hid (Mid s i acc (some (b :: t)))) (hi : i < 10) (hb : ¬ ((i = 9 ∧ 1 < b.toNat) ∨ (0 < i ∧ b.toNat = 0))) (h1 : b.toNat < 128) : Hid (uN s = acc + b.toNat % 128 * 128 ^ i ∧ uS s = some t) := mid_last h.out hi hb h1
theorem hid_mid_next {s : Option (List UInt8)} {i acc : Nat} {b : UInt8} {t : List UInt8} (h : Hid (Mid s i acc (some (b :: t)))) (hi : i < 10) (hb : ¬ ((i = 9 ∧ 1 < b.toNat) ∨ (0 < i ∧ b.toNat = 0))) (h1 : 128 ≤ b.toNat) : Hid (Mid s (i + 1) (acc + b.toNat % 128 * 128 ^ i) (some t)) := mid_next h.out hi hb h1
theorem mid_full {s cur : Option (List UInt8)} {acc : Nat} (h : Mid s 10 acc cur) : uN s = acc ∧ uS s = cur := by
  rcases h with ⟨h0, _⟩ | ⟨h0, _, t0, t, rfl, rfl, hd⟩
  · omega
  · have : (some t0).bind dU = some (acc, t) := hd
    unfold uN uS
    rw [this]
    exact ⟨rfl, rfl⟩
set_option maxRecDepth 1000000 in
theorem ruint_walk {w : World} {B p : Nat} {v : Value} {l : List UInt8} {s : Option (List UInt8)} (h : RdAt w B p v l s) :
    Calls Tryz.prog 34 #[.pointer (some ⟨p, 0, none⟩)] w fun e w' => e = .returned (.int .u64 (uN s : Int)) ∧ RdAt w' B p v l (uS s) ∧ Chg (Only p) w w' := by
  go_enter Tryz.func34, Tryz.ntmps34
  go_wp2
  go_loopw [3, 6] (fun n iv wr => ∃ (i acc : Nat) (cur : Option (List UInt8)), n = .int .u64 acc ∧ iv = .int .i64 i ∧ i ≤ 10 ∧ RdAt wr B p v l cur ∧ Chg (Only p) w wr ∧ Hid (Mid s i acc cur)) (fun _ iv _ => 10 - (intOf iv).toNat)
  case atStart => exact ⟨0, 0, s, rfl, rfl, by omega, h, Chg.refl _ _, .inl ⟨rfl, rfl, rfl⟩⟩
  case round =>
    obtain ⟨i, acc, cur, rfl, rfl, hi, hR, hC, hM⟩ := hrel
    have ho := octet_walk hR
    by_cases hi10 : i < 10
    · have hi63 : (i : Int) < 10 := by omega
      match cur, hM, hR, ho with
      | some (b :: t), hM, hR, ho =>
        have hb256 := b.toNat_lt
        have m1 := hid_mid_wrong hM hi10
        have m2 := hid_mid_last hM hi10
        have m3 := hid_mid_next hM hi10
        have hacc := (mid_step hM.out hi10).2.1
        obtain ⟨m, hm⟩ : ∃ m, b.toNat = m := ⟨_, rfl⟩
        rw [show oV (some (b :: t)) = ((b.toNat : Nat) : Int) from rfl, oS_app, hm] at ho
        rw [hm] at hb256 m1 m2 m3
        have hbits := fun h9 => Lib.hid (or_bits (i := i) (acc := acc) (m := m) hi10 hacc hb256 h9)
        clear hM hm
        by_cases hbad : (i = 9 ∧ 1 < m) ∨ (0 < i ∧ m = 0)
        · obtain ⟨q1, q2⟩ := (m1 hbad).out
          go_wp2_with (first
            | (go_at_call 47; refine ho.mono ?_; rintro _ w1 ⟨rfl, hR1, hC1⟩; obtain ⟨i1, e1, hb1, hi1, hs1, _⟩ := hR1.st; obtain ⟨rfl, hd1⟩ := hs1 _ rfl; have c2 := hb1.at' 2; have f2 := hb1.thaw 2; have hplt := hb1.lt; simp at c2; have hfin := hR1.put2 2 i1 hb1 hi1 (by decide))
            | go_in)
          all_goals first
            | (exfalso; simp at *; omega)
            | (go_ret; exact ⟨by first | rfl | (rw [q1]; rfl), by first | exact hfin | (rw [q2]; exact hfin), (hC.trans hC1 fun _ _ h => h).setCell (p := ⟨p, 2, none⟩) (.inr rfl) _⟩)
        · have hb9 := hbits (by omega)
          by_cases h128 : m < 128
          · obtain ⟨q1, q2⟩ := (m2 hbad h128).out
            go_wp2_with (first
              | (go_at_call 47; refine ho.mono ?_; rintro _ w1 ⟨rfl, hR1, hC1⟩; obtain ⟨i1, e1, hb1, hi1, hs1, _⟩ := hR1.st; obtain ⟨rfl, hd1⟩ := hs1 _ rfl; have c2 := hb1.at' 2; have f2 := hb1.thaw 2; have hplt := hb1.lt; simp at c2)
              | go_in)
            all_goals first
              | (exfalso; simp at *; omega)
              | (have hb9' := hb9.out; rw [hb9']; go_ret; exact ⟨by first | rfl | (rw [q1]; rfl) | rw [q1], by first | exact hR1 | (rw [q2]; exact hR1), hC.trans hC1 fun _ _ h => h⟩)
              | (have h9i : i = 9 := by { omega }; subst h9i; have hb9' := hb9.out; simp only [Nat.reduceMul, Int.reducePow] at hb9'; rw [hb9']; go_ret; exact ⟨by first | rfl | (rw [q1]; rfl) | rw [q1], by first | exact hR1 | (rw [q2]; exact hR1), hC.trans hC1 fun _ _ h => h⟩)
          · have q := m3 hbad (by omega)
            go_wp2_with (first
              | (go_at_call 47; refine ho.mono ?_; rintro _ w1 ⟨rfl, hR1, hC1⟩; obtain ⟨i1, e1, hb1, hi1, hs1, _⟩ := hR1.st; obtain ⟨rfl, hd1⟩ := hs1 _ rfl; have c2 := hb1.at' 2; have f2 := hb1.thaw 2; have hplt := hb1.lt; simp at c2)
              | go_in)
            all_goals first
              | (exfalso; simp at *; omega)
              | (refine ⟨⟨i + 1, acc + m % 128 * 128 ^ i, some t, by rw [hb9.out], by go_num, by omega, hR1, hC.trans hC1 fun _ _ h => h, q⟩, by simp [intOf]; omega⟩)
      | none, hM, hR, ho =>
        obtain ⟨q1, q2⟩ := mid_bad hM.out hi10 (.inl rfl)
        go_wp2_with (first
          | (go_at_call 47; refine ho.mono ?_; rintro _ w1 ⟨rfl, hR1, hC1⟩; obtain ⟨i1, e1, hb1, hi1, _, hs1⟩ := hR1.st; have hs1 := hs1 rfl; have he : (e1 != 0) = true := by { simpa using hs1 }; have c2 := hb1.at' 2; simp at c2)
          | go_in)
        go_ret
        exact ⟨by first | rfl | (rw [q1]; rfl), by first | exact hR1 | (rw [q2]; exact hR1), hC.trans hC1 fun _ _ h => h⟩
      | some [], hM, hR, ho =>
        obtain ⟨q1, q2⟩ := mid_bad hM.out hi10 (.inr rfl)
        go_wp2_with (first
          | (go_at_call 47; refine ho.mono ?_; rintro _ w1 ⟨rfl, hR1, hC1⟩; obtain ⟨i1, e1, hb1, hi1, _, hs1⟩ := hR1.st; have hs1 := hs1 rfl; have he : (e1 != 0) = true := by { simpa using hs1 }; have c2 := hb1.at' 2; simp at c2)
          | go_in)
        go_ret
        exact ⟨by first | rfl | (rw [q1]; rfl), by first | exact hR1 | (rw [q2]; exact hR1), hC.trans hC1 fun _ _ h => h⟩
    · have h10 : i = 10 := by omega
      subst h10
      obtain ⟨q1, q2⟩ := mid_full hM.out
      go_wp2
      go_ret
      exact ⟨by first | rfl | (rw [q1]; rfl) | rw [q1], by first | exact hR | (rw [q2]; exact hR), hC⟩
end Go.Proofs.YtdacamjpcdbphaaGreatDoor
namespace Go.Proofs.YtdacamjpcdbphaaGreatDoor
open Go Go.RowKit

def iN (s : Option (List UInt8)) : Int := match s.bind dI with | some (z, _) => z | none => 0
def iS (s : Option (List UInt8)) : Option (List UInt8) := match s.bind dI with | some (_, t) => some t | none => none
theorem iN_eq (s : Option (List UInt8)) : iN s = unzz (uN s) ∧ iS s = uS s ∧ uN s < 18446744073709551616 := by
  cases s with
  | none => exact ⟨rfl, rfl, by decide⟩
  | some t =>
    show (match dI t with | some (z, _) => z | none => 0) = unzz (match dU t with | some (n, _) => n | none => 0) ∧ (match dI t with | some (_, t) => some t | none => none) = (match dU t with | some (_, t) => some t | none => none) ∧ (match dU t with | some (n, _) => n | none => 0) < _
    unfold dI
    cases h : dU t with
    | none => exact ⟨rfl, rfl, by decide⟩
    | some a =>
      obtain ⟨n, t'⟩ := a
      exact ⟨rfl, rfl, (dU_sound h).2⟩
theorem xor_swap (k : IntKind) (x y : Int) : bits .xor k x y = bits .xor k y x := by
  unfold bits
  simp only [BitVec.xor_comm]
theorem unzz_bits {n : Nat} (h : n < 18446744073709551616) : bits .xor .i64 ((n : Int) / 2) (wrap64 (-wrap64 (bits .and .u64 (n : Int) 1))) = unzz n := by
  rw [Lib.u64_and1 (n : Int) (by omega) (by omega)]
  unfold unzz
  have e : (n : Int) / 2 = ((n / 2 : Nat) : Int) := by omega
  rw [e]
  by_cases h2 : n % 2 = 1
  · rw [if_pos h2, show wrap64 (-wrap64 ((n : Int) % 2)) = -1 by unfold wrap64; omega, xor_swap]
    exact Lib.i64_not (n / 2) (by omega)
  · rw [if_neg h2, show wrap64 (-wrap64 ((n : Int) % 2)) = 0 by unfold wrap64; omega]
    show IntKind.i64.wrap ((BitVec.ofInt 64 ((n / 2 : Nat) : Int) ^^^ BitVec.ofInt 64 0).toNat : Int) = _
    rw [show BitVec.ofInt 64 0 = 0#64 by decide, BitVec.xor_zero, BitVec.ofInt_natCast, BitVec.toNat_ofNat, Nat.mod_eq_of_lt (by omega), IntKind.wrap_i64]
    omega
set_option maxRecDepth 1000000 in
theorem rint_walk {w : World} {B p : Nat} {v : Value} {l : List UInt8} {s : Option (List UInt8)} (h : RdAt w B p v l s) :
    Calls Tryz.prog 13 #[.pointer (some ⟨p, 0, none⟩)] w fun e w' => e = .returned (.int .i64 (iN s)) ∧ RdAt w' B p v l (iS s) ∧ Chg (Only p) w w' := by
  obtain ⟨q1, q2, q3⟩ := iN_eq s
  have hu := ruint_walk h
  rw [q1, q2]
  obtain ⟨n, hn⟩ : ∃ n, uN s = n := ⟨_, rfl⟩
  rw [hn] at hu q3 ⊢
  have hb := Lib.hid (unzz_bits q3)
  clear hn q1 q2
  go_enter Tryz.func13, Tryz.ntmps13
  go_wp2_with (first
    | (go_at_call 34; refine hu.mono ?_; rintro _ w1 ⟨rfl, hR, hC⟩)
    | go_in)
  rw [hb.out]
  go_ret
  exact ⟨rfl, hR, hC⟩
def bN (s : Option (List UInt8)) : Bool := match s.bind dB with | some (b, _) => b | none => false
def bS (s : Option (List UInt8)) : Option (List UInt8) := match s.bind dB with | some (_, t) => some t | none => none
set_option maxRecDepth 1000000 in
theorem rbool_walk {w : World} {B p : Nat} {v : Value} {l : List UInt8} {s : Option (List UInt8)} (h : RdAt w B p v l s) :
    Calls Tryz.prog 29 #[.pointer (some ⟨p, 0, none⟩)] w fun e w' => e = .returned (.bool (bN s)) ∧ RdAt w' B p v l (bS s) ∧ Chg (Only p) w w' := by
  have ho := octet_walk h
  match s, ho with
  | none, ho =>
    go_enter Tryz.func29, Tryz.ntmps29
    go_wp2_with (first
      | (go_at_call 47; refine ho.mono ?_; rintro _ w1 ⟨rfl, hR, hC⟩)
      | go_in)
    go_ret
    exact ⟨rfl, hR, hC⟩
  | some [], ho =>
    go_enter Tryz.func29, Tryz.ntmps29
    go_wp2_with (first
      | (go_at_call 47; refine ho.mono ?_; rintro _ w1 ⟨rfl, hR, hC⟩)
      | go_in)
    go_ret
    exact ⟨rfl, hR, hC⟩
  | some (b :: t), ho =>
    obtain ⟨m, hm⟩ : ∃ m, b.toNat = m := ⟨_, rfl⟩
    rw [show oV (some (b :: t)) = ((b.toNat : Nat) : Int) from rfl, oS_app, hm] at ho
    by_cases h1 : 1 < m
    · have hq : bS (some (b :: t)) = none ∧ bN (some (b :: t)) = false := by
        have : (some (b :: t)).bind dB = none := by show (if 1 < b.toNat then none else _) = _; rw [hm, if_pos h1]
        unfold bS bN
        rw [this]
        exact ⟨rfl, rfl⟩
      have hm1 : ((m : Int) == 1) = false := by simp; omega
      obtain ⟨q1, q2⟩ := hq
      have q := Lib.hid (And.intro q1 q2)
      clear q1 q2
      go_enter Tryz.func29, Tryz.ntmps29
      go_wp2_with (first
        | (go_at_call 47; refine ho.mono ?_; rintro _ w1 ⟨rfl, hR1, hC1⟩; obtain ⟨i1, e1, hb1, hi1, hs1, _⟩ := hR1.st; obtain ⟨rfl, hd1⟩ := hs1 _ rfl; have c2 := hb1.at' 2; have f2 := hb1.thaw 2; have hplt := hb1.lt; simp at c2; have hfin := hR1.put2 2 i1 hb1 hi1 (by decide))
        | go_in)
      go_ret
      exact ⟨by rw [q.out.2]; rfl, by rw [q.out.1]; exact hfin, hC1.setCell (p := ⟨p, 2, none⟩) (.inr rfl) _⟩
    · have hq : bS (some (b :: t)) = some t ∧ bN (some (b :: t)) = ((m : Int) == 1) := by
        have : (some (b :: t)).bind dB = some (b.toNat == 1, t) := by show (if 1 < b.toNat then none else _) = _; rw [hm, if_neg h1]
        unfold bS bN
        rw [this, hm]
        refine ⟨rfl, ?_⟩
        show (m == 1) = ((m : Int) == 1)
        rcases (show m = 0 ∨ m = 1 by omega) with rfl | rfl <;> rfl
      obtain ⟨q1, q2⟩ := hq
      have q := Lib.hid (And.intro q1 q2)
      clear q1 q2
      go_enter Tryz.func29, Tryz.ntmps29
      go_wp2_with (first
        | (go_at_call 47; refine ho.mono ?_; rintro _ w1 ⟨rfl, hR1, hC1⟩)
        | go_in)
      go_ret
      exact ⟨by rw [q.out.2]; rfl, by rw [q.out.1]; exact hR1, hC1⟩
/-- End's answer -/
def EndOf (s : Option (List UInt8)) (c : Int) : Prop := c = 0 ↔ s = some []
set_option maxRecDepth 1000000 in
theorem rend_walk {w : World} {B p : Nat} {v : Value} {l : List UInt8} {s : Option (List UInt8)} (h : RdAt w B p v l s) :
    Calls Tryz.prog 30 #[.pointer (some ⟨p, 0, none⟩)] w fun e w' => ∃ c : Int, e = .returned (.int .i64 c) ∧ EndOf s c ∧ Below w.heap.size w w' := by
  obtain ⟨i, e, hb, hi, hs, hn⟩ := h.st
  have hrow := h.row
  have hlen := h.len
  have c0 := hb.at' 0
  have c1 := hb.at' 1
  have c2 := hb.at' 2
  have hplt := hb.lt
  simp at c0 c1 c2
  obtain ⟨A, c, rfl, hnc⟩ := row_form hrow
  match s, hs, hn with
  | none, hs, hn =>
    have he : (e != 0) = true := by simpa using hn rfl
    have he2 := hn rfl
    go_enter Tryz.func30, Tryz.ntmps30
    go_wp2
    go_ret
    exact ⟨_, rfl, ⟨fun h => absurd h he2, fun h => absurd h (by simp)⟩, Below.refl _ _⟩
  | some [], hs, hn =>
    obtain ⟨rfl, hd⟩ := hs [] rfl
    have hil : i = l.length := by have := List.drop_eq_nil_iff.1 hd; omega
    subst hil
    go_enter Tryz.func30, Tryz.ntmps30
    go_wp2
    go_region
    go_wp2
    go_ret
    exact ⟨_, rfl, ⟨fun _ => rfl, fun _ => rfl⟩, (Below.refl _ _).drew⟩
  | some (b :: t), hs, hn =>
    obtain ⟨rfl, hd⟩ := hs (b :: t) rfl
    have hil : i < l.length := by
      rcases Nat.lt_or_ge i l.length with h1 | h1
      · exact h1
      · rw [List.drop_eq_nil_iff.2 h1] at hd; cases hd
    go_enter Tryz.func30, Tryz.ntmps30
    go_wp2
    go_region
    go_wp2
    go_ret
    exact ⟨_, rfl, ⟨fun h => absurd h (by decide), fun h => absurd h (by simp)⟩, (Below.refl _ _).drew⟩
set_option maxRecDepth 1000000 in
theorem read_walk {w : World} {b : Value} {x : List UInt8} (hb : Sees w 1 b (bv x)) (hx : x.length ≤ 100000000) :
    Calls Tryz.prog 12 #[b] w fun e w' => ∃ p v, e = .returned (.pointer (some ⟨p, 0, none⟩)) ∧ w.heap.size ≤ p ∧ RdAt w' w.heap.size p v x (some x) ∧ Below w.heap.size w w' := by
  obtain ⟨i0, hi0, hz0, hz1, hz2⟩ := info_parts' info5
  have h63 : 0 + x.length ≤ maxLen := by unfold maxLen; omega
  have hby : (0 + x.length) * 1 ≤ 140737488355328 := by omega
  have hs1 := hb.alloc (.cells #[] 5)
  have hmade := World.ownsRow_made (e := 5) (size := 1) (base := w.heap.size) w #[] 0 (Nat.le_refl _) (Nat.zero_le _) rfl
  have hxl : (bv x).length = x.length * 1 := by rw [bv_len]; omega
  go_enter Tryz.func12, Tryz.ntmps12
  go_wp2_with (first
    | (at_builtin; refine wpList_append_sees rfl _ _ 23 rfl i0 _ 1 Tryz.underlying23 hi0 hz0 hz1 hz2 rfl (by decide) _ 0 [] rfl hmade b x.length _ rfl hs1 hxl (bv_one x) h63 hby (by simp) ?_; intro v2 w2 hrow2 hgrow2 hown2; obtain ⟨A2, k2, rfl, _⟩ := row_form hrow2; rw [Nat.zero_add] at hrow2)
    | go_in)
  go_ret
  have hb2 : Below w.heap.size w w2 := ((Below.refl _ _).alloc (Nat.le_refl _) _).grown hgrow2 (by simp) fun k hk => by cases hk; exact Nat.le_refl _
  refine ⟨_, _, rfl, hb2.size, ⟨?_, ⟨0, 0, heap_alloc_new _ _, Nat.zero_le _, (fun t ht => by cases ht; exact ⟨rfl, rfl⟩), (fun h => by cases h)⟩, hx⟩, hb2.alloc hb2.size _⟩
  have hh := fun o => row_chg hrow2 ((Chg.refl (fun _ => False) w2).alloc o) fun _ _ h => h
  rw [List.nil_append] at hh
  exact hh _
end Go.Proofs.YtdacamjpcdbphaaGreatDoor
namespace Go.Proofs.YtdacamjpcdbphaaGreatDoor
open Go Go.RowKit

def rN (s : Option (List UInt8)) : List UInt8 := match s.bind dR with | some (x, _) => x | none => []
def rS (s : Option (List UInt8)) : Option (List UInt8) := match s.bind dR with | some (_, t) => some t | none => none
theorem rN_none (s : Option (List UInt8)) (h : uS s = none) : rN s = [] ∧ rS s = none := by
  have : s.bind dR = none := by
    cases s with
    | none => rfl
    | some l =>
      show dR l = none
      unfold uS at h
      unfold dR
      cases hd : dU l with
      | none => rfl
      | some a =>
        obtain ⟨n, t⟩ := a
        have : (some l).bind dU = some (n, t) := hd
        rw [this] at h
        cases h
  unfold rN rS
  rw [this]
  exact ⟨rfl, rfl⟩
theorem rN_some {s : Option (List UInt8)} {t : List UInt8} (h : uS s = some t) : (uN s ≤ t.length → rN s = t.take (uN s) ∧ rS s = some (t.drop (uN s))) ∧ (¬ uN s ≤ t.length → rN s = [] ∧ rS s = none) := by
  cases s with
  | none => cases h
  | some l =>
    unfold uS at h
    cases hd : dU l with
    | none =>
      have : (some l).bind dU = none := hd
      rw [this] at h
      cases h
    | some a =>
      obtain ⟨n, t'⟩ := a
      have e : (some l).bind dU = some (n, t') := hd
      rw [e] at h
      cases h
      have en : uN (some l) = n := by unfold uN; rw [e]
      have er : (some l).bind dR = if n ≤ t.length then some (t.take n, t.drop n) else none := by show dR l = _; unfold dR; rw [hd]
      rw [en]
      unfold rN rS
      rw [er]
      refine ⟨fun h => ?_, fun h => ?_⟩
      · rw [if_pos h]; exact ⟨rfl, rfl⟩
      · rw [if_neg h]; exact ⟨rfl, rfl⟩
/-- a row that is new, of bytes -/
theorem RdAt.step {w w1 : World} {B p B' : Nat} {v u : Value} {l x : List UInt8} {s : Option (List UInt8)} (h : RdAt w B p v l s) (hu : w.ownsRow B' 5 1 u x.length (bv x)) (hc : Chg (Only p) w w1) : w1.ownsRow B' 5 1 u x.length (bv x) := by
  obtain ⟨i, e, hb, _⟩ := h.st
  exact row_chg hu hc fun g hg hp => row_blk hu hb (by decide) (by rw [hg, show g = p from hp])
theorem RdAt.chg {F : Nat → Prop} {w w1 : World} {B p : Nat} {v : Value} {l : List UInt8} {s : Option (List UInt8)} (h : RdAt w B p v l s) (hc : Chg F w w1) (h1 : ¬ F p) (h2 : ∀ g, v.ownBlock = some g → ¬ F g) : RdAt w1 B p v l s := by
  obtain ⟨i, e, hb, hi, h3, h4⟩ := h.st
  exact ⟨row_chg h.row hc h2, ⟨i, e, hb.chg hc h1, hi, h3, h4⟩, h.len⟩
theorem RdAt.own_lt {w : World} {B p : Nat} {v : Value} {l : List UInt8} {s : Option (List UInt8)} (h : RdAt w B p v l s) {g : Nat} (hg : v.ownBlock = some g) : g < w.heap.size := (World.ownsRow.lt h.row g hg).2
theorem RdAt.lt {w : World} {B p : Nat} {v : Value} {l : List UInt8} {s : Option (List UInt8)} (h : RdAt w B p v l s) : p < w.heap.size := by
  obtain ⟨i, e, hb, _⟩ := h.st
  exact hb.lt
theorem bv_one1 (b : UInt8) : bv [b] = [.int .u8 (b.toNat : Int)] := rfl
set_option maxRecDepth 1000000 in
theorem list_walk {w : World} {B p : Nat} {v : Value} {l : List UInt8} {s : Option (List UInt8)} (h : RdAt w B p v l s) :
    Calls Tryz.prog 46 #[.pointer (some ⟨p, 0, none⟩), .func (.func 47) #[.pointer (some ⟨p, 0, none⟩)] #[]] w fun e w' => ∃ u, e = .returned u ∧ w'.ownsRow w.heap.size 5 1 u (rN s).length (bv (rN s)) ∧ RdAt w' B p v l (rS s) ∧ Chg (Only p) w w' := by
  obtain ⟨i0, hi0, hz0, hz1, hz2⟩ := info_parts' info5
  have hu := ruint_walk h
  have hq3 := (iN_eq s).2.2
  have hlen := h.len
  obtain ⟨N, hN⟩ : ∃ n, uN s = n := ⟨_, rfl⟩
  obtain ⟨x, hx⟩ : ∃ x, rN s = x := ⟨_, rfl⟩
  obtain ⟨s2, hs2⟩ : ∃ x, rS s = x := ⟨_, rfl⟩
  have h1 := rN_none s
  have h2 := fun t => rN_some (s := s) (t := t)
  rw [hN] at hu hq3 h2
  rw [hx] at h1 h2 ⊢
  rw [hs2] at h1 h2 ⊢
  cases hs1 : uS s with
  | none =>
    obtain ⟨rfl, rfl⟩ := h1 hs1
    rw [hs1] at hu
    clear h2 h1
    go_enter Tryz.func46, Tryz.ntmps46
    go_wp2_with (first
      | (go_at_call 34; refine hu.mono ?_; rintro _ w1 ⟨rfl, hR1, hC1⟩; obtain ⟨i1, e1, hb1, hi1, _, hs1⟩ := hR1.st; have hs1 := hs1 rfl; have he : (e1 != 0) = true := by { simpa using hs1 }; have c2 := hb1.at' 2; simp at c2)
      | go_in)
    go_ret
    exact ⟨_, rfl, World.ownsRow_nil _ _ _ _, hR1, hC1⟩
  | some t =>
    rw [hs1] at hu
    by_cases hle : N ≤ t.length
    · obtain ⟨q1, q2⟩ := (h2 t hs1).1 hle
      have hxl : x.length = N := by rw [q1, List.length_take]; omega
      have HX := Lib.hid (And.intro q1 q2)
      clear h1 h2 q1 q2 hx hs2 hN
      go_enter Tryz.func46, Tryz.ntmps46
      go_wp2_with (first
        | (go_at_call 34; refine hu.mono ?_; rintro _ w1 ⟨rfl, hR1, hC1⟩; obtain ⟨i1, e1, hb1, hi1, hs1, _⟩ := hR1.st; obtain ⟨rfl, hd1⟩ := hs1 _ rfl; have c0 := hb1.at' 0; have c1 := hb1.at' 1; have c2 := hb1.at' 2; have hplt := hb1.lt; simp at c0 c1 c2; obtain ⟨A, c, rfl, hnc⟩ := row_form hR1.row; have htl : t.length = l.length - i1 := by { rw [← hd1, List.length_drop] }; have hbig : (N : Int) ≤ (l.length : Int) - i1 := by { omega }; obtain ⟨wm, hmk, hmrow, hmg⟩ := run_make_own (P := Tryz.prog) w1.drew w.heap.size 23 5 i0 _ 1 Tryz.underlying23 hi0 hz0 hz1 .i64 .u64 N (by rw [hz2]; omega) (by unfold maxLen; omega) hC1.size)
        | go_in)
      go_region
      go_wp2
      have hv0 := fun g hg => h.own_lt (g := g) hg
      have hp0 := h.lt
      go_loopw [6, 33] (fun u jv wr => ∃ j : Nat, jv = .int .u64 j ∧ j ≤ N ∧ wr.ownsRow w.heap.size 5 1 u j (bv (t.take j)) ∧ RdAt wr B p (.slice A l.length c) l (some (t.drop j)) ∧ Chg (Only p) w wr) (fun _ jv _ => N - (intOf jv).toNat)
      case atStart =>
        refine ⟨0, rfl, Nat.zero_le _, hmrow, ?_, hC1.drew.grown hmg fun k hk => by cases hk⟩
        exact hR1.drew.chg (F := fun _ => False) ((Chg.refl _ _).grown hmg fun k hk => by cases hk) (fun h => h) fun _ _ h => h
      case round =>
        obtain ⟨j, rfl, hj, hrow, hR, hC⟩ := hrel
        by_cases hjN : j < N
        · obtain ⟨b, t', hbt⟩ : ∃ b t', t.drop j = b :: t' := ⟨_, _, List.drop_eq_getElem_cons (by omega)⟩
          have hd' : t.drop (j + 1) = t' := by rw [← List.drop_drop, hbt]; rfl
          have htk : t.take (j + 1) = t.take j ++ [b] := by
            rw [List.take_add, hbt]; rfl
          rw [hbt] at hR
          have ho := octet_walk hR
          rw [show oV (some (b :: t')) = ((b.toNat : Nat) : Int) from rfl, oS_app] at ho
          have hstep := fun w1 hc => hR.step (w1 := w1) (x := t.take j) (by rw [List.length_take, Nat.min_eq_left (by omega)]; exact hrow) hc
          rw [List.length_take, Nat.min_eq_left (by omega)] at hstep
          have h63 : j + 1 ≤ maxLen := by unfold maxLen; omega
          have hby : (j + 1) * 1 ≤ 140737488355328 := by omega
          obtain ⟨X, hX⟩ : ∃ X, bv (t.take j) = X := ⟨_, rfl⟩
          have hX1 : bv (t.take (j + 1)) = X ++ [.int .u8 (b.toNat : Int)] := by rw [htk, bv_app, hX]; rfl
          have HF := Lib.hid (And.intro hd' hX1)
          rw [hX] at hrow hstep
          clear htk hX hX1 hd' hbt
          have hsz := hC.size
          go_wp2_with (first
            | (go_at_call 47; refine ho.mono ?_; rintro _ w4 ⟨rfl, hR4, hC4⟩; have hrow4 := (hstep w4 hC4); have hsz4 := hC4.size)
            | (at_builtin; refine wpList_append_sees rfl _ _ 23 rfl i0 _ 1 Tryz.underlying23 hi0 hz0 hz1 hz2 rfl (by decide) u6 _ _ rfl (row_chg hrow4 ((Chg.refl (fun _ => False) w4).alloc _) fun _ _ h => h) _ 1 _ rfl (sees_one w4 _) rfl (by intro u hu; simp at hu; subst hu; rfl) h63 hby (by simp; omega) ?_; intro v5 w5 hrow5 hgrow5 hown5; obtain ⟨A5, k5, rfl, _⟩ := row_form hrow5; have hub := World.ownsRow.lt hrow; have hG5 : Chg (fun k => u6.ownBlock = some k) w4 w5 := ((Chg.refl _ w4).alloc _).grown hgrow5 (fun k hk => .inr hk); have hR5 := hR4.chg hG5 (fun hp => by { have := (hub p hp).1; omega }) (fun g hg hu => by { have := (hub g hu).1; have := hv0 g hg; omega }); obtain ⟨i5, e5, hb5, hi5, hs5, _⟩ := hR5.st; obtain ⟨rfl, hd5⟩ := hs5 _ rfl; have c5 := hb5.at' 2; simp at c5; have hC5 : Chg (Only p) w w5 := (hC.trans hC4 fun _ _ h => h).then_below (B := w.heap.size) (hG5.to_below (by omega) (fun i hi hF => (hub i hF).1)) (Nat.le_refl _))
            | go_in)
          go_roundw
          case rel => exact ⟨j + 1, by go_num, by omega, by rw [HF.out.2]; exact hrow5, by rw [HF.out.1]; exact hR5, hC5⟩
          case measure => simp [intOf]; omega
        · have hjE : j = N := by omega
          subst hjE
          obtain ⟨rfl, rfl⟩ := HX.out
          go_wp2
          go_ret
          exact ⟨_, rfl, hrow, hR, hC⟩
    · obtain ⟨rfl, rfl⟩ := (h2 t hs1).2 hle
      clear h2 h1
      go_enter Tryz.func46, Tryz.ntmps46
      go_wp2_with (first
        | (go_at_call 34; refine hu.mono ?_; rintro _ w1 ⟨rfl, hR1, hC1⟩; obtain ⟨i1, e1, hb1, hi1, hs1, _⟩ := hR1.st; obtain ⟨rfl, hd1⟩ := hs1 _ rfl; have c0 := hb1.at' 0; have c1 := hb1.at' 1; have c2 := hb1.at' 2; have f2 := hb1.thaw 2; have hplt := hb1.lt; simp at c0 c1 c2; obtain ⟨A, c, rfl, hnc⟩ := row_form hR1.row; have htl : t.length = l.length - i1 := by { rw [← hd1, List.length_drop] }; have hbig : (l.length : Int) - i1 < N := by { omega }; have hfin := hR1.put2 3 i1 hb1 hi1 (by decide))
        | go_in)
      go_region
      go_wp2
      go_ret
      exact ⟨_, rfl, World.ownsRow_nil _ _ _ _, hfin.drew, (hC1.setCell (p := ⟨p, 2, none⟩) (.inr rfl) _).drew⟩
set_option maxRecDepth 1000000 in
theorem rraw_walk {w : World} {B p : Nat} {v : Value} {l : List UInt8} {s : Option (List UInt8)} (h : RdAt w B p v l s) :
    Calls Tryz.prog 28 #[.pointer (some ⟨p, 0, none⟩)] w fun e w' => ∃ u, e = .returned u ∧ w'.ownsRow w.heap.size 5 1 u (rN s).length (bv (rN s)) ∧ RdAt w' B p v l (rS s) ∧ Chg (Only p) w w' := by
  have hl := list_walk h
  obtain ⟨x, hx⟩ : ∃ x, rN s = x := ⟨_, rfl⟩
  rw [hx] at hl ⊢
  clear hx
  go_enter Tryz.func28, Tryz.ntmps28
  go_wp2_with (first
    | (go_at_call 46; refine hl.mono ?_; rintro _ w1 ⟨u, rfl, hrow, hR, hC⟩)
    | go_in)
  go_ret
  exact ⟨_, rfl, hrow, hR, hC⟩
end Go.Proofs.YtdacamjpcdbphaaGreatDoor
namespace Go.Smap
open Go Go.Maps Go.RowKit Go.WideMaps

/-- block B is a map of at most n entries, keyed by strings, that holds what f says -/
def IsMap (w : World) (B n : Nat) (f : ByteArray → Option Value) : Prop :=
  ∃ ms cl, w.heap[B]? = some (.map ms cl) ∧ ms.size ≤ n ∧ (∀ x ∈ ms.toList, x.born < cl) ∧ (ms.toList.map (·.born)).Nodup ∧ (ms.toList.map (·.key)).Nodup ∧
    (∀ x ∈ ms.toList, ∃ s : ByteArray, s.size ≤ maxLen ∧ x.key = .string s ∧ f s = some x.val) ∧ ∀ s v, f s = some v → ∃ x ∈ ms.toList, x.key = .string s
theorem IsMap.same {w w' : World} {B n : Nat} {f : ByteArray → Option Value} (h : IsMap w B n f) (hb : w'.heap[B]? = w.heap[B]?) : IsMap w' B n f := by
  obtain ⟨ms, cl, h0, h1⟩ := h
  exact ⟨ms, cl, hb.trans h0, h1⟩
theorem IsMap.lt {w : World} {B n : Nat} {f : ByteArray → Option Value} (h : IsMap w B n f) : B < w.heap.size := by
  obtain ⟨ms, cl, h0, _⟩ := h
  exact (Array.getElem?_eq_some_iff.1 h0).1
theorem IsMap.alloc {w : World} {B n : Nat} {f : ByteArray → Option Value} (h : IsMap w B n f) (o : Obj) : IsMap (w.alloc o) B n f := h.same (Below.heap_alloc _ _ _ h.lt)
theorem isMap_made (w : World) : IsMap (w.alloc (.map #[] 0)) w.heap.size 0 fun _ => none :=
  ⟨#[], 0, heap_alloc_new _ _, by simp, by simp, by simp, by simp, by simp, by simp⟩
section
variable {P : Program} {t k e : TypeId} {w : World} {B n : Nat} {f : ByteArray → Option Value}
theorem IsMap.keys (hk : P.underlying k = some .string) {ms : Array MapEntry} (h : ∀ x ∈ ms.toList, ∃ s : ByteArray, s.size ≤ maxLen ∧ x.key = .string s ∧ f s = some x.val) : ∀ x ∈ ms.toList, ∃ l, keyOf P k x.key = some l := fun x hx => by
  obtain ⟨s, hs, hkey, _⟩ := h x hx
  exact ⟨_, by rw [hkey]; exact keyOf_string_mk hk hs⟩
theorem IsMap.lookup (h : IsMap w B n f) (ht : P.underlying t = some (.map k e)) (hk : P.underlying k = some .string) {z : Value} (hz : (zeroValue e).run P w = .ok z w) {s : ByteArray} (hs : s.size ≤ maxLen) :
    (Instr.lookup t (.map (some B)) (.string s) false).run P w = .ok ((f s).getD z) w := by
  obtain ⟨ms, cl, hb, _, _, _, hnd, h1, h2⟩ := h
  have K := string_keyed hk
  have hkey := keyOf_string_mk hk hs
  rcases K.find w hkey ms.toList (IsMap.keys hk h1) with ⟨hf, hn⟩ | ⟨j, e0, hf, hj, he⟩
  · have : f s = none := by
      cases hfs : f s with
      | none => rfl
      | some v => obtain ⟨x, hx, hxk⟩ := h2 s v hfs; exact absurd hxk (hn x hx)
    rw [this]
    simp [Instr.lookup, run_underlying ht, MapKept.run_getObj_map hb, K.check w _ hkey, hf, hz, Result.andThen]
  · obtain ⟨s', _, hk', hv⟩ := h1 e0 (List.mem_of_getElem? hj)
    rw [he] at hk'
    cases hk'
    rw [hv]
    simp [Instr.lookup, run_underlying ht, MapKept.run_getObj_map hb, K.check w _ hkey, hf, Result.andThen]
theorem IsMap.update (h : IsMap w B n f) (hn : n < maxLen) (ht : P.underlying t = some (.map k e)) (hk : P.underlying k = some .string) {s : ByteArray} (hs : s.size ≤ maxLen) (v : Value) :
    ∃ o, (Instr.mapUpdate t (.map (some B)) (.string s) v).run P w = .ok () (ChangeMaps.setBlock w B o) ∧ IsMap (ChangeMaps.setBlock w B o) B (n + 1) fun u => if u = s then some v else f u := by
  obtain ⟨ms, cl, hb, hsz, hb1, hb2, hnd, h1, h2⟩ := h
  have K := string_keyed hk
  have hkey := keyOf_string_mk hk hs
  have hlt : B < w.heap.size := (Array.getElem?_eq_some_iff.1 hb).1
  have hnew : ∀ o, (ChangeMaps.setBlock w B o).heap[B]? = some o := fun o => by simp [ChangeMaps.setBlock, hlt]
  rcases K.find w hkey ms.toList (IsMap.keys hk h1) with ⟨hf, hno⟩ | ⟨j, e0, hf, hj, he⟩
  · refine ⟨.map (ms.push ⟨.string s, v, cl⟩) (cl + 1), ?_, ms.push ⟨.string s, v, cl⟩, cl + 1, hnew _, by simp; omega, ?_, ?_, ?_, ?_, ?_⟩
    · simp [Instr.mapUpdate, run_underlying ht, MapKept.run_getObj_map hb, K.check w false hkey, hf, MapKept.run_setObj_map _ hb, Result.andThen, ChangeMaps.setBlock]
    · intro x hx
      simp only [Array.toList_push, List.mem_append, List.mem_singleton] at hx
      rcases hx with hx | rfl
      · have := hb1 x hx; omega
      · simp
    · simp only [Array.toList_push, List.map_append, List.map_singleton]
      refine List.nodup_append.2 ⟨hb2, by simp, fun a ha b hb' => ?_⟩
      simp only [List.mem_singleton] at hb'
      subst hb'
      obtain ⟨x, hx, rfl⟩ := List.mem_map.1 ha
      have := hb1 x hx
      simp; omega
    · simp only [Array.toList_push, List.map_append, List.map_singleton]
      refine List.nodup_append.2 ⟨hnd, by simp, fun a ha b hb' => ?_⟩
      simp only [List.mem_singleton] at hb'
      subst hb'
      obtain ⟨x, hx, rfl⟩ := List.mem_map.1 ha
      exact hno x hx
    · intro x hx
      simp only [Array.toList_push, List.mem_append, List.mem_singleton] at hx
      rcases hx with hx | rfl
      · obtain ⟨u, hu, hxk, hv⟩ := h1 x hx
        refine ⟨u, hu, hxk, ?_⟩
        show (if u = s then some v else f u) = _
        rw [if_neg (fun e' => hno x hx (by rw [hxk, e']))]
        exact hv
      · exact ⟨s, hs, rfl, by simp⟩
    · intro u y hu
      simp only [Array.toList_push, List.mem_append, List.mem_singleton]
      by_cases e : u = s
      · subst e
        exact ⟨_, .inr rfl, rfl⟩
      · have hu' : (if u = s then some v else f u) = some y := hu
        rw [if_neg e] at hu'
        obtain ⟨x, hx, hxk⟩ := h2 u y hu'
        exact ⟨x, .inl hx, hxk⟩
  · have hj' : ms[j]? = some e0 := by simpa using hj
    have hlist : (ms.modify j (fun e' => { e' with key := .string s, val := v })).toList = ms.toList.set j { e0 with key := .string s, val := v } := by rw [Array.toList_modify, ChangeMaps.modify_eq_set _ _ _ _ hj]
    have hkj : (ms.toList.map (·.key))[j]? = some (.string s) := by rw [List.getElem?_map, hj]; simp [he]
    have hbj : (ms.toList.map (·.born))[j]? = some e0.born := by rw [List.getElem?_map, hj]; rfl
    have hself : ∀ {α : Type} (l : List α) (i : Nat) (a : α), l[i]? = some a → l.set i a = l := fun l i a h => by
      refine List.ext_getElem? fun m => ?_
      rw [List.getElem?_set]
      split
      · rename_i e1; subst e1; split
        · exact h.symm
        · rename_i h2; rw [List.getElem?_eq_none (by omega)] at h; cases h
      · rfl
    have hkeys : (ms.toList.set j { e0 with key := .string s, val := v }).map (·.key) = ms.toList.map (·.key) := by rw [List.map_set]; exact hself _ _ _ hkj
    have hborn : (ms.toList.set j { e0 with key := .string s, val := v }).map (·.born) = ms.toList.map (·.born) := by rw [List.map_set]; exact hself _ _ _ hbj
    have hjl : j < ms.toList.length := (List.getElem?_eq_some_iff.1 hj).1
    have who : ∀ x ∈ ms.toList.set j { e0 with key := .string s, val := v }, x = { e0 with key := .string s, val := v } ∨ (x ∈ ms.toList ∧ x.key ≠ .string s) := by
      intro x hx
      obtain ⟨i, hi, ex⟩ := List.getElem_of_mem hx
      rw [List.getElem_set] at ex
      split at ex
      · exact .inl ex.symm
      · rename_i hne
        have hi' : i < ms.toList.length := by simpa using hi
        refine .inr ⟨ex ▸ List.getElem_mem hi', fun e1 => hne ?_⟩
        have hl : (ms.toList.map (·.key))[i]? = some (.string s) := by rw [List.getElem?_map, List.getElem?_eq_getElem hi', ex]; simp [e1]
        have hij := (List.getElem?_inj (i := j) (j := i) (by simpa using hjl) hnd).1 (hkj.trans hl.symm)
        exact hij
    refine ⟨.map (ms.modify j (fun e' => { e' with key := .string s, val := v })) cl, ?_, ms.modify j (fun e' => { e' with key := .string s, val := v }), cl, hnew _, by simp; omega, ?_, by rw [hlist, hborn]; exact hb2, by rw [hlist, hkeys]; exact hnd, ?_, ?_⟩
    · simp [Instr.mapUpdate, run_underlying ht, MapKept.run_getObj_map hb, K.check w false hkey, hf, hj', he, K.stays w hkey, MapKept.run_setObj_map _ hb, Result.andThen, ChangeMaps.setBlock]
    · intro x hx
      rw [hlist] at hx
      rcases who x hx with rfl | ⟨hx', _⟩
      · exact hb1 e0 (List.mem_of_getElem? hj)
      · exact hb1 x hx'
    · intro x hx
      rw [hlist] at hx
      rcases who x hx with rfl | ⟨hx', hne⟩
      · exact ⟨s, hs, rfl, by simp⟩
      · obtain ⟨u, hu, hxk, hv⟩ := h1 x hx'
        exact ⟨u, hu, hxk, by show (if u = s then some v else f u) = _; rw [if_neg (fun e' => hne (by rw [hxk, e']))]; exact hv⟩
    · intro u y hu
      rw [hlist]
      have hex : ∃ x ∈ ms.toList, x.key = .string u := by
        by_cases e : u = s
        · subst e; exact ⟨e0, List.mem_of_getElem? hj, he⟩
        · have hu' : (if u = s then some v else f u) = some y := hu
          rw [if_neg e] at hu'; exact h2 u y hu'
      obtain ⟨x, hx, hxk⟩ := hex
      have : Value.string u ∈ (ms.toList.set j { e0 with key := .string s, val := v }).map (·.key) := by rw [hkeys]; exact List.mem_map.2 ⟨x, hx, hxk⟩
      obtain ⟨x', hx', hxk'⟩ := List.mem_map.1 this
      exact ⟨x', hx', hxk'⟩
end
end Go.Smap
