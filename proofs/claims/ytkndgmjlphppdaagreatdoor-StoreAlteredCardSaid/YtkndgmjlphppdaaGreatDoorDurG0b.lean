/-
  The hash, walked: the words of a row of bytes, as they are yielded.
  The hash, walked: the hash of a label and words.
  A frame of which one byte is altered, behind the length at its beginning, is none. No program stands here.
  A map keyed by strings, said as a function: what a look-up gives, what a store leaves. (Of no program.)
  The hash, walked: the hash of a label and bytes.
  A frame of the log, walked.
  bytes.Equal and bytes.HasPrefix, walked; parts of slices.
  journal.first, walked: the record that bytes begin with.
  A range over a function whose iterator tells, when it is done, what then lies in memory: the law for bodies that are never left early. (Of no program.)
-/
import Derived.Test.YtkndgmjlphppdaaGreatDoorDurG0a
import Derived.Lib.ConvBytes
import Derived.Maps.Own
import Derived.StringKeys
import Derived.WalkKit
import Derived.Laws.BytesArg
namespace Go.Proofs.YtkndgmjlphppdaaGreatDoor
open Go Go.RowKit Go.Shelf
attribute [local go_sem] Oper.semAt_some

/-- two blocks stay -/
structure K2 (p q : Nat) (W W' : World) : Prop where
  one : W'.heap[p]? = W.heap[p]?
  two : W'.heap[q]? = W.heap[q]?
theorem K2.refl (p q : Nat) (W : World) : K2 p q W W := ⟨rfl, rfl⟩
theorem K2.trans {p q : Nat} {A B C : World} (h : K2 p q A B) (k : K2 p q B C) : K2 p q A C := ⟨k.one.trans h.one, k.two.trans h.two⟩
theorem K2.cell1 {p q : Nat} {A B : World} (h : K2 p q A B) (i : Nat) : B.cell? ⟨p, i, none⟩ = A.cell? ⟨p, i, none⟩ := World.cell?_of_block (w := A) h.one
theorem K2.cell2 {p q : Nat} {A B : World} (h : K2 p q A B) (i : Nat) : B.cell? ⟨q, i, none⟩ = A.cell? ⟨q, i, none⟩ := World.cell?_of_block (w := A) h.two
theorem K2.of_below {p q n : Nat} {A B : World} (h : Below n A B) (hp : p < n) (hq : q < n) : K2 p q A B := ⟨h.block p hp, h.block q hq⟩
theorem K2.far {p q : Nat} {W : World} {a : Addr} (hp : p ≠ a.block) (hq : q ≠ a.block) (v : Value) : K2 p q W (W.setCell a v) := ⟨Below.heap_setCell _ _ _ _ hp, Below.heap_setCell _ _ _ _ hq⟩
theorem k2_b {p q : Nat} {w : World} (hp : p < w.heap.size) (hq : q < w.heap.size) (W : World) (l : Nat) (o o' : Obj) (hl : w.heap.size ≤ l) (h : W.heap[l]? = some o) (_ : o.isCells = false) (_ : o.isWalk = false) : K2 p q W (W.putObj l o') :=
  K2.of_below ((Below.refl w.heap.size W).grown (grownBy_putObj' W l o') (by have := (Array.getElem?_eq_some_iff.1 h).1; omega) (fun k e => by cases e; omega)) hp hq
/-- the words of bytes, as words -/
def wds (l : List UInt8) : List (BitVec 64) := (wordsOf l).map (BitVec.ofNat 64)
theorem wds_nil : wds [] = [] := by unfold wds; rw [wordsOf_nil]; rfl
theorem wds_cons {l : List UInt8} (h : l ≠ []) : wds l = BitVec.ofNat 64 (word (l.take 8)) :: wds (l.drop 8) := by
  unfold wds; rw [wordsOf_cons h]; rfl
theorem word_snoc (a : List UInt8) (b : UInt8) : word (a ++ [b]) = word a + b.toNat * 256 ^ a.length := by
  induction a with
  | nil => simp [word]
  | cons x t ih =>
    simp only [List.cons_append, word, ih, List.length_cons, Nat.pow_succ]
    rw [Nat.mul_add, ← Nat.mul_assoc 256, Nat.mul_comm 256 b.toNat, Nat.mul_assoc b.toNat, Nat.mul_comm 256 (256 ^ t.length)]
    omega
theorem or_byte {i acc m : Nat} (hi : i < 8) (ha : acc < 256 ^ i) (hb : m < 256) : bits .or .u64 (acc : Int) (IntKind.u64.wrap ((m : Int) * 2 ^ (8 * i))) = ((acc + m * 256 ^ i : Nat) : Int) := by
  rw [IntKind.wrap_u64]
  rcases (show i = 0 ∨ i = 1 ∨ i = 2 ∨ i = 3 ∨ i = 4 ∨ i = 5 ∨ i = 6 ∨ i = 7 by omega) with rfl | rfl | rfl | rfl | rfl | rfl | rfl | rfl
  · simp only [Nat.reduceMul, Int.reducePow, Nat.reducePow] at ha ⊢
    rw [show (m : Int) * 1 % 18446744073709551616 = (m : Int) * 1 by omega, bits_join_low .u64 64 (by decide) wraps_u64 (8 * 0) (acc : Int) ((m : Int) * 1) (by omega) (by simp only [Nat.reduceMul, Int.reducePow]; omega) (by omega) (by omega) (by simp only [Nat.reduceMul, Int.reducePow]; omega) (by omega)]
    omega
  · simp only [Nat.reduceMul, Int.reducePow, Nat.reducePow] at ha ⊢
    rw [show (m : Int) * 256 % 18446744073709551616 = (m : Int) * 256 by omega, bits_join_low .u64 64 (by decide) wraps_u64 (8 * 1) (acc : Int) ((m : Int) * 256) (by omega) (by simp only [Nat.reduceMul, Int.reducePow]; omega) (by omega) (by omega) (by simp only [Nat.reduceMul, Int.reducePow]; omega) (by omega)]
    omega
  · simp only [Nat.reduceMul, Int.reducePow, Nat.reducePow] at ha ⊢
    rw [show (m : Int) * 65536 % 18446744073709551616 = (m : Int) * 65536 by omega, bits_join_low .u64 64 (by decide) wraps_u64 (8 * 2) (acc : Int) ((m : Int) * 65536) (by omega) (by simp only [Nat.reduceMul, Int.reducePow]; omega) (by omega) (by omega) (by simp only [Nat.reduceMul, Int.reducePow]; omega) (by omega)]
    omega
  · simp only [Nat.reduceMul, Int.reducePow, Nat.reducePow] at ha ⊢
    rw [show (m : Int) * 16777216 % 18446744073709551616 = (m : Int) * 16777216 by omega, bits_join_low .u64 64 (by decide) wraps_u64 (8 * 3) (acc : Int) ((m : Int) * 16777216) (by omega) (by simp only [Nat.reduceMul, Int.reducePow]; omega) (by omega) (by omega) (by simp only [Nat.reduceMul, Int.reducePow]; omega) (by omega)]
    omega
  · simp only [Nat.reduceMul, Int.reducePow, Nat.reducePow] at ha ⊢
    rw [show (m : Int) * 4294967296 % 18446744073709551616 = (m : Int) * 4294967296 by omega, bits_join_low .u64 64 (by decide) wraps_u64 (8 * 4) (acc : Int) ((m : Int) * 4294967296) (by omega) (by simp only [Nat.reduceMul, Int.reducePow]; omega) (by omega) (by omega) (by simp only [Nat.reduceMul, Int.reducePow]; omega) (by omega)]
    omega
  · simp only [Nat.reduceMul, Int.reducePow, Nat.reducePow] at ha ⊢
    rw [show (m : Int) * 1099511627776 % 18446744073709551616 = (m : Int) * 1099511627776 by omega, bits_join_low .u64 64 (by decide) wraps_u64 (8 * 5) (acc : Int) ((m : Int) * 1099511627776) (by omega) (by simp only [Nat.reduceMul, Int.reducePow]; omega) (by omega) (by omega) (by simp only [Nat.reduceMul, Int.reducePow]; omega) (by omega)]
    omega
  · simp only [Nat.reduceMul, Int.reducePow, Nat.reducePow] at ha ⊢
    rw [show (m : Int) * 281474976710656 % 18446744073709551616 = (m : Int) * 281474976710656 by omega, bits_join_low .u64 64 (by decide) wraps_u64 (8 * 6) (acc : Int) ((m : Int) * 281474976710656) (by omega) (by simp only [Nat.reduceMul, Int.reducePow]; omega) (by omega) (by omega) (by simp only [Nat.reduceMul, Int.reducePow]; omega) (by omega)]
    omega
  · simp only [Nat.reduceMul, Int.reducePow, Nat.reducePow] at ha ⊢
    rw [show (m : Int) * 72057594037927936 % 18446744073709551616 = (m : Int) * 72057594037927936 by omega, bits_join_low .u64 64 (by decide) wraps_u64 (8 * 7) (acc : Int) ((m : Int) * 72057594037927936) (by omega) (by simp only [Nat.reduceMul, Int.reducePow]; omega) (by omega) (by omega) (by simp only [Nat.reduceMul, Int.reducePow]; omega) (by omega)]
    omega
set_option maxRecDepth 1000000 in
set_option maxHeartbeats 2000000 in
theorem words1_in (F : Fence) (n : Nat) (hf : F.fn 97) (hro : F.round = none) (hn : 1 ≤ n) (l' tb b s c : Nat) (x : List UInt8) (hlen : x.length ≤ 1000000000) (hcap : x.length ≤ c) (J Jx : List (BitVec 64) → World → Prop)
    (hY : ∀ pre z W, J pre W → pre.length < (wds x).length → YieldAt F (n - 1) Tryz.prog l' #[.int .u64 (z.toNat : Int)] W fun e W' =>
      (e = .returned (.bool true) ∧ J (pre ++ [z]) W' ∧ K2 tb b W W') ∨ (e = .returned (.bool false) ∧ Jx (pre ++ [z]) W'))
    (W : World) (hbox : W.cell? ⟨tb, 0, none⟩ = some (.slice (some ⟨b, s, none⟩) x.length c)) (hc : ∀ i u, (bv x)[i]? = some u → W.cell? ⟨b, s + i, none⟩ = some u) (h0 : J [] W) :
    CallsIn F n Tryz.prog 97 #[.func (.yield l') #[] #[], .pointer (some ⟨tb, 0, none⟩)] W fun e W' => (∃ v, e = .returned v) ∧
      ((∃ ys, ys = wds x ∧ J ys W') ∨ (∃ pre, pre <+: wds x ∧ Jx pre W')) := by
  refine callsIn_of_wp Tryz.func97 rfl hf ?_ hro
  simp only [Tryz.ntmps97, List.size_toArray, List.length_cons, List.length_nil, Nat.reduceAdd, Nat.reduceSub, Array.replicate_succ, Array.replicate_zero, List.push_toArray, List.append_toArray, List.nil_append, List.cons_append]
  gi_wp2
  gi_loopw [3] (fun fv wr => ∃ (fr : Nat) (pre : List (BitVec 64)), fv = .int .i64 fr ∧ fr ≤ x.length + 8 ∧ pre ++ wds (x.drop fr) = wds x ∧ J pre wr ∧ K2 tb b W wr) (fun fv _ => x.length + 8 - (intOf fv).toNat)
  case atStart => exact ⟨0, [], rfl, by omega, rfl, h0, K2.refl _ _ _⟩
  case round =>
    obtain ⟨fr, pre, rfl, hfr, hpre, hJ, hB⟩ := hrel
    have hbx : wr.cell? ⟨tb, 0, none⟩ = some (.slice (some ⟨b, s, none⟩) x.length c) := (hB.cell1 0).trans hbox
    by_cases hlt : fr < x.length
    · have hne : x.drop fr ≠ [] := fun e => by have := List.drop_eq_nil_iff.1 e; omega
      have hw := wds_cons hne
      rw [List.drop_drop] at hw
      obtain ⟨ch, hch⟩ : ∃ ch, (x.drop fr).take 8 = ch := ⟨_, rfl⟩
      rw [hch] at hw
      have hchl : ch.length = min 8 (x.length - fr) := by rw [← hch, List.length_take, List.length_drop]
      have hpl : pre.length < (wds x).length := by rw [← hpre, hw]; simp
      have hwn : (BitVec.ofNat 64 (word ch)).toNat = word ch := by
        have h1 := word_lt ch
        have h2 : 256 ^ ch.length ≤ 256 ^ 8 := Nat.pow_le_pow_right (by omega) (by omega)
        rw [BitVec.toNat_ofNat, Nat.mod_eq_of_lt (by omega)]
      have hpre2 : (pre ++ [BitVec.ofNat 64 (word ch)]) ++ wds (x.drop (fr + 8)) = wds x := by rw [← hpre, hw]; simp
      obtain ⟨fn, tmps, assign, body, hy, hR⟩ := hY pre (BitVec.ofNat 64 (word ch)) wr hJ hpl
      rw [hwn] at hy
      have hcell : ∀ i, i < ch.length → ∃ z : UInt8, ch[i]? = some z ∧ wr.cell? ⟨b, s + fr + i, none⟩ = some (.int .u8 (z.toNat : Int)) := fun i hi => by
        have hxi : fr + i < x.length := by omega
        refine ⟨x[fr + i], ?_, ?_⟩
        · rw [← hch, List.getElem?_take_of_lt (by omega), List.getElem?_drop, List.getElem?_eq_getElem hxi]
        · have := hc (fr + i) (.int .u8 (x[fr + i].toNat : Int)) (by simp [bv, List.getElem?_eq_getElem hxi])
          rw [← Nat.add_assoc] at this
          exact (hB.cell2 (s + fr + i)).trans this
      have hfr63 : (fr : Int) < x.length := by omega
      have hfc : (fr : Int) < c := by omega
      gi_wp2
      all_goals first
        | rw [show ((fr : Int) + 8).toNat - fr = ch.length by omega]
        | rw [show x.length - fr = ch.length by omega]
      all_goals
        gi_loopw [4, 22] (fun av iv wr' => wr' = wr ∧ ∃ i : Nat, iv = .int .i64 i ∧ i ≤ ch.length ∧ av = .int .u64 (word (ch.take i) : Int)) (fun _ iv _ => ch.length - (intOf iv).toNat)
        case atStart => exact ⟨rfl, 0, rfl, Nat.zero_le _, rfl⟩
        case round =>
          obtain ⟨rfl, i, rfl, hi, rfl⟩ := hrel
          by_cases hil : i < ch.length
          · obtain ⟨z, hz, hzc⟩ := hcell i hil
            have hz256 := z.toNat_lt
            have hi8 : i < 8 := by omega
            have htl : (ch.take i).length = i := by rw [List.length_take]; omega
            have hacc := word_lt (ch.take i)
            have hsn := word_snoc (ch.take i) z
            rw [htl] at hacc hsn
            have hts : ch.take (i + 1) = ch.take i ++ [z] := by
              rw [List.take_add_one, hz]; rfl
            rw [← hts] at hsn
            obtain ⟨acc, hA⟩ : ∃ acc, word (ch.take i) = acc := ⟨_, rfl⟩
            rw [hA] at hacc hsn ⊢
            obtain ⟨m, hm⟩ : ∃ m, z.toNat = m := ⟨_, rfl⟩
            rw [hm] at hzc hsn hz256
            have hor := Lib.hid (or_byte hi8 hacc hz256)
            have hsn := Lib.hid hsn
            clear hts hA hm
            gi_wp2
            exact ⟨⟨trivial, i + 1, by go_num, by omega, by rw [hor.out, hsn.out]⟩, by simp [intOf]; omega⟩
          · have hie : i = ch.length := by omega
            subst hie
            rw [List.take_length]
            gi_wp2
            refine hR.mono ?_
            rintro e W3 (⟨rfl, hJ3, hk3⟩ | ⟨rfl, hJx3⟩)
            · gi_wp2
              go_roundw
              case rel => exact ⟨fr + 8, _, by go_num, by omega, hpre2, hJ3, hB.trans hk3⟩
              case measure => simp [intOf]; omega
            · gi_wp2
              refine bodyPost_ret (results_none rfl _ _ _) rfl ?_
              exact ⟨⟨_, rfl⟩, .inr ⟨_, ⟨_, hpre2⟩, hJx3⟩⟩
    · have hd : x.drop fr = [] := List.drop_of_length_le (by omega)
      rw [hd, wds_nil, List.append_nil] at hpre
      have hfr63 : (x.length : Int) ≤ fr := by omega
      gi_wp2
      go_end0
      exact ⟨⟨_, rfl⟩, .inl ⟨_, hpre, hJ⟩⟩
end Go.Proofs.YtkndgmjlphppdaaGreatDoor
namespace Go.Proofs.YtkndgmjlphppdaaGreatDoor
open Go Go.RowKit Go.Shelf
attribute [local go_sem] Oper.semAt_some

def toB (s : ByteArray) : List UInt8 := s.data.toList
theorem toB_len (s : ByteArray) : (toB s).length = s.size := by unfold toB; rw [Array.length_toList]; rfl
theorem below_bytes {n : Nat} (w : World) (e : TypeId) (s : ByteArray) (hn : n ≤ w.heap.size) : Below n w (Lib.bytesWorld w e s) :=
  ⟨rfl, rfl, rfl, by rw [Lib.bytesWorld_size]; omega, fun k hk => Lib.bytesWorld_at_old w e s k (by omega)⟩
theorem bytes_cell (w : World) (e : TypeId) (s : ByteArray) (i : Nat) (u : Value) (h : (bv (toB s))[i]? = some u) : (Lib.bytesWorld w e s).cell? ⟨w.heap.size, 0 + i, none⟩ = some u := by
  rw [Nat.zero_add]
  have hi : i < s.size := by
    have := (List.getElem?_eq_some_iff.1 h).1
    rw [bv_len, toB_len] at this
    exact this
  rw [Lib.bytesWorld_cell w e s i hi, ← h]
  unfold bv toB
  have hi' : i < s.data.toList.length := by simpa using hi
  rw [List.getElem?_map, List.getElem?_eq_getElem hi']
  simp [List.getD, List.getElem?_eq_getElem hi']
theorem conv_bytes (w : World) (s : ByteArray) : (convert 9 47 (.string s)).run Tryz.prog w = .ok (.slice (some ⟨w.heap.size, 0, none⟩) s.size (grownCap w s.size 0 5)) (Lib.bytesWorld w 5 s) :=
  Lib.run_convert_string_bytes w _ _ _ s Tryz.underlying9 Tryz.underlying47 Tryz.underlying5
theorem cap_le (w : World) (s : ByteArray) : s.size ≤ grownCap w s.size 0 5 := grownCap_ge _ _ _ _
set_option maxRecDepth 1000000 in
theorem words_walk (A : Option Addr) (n c : Nat) (w : World) : Calls Tryz.prog 71 #[.slice A n c] w fun e w' => e = .returned (.func (.func 97) #[] #[.pointer (some ⟨w.heap.size, 0, none⟩)]) ∧ w' = w.alloc (.cells #[.slice A n c] 47) := by
  go_enter Tryz.func71, Tryz.ntmps71
  go_wp2
  go_ret
  exact ⟨rfl, rfl⟩
theorem words_stops (n : Nat) (hn : 1 ≤ n) (tb b s c : Nat) (x : List UInt8) (hlen : x.length ≤ 1000000000) (hcap : x.length ≤ c) (w : World) (hbox : w.cell? ⟨tb, 0, none⟩ = some (.slice (some ⟨b, s, none⟩) x.length c)) (htb : tb < w.heap.size) (hb : b < w.heap.size)
    (hc : ∀ i u, (bv x)[i]? = some u → w.cell? ⟨b, s + i, none⟩ = some u) :
    SeqStopsK Fence.wide n Tryz.prog 97 #[.pointer (some ⟨tb, 0, none⟩)] (fun z : BitVec 64 => #[.int .u64 (z.toNat : Int)]) (K2 tb b) (fun ys => ys = wds x) (fun pre => pre <+: wds x) (wds x).length w := by
  intro l' J Jx W hW hJ hJx hY h0
  exact words1_in Fence.wide n trivial rfl hn l' tb b s c x hlen hcap J Jx hY W ((hW.cell (p := ⟨tb, 0, none⟩) htb).trans hbox) (fun i u h => (hW.cell (p := ⟨b, s + i, none⟩) hb).trans (hc i u h)) h0
theorem lt_cell {w : World} {b i : Nat} {v : Value} (h : w.cell? ⟨b, i, none⟩ = some v) : b < w.heap.size := by
  rcases Nat.lt_or_ge b w.heap.size with h1 | h1
  · exact h1
  · simp [World.cell?, Array.getElem?_eq_none h1] at h
/-- the hash of a label and words -/
def sumW (label : List UInt8) (ws : List (BitVec 64)) : BitVec 64 :=
  mix64 (mixAll (mix64 (mix64 (mixAll 0#64 (wds label)) (BitVec.ofNat 64 label.length)) (BitVec.ofNat 64 ws.length)) ws) 0#64
set_option maxRecDepth 1000000 in
set_option maxHeartbeats 2000000 in
theorem sum_walk {w : World} {s : ByteArray} {v : Value} {ws : List (BitVec 64)} (hs0 : 0 < s.size) (hs : s.size ≤ 1000000) (hws : ws.length ≤ 1000000000) (hv : Sees w 1 v (ws.map fun z => .int .i64 z.toInt)) :
    Calls Tryz.prog 72 #[.string s, v] w fun e w' => e = .returned (.int .u64 ((sumW (toB s) ws).toNat : Int)) ∧ Below w.heap.size w w' := by
  obtain ⟨A, n, c, rfl, hn, hnc, hrd⟩ := hv
  have hn' : ws.length = n := by simpa using hn
  subst hn'
  refine (callsIn_wide (n := 4)).1 ?_
  refine callsIn_of_wp_marks Tryz.func72 rfl trivial ?_ rfl
  simp only [Tryz.ntmps72, List.size_toArray, List.length_cons, List.length_nil, Nat.reduceAdd, Nat.reduceSub, Array.replicate_succ, Array.replicate_zero, List.push_toArray, List.append_toArray, List.nil_append, List.cons_append]
  have hconv := conv_bytes
  gi_wp2_with (first
    | (refine ⟨trivial, ?_⟩; gi_at_call 71; refine (callsIn_wide.2 (words_walk _ _ _ _)).mono ?_; rintro e w' ⟨rfl, rfl⟩)
    | gi_in)
  obtain ⟨cp, hcp⟩ : ∃ cp, grownCap (w.alloc (.cells #[.int .u64 0] 91)) s.size 0 5 = cp := ⟨_, rfl⟩
  have hcpge : s.size ≤ cp := hcp ▸ cap_le _ _
  rw [hcp]
  have e2 : (Lib.bytesWorld (w.alloc (.cells #[.int .u64 0] 91)) 5 s).heap.size = w.heap.size + 2 := by rw [Lib.bytesWorld_size, World.size_alloc]
  rw [e2]
  have hc0 : _ ∧ _ := ⟨(Boxed.new w 91 (.int .u64 0)).cell, (Boxed.new w 91 (.int .u64 0)).frozen⟩
  have hb1 := below_bytes (n := w.heap.size + 1) (w.alloc (.cells #[.int .u64 0] 91)) 5 s (by simp)
  have hbc := bytes_cell (w.alloc (.cells #[.int .u64 0] 91)) 5 s
  rw [World.size_alloc] at hbc
  have hbx := (Boxed.new (Lib.bytesWorld (w.alloc (.cells #[.int .u64 0] 91)) 5 s) 47 (.slice (some ⟨w.heap.size + 1, 0, none⟩) s.size cp)).cell
  rw [e2] at hbx
  have hb2 : Below (w.heap.size + 2) (Lib.bytesWorld (w.alloc (.cells #[.int .u64 0] 91)) 5 s) ((Lib.bytesWorld (w.alloc (.cells #[.int .u64 0] 91)) 5 s).alloc (.cells #[.slice (some ⟨w.heap.size + 1, 0, none⟩) s.size cp] 47)) := (Below.refl _ _).alloc (by rw [e2]; omega) _
  have hB0 : Below w.heap.size w ((Lib.bytesWorld (w.alloc (.cells #[.int .u64 0] 91)) 5 s).alloc (.cells #[.slice (some ⟨w.heap.size + 1, 0, none⟩) s.size cp] 47)) :=
    (((Below.refl _ w).alloc (Nat.le_refl _) _).trans (hb1.mono (by omega))).trans (hb2.mono (by omega))
  have hsz0 : ((Lib.bytesWorld (w.alloc (.cells #[.int .u64 0] 91)) 5 s).alloc (.cells #[.slice (some ⟨w.heap.size + 1, 0, none⟩) s.size cp] 47)).heap.size = w.heap.size + 3 := by rw [World.size_alloc, e2]
  have hbc2 := fun i u h => (hb2.cell (p := ⟨w.heap.size + 1, 0 + i, none⟩) (by show w.heap.size + 1 < _; omega)).trans (hbc i u h)
  have hc2 := ((hb1.trans (hb2.mono (by omega))).cell (p := ⟨w.heap.size, 0, none⟩) (by show w.heap.size < _; omega)).trans hc0.1
  have hz2 := ((hb1.trans (hb2.mono (by omega))).frozen (p := ⟨w.heap.size, 0, none⟩) (by show w.heap.size < _; omega)).trans hc0.2
  obtain ⟨W0, hW0⟩ : ∃ W0, (Lib.bytesWorld (w.alloc (.cells #[.int .u64 0] 91)) 5 s).alloc (.cells #[.slice (some ⟨w.heap.size + 1, 0, none⟩) s.size cp] 47) = W0 := ⟨_, rfl⟩
  rw [hW0] at hbx hB0 hsz0 hbc2 hc2 hz2 ⊢
  clear hW0 hb2 hb1 hbc hc0 e2 hcp hconv
  have hlen := toB_len s
  refine wpIn_rangeFunc_ownF rfl (by omega) (gf := 97) (lb := #[.pointer (some ⟨w.heap.size + 2, 0, none⟩)]) rfl trivial (enters_of Tryz.func97 (by kernel_rfl) rfl)
    (words_stops 3 (by omega) (w.heap.size + 2) (w.heap.size + 1) 0 cp (toB s) (by omega) (by omega) W0 (by rw [hlen]; exact hbx) (by omega) (by omega) hbc2) (fun h k => h.trans k) (k2_b (by omega) (by omega)) (Below.refl _ _) (fun _ => rfl)
    (fun pre W => (W.cell? ⟨w.heap.size, 0, none⟩ = some (.int .u64 ((mixAll 0#64 pre).toNat : Int)) ∧ W.frozen? ⟨w.heap.size, 0, none⟩ = false) ∧ Below w.heap.size w W)
    (fun _ _ _ => False)
    (OwnFrom.and (Own.from (fun s A B row hs hg hr => ⟨cell_kept hs.1 hg hr, (frozen_kept hs.1 hg hr).trans hs.2⟩) _) (ownFrom_below (Nat.le_refl _) (by omega)))
    (fun _ _ _ _ _ hs _ _ => hs)
    ⟨⟨hc2, hz2⟩, hB0⟩
    (fun x => { tmps := #[.string s, .slice A ws.length c, undef, undef, .int .u64 0, .pointer (some ⟨w.heap.size, 0, none⟩), .int .u64 (x.toNat : Int), undef, undef, .string s, .slice (some ⟨w.heap.size + 1, 0, none⟩) s.size cp, .func (.func 97) #[] #[.pointer (some ⟨w.heap.size + 2, 0, none⟩)], .int .u64 (x.toNat : Int), undef, undef,
          undef, undef, undef, undef, undef, undef, undef, undef, undef, undef, undef, undef, undef, undef, undef, undef, undef, undef, undef, undef, undef, undef, undef, undef], defers := [] }) ?assign ?body ?done ?stop
  case assign =>
    intro l x W K hK
    gi_wp2
    exact hK
  case body =>
    rintro l pre x W ⟨⟨hc, hf⟩, hB⟩ _
    gi_wp2_with (first
      | (refine ⟨trivial, ?_⟩; gi_at_call 98; refine (CallsIn.inRound l (callsIn_wide.2 (mix_walk _ _ _))).mono ?_; rintro e w' ⟨rfl, rfl⟩)
      | gi_in)
    have hst : mixAll 0#64 (pre ++ [x]) = mix64 (mixAll 0#64 pre) x := by unfold mixAll; rw [List.foldl_append]; rfl
    exact ⟨KeepsOthers.setCell _ _ _, K2.far (by show w.heap.size + 2 ≠ w.heap.size; omega) (by show w.heap.size + 1 ≠ w.heap.size; omega) _, ⟨by rw [hst]; exact World.cell?_setCell_same' _ _ _ (by rw [hc]; rfl), by rw [World.frozen?_setCell]; exact hf⟩, hB.setCell (p := ⟨w.heap.size, 0, none⟩) (Nat.le_refl _) _⟩
  case done =>
    rintro D ys W hD rfl ⟨⟨hc, hf⟩, hB⟩ hK
    obtain ⟨q0, hq0⟩ : ∃ q, mixAll 0#64 (wds (toB s)) = q := ⟨_, rfl⟩
    obtain ⟨q1, hq1⟩ : ∃ q, mix64 q0 (BitVec.ofNat 64 s.size) = q := ⟨_, rfl⟩
    obtain ⟨q2, hq2⟩ : ∃ q, mix64 q1 (BitVec.ofNat 64 ws.length) = q := ⟨_, rfl⟩
    have hfin : Hid (sumW (toB s) ws = mix64 (mixAll q2 ws) 0#64) := by
      unfold sumW
      rw [hq0, hlen, hq1, hq2]
      exact rfl
    have hm1 := fun W => mix_walk q0 (BitVec.ofNat 64 s.size) W
    have hm2 := fun W => mix_walk q1 (BitVec.ofNat 64 ws.length) W
    rw [hq1, BitVec.toNat_ofNat, Nat.mod_eq_of_lt (by omega)] at hm1
    rw [hq2, BitVec.toNat_ofNat, Nat.mod_eq_of_lt (by omega)] at hm2
    rw [hq0] at hc
    have hs63 : (s.size : Int) ≤ 1000000 := by omega
    have hw63 : (ws.length : Int) ≤ 1000000000 := by omega
    have hKD : W.heap[D]? = some (.deferred (some [])) := hK
    have hDne : w.heap.size ≠ D := by omega
    clear hq0 hq1 hq2 hbx hbc2
    gi_wp2_with (first
      | (refine ⟨trivial, ?_⟩; gi_at_call 98; refine (callsIn_wide.2 (hm1 _)).mono ?_; rintro e w' ⟨rfl, rfl⟩; clear hm1)
      | (refine ⟨trivial, ?_⟩; gi_at_call 98; refine (callsIn_wide.2 (hm2 _)).mono ?_; rintro e w' ⟨rfl, rfl⟩; clear hm2)
      | gi_in)
    have hblt := lt_cell hc
    have hc1 : ∀ v, (w'.setCell ⟨w.heap.size, 0, none⟩ v).cell? ⟨w.heap.size, 0, none⟩ = some v := fun v => World.cell?_setCell_same' _ _ _ (by rw [hc]; rfl)
    gi_loopw [28] (fun iv wr => ∃ i : Nat, iv = .int .i64 i ∧ i ≤ ws.length ∧ wr.cell? ⟨w.heap.size, 0, none⟩ = some (.int .u64 ((mixAll q2 (ws.take i)).toNat : Int)) ∧ wr.frozen? ⟨w.heap.size, 0, none⟩ = false ∧ Below w.heap.size w wr ∧ wr.heap[D]? = some (.deferred (some []))) (fun iv _ => ws.length - (intOf iv).toNat)
    case atStart =>
      refine ⟨0, rfl, Nat.zero_le _, ?_, ?_, ?_, ?_⟩
      · exact World.cell?_setCell_same' _ _ _ (by rw [hc1]; rfl)
      · rw [World.frozen?_setCell, World.frozen?_setCell]; exact hf
      · exact (hB.setCell (p := ⟨w.heap.size, 0, none⟩) (Nat.le_refl _) _).setCell (p := ⟨w.heap.size, 0, none⟩) (Nat.le_refl _) _
      · exact (Below.heap_setCell _ ⟨w.heap.size, 0, none⟩ _ D (fun e => hDne e.symm)).trans ((Below.heap_setCell _ ⟨w.heap.size, 0, none⟩ _ D (fun e => hDne e.symm)).trans hKD)
    case round =>
      obtain ⟨i, rfl, hi, hci, hfi, hBi, hKi⟩ := hrel
      by_cases hil : i < ws.length
      · obtain ⟨b, so, rfl, hbl, hcell⟩ := hrd (by omega)
        have hce := (hBi.cell (p := ⟨b, so + i, none⟩) hbl).trans (hcell i (.int .i64 ws[i].toInt) (by rw [List.getElem?_map, List.getElem?_eq_getElem hil]; rfl))
        have htk : mixAll q2 (ws.take (i + 1)) = mix64 (mixAll q2 (ws.take i)) ws[i] := by
          rw [List.take_add_one, List.getElem?_eq_getElem hil]; unfold mixAll; rw [List.foldl_append]; rfl
        have htk := Lib.hid htk
        have hm3 := fun st W => mix_walk st ws[i] W
        have hz : ((ws[i].toNat : Nat) : Int) = IntKind.u64.wrap ws[i].toInt := by have hz1 := ws[i].isLt; rw [IntKind.wrap_u64, BitVec.toInt_eq_toNat_cond]; split <;> omega
        rw [hz] at hm3
        gi_wp2_with (first
          | (refine ⟨trivial, ?_⟩; gi_at_call 98; refine (callsIn_wide.2 (hm3 _ _)).mono ?_; rintro e w2 ⟨rfl, rfl⟩)
          | gi_in)
        refine ⟨⟨i + 1, by go_num, by omega, ?_, by rw [World.frozen?_setCell]; exact hfi, hBi.setCell (p := ⟨w.heap.size, 0, none⟩) (Nat.le_refl _) _, (Below.heap_setCell _ ⟨w.heap.size, 0, none⟩ _ D (fun e => hDne e.symm)).trans hKi⟩, by simp [intOf]; omega⟩
        rw [htk.out]
        exact World.cell?_setCell_same' _ _ _ (by rw [hci]; rfl)
      · have hie : i = ws.length := by omega
        subst hie
        rw [List.take_length] at hci
        have hm4 := fun W => mix_walk (mixAll q2 ws) 0#64 W
        gi_wp2_with (first
          | (refine ⟨trivial, ?_⟩; gi_at_call 98; refine (callsIn_wide.2 (hm4 _)).mono ?_; rintro e w2 ⟨rfl, rfl⟩)
          | gi_in)
        refine ⟨by simp, .inl ⟨_, _, rfl, run_takeDeferred hKi, ?_⟩⟩
        refine ⟨_, results_tmp rfl _ _ _, ?_, hBi.trans (belowK_b (w := w) (Nat.le_refl _) _ D _ _ (by omega) hKi rfl rfl)⟩
        rw [hfin.out]
        rfl
  case stop =>
    rintro D c pre W _ _ h _
    exact h.elim
end Go.Proofs.YtkndgmjlphppdaaGreatDoor
namespace Go.Proofs.YtkndgmjlphppdaaGreatDoor

/-- the hash of a frame's core: the label is the word "frame" -/
def frameH (l : List UInt8) : Nat := hashB [102, 114, 97, 109, 101] l
theorem frameH_lt (l : List UInt8) : frameH l < 18446744073709551616 := hashB_lt _ l
/-- l and m have one length and differ at the place i alone -/
structure Bent (l m : List UInt8) (i : Nat) : Prop where
  len : l.length = m.length
  lt : i < l.length
  same : ∀ j, j ≠ i → l[j]? = m[j]?
  diff : l[i]? ≠ m[i]?
theorem Bent.behind {a l m : List UInt8} {i : Nat} (h : Bent (a ++ l) m i) (hi : a.length ≤ i) : ∃ m', m = a ++ m' ∧ Bent l m' (i - a.length) := by
  have hl := h.len
  rw [List.length_append] at hl
  have hm : m.take a.length = a := List.ext_getElem? fun j => by
    rw [List.getElem?_take]
    split
    · rename_i hj
      rw [← h.same j (by omega), List.getElem?_append_left hj]
    · rename_i hj
      rw [List.getElem?_eq_none (by omega)]
  have hm2 : m = a ++ m.drop a.length := by rw [← List.take_append_drop a.length m, hm, List.drop_left' rfl]
  refine ⟨m.drop a.length, hm2, by rw [List.length_drop]; omega, by have := h.lt; rw [List.length_append] at this; omega, fun j hj => ?_, ?_⟩
  · have := h.same (a.length + j) (by omega)
    rw [List.getElem?_append_right (by omega), Nat.add_sub_cancel_left] at this
    rw [List.getElem?_drop]; exact this
  · have := h.diff
    rw [List.getElem?_append_right hi] at this
    rw [List.getElem?_drop, show a.length + (i - a.length) = i by omega]; exact this
theorem Bent.ahead {l t m : List UInt8} {i : Nat} (h : Bent (l ++ t) m i) (hi : i < l.length) : ∃ l', m = l' ++ t ∧ Bent l l' i := by
  have hl := h.len
  rw [List.length_append] at hl
  have hd : m.drop l.length = t := List.ext_getElem? fun j => by
    rw [List.getElem?_drop, ← h.same _ (by omega), List.getElem?_append_right (by omega), Nat.add_sub_cancel_left]
  refine ⟨m.take l.length, by conv => rhs; rw [← hd]
                              exact (List.take_append_drop ..).symm, by rw [List.length_take]; omega, hi, fun j hj => ?_, ?_⟩
  · rw [List.getElem?_take]
    split
    · rename_i h2
      rw [← h.same j hj, List.getElem?_append_left h2]
    · rename_i h2
      rw [List.getElem?_eq_none (by omega)]
  · rw [List.getElem?_take, if_pos hi]
    have := h.diff
    rwa [List.getElem?_append_left hi] at this
theorem Bent.ne {l m : List UInt8} {i : Nat} (h : Bent l m i) : l ≠ m := fun e => h.diff (by rw [e])
/-- a frame with one byte behind its length altered begins with no frame of its number -/
theorem fst_bent {b : List UInt8} {k i : Nat} {r t : List UInt8} (hk : k < 4611686018427387904) (hr : r.length < 1000000000000) (hb : b.length < 1000000000000) (h : Bent (frame frameH k r ++ t) b i) (hi : (uv (core k r).length).length ≤ i) (hlt : i < (frame frameH k r).length) : fst frameH b k = none := by
  refine fst_none fun r' h' => ?_
  have hc := core_len k r hk (by omega)
  have hsp : frame frameH k r ++ t = uv (core k r).length ++ (core k r ++ (uv (frameH (core k r)) ++ t)) := by unfold frame encR; simp only [List.append_assoc]
  obtain ⟨t', ht'⟩ := h'
  have hsp' : frame frameH k r' ++ t' = uv (core k r').length ++ (core k r' ++ (uv (frameH (core k r')) ++ t')) := by unfold frame encR; simp only [List.append_assoc]
  rw [hsp] at h
  obtain ⟨m, e1, e2⟩ := h.behind hi
  have hbig : (core k r').length < 1000000000000 := by
    have := congrArg List.length ht'
    rw [hsp'] at this
    simp only [List.length_append] at this
    omega
  have hrd := dU_uv (n := (core k r).length) (by omega) m
  rw [← e1, ← ht', hsp', dU_uv (by omega)] at hrd
  simp only [Option.some.injEq, Prod.mk.injEq] at hrd
  obtain ⟨hlen, hm⟩ := hrd
  have hfl : (frame frameH k r).length = (uv (core k r).length).length + ((core k r).length + (uv (frameH (core k r))).length) := by unfold frame encR; simp only [List.length_append]; omega
  by_cases hp : i - (uv (core k r).length).length < (core k r).length
  · obtain ⟨c', e3, e4⟩ := e2.ahead hp
    rw [← hm] at e3
    obtain ⟨f1, f2⟩ := List.append_inj e3 (by rw [hlen]; exact e4.len)
    have hne : frameH (core k r) ≠ frameH (core k r') := by
      rw [f1]
      exact hashB_one e4.len ⟨_, e4.lt, e4.same, e4.diff⟩
    have h1 := dU_uv (frameH_lt (core k r)) t
    rw [← f2, dU_uv (frameH_lt _)] at h1
    simp only [Option.some.injEq, Prod.mk.injEq] at h1
    exact hne h1.1.symm
  · obtain ⟨m2, e3, e4⟩ := e2.behind (by omega)
    rw [← hm] at e3
    obtain ⟨f1, f2⟩ := List.append_inj e3 hlen
    rw [f1] at f2
    obtain ⟨u, e5, e6⟩ := e4.ahead (by omega)
    rw [← f2] at e5
    exact e6.ne (List.append_inj e5 e6.len).1
end Go.Proofs.YtkndgmjlphppdaaGreatDoor
namespace Go.Smap
open Go Go.Maps Go.RowKit Go.WideMaps

/-- block B is a map of at most n entries, keyed by strings, that holds what f says -/
def IsMap (w : World) (B n : Nat) (f : ByteArray → Option Value) : Prop :=
  ∃ ms cl, w.heap[B]? = some (.map ms cl) ∧ ms.size ≤ n ∧ (∀ x ∈ ms.toList, x.born < cl) ∧ (ms.toList.map (·.born)).Nodup ∧ (ms.toList.map (·.key)).Nodup ∧
    (∀ x ∈ ms.toList, ∃ s : ByteArray, s.size ≤ maxLen ∧ x.key = .string s ∧ f s = some x.val) ∧ ∀ s v, f s = some v → ∃ x ∈ ms.toList, x.key = .string s
theorem IsMap.same {w w' : World} {B n : Nat} {f : ByteArray → Option Value} (h : IsMap w B n f) (hb : w'.heap[B]? = w.heap[B]?) : IsMap w' B n f := by
  obtain ⟨ms, cl, h0, h1⟩ := h
  exact ⟨ms, cl, hb.trans h0, h1⟩
theorem IsMap.lt {w : World} {B n : Nat} {f : ByteArray → Option Value} (h : IsMap w B n f) : B < w.heap.size := by
  obtain ⟨ms, cl, h0, _⟩ := h
  exact (Array.getElem?_eq_some_iff.1 h0).1
theorem IsMap.alloc {w : World} {B n : Nat} {f : ByteArray → Option Value} (h : IsMap w B n f) (o : Obj) : IsMap (w.alloc o) B n f := h.same (Below.heap_alloc _ _ _ h.lt)
theorem isMap_made (w : World) : IsMap (w.alloc (.map #[] 0)) w.heap.size 0 fun _ => none :=
  ⟨#[], 0, heap_alloc_new _ _, by simp, by simp, by simp, by simp, by simp, by simp⟩
section
variable {P : Program} {t k e : TypeId} {w : World} {B n : Nat} {f : ByteArray → Option Value}
theorem IsMap.keys (hk : P.underlying k = some .string) {ms : Array MapEntry} (h : ∀ x ∈ ms.toList, ∃ s : ByteArray, s.size ≤ maxLen ∧ x.key = .string s ∧ f s = some x.val) : ∀ x ∈ ms.toList, ∃ l, keyOf P k x.key = some l := fun x hx => by
  obtain ⟨s, hs, hkey, _⟩ := h x hx
  exact ⟨_, by rw [hkey]; exact keyOf_string_mk hk hs⟩
theorem IsMap.lookup (h : IsMap w B n f) (ht : P.underlying t = some (.map k e)) (hk : P.underlying k = some .string) {z : Value} (hz : (zeroValue e).run P w = .ok z w) {s : ByteArray} (hs : s.size ≤ maxLen) :
    (Instr.lookup t (.map (some B)) (.string s) false).run P w = .ok ((f s).getD z) w := by
  obtain ⟨ms, cl, hb, _, _, _, hnd, h1, h2⟩ := h
  have K := string_keyed hk
  have hkey := keyOf_string_mk hk hs
  rcases K.find w hkey ms.toList (IsMap.keys hk h1) with ⟨hf, hn⟩ | ⟨j, e0, hf, hj, he⟩
  · have : f s = none := by
      cases hfs : f s with
      | none => rfl
      | some v => obtain ⟨x, hx, hxk⟩ := h2 s v hfs; exact absurd hxk (hn x hx)
    rw [this]
    simp [Instr.lookup, run_underlying ht, MapKept.run_getObj_map hb, K.check w _ hkey, hf, hz, Result.andThen]
  · obtain ⟨s', _, hk', hv⟩ := h1 e0 (List.mem_of_getElem? hj)
    rw [he] at hk'
    cases hk'
    rw [hv]
    simp [Instr.lookup, run_underlying ht, MapKept.run_getObj_map hb, K.check w _ hkey, hf, Result.andThen]
theorem IsMap.update (h : IsMap w B n f) (hn : n < maxLen) (ht : P.underlying t = some (.map k e)) (hk : P.underlying k = some .string) {s : ByteArray} (hs : s.size ≤ maxLen) (v : Value) :
    ∃ o, (Instr.mapUpdate t (.map (some B)) (.string s) v).run P w = .ok () (ChangeMaps.setBlock w B o) ∧ IsMap (ChangeMaps.setBlock w B o) B (n + 1) fun u => if u = s then some v else f u := by
  obtain ⟨ms, cl, hb, hsz, hb1, hb2, hnd, h1, h2⟩ := h
  have K := string_keyed hk
  have hkey := keyOf_string_mk hk hs
  have hlt : B < w.heap.size := (Array.getElem?_eq_some_iff.1 hb).1
  have hnew : ∀ o, (ChangeMaps.setBlock w B o).heap[B]? = some o := fun o => by simp [ChangeMaps.setBlock, hlt]
  rcases K.find w hkey ms.toList (IsMap.keys hk h1) with ⟨hf, hno⟩ | ⟨j, e0, hf, hj, he⟩
  · refine ⟨.map (ms.push ⟨.string s, v, cl⟩) (cl + 1), ?_, ms.push ⟨.string s, v, cl⟩, cl + 1, hnew _, by simp; omega, ?_, ?_, ?_, ?_, ?_⟩
    · simp [Instr.mapUpdate, run_underlying ht, MapKept.run_getObj_map hb, K.check w false hkey, hf, MapKept.run_setObj_map _ hb, Result.andThen, ChangeMaps.setBlock]
    · intro x hx
      simp only [Array.toList_push, List.mem_append, List.mem_singleton] at hx
      rcases hx with hx | rfl
      · have := hb1 x hx; omega
      · simp
    · simp only [Array.toList_push, List.map_append, List.map_singleton]
      refine List.nodup_append.2 ⟨hb2, by simp, fun a ha b hb' => ?_⟩
      simp only [List.mem_singleton] at hb'
      subst hb'
      obtain ⟨x, hx, rfl⟩ := List.mem_map.1 ha
      have := hb1 x hx
      simp; omega
    · simp only [Array.toList_push, List.map_append, List.map_singleton]
      refine List.nodup_append.2 ⟨hnd, by simp, fun a ha b hb' => ?_⟩
      simp only [List.mem_singleton] at hb'
      subst hb'
      obtain ⟨x, hx, rfl⟩ := List.mem_map.1 ha
      exact hno x hx
    · intro x hx
      simp only [Array.toList_push, List.mem_append, List.mem_singleton] at hx
      rcases hx with hx | rfl
      · obtain ⟨u, hu, hxk, hv⟩ := h1 x hx
        refine ⟨u, hu, hxk, ?_⟩
        show (if u = s then some v else f u) = _
        rw [if_neg (fun e' => hno x hx (by rw [hxk, e']))]
        exact hv
      · exact ⟨s, hs, rfl, by simp⟩
    · intro u y hu
      simp only [Array.toList_push, List.mem_append, List.mem_singleton]
      by_cases e : u = s
      · subst e
        exact ⟨_, .inr rfl, rfl⟩
      · have hu' : (if u = s then some v else f u) = some y := hu
        rw [if_neg e] at hu'
        obtain ⟨x, hx, hxk⟩ := h2 u y hu'
        exact ⟨x, .inl hx, hxk⟩
  · have hj' : ms[j]? = some e0 := by simpa using hj
    have hlist : (ms.modify j (fun e' => { e' with key := .string s, val := v })).toList = ms.toList.set j { e0 with key := .string s, val := v } := by rw [Array.toList_modify, ChangeMaps.modify_eq_set _ _ _ _ hj]
    have hkj : (ms.toList.map (·.key))[j]? = some (.string s) := by rw [List.getElem?_map, hj]; simp [he]
    have hbj : (ms.toList.map (·.born))[j]? = some e0.born := by rw [List.getElem?_map, hj]; rfl
    have hself : ∀ {α : Type} (l : List α) (i : Nat) (a : α), l[i]? = some a → l.set i a = l := fun l i a h => by
      refine List.ext_getElem? fun m => ?_
      rw [List.getElem?_set]
      split
      · rename_i e1; subst e1; split
        · exact h.symm
        · rename_i h2; rw [List.getElem?_eq_none (by omega)] at h; cases h
      · rfl
    have hkeys : (ms.toList.set j { e0 with key := .string s, val := v }).map (·.key) = ms.toList.map (·.key) := by rw [List.map_set]; exact hself _ _ _ hkj
    have hborn : (ms.toList.set j { e0 with key := .string s, val := v }).map (·.born) = ms.toList.map (·.born) := by rw [List.map_set]; exact hself _ _ _ hbj
    have hjl : j < ms.toList.length := (List.getElem?_eq_some_iff.1 hj).1
    have who : ∀ x ∈ ms.toList.set j { e0 with key := .string s, val := v }, x = { e0 with key := .string s, val := v } ∨ (x ∈ ms.toList ∧ x.key ≠ .string s) := by
      intro x hx
      obtain ⟨i, hi, ex⟩ := List.getElem_of_mem hx
      rw [List.getElem_set] at ex
      split at ex
      · exact .inl ex.symm
      · rename_i hne
        have hi' : i < ms.toList.length := by simpa using hi
        refine .inr ⟨ex ▸ List.getElem_mem hi', fun e1 => hne ?_⟩
        have hl : (ms.toList.map (·.key))[i]? = some (.string s) := by rw [List.getElem?_map, List.getElem?_eq_getElem hi', ex]; simp [e1]
        have hij := (List.getElem?_inj (i := j) (j := i) (by simpa using hjl) hnd).1 (hkj.trans hl.symm)
        exact hij
    refine ⟨.map (ms.modify j (fun e' => { e' with key := .string s, val := v })) cl, ?_, ms.modify j (fun e' => { e' with key := .string s, val := v }), cl, hnew _, by simp; omega, ?_, by rw [hlist, hborn]; exact hb2, by rw [hlist, hkeys]; exact hnd, ?_, ?_⟩
    · simp [Instr.mapUpdate, run_underlying ht, MapKept.run_getObj_map hb, K.check w false hkey, hf, hj', he, K.stays w hkey, MapKept.run_setObj_map _ hb, Result.andThen, ChangeMaps.setBlock]
    · intro x hx
      rw [hlist] at hx
      rcases who x hx with rfl | ⟨hx', _⟩
      · exact hb1 e0 (List.mem_of_getElem? hj)
      · exact hb1 x hx'
    · intro x hx
      rw [hlist] at hx
      rcases who x hx with rfl | ⟨hx', hne⟩
      · exact ⟨s, hs, rfl, by simp⟩
      · obtain ⟨u, hu, hxk, hv⟩ := h1 x hx'
        exact ⟨u, hu, hxk, by show (if u = s then some v else f u) = _; rw [if_neg (fun e' => hne (by rw [hxk, e']))]; exact hv⟩
    · intro u y hu
      rw [hlist]
      have hex : ∃ x ∈ ms.toList, x.key = .string u := by
        by_cases e : u = s
        · subst e; exact ⟨e0, List.mem_of_getElem? hj, he⟩
        · have hu' : (if u = s then some v else f u) = some y := hu
          rw [if_neg e] at hu'; exact h2 u y hu'
      obtain ⟨x, hx, hxk⟩ := hex
      have : Value.string u ∈ (ms.toList.set j { e0 with key := .string s, val := v }).map (·.key) := by rw [hkeys]; exact List.mem_map.2 ⟨x, hx, hxk⟩
      obtain ⟨x', hx', hxk'⟩ := List.mem_map.1 this
      exact ⟨x', hx', hxk'⟩
end
end Go.Smap
namespace Go.Proofs.YtkndgmjlphppdaaGreatDoor
open Go Go.RowKit Go.Shelf
attribute [local go_sem] Oper.semAt_some

theorem infoInt : (Tryz.prog.info? 3).map (fun i => (i.zero, i.size, i.bytes)) = some (some (.int .i64 0), 1, 8) := by kernel_rfl
theorem hashB_eq (label x : List UInt8) : hashB label x = (sumW label (wds x ++ [BitVec.ofNat 64 x.length])).toNat := by
  unfold hashB sum64 sumW wds
  rw [List.map_append, List.length_append, List.length_append, List.length_map]
  rfl
theorem toInt_wrap (z : BitVec 64) : wrap64 (z.toNat : Int) = z.toInt := by
  have := z.isLt
  unfold wrap64
  rw [BitVec.toInt_eq_toNat_cond]
  split <;> omega
def wv (z : BitVec 64) : Value := .int .i64 z.toInt
theorem wds_len : ∀ (n : Nat) (l : List UInt8), l.length ≤ n → (wds l).length ≤ l.length
  | 0, l, h => by rw [show l = [] from List.length_eq_zero_iff.1 (by omega), wds_nil]; exact Nat.le_refl _
  | n + 1, l, h => by
    by_cases hl : l = []
    · rw [hl, wds_nil]; exact Nat.le_refl _
    · rw [wds_cons hl]
      have h0 : 0 < l.length := List.length_pos_iff.2 hl
      have := wds_len n (l.drop 8) (by rw [List.length_drop]; omega)
      rw [List.length_drop] at this
      rw [List.length_cons]
      omega
set_option maxRecDepth 1000000 in
set_option maxHeartbeats 4000000 in
theorem hbytes_walk {w : World} {s : ByteArray} {v : Value} {x : List UInt8} (hs0 : 0 < s.size) (hs : s.size ≤ 1000000) (hx0 : 0 < x.length) (hx : x.length ≤ 100000000) (hv : Sees w 1 v (bv x)) :
    Calls Tryz.prog 43 #[.string s, v] w fun e w' => e = .returned (.int .u64 (hashB (toB s) x : Int)) ∧ Below w.heap.size w w' := by
  obtain ⟨i0, hi0, hz0, hz1, hz2⟩ := info_parts' infoInt
  obtain ⟨A, n, c, rfl, hn, hnc, hrd⟩ := hv
  have hn' : x.length = n := by have := hn; rw [bv_len] at this; omega
  subst hn'
  obtain ⟨b, so, rfl, hbl, hcell⟩ := hrd (by omega)
  rw [hashB_eq]
  refine (callsIn_wide (n := 4)).1 ?_
  refine callsIn_of_wp_marks Tryz.func43 rfl trivial ?_ rfl
  simp only [Tryz.ntmps43, List.size_toArray, List.length_cons, List.length_nil, Nat.reduceAdd, Nat.reduceSub, Array.replicate_succ, Array.replicate_zero, List.push_toArray, List.append_toArray, List.nil_append, List.cons_append]
  have hx63 : (x.length : Int) ≤ 100000000 := by omega
  obtain ⟨wm, hmk, hmrow, hmg⟩ := run_make_own (P := Tryz.prog) w w.heap.size 22 3 i0 _ 1 Tryz.underlying22 hi0 hz0 hz1 .i64 .i64 (x.length / 8 + 2) (by rw [hz2]; omega) (by unfold maxLen; omega) (Nat.le_refl _)
  have ecap : ((x.length / 8 + 2 : Nat) : Int) = (x.length : Int) / 8 + 2 := by omega
  rw [ecap] at hmk
  gi_wp2_with (first
    | (refine ⟨trivial, ?_⟩; gi_at_call 71; refine (callsIn_wide.2 (words_walk _ _ _ _)).mono ?_; rintro e w' ⟨rfl, rfl⟩)
    | gi_in)
  have hMS := hmg.size
  obtain ⟨S, hS⟩ : ∃ S, w.heap.size = S := ⟨_, rfl⟩
  obtain ⟨M, hM⟩ : ∃ M, wm.heap.size = M := ⟨_, rfl⟩
  obtain ⟨v0, hv0⟩ : ∃ v, Value.slice (some ⟨w.heap.size, 0, none⟩) 0 (x.length / 8 + 2) = v := ⟨_, rfl⟩
  obtain ⟨vx, hvx⟩ : ∃ v, Value.slice (some ⟨b, so, none⟩) x.length c = v := ⟨_, rfl⟩
  rw [hv0] at hmrow ⊢
  rw [hvx] at ⊢
  have hA1 : (wm.alloc (.cells #[v0] 22)).heap.size = M + 1 := by rw [World.size_alloc, hM]
  have bxM := Boxed.new wm 22 v0
  have bxT := Boxed.new (wm.alloc (.cells #[v0] 22)) 47 vx
  rw [hA1] at bxT
  have bxM2 := bxM.alloc (.cells #[vx] 47)
  rw [hM] at bxM2 hMS ⊢
  have hrow0 := (hmrow.alloc (.cells #[v0] 22)).alloc (.cells #[vx] 47)
  have hB0 : Below S w ((wm.alloc (.cells #[v0] 22)).alloc (.cells #[vx] 47)) :=
    (((Below.refl S w).grown hmg (by omega) (fun k e => by cases e)).alloc (by omega) _).alloc (by rw [hA1]; omega) _
  have hsz0 : ((wm.alloc (.cells #[v0] 22)).alloc (.cells #[vx] 47)).heap.size = M + 2 := by rw [World.size_alloc, hA1]
  obtain ⟨W0, hW0⟩ : ∃ W0, (wm.alloc (.cells #[v0] 22)).alloc (.cells #[vx] 47) = W0 := ⟨_, rfl⟩
  rw [hS] at hrow0 hMS
  rw [hW0] at bxM2 bxT hrow0 hB0 hsz0 ⊢
  have hwl := wds_len _ x (Nat.le_refl _)
  have hcell0 := fun i u h => (hB0.cell (p := ⟨b, so + i, none⟩) (by show b < S; omega)).trans (hcell i u h)
  have hvx1 : W0.cell? ⟨M + 1, 0, none⟩ = some (.slice (some ⟨b, so, none⟩) x.length c) := by rw [hvx]; exact bxT.cell
  have hbS : b < S := by omega
  clear hmk hmrow bxM hA1 hW0 hmg hM hv0 hrd hcell ecap
  refine wpIn_rangeFunc_ownF rfl (by omega) (gf := 97) (lb := #[.pointer (some ⟨M + 1, 0, none⟩)]) rfl trivial (enters_of Tryz.func97 (by kernel_rfl) rfl)
    (words_stops 3 (by omega) (M + 1) b so c x (by omega) (by omega) W0 hvx1 (by omega) (by omega) hcell0) (fun h k => h.trans k) (k2_b (by omega) (by omega)) (Below.refl _ _) (fun _ => rfl)
    (fun pre W => ((∃ v, Boxed W M 22 v ∧ W.ownsRow S 3 1 v pre.length (pre.map wv) ∧ True) ∧ Boxed W (M + 1) 47 vx) ∧ Below S w W)
    (fun _ _ _ => False)
    (OwnFrom.and (Own.from (fun s A B row hs hg hr => ⟨holdsRow_own S M 22 3 1 (fun pre : List (BitVec 64) => pre.length) (fun pre => pre.map wv) (fun _ _ => True) s A B row hs.1 hg hr, boxed_own (M + 1) 47 (fun _ => vx) s A B row hs.2 hg hr⟩) _) (ownFrom_below (by omega) (by omega)))
    (fun _ _ _ _ _ hs _ _ => hs)
    ⟨⟨⟨_, bxM2, hrow0, trivial⟩, bxT⟩, hB0⟩
    (fun z => { tmps := #[.string s, vx, undef, undef, .int .u64 0, .pointer (some ⟨M, 0, none⟩), .int .u64 (z.toNat : Int), vx, .int .i64 ↑x.length, .int .i64 (↑x.length / 8), .int .i64 (↑x.length / 8 + 2), v0, vx,
          .func (.func 97) #[] #[.pointer (some ⟨M + 1, 0, none⟩)], .int .u64 (z.toNat : Int), undef, undef, undef, undef, undef, undef, undef, undef, undef, undef, undef, undef, undef], defers := [] }) ?assign ?body ?done ?stop
  case assign =>
    intro l x W K hK
    gi_wp2
    exact hK
  case body =>
    rintro l pre z W ⟨⟨⟨v, hv, hrow, _⟩, hbt⟩, hB⟩ hlt
    have hc := hv.cell
    have hzi := toInt_wrap z
    have hbtne := fun g => row_blk hrow (g := g) (t := 47) (cs := #[vx])
    have hM1 := hv.lt
    gi_wp2_with (gi_at_builtin; refine wpListIn_append_own _ rfl _ _ 22 rfl S 3 i0 (.int .i64 0) 1 8 Tryz.underlying22 hi0 hz0 hz1 hz2 rfl (by decide) _ _ _ rfl (hrow.alloc _) ⟨W.heap.size, 0, none⟩ 1 1 [wv z] rfl rfl (cell_one_new _ _ _) (by simp [Value.oneCell', wv]) (by unfold maxLen; omega) (by omega) (by have := hB.size; simp; omega) ?_; intro v' w1 hown' hgrow _; obtain ⟨g', cap', rfl⟩ := ownsRow_succ hown'; obtain ⟨hv1, hv2, hr2, hk2, hb2⟩ := hv.appended (by decide) hrow (by have := hB.size; omega) (by omega) hown' hgrow; have hc1 := hv1.cell; have hf1 := hv1.frozen)
    have hbt1 : Boxed w1 (M + 1) 47 vx := (hbt.alloc _).kept hgrow (fun e => hbtne (M + 1) hbt (by decide) e.symm)
    have hbt2 := hbt1.other (B' := M) (by omega) (.slice (some ⟨g', 0, none⟩) (pre.length + 1) cap')
    exact ⟨hk2, ⟨hbt2.trans hbt.symm, hb2.block b hbS⟩, ⟨⟨_, hv2, by simpa using hr2, trivial⟩, hbt2⟩, hB.trans hb2⟩
  case done =>
    rintro D ys W hD rfl ⟨⟨⟨v, hv, hrow, _⟩, hbt⟩, hB⟩ hK
    subst hvx
    have hc := hv.cell
    have hl63 : ((BitVec.ofNat 64 x.length).toInt) = (x.length : Int) := by rw [BitVec.toInt_eq_toNat_cond, BitVec.toNat_ofNat, Nat.mod_eq_of_lt (by omega)]; split <;> omega
    have hsum := fun (ws : List (BitVec 64)) (v : Value) (w : World) (h1 : ws.length ≤ 1000000000) (h2 : Sees w 1 v (ws.map fun z => .int .i64 z.toInt)) => sum_walk (w := w) (s := s) (v := v) (ws := ws) hs0 hs h1 h2
    gi_wp2_with (first
      | (gi_at_builtin; refine wpListIn_append_own _ rfl _ _ 22 rfl S 3 i0 (.int .i64 0) 1 8 Tryz.underlying22 hi0 hz0 hz1 hz2 rfl (by decide) _ _ _ rfl (hrow.alloc _) ⟨W.heap.size, 0, none⟩ 1 1 [.int .i64 (x.length : Int)] rfl rfl (cell_one_new _ _ _) (by simp [Value.oneCell']) (by unfold maxLen; omega) (by omega) (by have := hB.size; simp; omega) ?_; intro v' w1 hown' hgrow _; obtain ⟨g', cap', rfl⟩ := ownsRow_succ hown'; obtain ⟨hv1, hv2, hr2, hk2, hb2⟩ := hv.appended (by decide) hrow (by have := hB.size; omega) (by omega) hown' hgrow; have hc1 := hv1.cell; have hf1 := hv1.frozen; have hKD := hk2.same D _ hK rfl; have hsees := Sees.row hr2; have hB2 := hB.trans hb2; have hc2 := hv2.cell)
      | (refine ⟨trivial, ?_⟩; gi_at_call 72; refine (callsIn_wide.2 (hsum (wds x ++ [BitVec.ofNat 64 x.length]) _ _ (by rw [List.length_append]; simp; omega) (by rw [List.map_append, List.map_singleton, hl63]; exact hsees))).mono ?_; rintro e w3 ⟨rfl, hb3⟩)
      | gi_in)
    have hDlt := (Array.getElem?_eq_some_iff.1 hKD).1
    have hK3 := (hb3.block D hDlt).trans hKD
    refine ⟨by simp, .inl ⟨_, _, rfl, run_takeDeferred hK3, ?_⟩⟩
    have hB3 : Below w.heap.size w w3 := by rw [hS]; exact hB2.trans (hb3.mono (by have := hB2.size; omega))
    exact ⟨_, results_tmp rfl _ _ _, rfl, hB3.trans (belowK_b (w := w) (Nat.le_refl _) _ D _ _ (by omega) hK3 rfl rfl)⟩
  case stop =>
    rintro D c pre W _ _ h _
    exact h.elim
end Go.Proofs.YtkndgmjlphppdaaGreatDoor
namespace Go.Proofs.YtkndgmjlphppdaaGreatDoor
open Go Go.RowKit

/-- "frame" -/
def sFrame : ByteArray := ⟨#[102, 114, 97, 109, 101]⟩
theorem toB_frame : toB sFrame = [102, 114, 97, 109, 101] := rfl
section
variable {w w1 : World} {B p : Nat} {v v1 : Value} {l l1 : List UInt8}
theorem Wrote.blk (h : Wrote w B p v w1 v1 l1) (h0 : WrAt w B p v l) {g : Nat} {t : TypeId} {cs : Array Value} (hb : Blk w g t cs) (hg : g ≠ p) (ht : 5 ≠ t) : Blk w1 g t cs :=
  hb.chg h.chg fun hf => by
    rcases hf with rfl | hf
    · exact hg rfl
    · exact row_blk h0.row hb ht hf
theorem Wrote.sees (h : Wrote w B p v w1 v1 l1) (h0 : WrAt w B p v l) {size : Nat} {u : Value} {xs : List Value} (hs : Sees w size u xs) (hb : ∀ g, Value.leads u = some g → g ≠ p ∧ v.ownBlock ≠ some g) : Sees w1 size u xs :=
  hs.chg h.chg fun g hg hf => by
    rcases hf with rfl | hf
    · exact (hb _ hg).1 rfl
    · exact (hb _ hg).2 hf
theorem WrAt.bel (h : WrAt w B p v l) (hb : Below w.heap.size w w1) : WrAt w1 B p v l :=
  ⟨h.blk.bel hb h.blk.lt, row_chg h.row (Chg.of_below (F := fun _ => False) hb) fun _ _ h => h⟩
theorem Wrote.below (h : Wrote w B p v w1 v1 l1) (h0 : WrAt w B p v l) (hB : B ≤ w.heap.size) (hp : B ≤ p) : Below B w w1 :=
  h.chg.to_below hB fun i hi hf => by
    rcases hf with rfl | hf
    · exact hp
    · exact (World.ownsRow.lt h0.row i hf).1
theorem WrAt.not (h : WrAt w B p v l) (hp : B ≤ p) {g : Nat} (hg : g < B) : ¬ WrF p v g := fun hf => by
  rcases hf with rfl | hf
  · omega
  · have := (World.ownsRow.lt h.row g hf).1
    omega
theorem Sees.leads_lt {size : Nat} {u : Value} {xs : List Value} (hs : Sees w size u xs) {g : Nat} (hg : Value.leads u = some g) : g < w.heap.size := by
  obtain ⟨A, n, c, rfl, h1, h2, h3⟩ := hs
  cases n with
  | zero => cases A <;> cases hg
  | succ m =>
    obtain ⟨b, s, rfl, hb, _⟩ := h3 (by omega)
    cases hg
    exact hb
end
theorem leads_own {u : Value} {w : World} {B : Nat} {e : TypeId} {size n : Nat} {xs : List Value} (h : w.ownsRow B e size u n xs) {g : Nat} (hg : Value.leads u = some g) : B ≤ g := by
  rcases h.2 with ⟨rfl, rfl⟩ | ⟨g', cap, cur, rfl, h2, _⟩
  · cases hg
  · cases n with
    | zero => cases hg
    | succ m => cases hg; exact h2
set_option maxRecDepth 1000000 in
set_option maxHeartbeats 2000000 in
theorem frame_walk {w : World} {b : Value} {x : List UInt8} {k : Nat} (hb : Sees w 1 b (bv x)) (hx : x.length ≤ 80000000) (hk : k < 4611686018427387904) :
    Calls Tryz.prog 19 #[.int .i64 (k : Int), b] w fun e w' => ∃ u, e = .returned u ∧ w'.ownsRow w.heap.size 5 1 u (frame frameH k x).length (bv (frame frameH k x)) ∧ Below w.heap.size w w' := by
  have hcl := core_len k x hk (by omega)
  have hcp : 0 < (core k x).length := by have := encI_pos (k : Int); unfold core; rw [List.length_append]; omega
  have hH := frameH_lt (core k x)
  have hut := uv_ten hH
  have hin : In64 (k : Int) := ⟨by omega, by omega⟩
  have hfr : frame frameH k x = ([] ++ encR (core k x)) ++ uv (frameH (core k x)) := rfl
  have hco : [] ++ encI (k : Int) ++ encR x = core k x := rfl
  have hI10 : (encI (k : Int)).length ≤ 10 := uv_ten (zz_lt hin)
  have hRl : (encR (core k x)).length ≤ (core k x).length + 10 := by have := uv_ten (n := (core k x).length) (by omega); unfold encR; rw [List.length_append]; omega
  rw [hfr]
  obtain ⟨C, hC⟩ : ∃ C, core k x = C := ⟨_, rfl⟩
  rw [hC] at hcl hcp hH hut hco hRl ⊢
  obtain ⟨H, hHe⟩ : ∃ H, frameH C = H := ⟨_, rfl⟩
  have hHe2 : hashB (toB sFrame) C = H := hHe
  rw [hHe] at hH hut ⊢
  clear hC hHe
  obtain ⟨S, hS⟩ : ∃ S, w.heap.size = S := ⟨_, rfl⟩
  have hbl := fun g hg => hb.leads_lt (g := g) hg
  have hb0 := (hb.alloc (.cells #[.slice none 0 0] 81)).alloc (.cells #[.slice none 0 0] 81)
  have hk1 : Blk (w.alloc (.cells #[.slice none 0 0] 81)) S 81 #[.slice none 0 0] := hS ▸ Blk.made w 81 #[.slice none 0 0]
  have hk2 : Blk ((w.alloc (.cells #[.slice none 0 0] 81)).alloc (.cells #[.slice none 0 0] 81)) (S + 1) 81 #[.slice none 0 0] := by
    have := Blk.made (w.alloc (.cells #[.slice none 0 0] 81)) 81 #[.slice none 0 0]
    rw [World.size_alloc, hS] at this
    exact this
  have hB0 : Below S w ((w.alloc (.cells #[.slice none 0 0] 81)).alloc (.cells #[.slice none 0 0] 81)) := ((Below.refl S w).alloc (by omega) _).alloc (by rw [World.size_alloc]; omega) _
  have hz0 : ((w.alloc (.cells #[.slice none 0 0] 81)).alloc (.cells #[.slice none 0 0] 81)).heap.size = S + 2 := by rw [World.size_alloc, World.size_alloc, hS]
  have ha1 : WrAt ((w.alloc (.cells #[.slice none 0 0] 81)).alloc (.cells #[.slice none 0 0] 81)) S S (.slice none 0 0) [] := ⟨hk1.alloc _, World.ownsRow_nil _ _ _ _⟩
  have hi := int_walk ha1 (by omega) (by simp) hin
  rw [hS]
  go_enter Tryz.func19, Tryz.ntmps19
  go_wp2_with fail
  go_at_call 34
  refine hi.mono ?_
  clear hi
  rintro _ w1 ⟨rfl, v1, hW1⟩
  have s1 := hW1.chg.size
  have hs1 := hW1.sees ha1 hb0 (fun g hg => ⟨by { have := hbl g hg; omega }, by simp [Value.ownBlock]⟩)
  have hr := raw_walk hW1.wr (by omega) (by simp; omega) (by omega) hs1 (fun g hg => hW1.wr.not (Nat.le_refl _) (by have := hbl g hg; omega))
  go_wp2_with fail
  go_at_call 35
  refine hr.mono ?_
  clear hr
  rintro _ w2 ⟨rfl, v2, hW2⟩
  rw [hco] at hW2
  have s2 := hW2.chg.size
  have hd := done_walk hW2.wr (by omega)
  have hkk := hW2.blk hW1.wr (hW1.blk ha1 hk2 (by omega) (by decide)) (by omega) (by decide)
  go_wp2_with fail
  go_at_call 37
  refine hd.mono ?_
  clear hd
  rintro _ w3 ⟨u, rfl, hrow3, hB3⟩
  have s3 := hB3.size
  have ha2 : WrAt w3 S (S + 1) (.slice none 0 0) [] := ⟨hkk.bel hB3 hkk.lt, World.ownsRow_nil _ _ _ _⟩
  have hu3 := Sees.row hrow3
  have hlu := fun g hg => leads_own hrow3 (g := g) hg
  have hr2 := raw_walk ha2 (by omega) (by simp) (by omega) hu3 (fun g hg hf => by
    have h1 := hlu g hg
    rcases hf with hf | hf
    · omega
    · cases hf)
  obtain ⟨Au, cu, rfl, _⟩ := row_form hrow3
  go_wp2_with fail
  go_at_call 35
  refine hr2.mono ?_
  clear hr2
  rintro _ w4 ⟨rfl, v4, hW4⟩
  have s4 := hW4.chg.size
  have hu4 := hW4.sees ha2 hu3 (fun g hg => ⟨by have := hlu g hg; omega, by simp [Value.ownBlock]⟩)
  have hh := hbytes_walk (s := sFrame) (by decide) (by decide) hcp (by omega) hu4
  rw [hHe2] at hh
  go_wp2_with fail
  go_at_call 43
  refine hh.mono ?_
  clear hh
  rintro _ w5 ⟨rfl, hB5⟩
  have s5 := hB5.size
  have hW5 := hW4.wr.bel hB5
  have hu := uint_walk hW5 (by omega) (by rw [List.nil_append]; omega) hH
  go_wp2_with fail
  go_at_call 42
  refine hu.mono ?_
  clear hu
  rintro _ w6 ⟨rfl, v6, hW6⟩
  have s6 := hW6.chg.size
  have hd2 := done_walk hW6.wr (by rw [List.nil_append, List.length_append]; omega)
  go_wp2_with fail
  go_at_call 37
  refine hd2.mono ?_
  clear hd2
  rintro _ w7 ⟨u7, rfl, hrow7, hB7⟩
  go_wp2_with fail
  go_ret
  have b1 := (hB0.trans (hW1.below ha1 (by omega) (Nat.le_refl _))).trans ((hW2.below hW1.wr (by omega) (Nat.le_refl _)).trans (hB3.mono (by omega)))
  have b2 := (hW4.below ha2 (by omega) (by omega)).trans ((hB5.mono (by omega)).trans ((hW6.below hW5 (by omega) (by omega)).trans (hB7.mono (by omega))))
  exact ⟨_, rfl, row_base hrow7 (by omega), b1.trans b2⟩
end Go.Proofs.YtkndgmjlphppdaaGreatDoor
namespace Go.Proofs.YtkndgmjlphppdaaGreatDoor
open Go Go.RowKit

/-- bytes as a string -/
def bs (x : List UInt8) : ByteArray := ⟨x.toArray⟩
theorem toB_bs (x : List UInt8) : toB (bs x) = x := by unfold toB bs; simp
theorem bs_toB (s : ByteArray) : bs (toB s) = s := by unfold toB bs; cases s; simp
theorem bs_inj {x y : List UInt8} (h : bs x = bs y) : x = y := by rw [← toB_bs x, h, toB_bs]
theorem bs_size (x : List UInt8) : (bs x).size = x.length := by rw [← toB_len, toB_bs]
theorem strOf_bytes (x : List UInt8) : strOfNums (x.map fun b => (b.toNat : Int)) = bs x := by
  unfold strOfNums bs
  congr 1
  rw [List.map_map]
  have : (fun b : UInt8 => UInt8.ofNat ((b.toNat : Int)).toNat) = id := by funext b; simp
  show (x.map (fun b : UInt8 => UInt8.ofNat ((b.toNat : Int)).toNat)).toArray = _
  rw [this, List.map_id]
/-- a slice's address is no part of a cell -/
def Flat (v : Value) : Prop := ∃ n c, v = .slice none n c ∨ ∃ b s, v = .slice (some ⟨b, s, none⟩) n c
theorem row_flat {w : World} {base : Nat} {e : TypeId} {size : Nat} {v : Value} {n : Nat} {xs : List Value} (h : w.ownsRow base e size v n xs) : Flat v := by
  rcases h.2 with ⟨rfl, rfl⟩ | ⟨g, cap, cur, rfl, _⟩
  · exact ⟨_, _, .inl rfl⟩
  · exact ⟨_, _, .inr ⟨_, _, rfl⟩⟩
theorem conv_str {w : World} {v : Value} {x : List UInt8} (h : Sees w 1 v (bv x)) : (convert 47 9 v).run Tryz.prog w = .ok (.string (bs x)) w := by
  obtain ⟨A, n, c, rfl, h1, h2, h3⟩ := h
  have hn : x.length = n := by rw [bv_len] at h1; omega
  cases A with
  | none =>
    have h0 : n = 0 := by
      rcases Nat.eq_zero_or_pos n with h0 | h0
      · exact h0
      · obtain ⟨b, s, hb, _⟩ := h3 (by omega)
        cases hb
    have hx : x = [] := List.length_eq_zero_iff.1 (by omega)
    subst hx
    exact run_convert_bytes_nil w _ _ Tryz.underlying47 Tryz.underlying5 _ _ _ Tryz.underlying9
  | some a =>
    by_cases h0 : n = 0
    · have hx : x = [] := List.length_eq_zero_iff.1 (by omega)
      subst hx
      subst h0
      rw [run_convert_bytes_string w _ _ _ _ _ _ Tryz.underlying47 Tryz.underlying5 Tryz.underlying9, run_bytesToString w a 0 c [] (run_loadCells_list w a [] fun j v hj => by simp at hj)]
      rfl
    · obtain ⟨b, s, hb, hlt, hc⟩ := h3 h0
      cases hb
      rw [← strOf_bytes]
      refine run_convert_bytes_arg w _ _ Tryz.underlying47 Tryz.underlying5 b s n c (x.map fun b => (b.toNat : Int)) (by rw [List.length_map]; exact hn) (fun i hi => ?_) _ Tryz.underlying9
      refine hc i _ ?_
      have hi' : i < x.length := by omega
      simp [bv, List.getElem?_eq_getElem hi', List.getD]
set_option maxRecDepth 1000000 in
theorem equal_walk {w : World} {u v : Value} {x y : List UInt8} (hu : Sees w 1 u (bv x)) (hv : Sees w 1 v (bv y)) : Calls Tryz.prog 162 #[u, v] w fun e w' => e = .returned (.bool (decide (x = y))) ∧ w' = w := by
  have c1 := conv_str hu
  have c2 := conv_str hv
  have e1 : ∀ z, (bs z).toList = z := fun z => by rw [ByteArray.toList_eq]; exact toB_bs z
  have hd : ((bs x).toList == (bs y).toList) = decide (x = y) := by
    rw [e1, e1]
    by_cases h : x = y
    · subst h; simp
    · simp [h]
  clear e1
  go_enter Tryz.func162, Tryz.ntmps162
  go_wp2
  go_ret
  exact ⟨rfl, rfl⟩
/-- the first bytes of what a slice reads as -/
theorem Sees.slice {w : World} {A : Option Addr} {n c : Nat} {x : List UInt8} (h : Sees w 1 (.slice A n c) (bv x)) (b s : Nat) (hA : A = some ⟨b, s, none⟩) (i j c' : Nat) (hij : i ≤ j) (hj : j ≤ n) (hc : j - i ≤ c') : Sees w 1 (.slice (some ⟨b, s + i, none⟩) (j - i) c') (bv ((x.drop i).take (j - i))) := by
  obtain ⟨A', n', c0, hv, h1, h2, h3⟩ := h
  cases hv
  rw [bv_len] at h1
  refine ⟨_, _, _, rfl, by rw [bv_len, List.length_take, List.length_drop]; omega, hc, fun hn => ?_⟩
  obtain ⟨b', s', hb, hlt, hcell⟩ := h3 (by omega)
  rw [hA] at hb
  cases hb
  refine ⟨b, s + i, rfl, hlt, fun k u hk => ?_⟩
  have hk' : (bv x)[i + k]? = some u := by
    have hkl := (List.getElem?_eq_some_iff.1 hk).1
    rw [bv_len, List.length_take, List.length_drop] at hkl
    unfold bv at hk ⊢
    rw [List.getElem?_map, List.getElem?_take_of_lt (by omega), List.getElem?_drop] at hk
    rw [List.getElem?_map]
    exact hk
  have := hcell (i + k) u hk'
  rw [Nat.add_assoc]
  exact this
theorem Sees.take {w : World} {A : Option Addr} {n c : Nat} {x : List UInt8} (h : Sees w 1 (.slice A n c) (bv x)) (j : Nat) (hj : j ≤ n) : Sees w 1 (.slice A j c) (bv (x.take j)) := by
  obtain ⟨A', n', c0, hv, h1, h2, h3⟩ := h
  cases hv
  rw [bv_len] at h1
  refine ⟨_, _, _, rfl, by rw [bv_len, List.length_take]; omega, by omega, fun hn => ?_⟩
  obtain ⟨b, s, hb, hlt, hcell⟩ := h3 (by omega)
  refine ⟨b, s, hb, hlt, fun k u hk => hcell k u ?_⟩
  have hkl := (List.getElem?_eq_some_iff.1 hk).1
  rw [bv_len, List.length_take] at hkl
  unfold bv at hk ⊢
  rw [List.getElem?_map, List.getElem?_take_of_lt (by omega)] at hk
  rw [List.getElem?_map]
  exact hk
set_option maxRecDepth 1000000 in
theorem prefix_walk {w : World} {u v : Value} {x y : List UInt8} (hu : Sees w 1 u (bv x)) (hv : Sees w 1 v (bv y)) : Calls Tryz.prog 129 #[u, v] w fun e w' => e = .returned (.bool (y.isPrefixOf x)) ∧ w' = w := by
  obtain ⟨A, n, c, rfl, h1, h2, h3⟩ := id hu
  obtain ⟨B, m, d, rfl, k1, k2, k3⟩ := id hv
  have hxn : x.length = n := by rw [bv_len] at h1; omega
  have hym : y.length = m := by rw [bv_len] at k1; omega
  subst hxn hym
  by_cases hle : y.length ≤ x.length
  · have hnm : (y.length : Int) ≤ x.length := by omega
    have hp : decide (x.take y.length = y) = y.isPrefixOf x := by
      by_cases h : y <+: x
      · rw [List.isPrefixOf_iff_prefix.2 h, List.prefix_iff_eq_take.1 h]; simp
      · have h2 : y.isPrefixOf x = false := by
          cases hb : y.isPrefixOf x with
          | false => rfl
          | true => exact absurd (List.isPrefixOf_iff_prefix.1 hb) h
        rw [h2]
        exact decide_eq_false fun e => h (List.prefix_iff_eq_take.2 e.symm)
    have hyc : (y.length : Int) ≤ c := by omega
    have heq : Calls Tryz.prog 162 #[.slice A y.length c, .slice B y.length d] w fun e w' => e = .returned (.bool (y.isPrefixOf x)) ∧ w' = w := by
      rw [← hp]
      exact equal_walk (hu.take _ hle) hv
    go_enter Tryz.func129, Tryz.ntmps129
    go_wp2_with fail
    go_at_call 162
    refine heq.mono ?_
    rintro _ w1 ⟨rfl, rfl⟩
    go_wp2_with fail
    go_ret
    exact ⟨rfl, rfl⟩
  · have hnm : ¬ (y.length : Int) ≤ x.length := by omega
    have hp : y.isPrefixOf x = false := by
      cases hb : y.isPrefixOf x with
      | false => rfl
      | true => exact absurd (List.isPrefixOf_iff_prefix.1 hb).length_le hle
    rw [hp]
    go_enter Tryz.func129, Tryz.ntmps129
    go_wp2_with fail
    go_ret
    exact ⟨rfl, rfl⟩
end Go.Proofs.YtkndgmjlphppdaaGreatDoor
namespace Go.Proofs.YtkndgmjlphppdaaGreatDoor
open Go Go.RowKit

theorem headN_eq (b : List UInt8) : headN b = uN (some (b.take 10)) := rfl
theorem iS_len {l t : List UInt8} (h : iS (some l) = some t) : t.length ≤ l.length := by
  unfold iS at h
  cases hd : dI l with
  | none =>
    have : (some l).bind dI = none := hd
    rw [this] at h
    cases h
  | some a =>
    obtain ⟨z, t'⟩ := a
    have : (some l).bind dI = some (z, t') := hd
    rw [this] at h
    cases h
    have := (dI_sound hd).1
    rw [this, List.length_append]
    omega
theorem rN_len {s : Option (List UInt8)} {n : Nat} (h : ∀ l, s = some l → l.length ≤ n) : (rN s).length ≤ n := by
  unfold rN
  cases s with
  | none => simp
  | some l =>
    have := h l rfl
    cases hd : dR l with
    | none =>
      have e : (some l).bind dR = none := hd
      rw [e]; simp
    | some a =>
      obtain ⟨x, t⟩ := a
      have e : (some l).bind dR = some (x, t) := hd
      rw [e]
      have h2 := (dR_sound hd).1
      rw [h2, List.length_append] at this
      unfold encR at this
      rw [List.length_append] at this
      show x.length ≤ n
      omega
/-- how first finds out -/
theorem fst_eq (H : List UInt8 → Nat) (b : List UInt8) (k : Nat) : fst H b k =
    if b.length < (uv (headN b)).length ∨ b.length - (uv (headN b)).length < headN b then none
    else if rS (iS (some ((b.drop (uv (headN b)).length).take (headN b)))) = some [] ∧ iN (some ((b.drop (uv (headN b)).length).take (headN b))) = (k : Int) ∧ (frame H k (rN (iS (some ((b.drop (uv (headN b)).length).take (headN b)))))).isPrefixOf b = true
      then some (rN (iS (some ((b.drop (uv (headN b)).length).take (headN b)))), (frame H k (rN (iS (some ((b.drop (uv (headN b)).length).take (headN b)))))).length) else none := by
  unfold fst
  split
  · rfl
  · obtain ⟨c, hc⟩ : ∃ c, (b.drop (uv (headN b)).length).take (headN b) = c := ⟨_, rfl⟩
    rw [hc]
    cases h1 : dI c with
    | none =>
      have e : (some c).bind dI = none := h1
      have e2 : iS (some c) = none := by unfold iS; rw [e]
      have e3 : rS none = none := rfl
      rw [e2, e3]
      simp
    | some a =>
      obtain ⟨i, t⟩ := a
      have e : (some c).bind dI = some (i, t) := h1
      have e2 : iS (some c) = some t := by unfold iS; rw [e]
      have e4 : iN (some c) = i := by unfold iN; rw [e]
      rw [e2, e4]
      cases h2 : dR t with
      | none =>
        have e5 : (some t).bind dR = none := h2
        have e6 : rS (some t) = none := by unfold rS; rw [e5]
        rw [e6]
        simp [h2]
      | some a =>
        obtain ⟨raw, u⟩ := a
        have e5 : (some t).bind dR = some (raw, u) := h2
        have e6 : rS (some t) = some u := by unfold rS; rw [e5]
        have e7 : rN (some t) = raw := by unfold rN; rw [e5]
        rw [e6, e7]
        simp [h2]
/-- first's answer -/
def FstOut (w w' : World) (o : Option (List UInt8 × Nat)) (e : Ending) : Prop :=
  match o with
  | none => e = .returned (.tuple #[.slice none 0 0, .int .i64 0, .bool false])
  | some (r, s) => ∃ u, e = .returned (.tuple #[u, .int .i64 (s : Int), .bool true]) ∧ w'.ownsRow w.heap.size 5 1 u r.length (bv r)
set_option maxRecDepth 1000000 in
set_option maxHeartbeats 8000000 in
theorem jfirst_walk {w : World} {v : Value} {x : List UInt8} {k : Nat} (hv : Sees w 1 v (bv x)) (hf : Flat v) (hx : x.length ≤ 70000000) (hk : k < 4611686018427387904) :
    Calls Tryz.prog 102 #[v, .int .i64 (k : Int)] w fun e w' => FstOut w w' (fst frameH x k) e ∧ Below w.heap.size w w' := by
  obtain ⟨A, n, c, rfl, h1, h2, h3⟩ := id hv
  have hxn : x.length = n := by rw [bv_len] at h1; omega
  subst hxn
  have hfe := fst_eq frameH x k
  rw [headN_eq] at hfe
  have hq := (iN_eq (some (x.take 10))).2.2
  obtain ⟨N, hN⟩ : ∃ N, uN (some (x.take 10)) = N := ⟨_, rfl⟩
  have hu := fun w' p v B (h : RdAt w' B p v (x.take 10) (some (x.take 10))) => ruint_walk h
  rw [hN] at hfe hq hu
  have hx63 : (x.length : Int) ≤ 70000000 := by omega
  obtain ⟨j, hj, hj10⟩ : ∃ j, j = min x.length 10 ∧ x.take j = x.take 10 := ⟨_, rfl, by
    rcases Nat.le_total x.length 10 with h | h
    · rw [Nat.min_eq_left h, List.take_length, List.take_of_length_le h]
    · rw [Nat.min_eq_right h]⟩
  have hs10 := hv.take j (by omega)
  rw [hj10] at hs10
  have hr := read_walk hs10 (by rw [List.length_take]; omega)
  have hfe := Lib.hid hfe
  clear hN hj10 h1 h3
  have hval : (10 < x.length ∧ j = 10) ∨ (x.length ≤ 10 ∧ j = x.length) := by omega
  clear hj
  have hten := uv_ten hq
  rcases hval with ⟨h10, rfl⟩ | ⟨h10, rfl⟩
  · have h10z : (10 : Int) < x.length := by omega
    go_enter Tryz.func102, Tryz.ntmps102
    go_wp2_with (first
      | (go_at_call 56; refine hr.mono ?_; rintro _ w1 ⟨p, v1, rfl, hp, hR1, hB1⟩)
      | (go_at_call 76; refine (hu _ _ _ _ hR1).mono ?_; rintro _ w2 ⟨rfl, _, hC2⟩))
    have hB2 : Below w.heap.size w w2 := hB1.trans (hC2.to_below hB1.size fun i _ hi => by rw [show i = p from hi]; exact hp)
    go_loopw [8, 9] (fun hv rv wr => wr = w2 ∧ ∃ (h r : Nat), hv = .int .i64 h ∧ rv = .int .u64 r ∧ r < 18446744073709551616 ∧ h + (uv r).length = 1 + (uv N).length) (fun _ rv _ => (intOf rv).toNat)
    case atStart => exact ⟨rfl, 1, N, rfl, rfl, hq, rfl⟩
    case round =>
      obtain ⟨rfl, h, r, rfl, rfl, hr64, hhr⟩ := hrel
      have hr1 := uv_pos r
      have hh10 : h ≤ 10 := by omega
      by_cases h128 : r < 128
      · have hr2 : (r : Int) < 128 := by omega
        rw [uv_small h128] at hhr
        have hh : h = (uv N).length := by simp at hhr; omega
        subst hh
        clear hhr
        have hLp := uv_pos N
        obtain ⟨L, hL⟩ : ∃ L, (uv N).length = L := ⟨_, rfl⟩
        rw [hL] at hfe hh10 hLp ⊢
        by_cases hno : x.length < L ∨ x.length - L < N
        · have hfe2 : fst frameH x k = none := by rw [hfe.out, if_pos hno]
          have hfe2 := Lib.hid hfe2
          clear hfe hu hr hs10 hR1
          by_cases hl1 : x.length < L
          · have hl2 : (x.length : Int) < L := by omega
            go_wp2_with fail
            all_goals (go_ret3; exact ⟨by first | exact rfl | (rw [hfe2.out]; exact rfl), hB2⟩)
          · have hl2 : ¬ (x.length : Int) < L := by omega
            have hl3 : (x.length : Int) - L < N := by omega
            go_wp2_with fail
            all_goals (go_ret3; exact ⟨by first | exact rfl | (rw [hfe2.out]; exact rfl), hB2⟩)
        · have hfe2 := hfe.out
          rw [if_neg hno] at hfe2
          obtain ⟨C, hC⟩ : ∃ C, (x.drop L).take N = C := ⟨_, rfl⟩
          have hCl : C.length = N := by rw [← hC, List.length_take, List.length_drop]; omega
          rw [hC] at hfe2
          have hCe := hC
          obtain ⟨A', n', c', hveq, _, hcx, h3⟩ := id hv
          cases hveq
          obtain ⟨b, s, rfl, _⟩ := h3 (by omega)
          clear h3
          have hl1 : (L : Int) ≤ x.length := by omega
          have hl3 : (N : Int) ≤ (x.length : Int) - L := by omega
          have hN63 : (N : Int) ≤ 70000000 := by omega
          have hrest : ∀ (a' : Addr) (d' : Nat), Sees w 1 (.slice (some a') N d') (bv C) → ∀ (hbad : Hid True), Calls Tryz.prog 56 #[.slice (some a') N d'] wr fun e w3 => ∃ p2 v2, e = .returned (.pointer (some ⟨p2, 0, none⟩)) ∧ w.heap.size ≤ p2 ∧ RdAt w3 w.heap.size p2 v2 C (some C) ∧ Below w.heap.size w w3 := fun a' d' hs _ => by
            have h1 := hs.bel hB2
            refine (read_walk h1 (by omega)).mono ?_
            rintro e w3 ⟨p2, v2, rfl, hp2, hR, hb⟩
            have := hB2.size
            refine ⟨p2, v2, rfl, by omega, ⟨row_base hR.row (by omega), hR.st, hR.len⟩, hB2.trans (hb.mono (by omega))⟩
          obtain ⟨s1, hs1⟩ : ∃ s1, iS (some C) = s1 := ⟨_, rfl⟩
          obtain ⟨raw, hraw⟩ : ∃ raw, rN s1 = raw := ⟨_, rfl⟩
          obtain ⟨s3, hs3⟩ : ∃ s3, rS s1 = s3 := ⟨_, rfl⟩
          obtain ⟨ix, hix⟩ : ∃ ix, iN (some C) = ix := ⟨_, rfl⟩
          have hrl : raw.length ≤ N := by
            rw [← hraw]
            refine rN_len fun l hl => ?_
            rw [← hCl]
            exact iS_len (hs1.trans hl)
          rw [hs1, hraw, hs3, hix] at hfe2
          have hs1c := hs1
          have hs3c := hs3
          have hi := fun w' p2 v2 (h : RdAt w' w.heap.size p2 v2 C (some C)) => rint_walk h
          rw [hs1, hix] at hi
          have hra := fun w' p2 v2 (h : RdAt w' w.heap.size p2 v2 C s1) => rraw_walk h
          rw [hs3, hraw] at hra
          obtain ⟨fr, hfr⟩ : ∃ fr, frame frameH k raw = fr := ⟨_, rfl⟩
          rw [hfr] at hfe2
          have hfe2 := Lib.hid hfe2
          clear hfe hu hr hs10 hs1 hraw hs3 hix hno hR1 hq hC
          by_cases hLc : L < c
          · have hLc2 : (L : Int) < c := by omega
            have hread := hrest ⟨b, s + L, none⟩ (c - L) (by
              have := hv.slice b s rfl L (L + N) (c - L) (by omega) (by omega) (by omega)
              rw [Nat.add_sub_cancel_left, hCe] at this
              exact this) trivial
            clear hrest hCe hs1c hs3c
            by_cases hA3 : s3 = some []
            · by_cases hik : ix = (k : Int)
              · subst hik
                obtain ⟨pb, hpf⟩ : ∃ pb, fr.isPrefixOf x = pb := ⟨_, rfl⟩
                have hpb := Lib.hid hpf
                cases pb with
                | true =>
                  have hfe3 := hfe2.out
                  rw [if_pos ⟨hA3, rfl, hpf⟩] at hfe3
                  have hfe3 := Lib.hid hfe3
                  clear hfe2 hpf
                  go_wp2_with (first
                    | (go_at_call 56; refine hread.mono ?_; clear hread; rintro _ w3 ⟨p2, v2, rfl, hp2, hR3, hB3⟩)
                    | (go_at_call 57; refine (hi _ _ _ hR3).mono ?_; clear hi; rintro _ w4 ⟨rfl, hR4, hC4⟩; have hB4 := hB3.trans (hC4.to_below hB3.size (fun i _ hi => by { rw [show i = p2 from hi]; exact hp2 })))
                    | (go_at_call 58; refine (hra _ _ _ hR4).mono ?_; clear hra; rintro _ w5 ⟨u5, rfl, hrow5, hR5, hC5⟩; obtain ⟨A5, c5, rfl, _⟩ := row_form hrow5; have hB5 := hB4.trans (hC5.to_below hB4.size (fun i _ hi => by { rw [show i = p2 from hi]; exact hp2 })))
                    | (go_at_call 59; refine (rend_walk hR5).mono ?_; rintro _ w6 ⟨ce, rfl, hce, hB6⟩; have hc0 : ce = 0 := hce.2 hA3; subst hc0; have hB6w := hB5.trans (hB6.mono hB5.size); have hrow6 := row_chg hrow5 (Chg.of_below (F := fun _ => False) hB6) (fun _ _ h => h))
                    | (go_at_call 19; refine (frame_walk (Sees.row hrow6) (by omega) hk).mono ?_; rintro _ w7 ⟨f7, rfl, hrow7, hB7⟩; rw [hfr] at hrow7; obtain ⟨A7, c7, rfl, _⟩ := row_form hrow7; have hB7w := hB6w.trans (hB7.mono hB6w.size); have hrow7u := row_chg hrow6 (Chg.of_below (F := fun _ => False) hB7) (fun _ _ h => h))
                    | (go_at_call 129; refine (prefix_walk (hv.bel hB7w) (Sees.row hrow7)).mono ?_; rw [hpb.out]; rintro _ w8 ⟨rfl, rfl⟩))
                  all_goals (go_ret3; exact ⟨by first | exact ⟨_, rfl, row_base hrow7u (by have := hB4.size; omega)⟩ | (rw [hfe3.out]; exact ⟨_, rfl, row_base hrow7u (by have := hB4.size; omega)⟩), hB7w⟩)
                | false =>
                  have hfe3 := hfe2.out
                  rw [if_neg (fun h => by rw [hpf] at h; exact absurd h.2.2 (by decide))] at hfe3
                  have hfe3 := Lib.hid hfe3
                  clear hfe2 hpf
                  go_wp2_with (first
                    | (go_at_call 56; refine hread.mono ?_; clear hread; rintro _ w3 ⟨p2, v2, rfl, hp2, hR3, hB3⟩)
                    | (go_at_call 57; refine (hi _ _ _ hR3).mono ?_; clear hi; rintro _ w4 ⟨rfl, hR4, hC4⟩; have hB4 := hB3.trans (hC4.to_below hB3.size (fun i _ hi => by { rw [show i = p2 from hi]; exact hp2 })))
                    | (go_at_call 58; refine (hra _ _ _ hR4).mono ?_; clear hra; rintro _ w5 ⟨u5, rfl, hrow5, hR5, hC5⟩; obtain ⟨A5, c5, rfl, _⟩ := row_form hrow5; have hB5 := hB4.trans (hC5.to_below hB4.size (fun i _ hi => by { rw [show i = p2 from hi]; exact hp2 })))
                    | (go_at_call 59; refine (rend_walk hR5).mono ?_; rintro _ w6 ⟨ce, rfl, hce, hB6⟩; have hc0 : ce = 0 := hce.2 hA3; subst hc0; have hB6w := hB5.trans (hB6.mono hB5.size); have hrow6 := row_chg hrow5 (Chg.of_below (F := fun _ => False) hB6) (fun _ _ h => h))
                    | (go_at_call 19; refine (frame_walk (Sees.row hrow6) (by omega) hk).mono ?_; rintro _ w7 ⟨f7, rfl, hrow7, hB7⟩; rw [hfr] at hrow7; obtain ⟨A7, c7, rfl, _⟩ := row_form hrow7; have hB7w := hB6w.trans (hB7.mono hB6w.size); have hrow7u := row_chg hrow6 (Chg.of_below (F := fun _ => False) hB7) (fun _ _ h => h))
                    | (go_at_call 129; refine (prefix_walk (hv.bel hB7w) (Sees.row hrow7)).mono ?_; rw [hpb.out]; rintro _ w8 ⟨rfl, rfl⟩))
                  all_goals (go_ret3; exact ⟨by first | exact rfl | (rw [hfe3.out]; exact rfl), hB7w⟩)
              · have hfe3 := hfe2.out
                rw [if_neg (fun h => hik h.2.1)] at hfe3
                have hfe3 := Lib.hid hfe3
                clear hfe2
                go_wp2_with (first
                  | (go_at_call 56; refine hread.mono ?_; clear hread; rintro _ w3 ⟨p2, v2, rfl, hp2, hR3, hB3⟩)
                  | (go_at_call 57; refine (hi _ _ _ hR3).mono ?_; clear hi; rintro _ w4 ⟨rfl, hR4, hC4⟩; have hB4 := hB3.trans (hC4.to_below hB3.size (fun i _ hi => by { rw [show i = p2 from hi]; exact hp2 })))
                  | (go_at_call 58; refine (hra _ _ _ hR4).mono ?_; clear hra; rintro _ w5 ⟨u5, rfl, hrow5, hR5, hC5⟩; obtain ⟨A5, c5, rfl, _⟩ := row_form hrow5; have hB5 := hB4.trans (hC5.to_below hB4.size (fun i _ hi => by { rw [show i = p2 from hi]; exact hp2 })))
                  | (go_at_call 59; refine (rend_walk hR5).mono ?_; rintro _ w6 ⟨ce, rfl, hce, hB6⟩; have hc0 : ce = 0 := hce.2 hA3; subst hc0; have hB6w := hB5.trans (hB6.mono hB5.size); have hrow6 := row_chg hrow5 (Chg.of_below (F := fun _ => False) hB6) (fun _ _ h => h)))
                all_goals (go_ret3; exact ⟨by first | exact rfl | (rw [hfe3.out]; exact rfl), hB6w⟩)
            · have hfe3 := hfe2.out
              rw [if_neg (fun h => hA3 h.1)] at hfe3
              have hfe3 := Lib.hid hfe3
              clear hfe2
              go_wp2_with (first
                | (go_at_call 56; refine hread.mono ?_; clear hread; rintro _ w3 ⟨p2, v2, rfl, hp2, hR3, hB3⟩)
                | (go_at_call 57; refine (hi _ _ _ hR3).mono ?_; clear hi; rintro _ w4 ⟨rfl, hR4, hC4⟩; have hB4 := hB3.trans (hC4.to_below hB3.size (fun i _ hi => by { rw [show i = p2 from hi]; exact hp2 })))
                | (go_at_call 58; refine (hra _ _ _ hR4).mono ?_; clear hra; rintro _ w5 ⟨u5, rfl, hrow5, hR5, hC5⟩; obtain ⟨A5, c5, rfl, _⟩ := row_form hrow5; have hB5 := hB4.trans (hC5.to_below hB4.size (fun i _ hi => by { rw [show i = p2 from hi]; exact hp2 })))
                | (go_at_call 59; refine (rend_walk hR5).mono ?_; rintro _ w6 ⟨ce, rfl, hce, hB6⟩; have hcn : (ce != 0) = true := by { simp; exact fun h => hA3 (hce.1 h) }; have hB6w := hB5.trans (hB6.mono hB5.size); have hrow6 := row_chg hrow5 (Chg.of_below (F := fun _ => False) hB6) (fun _ _ h => h)))
              all_goals (go_ret3; exact ⟨by first | exact rfl | (rw [hfe3.out]; exact rfl), hB6w⟩)
          · have hLc2 : L = c := by omega
            have hN0 : N = 0 := by omega
            subst hN0
            have hread := hrest ⟨b, s, none⟩ 0 (by
              rw [show C = [] from List.length_eq_zero_iff.1 (by omega)]
              exact ⟨_, _, _, rfl, rfl, Nat.le_refl _, fun h => absurd rfl h⟩) trivial
            have hA3 : s3 ≠ some [] := by
              rw [← hs3c, ← hs1c, show C = [] from List.length_eq_zero_iff.1 (by omega)]
              decide
            have hfe3 := hfe2.out
            rw [if_neg (fun h => hA3 h.1)] at hfe3
            have hfe3 := Lib.hid hfe3
            clear hfe2
            go_wp2_with (first
              | (go_at_call 56; refine hread.mono ?_; clear hread; rintro _ w3 ⟨p2, v2, rfl, hp2, hR3, hB3⟩)
              | (go_at_call 57; refine (hi _ _ _ hR3).mono ?_; clear hi; rintro _ w4 ⟨rfl, hR4, hC4⟩; have hB4 := hB3.trans (hC4.to_below hB3.size (fun i _ hi => by { rw [show i = p2 from hi]; exact hp2 })))
              | (go_at_call 58; refine (hra _ _ _ hR4).mono ?_; clear hra; rintro _ w5 ⟨u5, rfl, hrow5, hR5, hC5⟩; obtain ⟨A5, c5, rfl, _⟩ := row_form hrow5; have hB5 := hB4.trans (hC5.to_below hB4.size (fun i _ hi => by { rw [show i = p2 from hi]; exact hp2 })))
              | (go_at_call 59; refine (rend_walk hR5).mono ?_; rintro _ w6 ⟨ce, rfl, hce, hB6⟩; have hcn : (ce != 0) = true := by { simp; exact fun h => hA3 (hce.1 h) }; have hB6w := hB5.trans (hB6.mono hB5.size); have hrow6 := row_chg hrow5 (Chg.of_below (F := fun _ => False) hB6) (fun _ _ h => h)))
            all_goals (go_ret3; exact ⟨by first | exact rfl | (rw [hfe3.out]; exact rfl), hB6w⟩)
      · have hr2 : 128 ≤ (r : Int) := by omega
        have hb := uv_big h128
        have hbl : h + 1 + (uv (r / 128)).length = 1 + (uv N).length := by rw [hb, List.length_cons] at hhr; omega
        clear hb hhr
        go_wp2_with fail
        go_roundw
        case rel => exact ⟨trivial, h + 1, r / 128, by go_num, by go_num, by omega, hbl⟩
        case measure => simp [intOf]; omega
  · have h10z : (x.length : Int) ≤ 10 := by omega
    go_enter Tryz.func102, Tryz.ntmps102
    go_wp2_with (first
      | (go_at_call 56; refine hr.mono ?_; rintro _ w1 ⟨p, v1, rfl, hp, hR1, hB1⟩)
      | (go_at_call 76; refine (hu _ _ _ _ hR1).mono ?_; rintro _ w2 ⟨rfl, _, hC2⟩))
    have hB2 : Below w.heap.size w w2 := hB1.trans (hC2.to_below hB1.size fun i _ hi => by rw [show i = p from hi]; exact hp)
    go_loopw [8, 9] (fun hv rv wr => wr = w2 ∧ ∃ (h r : Nat), hv = .int .i64 h ∧ rv = .int .u64 r ∧ r < 18446744073709551616 ∧ h + (uv r).length = 1 + (uv N).length) (fun _ rv _ => (intOf rv).toNat)
    case atStart => exact ⟨rfl, 1, N, rfl, rfl, hq, rfl⟩
    case round =>
      obtain ⟨rfl, h, r, rfl, rfl, hr64, hhr⟩ := hrel
      have hr1 := uv_pos r
      have hh10 : h ≤ 10 := by omega
      by_cases h128 : r < 128
      · have hr2 : (r : Int) < 128 := by omega
        rw [uv_small h128] at hhr
        have hh : h = (uv N).length := by simp at hhr; omega
        subst hh
        clear hhr
        have hLp := uv_pos N
        obtain ⟨L, hL⟩ : ∃ L, (uv N).length = L := ⟨_, rfl⟩
        rw [hL] at hfe hh10 hLp ⊢
        by_cases hno : x.length < L ∨ x.length - L < N
        · have hfe2 : fst frameH x k = none := by rw [hfe.out, if_pos hno]
          have hfe2 := Lib.hid hfe2
          clear hfe hu hr hs10 hR1
          by_cases hl1 : x.length < L
          · have hl2 : (x.length : Int) < L := by omega
            go_wp2_with fail
            all_goals (go_ret3; exact ⟨by first | exact rfl | (rw [hfe2.out]; exact rfl), hB2⟩)
          · have hl2 : ¬ (x.length : Int) < L := by omega
            have hl3 : (x.length : Int) - L < N := by omega
            go_wp2_with fail
            all_goals (go_ret3; exact ⟨by first | exact rfl | (rw [hfe2.out]; exact rfl), hB2⟩)
        · have hfe2 := hfe.out
          rw [if_neg hno] at hfe2
          obtain ⟨C, hC⟩ : ∃ C, (x.drop L).take N = C := ⟨_, rfl⟩
          have hCl : C.length = N := by rw [← hC, List.length_take, List.length_drop]; omega
          rw [hC] at hfe2
          have hCe := hC
          obtain ⟨A', n', c', hveq, _, hcx, h3⟩ := id hv
          cases hveq
          obtain ⟨b, s, rfl, _⟩ := h3 (by omega)
          clear h3
          have hl1 : (L : Int) ≤ x.length := by omega
          have hl3 : (N : Int) ≤ (x.length : Int) - L := by omega
          have hN63 : (N : Int) ≤ 70000000 := by omega
          have hrest : ∀ (a' : Addr) (d' : Nat), Sees w 1 (.slice (some a') N d') (bv C) → ∀ (hbad : Hid True), Calls Tryz.prog 56 #[.slice (some a') N d'] wr fun e w3 => ∃ p2 v2, e = .returned (.pointer (some ⟨p2, 0, none⟩)) ∧ w.heap.size ≤ p2 ∧ RdAt w3 w.heap.size p2 v2 C (some C) ∧ Below w.heap.size w w3 := fun a' d' hs _ => by
            have h1 := hs.bel hB2
            refine (read_walk h1 (by omega)).mono ?_
            rintro e w3 ⟨p2, v2, rfl, hp2, hR, hb⟩
            have := hB2.size
            refine ⟨p2, v2, rfl, by omega, ⟨row_base hR.row (by omega), hR.st, hR.len⟩, hB2.trans (hb.mono (by omega))⟩
          obtain ⟨s1, hs1⟩ : ∃ s1, iS (some C) = s1 := ⟨_, rfl⟩
          obtain ⟨raw, hraw⟩ : ∃ raw, rN s1 = raw := ⟨_, rfl⟩
          obtain ⟨s3, hs3⟩ : ∃ s3, rS s1 = s3 := ⟨_, rfl⟩
          obtain ⟨ix, hix⟩ : ∃ ix, iN (some C) = ix := ⟨_, rfl⟩
          have hrl : raw.length ≤ N := by
            rw [← hraw]
            refine rN_len fun l hl => ?_
            rw [← hCl]
            exact iS_len (hs1.trans hl)
          rw [hs1, hraw, hs3, hix] at hfe2
          have hs1c := hs1
          have hs3c := hs3
          have hi := fun w' p2 v2 (h : RdAt w' w.heap.size p2 v2 C (some C)) => rint_walk h
          rw [hs1, hix] at hi
          have hra := fun w' p2 v2 (h : RdAt w' w.heap.size p2 v2 C s1) => rraw_walk h
          rw [hs3, hraw] at hra
          obtain ⟨fr, hfr⟩ : ∃ fr, frame frameH k raw = fr := ⟨_, rfl⟩
          rw [hfr] at hfe2
          have hfe2 := Lib.hid hfe2
          clear hfe hu hr hs10 hs1 hraw hs3 hix hno hR1 hq hC
          by_cases hLc : L < c
          · have hLc2 : (L : Int) < c := by omega
            have hread := hrest ⟨b, s + L, none⟩ (c - L) (by
              have := hv.slice b s rfl L (L + N) (c - L) (by omega) (by omega) (by omega)
              rw [Nat.add_sub_cancel_left, hCe] at this
              exact this) trivial
            clear hrest hCe hs1c hs3c
            by_cases hA3 : s3 = some []
            · by_cases hik : ix = (k : Int)
              · subst hik
                obtain ⟨pb, hpf⟩ : ∃ pb, fr.isPrefixOf x = pb := ⟨_, rfl⟩
                have hpb := Lib.hid hpf
                cases pb with
                | true =>
                  have hfe3 := hfe2.out
                  rw [if_pos ⟨hA3, rfl, hpf⟩] at hfe3
                  have hfe3 := Lib.hid hfe3
                  clear hfe2 hpf
                  go_wp2_with (first
                    | (go_at_call 56; refine hread.mono ?_; clear hread; rintro _ w3 ⟨p2, v2, rfl, hp2, hR3, hB3⟩)
                    | (go_at_call 57; refine (hi _ _ _ hR3).mono ?_; clear hi; rintro _ w4 ⟨rfl, hR4, hC4⟩; have hB4 := hB3.trans (hC4.to_below hB3.size (fun i _ hi => by { rw [show i = p2 from hi]; exact hp2 })))
                    | (go_at_call 58; refine (hra _ _ _ hR4).mono ?_; clear hra; rintro _ w5 ⟨u5, rfl, hrow5, hR5, hC5⟩; obtain ⟨A5, c5, rfl, _⟩ := row_form hrow5; have hB5 := hB4.trans (hC5.to_below hB4.size (fun i _ hi => by { rw [show i = p2 from hi]; exact hp2 })))
                    | (go_at_call 59; refine (rend_walk hR5).mono ?_; rintro _ w6 ⟨ce, rfl, hce, hB6⟩; have hc0 : ce = 0 := hce.2 hA3; subst hc0; have hB6w := hB5.trans (hB6.mono hB5.size); have hrow6 := row_chg hrow5 (Chg.of_below (F := fun _ => False) hB6) (fun _ _ h => h))
                    | (go_at_call 19; refine (frame_walk (Sees.row hrow6) (by omega) hk).mono ?_; rintro _ w7 ⟨f7, rfl, hrow7, hB7⟩; rw [hfr] at hrow7; obtain ⟨A7, c7, rfl, _⟩ := row_form hrow7; have hB7w := hB6w.trans (hB7.mono hB6w.size); have hrow7u := row_chg hrow6 (Chg.of_below (F := fun _ => False) hB7) (fun _ _ h => h))
                    | (go_at_call 129; refine (prefix_walk (hv.bel hB7w) (Sees.row hrow7)).mono ?_; rw [hpb.out]; rintro _ w8 ⟨rfl, rfl⟩))
                  all_goals (go_ret3; exact ⟨by first | exact ⟨_, rfl, row_base hrow7u (by have := hB4.size; omega)⟩ | (rw [hfe3.out]; exact ⟨_, rfl, row_base hrow7u (by have := hB4.size; omega)⟩), hB7w⟩)
                | false =>
                  have hfe3 := hfe2.out
                  rw [if_neg (fun h => by rw [hpf] at h; exact absurd h.2.2 (by decide))] at hfe3
                  have hfe3 := Lib.hid hfe3
                  clear hfe2 hpf
                  go_wp2_with (first
                    | (go_at_call 56; refine hread.mono ?_; clear hread; rintro _ w3 ⟨p2, v2, rfl, hp2, hR3, hB3⟩)
                    | (go_at_call 57; refine (hi _ _ _ hR3).mono ?_; clear hi; rintro _ w4 ⟨rfl, hR4, hC4⟩; have hB4 := hB3.trans (hC4.to_below hB3.size (fun i _ hi => by { rw [show i = p2 from hi]; exact hp2 })))
                    | (go_at_call 58; refine (hra _ _ _ hR4).mono ?_; clear hra; rintro _ w5 ⟨u5, rfl, hrow5, hR5, hC5⟩; obtain ⟨A5, c5, rfl, _⟩ := row_form hrow5; have hB5 := hB4.trans (hC5.to_below hB4.size (fun i _ hi => by { rw [show i = p2 from hi]; exact hp2 })))
                    | (go_at_call 59; refine (rend_walk hR5).mono ?_; rintro _ w6 ⟨ce, rfl, hce, hB6⟩; have hc0 : ce = 0 := hce.2 hA3; subst hc0; have hB6w := hB5.trans (hB6.mono hB5.size); have hrow6 := row_chg hrow5 (Chg.of_below (F := fun _ => False) hB6) (fun _ _ h => h))
                    | (go_at_call 19; refine (frame_walk (Sees.row hrow6) (by omega) hk).mono ?_; rintro _ w7 ⟨f7, rfl, hrow7, hB7⟩; rw [hfr] at hrow7; obtain ⟨A7, c7, rfl, _⟩ := row_form hrow7; have hB7w := hB6w.trans (hB7.mono hB6w.size); have hrow7u := row_chg hrow6 (Chg.of_below (F := fun _ => False) hB7) (fun _ _ h => h))
                    | (go_at_call 129; refine (prefix_walk (hv.bel hB7w) (Sees.row hrow7)).mono ?_; rw [hpb.out]; rintro _ w8 ⟨rfl, rfl⟩))
                  all_goals (go_ret3; exact ⟨by first | exact rfl | (rw [hfe3.out]; exact rfl), hB7w⟩)
              · have hfe3 := hfe2.out
                rw [if_neg (fun h => hik h.2.1)] at hfe3
                have hfe3 := Lib.hid hfe3
                clear hfe2
                go_wp2_with (first
                  | (go_at_call 56; refine hread.mono ?_; clear hread; rintro _ w3 ⟨p2, v2, rfl, hp2, hR3, hB3⟩)
                  | (go_at_call 57; refine (hi _ _ _ hR3).mono ?_; clear hi; rintro _ w4 ⟨rfl, hR4, hC4⟩; have hB4 := hB3.trans (hC4.to_below hB3.size (fun i _ hi => by { rw [show i = p2 from hi]; exact hp2 })))
                  | (go_at_call 58; refine (hra _ _ _ hR4).mono ?_; clear hra; rintro _ w5 ⟨u5, rfl, hrow5, hR5, hC5⟩; obtain ⟨A5, c5, rfl, _⟩ := row_form hrow5; have hB5 := hB4.trans (hC5.to_below hB4.size (fun i _ hi => by { rw [show i = p2 from hi]; exact hp2 })))
                  | (go_at_call 59; refine (rend_walk hR5).mono ?_; rintro _ w6 ⟨ce, rfl, hce, hB6⟩; have hc0 : ce = 0 := hce.2 hA3; subst hc0; have hB6w := hB5.trans (hB6.mono hB5.size); have hrow6 := row_chg hrow5 (Chg.of_below (F := fun _ => False) hB6) (fun _ _ h => h)))
                all_goals (go_ret3; exact ⟨by first | exact rfl | (rw [hfe3.out]; exact rfl), hB6w⟩)
            · have hfe3 := hfe2.out
              rw [if_neg (fun h => hA3 h.1)] at hfe3
              have hfe3 := Lib.hid hfe3
              clear hfe2
              go_wp2_with (first
                | (go_at_call 56; refine hread.mono ?_; clear hread; rintro _ w3 ⟨p2, v2, rfl, hp2, hR3, hB3⟩)
                | (go_at_call 57; refine (hi _ _ _ hR3).mono ?_; clear hi; rintro _ w4 ⟨rfl, hR4, hC4⟩; have hB4 := hB3.trans (hC4.to_below hB3.size (fun i _ hi => by { rw [show i = p2 from hi]; exact hp2 })))
                | (go_at_call 58; refine (hra _ _ _ hR4).mono ?_; clear hra; rintro _ w5 ⟨u5, rfl, hrow5, hR5, hC5⟩; obtain ⟨A5, c5, rfl, _⟩ := row_form hrow5; have hB5 := hB4.trans (hC5.to_below hB4.size (fun i _ hi => by { rw [show i = p2 from hi]; exact hp2 })))
                | (go_at_call 59; refine (rend_walk hR5).mono ?_; rintro _ w6 ⟨ce, rfl, hce, hB6⟩; have hcn : (ce != 0) = true := by { simp; exact fun h => hA3 (hce.1 h) }; have hB6w := hB5.trans (hB6.mono hB5.size); have hrow6 := row_chg hrow5 (Chg.of_below (F := fun _ => False) hB6) (fun _ _ h => h)))
              all_goals (go_ret3; exact ⟨by first | exact rfl | (rw [hfe3.out]; exact rfl), hB6w⟩)
          · have hLc2 : L = c := by omega
            have hN0 : N = 0 := by omega
            subst hN0
            have hread := hrest ⟨b, s, none⟩ 0 (by
              rw [show C = [] from List.length_eq_zero_iff.1 (by omega)]
              exact ⟨_, _, _, rfl, rfl, Nat.le_refl _, fun h => absurd rfl h⟩) trivial
            have hA3 : s3 ≠ some [] := by
              rw [← hs3c, ← hs1c, show C = [] from List.length_eq_zero_iff.1 (by omega)]
              decide
            have hfe3 := hfe2.out
            rw [if_neg (fun h => hA3 h.1)] at hfe3
            have hfe3 := Lib.hid hfe3
            clear hfe2
            go_wp2_with (first
              | (go_at_call 56; refine hread.mono ?_; clear hread; rintro _ w3 ⟨p2, v2, rfl, hp2, hR3, hB3⟩)
              | (go_at_call 57; refine (hi _ _ _ hR3).mono ?_; clear hi; rintro _ w4 ⟨rfl, hR4, hC4⟩; have hB4 := hB3.trans (hC4.to_below hB3.size (fun i _ hi => by { rw [show i = p2 from hi]; exact hp2 })))
              | (go_at_call 58; refine (hra _ _ _ hR4).mono ?_; clear hra; rintro _ w5 ⟨u5, rfl, hrow5, hR5, hC5⟩; obtain ⟨A5, c5, rfl, _⟩ := row_form hrow5; have hB5 := hB4.trans (hC5.to_below hB4.size (fun i _ hi => by { rw [show i = p2 from hi]; exact hp2 })))
              | (go_at_call 59; refine (rend_walk hR5).mono ?_; rintro _ w6 ⟨ce, rfl, hce, hB6⟩; have hcn : (ce != 0) = true := by { simp; exact fun h => hA3 (hce.1 h) }; have hB6w := hB5.trans (hB6.mono hB5.size); have hrow6 := row_chg hrow5 (Chg.of_below (F := fun _ => False) hB6) (fun _ _ h => h)))
            all_goals (go_ret3; exact ⟨by first | exact rfl | (rw [hfe3.out]; exact rfl), hB6w⟩)
      · have hr2 : 128 ≤ (r : Int) := by omega
        have hb := uv_big h128
        have hbl : h + 1 + (uv (r / 128)).length = 1 + (uv N).length := by rw [hb, List.length_cons] at hhr; omega
        clear hb hhr
        go_wp2_with fail
        go_roundw
        case rel => exact ⟨trivial, h + 1, r / 128, by go_num, by go_num, by omega, hbl⟩
        case measure => simp [intOf]; omega
end Go.Proofs.YtkndgmjlphppdaaGreatDoor
namespace Go.Says
open Go Go.RowKit Go.Shelf

/-- an iterator that yields xs, with each round leaving what Kp says, and S telling of the world behind it -/
def SeqSays {α : Type} (F : Fence) (n : Nat) (P : Program) (g : Nat) (lb : Array Value) (encs : α → Array Value) (Kp : World → World → Prop) (S : List α → World → Prop) (N : Nat) (w : World) : Prop :=
  ∀ (l : Nat) (J : List α → World → Prop) (W : World), Below w.heap.size w W → AbidesFrom W.heap.size J →
    (∀ pre x W1, J pre W1 → pre.length < N → YieldAt F (n - 1) P l (encs x) W1 fun e W' => e = .returned (.bool true) ∧ J (pre ++ [x]) W' ∧ Kp W1 W') →
    J [] W → CallsIn F n P g (#[.func (.yield l) #[] #[]] ++ lb) W fun e W' => (∃ v, e = .returned v) ∧ ∃ xs, S xs W' ∧ J xs W'
/-- a predicate stays where a block at or beyond B that holds no cells is turned -/
def Stays (B : Nat) (S : World → Prop) : Prop := ∀ (W : World) (l : Nat) (o o' : Obj), B ≤ l → W.heap[l]? = some o → o.isCells = false → S W → S (W.putObj l o')
section
variable {F : Fence} {n : Nat} {P : Program} {α : Type}
theorem wpIn_rangeFunc_says {g : Operand} {ps : Array Tmp} {assign body : Code} {Q : Exit → Act → World → Prop} {a : Act} {w : World}
    (hro : F.round = none) (h1 : 1 ≤ n) {gf : Nat} {lb : Array Value} (hg : a.eval g = .func (.func gf) #[] lb) (hFg : F.fn gf) (eg : ∀ args w, (callFunc gf args).run P w = .ok (.enter gf args) w)
    {encs : α → Array Value} {Kp : World → World → Prop} {S : List α → World → Prop} {N : Nat} (hseq : SeqSays F (n - 1) P gf lb encs Kp S N w)
    (hKt : ∀ {A B C : World}, Kp A B → Kp B C → Kp A C) (hKb : ∀ (W : World) (l : Nat) (o o' : Obj), w.heap.size ≤ l → W.heap[l]? = some o → o.isCells = false → o.isWalk = false → Kp W (W.putObj l o'))
    (hS : ∀ xs, Stays w.heap.size (S xs)) (hps : ∀ x, (encs x).size = ps.size) (I : List α → World → Prop) (hI : OwnFrom w.heap.size I) (h0 : I [] w) (a₁ : α → Act)
    (hassign : ∀ (l : Nat) (x : α) (W : World) (K : Act → World → Prop), K (a₁ x) W →
      assign.wpIn (F.inRound l) (n - 1 - 1) P (Exit.then K (fun _ _ _ => False)) { tmps := (ps.zip (encs x)).foldl (fun t (p, v) => t.setIfInBounds p v) a.tmps, defers := [] } W)
    (hbody : ∀ (l : Nat) (pre : List α) (x : α) (W : World), I pre W → pre.length < N → body.wpIn (F.inRound l) (n - 1 - 1) P (Exit.then (fun _ W' => KeepsOthers W W' ∧ Kp W W' ∧ I (pre ++ [x]) W') (fun _ _ _ => False)) (a₁ x) W)
    (hdone : ∀ (D : Nat) (xs : List α) (W : World), w.heap.size ≤ D → S xs W → I xs W → W.heap[D]? = some (.deferred (some [])) → Q .normal { a with defers := { target := .collected D, args := #[] } :: a.defers } W) :
    (Code.rangeFunc g ps assign body).wpIn F n P Q a w := by
  refine wpIn_rangeFunc fun fn hfn => ?_
  rw [hro]
  -- the loop's record, when it is ready; D: the block of the deferred calls, D + 1: the record
  obtain ⟨rd, hrd⟩ : ∃ rd : Loop, rd = { state := .ready, pending := none, fn, tmps := a.tmps, params := ps, assign, body, defers := w.heap.size } := ⟨_, rfl⟩
  obtain ⟨D, hD⟩ : ∃ D, w.heap.size = D := ⟨_, rfl⟩
  obtain ⟨V, hV⟩ : ∃ V, (w.alloc (.deferred (some []))).alloc (.loop rd) = V := ⟨_, rfl⟩
  have vD : V.heap[D]? = some (.deferred (some [])) := by
    rw [← hV, ← hD]; exact (Below.heap_alloc _ _ _ (by simp)).trans (World.alloc_heap_new w _)
  have vL : V.heap[D + 1]? = some (.loop rd) := by
    have := World.alloc_heap_new (w.alloc (.deferred (some []))) (.loop rd)
    rw [World.size_alloc, hD] at this
    rw [← hV]; exact this
  have vI : I [] V := by rw [← hV]; exact hI.alloc _ (hI.alloc _ h0)
  have vB : Below w.heap.size w V := by rw [← hV]; exact ((Below.refl _ w).alloc (Nat.le_refl _) _).alloc (by simp) _
  have vS : D + 2 ≤ V.heap.size := by rw [← hV, World.size_alloc, World.size_alloc]; omega
  refine ⟨D + 1, [{ target := .collected D, args := #[] }], V, { target := .fn (.func gf) lb, args := #[.func (.yield (D + 1)) #[] #[]] }, V, gf, #[.func (.yield (D + 1)) #[] #[]] ++ lb, V, ?_, ?_, ?_, ?_, fun _ => h1, ?_⟩
  · rw [← hV, ← hD, hrd]; exact run_enterLoop_outer _ _ _ _ _
  · simp only [resolve, hg]
    simp [go_sem]
  · intro f' hf'
    simp [Target.leads] at hf'
    subst hf'
    exact hFg
  · simp [invoke, go_sem, eg]
  have turned : ∀ {A B : World} {row : Option Nat}, (∀ r, row = some r → V.heap.size ≤ r ∧ ∃ o : Obj, A.heap[r]? = some o ∧ o.isWalk = true) → ∀ r, row = some r → w.heap.size ≤ r ∧ ∃ o : Obj, A.heap[r]? = some o ∧ o.isCells = false := fun hr r e => by
    obtain ⟨hB, o, ho, hw⟩ := hr r e
    exact ⟨by omega, o, ho, Obj.not_cells_of_walk hw⟩
  have hps' : ∀ x, (encs x).size = rd.params.size := fun x => by rw [hrd]; exact hps x
  refine (hseq (D + 1) (fun pre W => I pre W ∧ W.heap[D + 1]? = some (.loop rd) ∧ W.heap[D]? = some (.deferred (some []))) V vB ?_ ?_ ⟨vI, vL, vD⟩).mono ?_
  · intro s A B row hs hg' hr
    exact ⟨hI s A B row hs.1 hg' (turned (B := B) hr), (grownBy_keeps hg' (fun r e => (hr r e).2) hs.2.1 rfl).trans hs.2.1, (grownBy_keeps hg' (fun r e => (hr r e).2) hs.2.2 rfl).trans hs.2.2⟩
  · rintro pre x W ⟨hi, hl, hd⟩ hlen
    have hlt := (Array.getElem?_eq_some_iff.1 hl).1
    obtain ⟨bz, hbz⟩ : ∃ bz : Loop, bz = { rd with state := .busy } := ⟨_, rfl⟩
    have hy := run_yield (P := P) (args := encs x) hl (hps' x)
    have hbeg : (Instr.beginRound (D + 1)).run P W = .ok () (W.putObj (D + 1) (.loop bz)) := by rw [hbz]; exact run_beginRound hl (by rw [hrd])
    rw [hrd] at hy
    refine ⟨fn, _, assign, body, hy, roundIn_of_wpIn hfn (hassign _ x W _ ⟨_, hbeg, ?_⟩)⟩
    have hl2 : (W.putObj (D + 1) (.loop bz)).heap[D + 1]? = some (.loop bz) := World.putObj_heap_same hlt
    have hd2 : (W.putObj (D + 1) (.loop bz)).heap[D]? = some (.deferred (some [])) := (World.putObj_heap_other (by omega)).trans hd
    refine wpIn_mono (hbody _ pre x _ (hI.putObj _ hi (by omega) hl rfl) hlen) ?_
    rintro e a3 U hp
    cases e with
    | normal =>
      obtain ⟨hk, hkp, hi3⟩ := hp
      have hl3 := hk.same _ _ hl2 rfl
      have hd3 := hk.same _ _ hd2 rfl
      have hend := run_endRound (P := P) none hl3
      have hback : ({ bz with state := if (none : Option Code).isNone then .ready else .done, pending := none } : Loop) = rd := by rw [hbz, hrd]; rfl
      rw [hback] at hend
      exact ⟨_, _, hend, rfl, ⟨hI.putObj _ hi3 (by omega) hl3 rfl, World.putObj_heap_same (Array.getElem?_eq_some_iff.1 hl3).1, (World.putObj_heap_other (by omega)).trans hd3⟩, hKt (hKt (hKb _ _ _ _ (by omega) hl rfl rfl) hkp) (hKb _ _ _ _ (by omega) hl3 rfl rfl)⟩
    | ret => exact hp.elim
    | exit id => exact hp.elim
    | goto t => exact hp.elim
    | panic ch => exact hp.elim
    | outgrown => exact hp.elim
  · rintro e U ⟨⟨v, rfl⟩, xs, hs, hi, hl, hd⟩
    have hend := run_endLoop (P := P) hl (by rw [hrd]; simp)
    have hpend : rd.pending = none := by rw [hrd]
    rw [hpend] at hend
    exact ⟨none, _, hend, hdone D xs _ (by omega) (hS xs _ _ _ _ (by omega) hl rfl hs) (hI.putObj _ hi (by omega) hl rfl) ((World.putObj_heap_other (by omega)).trans hd)⟩
end
end Go.Says
