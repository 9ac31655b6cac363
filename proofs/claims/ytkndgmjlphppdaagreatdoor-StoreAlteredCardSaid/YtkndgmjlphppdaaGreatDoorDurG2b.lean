/-
  A slice of numbers and a slice of truth values that are arguments of a law: what they hold before the call, and that they read behind it as before.
  The encoders of the reference, walked: numbers, bytes, truth values, rules, records.
  Altered, plain: the six records, where their frames begin and end, and what is found where one bit is altered.
  A round of StoreApart's first loop, plain: what is kept.
  Save and Use, walked on a disk that may be armed.
  Up of a log and of a store, walked.
  Durable, plain: a disk with one store, that may be armed; what a crash leaves.
  Durable, plain: what lies on the disk when the loop is left, and what is found again.
-/
import Derived.Test.YtkndgmjlphppdaaGreatDoorDurG2a
import Derived.WalkKit
import Derived.Carry
import Derived.ProofKit
import Derived.OpenShut
import Derived.Deep.Grids
import Derived.Test.YtkndgmjlphppdaaGreatDoorDurG1a
import Derived.Test.YtkndgmjlphppdaaGreatDoorDurG0d
namespace Go.Proofs.YtkndgmjlphppdaaGreatDoor
open Go Go.ChangeShapes Go.WideShapes Go.ChangeAt Go.RowKit Go.Deep

/-! ### A slice of numbers, read before the call and behind it -/
theorem cellsBool : Tryz.prog.cellsOf 4 = 1 := by kernel_rfl
theorem cellsInt : Tryz.prog.cellsOf 3 = 1 := by kernel_rfl
section
variable {H : Type} {enc : TypeId × Value → H}
set_option maxRecDepth 100000 in
theorem read_ints {W : World} {base : Nat} {v : Value} {d : DataW H} {ps : List MemPlace} (hval : Value.okWide Tryz.prog W .any base 22 v) (h : DataW.Trod enc Tryz.prog W 0 (fun _ => true) true 22 v d ps) :
    ∃ l, SlArg W v l ∧ ∀ W' : World, (∀ b, b < W.heap.size → W'.heap[b]? = W.heap[b]?) → DataW.Trod enc Tryz.prog W' 0 (fun b => decide (b < W.heap.size)) true 22 v d ps := by
  obtain ⟨a0, len, cap, rfl⟩ := okWide_slice Tryz.underlying22 hval
  obtain ⟨fuel, hf⟩ := h
  rcases open_ints Tryz.underlying22 Tryz.underlying3 cellsInt hf with ⟨hcs, hx⟩ | ⟨a, len', cap', zs, hcs, _, hl, hm, hz, hx, hcell, hwz⟩
  · simp [Value.cells] at hcs
    obtain ⟨rfl, rfl, rfl⟩ := hcs
    simp only [Prod.mk.injEq] at hx
    obtain ⟨rfl, rfl⟩ := hx
    refine ⟨[], ⟨⟨none, 0, rfl, fun h => absurd rfl h⟩, by decide, fun z hz => by simp at hz⟩, fun W' _ => ⟨1, ?_⟩⟩
    simp [DataW.trod, Tryz.underlying22, Value.cells]
  · simp [Value.cells] at hcs
    obtain ⟨rfl, rfl, rfl⟩ := hcs
    simp only [Prod.mk.injEq] at hx
    obtain ⟨rfl, rfl⟩ := hx
    simp only [if_true] at hz
    have hmax : cap ≤ 9223372036854775807 := by unfold maxLen at hm; omega
    have hlt : (zs.take len).length = len := by simp; omega
    have hbd : ∀ z ∈ zs, -9223372036854775808 ≤ z ∧ z ≤ 9223372036854775807 := fun z hz => by
      have := hwz z hz
      simp [Lit.wf, IntKind.min, IntKind.max, IntKind.signed, IntKind.bits] at this
      omega
    refine ⟨zs.take len, ⟨⟨some a, cap, by rw [hlt], fun h => ?_⟩, by rw [hlt]; omega, fun z hz => hbd z (List.mem_of_mem_take hz)⟩, fun W' hW' => ?_⟩
    · have hpos : 0 < zs.length := by
        rcases Nat.eq_zero_or_pos zs.length with h0 | h0
        · rw [List.length_eq_zero_iff.1 h0] at h; simp at h
        · exact h0
      obtain ⟨b, off, rfl, hc⟩ := ints_at hcell hpos
      refine ⟨b, off, rfl, ?_, fun i z hi => ?_⟩
      · have := hc 0 hpos
        simp only [World.cell?] at this
        by_cases hb : b < W.heap.size
        · exact hb
        · rw [Array.getElem?_eq_none (by omega)] at this
          simp at this
      · have hi' : (zs.take len)[i]? = some z := hi
        have hil : i < len := by
          have := (List.getElem?_eq_some_iff.1 hi').1
          omega
        rw [List.getElem?_take, if_pos hil] at hi'
        rw [hc i (by have := (List.getElem?_eq_some_iff.1 hi').1; omega)]
        simp [List.getD, hi']
    · refine ⟨2, shut_ints 0 Tryz.underlying22 Tryz.underlying3 cellsInt (Nat.zero_le _) hl hm ?_ (fun i hi => ?_) hwz⟩
      · rcases Nat.eq_zero_or_pos zs.length with h0 | h0
        · split <;> omega
        · obtain ⟨b, off, rfl, hc⟩ := ints_at hcell h0
          have hb : b < W.heap.size := by
            have := hc 0 h0
            simp only [World.cell?] at this
            by_cases hb : b < W.heap.size
            · exact hb
            · rw [Array.getElem?_eq_none (by omega)] at this
              simp at this
          simp [hb, hz]
      · obtain ⟨b, off, rfl, hc⟩ := ints_at hcell (by omega)
        have hci := hcell i hi
        rw [Go.WideShapes.add_plain] at hci ⊢
        rw [← hci]
        have hb : b < W.heap.size := by
          have := hc 0 (by omega)
          simp only [World.cell?] at this
          by_cases hb : b < W.heap.size
          · exact hb
          · rw [Array.getElem?_eq_none (by omega)] at this
            simp at this
        simp only [World.cell?]
        rw [hW' b hb]
end
section
variable {H : Type} {enc : TypeId × Value → H}
set_option maxRecDepth 100000 in
theorem read_bools {W : World} {base : Nat} {v : Value} {d : DataW H} {ps : List MemPlace} (hval : Value.okWide Tryz.prog W .any base 23 v) (h : DataW.Trod enc Tryz.prog W 0 (fun _ => true) true 23 v d ps) :
    ∃ l, BArg W v l ∧ ∀ W' : World, (∀ b, b < W.heap.size → W'.heap[b]? = W.heap[b]?) → DataW.Trod enc Tryz.prog W' 0 (fun b => decide (b < W.heap.size)) true 23 v d ps := by
  obtain ⟨a0, len, cap, rfl⟩ := okWide_slice Tryz.underlying23 hval
  obtain ⟨fuel, hf⟩ := h
  rcases open_bools Tryz.underlying23 Tryz.underlying4 cellsBool hf with ⟨hcs, hx⟩ | ⟨a, len', cap', B, hcs, _, hl, hm, hx, hcell⟩
  · simp [Value.cells] at hcs
    obtain ⟨rfl, rfl, rfl⟩ := hcs
    simp only [Prod.mk.injEq] at hx
    obtain ⟨rfl, rfl⟩ := hx
    refine ⟨[], ⟨⟨none, 0, rfl, fun h => absurd rfl h⟩, by decide⟩, fun W' _ => ⟨1, ?_⟩⟩
    simp [DataW.trod, Tryz.underlying23, Value.cells]
  · simp [Value.cells] at hcs
    obtain ⟨rfl, rfl, rfl⟩ := hcs
    simp only [Prod.mk.injEq] at hx
    obtain ⟨rfl, rfl⟩ := hx
    have hmax : cap ≤ 9223372036854775807 := by unfold maxLen at hm; omega
    have hlt : ((List.range len).map B).length = len := by simp
    have hat : 0 < cap → ∃ b off, a = ⟨b, off, none⟩ ∧ b < W.heap.size ∧ ∀ i, i < cap → W.cell? ⟨b, off + i, none⟩ = some (.bool (B i)) := fun h0 => by
      obtain ⟨b, off, spot⟩ := a
      have hspot : spot = none := by simpa [Addr.add] using World.cell?_spot (hcell 0 h0)
      subst hspot
      refine ⟨b, off, rfl, ?_, fun i hi => by rw [← Go.WideShapes.add_plain]; exact hcell i hi⟩
      have := hcell 0 h0
      rw [Go.WideShapes.add_plain] at this
      simp only [World.cell?] at this
      by_cases hb : b < W.heap.size
      · exact hb
      · rw [Array.getElem?_eq_none (by omega)] at this
        simp at this
    refine ⟨(List.range len).map B, ⟨⟨some a, cap, by rw [hlt], fun h => ?_⟩, by rw [hlt]; omega⟩, fun W' hW' => ?_⟩
    · have hpos : 0 < len := by
        rcases Nat.eq_zero_or_pos len with h0 | h0
        · subst h0; simp at h
        · exact h0
      obtain ⟨b, off, rfl, hb, hc⟩ := hat (by omega)
      refine ⟨b, off, rfl, hb, fun i z hi => ?_⟩
      rw [List.getElem?_map] at hi
      have hil : i < len := by
        rcases Nat.lt_or_ge i len with h1 | h1
        · exact h1
        · rw [List.getElem?_eq_none (by simpa using h1)] at hi
          cases hi
      rw [List.getElem?_range hil] at hi
      simp only [Option.map_some, Option.some.injEq] at hi
      rw [hc i (by omega), hi]
    · rcases Nat.eq_zero_or_pos cap with h0 | h0
      · subst h0
        obtain rfl : len = 0 := by omega
        refine ⟨1, ?_⟩
        simp [DataW.trod, Tryz.underlying23, Value.cells, boolRow, MemPlace.row]
      · obtain ⟨b, off, rfl, hb, hc⟩ := hat h0
        have := shut_slice_whole1 (enc := enc) (P := Tryz.prog) (w := W') (base := 0) (spare := fun b => decide (b < W.heap.size)) (held := true) (off := off) Tryz.underlying23 cellsBool (Nat.zero_le b) hl hm (by simpa using hb) (fun i => .bool (B i)) (fun i => .lit (.bool (B i))) (fun _ => [])
          (fun i hi => by
            have h1 := hc i hi
            simp only [World.cell?] at h1 ⊢
            rw [hW' b hb]
            exact h1) (fun i _ => ⟨1, by simp [DataW.trod, Tryz.underlying4]⟩)
        rw [flatMap_nil_range, List.append_nil] at this
        exact this
end
end Go.Proofs.YtkndgmjlphppdaaGreatDoor
namespace Go.Proofs.YtkndgmjlphppdaaGreatDoor
open Go Go.RowKit

theorem grown_bel {w wr w2 : World} {B : Nat} {e : TypeId} {size n : Nat} {v : Value} {xs : List Value} (hb : Below B w wr) (hown : wr.ownsRow B e size v n xs) (hB : B ≤ wr.heap.size) (o : Obj) (hg : (wr.alloc o).grownBy w2 v.ownBlock) : Below B w w2 :=
  (hb.alloc hB o).grown hg (by simp; omega) fun k hk => (World.ownsRow.lt hown k hk).1
theorem grown_bel0 {w wr w2 : World} {B : Nat} {e : TypeId} {size n : Nat} {v : Value} {xs : List Value} (hb : Below B w wr) (hown : wr.ownsRow B e size v n xs) (hB : B ≤ wr.heap.size) (hg : wr.grownBy w2 v.ownBlock) : Below B w w2 :=
  hb.grown hg hB fun k hk => (World.ownsRow.lt hown k hk).1
theorem or128' (m : Nat) : (((UInt8.ofNat (m % 128 + 128)).toNat : Nat) : Int) = 128 + (m : Int) % 128 := by rw [toNat_ofNat (by omega)]; omega
set_option maxRecDepth 1000000 in
theorem fuint_walk {n : Nat} (hn : n < 18446744073709551616) (w : World) :
    Calls Tryz.prog 44 #[.int .u64 n] w fun e w' => ∃ v, e = .returned v ∧ w'.ownsRow w.heap.size 5 1 v (uv n).length (bv (uv n)) ∧ Below w.heap.size w w' := by
  obtain ⟨i0, hi0, hz0, hz1, hz2⟩ := info_parts' info5
  have hten := uv_ten hn
  go_enter Tryz.func44, Tryz.ntmps44
  go_wp2
  go_loopw [0, 3] (fun nv sv wr => ∃ (m : Nat) (l1 : List UInt8), nv = .int .u64 m ∧ m < 18446744073709551616 ∧ wr.ownsRow w.heap.size 5 1 sv l1.length (bv l1) ∧ Below w.heap.size w wr ∧ Hid (l1 ++ uv m = uv n)) (fun nv _ _ => (intOf nv).toNat)
  case atStart => exact ⟨n, [], rfl, hn, World.ownsRow_nil _ _ _ _, Below.refl _ _, Lib.hid (List.nil_append _)⟩
  case round =>
    obtain ⟨m, l1, rfl, hm, hown, hbel, hid⟩ := hrel
    have hsee := sees_one wr
    have hlen : l1.length ≤ 10 := by
      have := congrArg List.length hid.out
      simp only [List.length_append] at this
      omega
    have h63 : l1.length + 1 ≤ maxLen := by unfold maxLen; omega
    have hby : (l1.length + 1) * 1 ≤ 140737488355328 := by omega
    have hsz := hbel.size
    obtain ⟨A1, c1, rfl, _⟩ := row_form hown
    by_cases h128 : 127 < m
    · have hm2 : (127 : Int) < (m : Int) := by omega
      have hmm : (128 + (m : Int) % 128) % 256 = 128 + (m : Int) % 128 := by omega
      have hor := Lib.hid (or128' m)
      go_wp2_with (first
        | (at_builtin; refine wpList_append_sees rfl _ _ 47 rfl i0 _ 1 Tryz.underlying47 hi0 hz0 hz1 hz2 rfl (by decide) _ _ _ rfl (hown.alloc _) _ 1 _ rfl (hsee _) rfl (by intro u hu; simp at hu; subst hu; rfl) h63 hby (by simp; omega) ?_; intro v2 w2 hrow2 hgrow2 hown2; obtain ⟨A2, k2, rfl, _⟩ := row_form hrow2)
        | go_in)
      have hB2 := grown_bel hbel hown hsz _ hgrow2
      go_roundw
      case rel =>
        refine ⟨m / 128, l1 ++ [UInt8.ofNat (m % 128 + 128)], by go_num, by omega, ?_, hB2, Lib.hid ?_⟩
        · rw [bv_app, List.length_append, List.length_singleton]
          show w2.ownsRow _ _ _ _ _ (bv l1 ++ [.int .u8 (((UInt8.ofNat (m % 128 + 128)).toNat : Nat) : Int)])
          rw [hor.out]
          exact hrow2
        · have h1 := hid.out
          rw [uv_big (by omega)] at h1
          rw [← h1]
          simp only [List.append_assoc]
          rfl
      case measure => simp [intOf]; omega
    · have hm2 : ¬ (127 : Int) < (m : Int) := by omega
      have hmm : (m : Int) % 256 = m := by omega
      go_wp2_with (first
        | (at_builtin; refine wpList_append_sees rfl _ _ 47 rfl i0 _ 1 Tryz.underlying47 hi0 hz0 hz1 hz2 rfl (by decide) _ _ _ rfl (hown.alloc _) _ 1 _ rfl (hsee _) rfl (by intro u hu; simp at hu; subst hu; rfl) h63 hby (by simp; omega) ?_; intro v2 w2 hrow2 hgrow2 hown2; obtain ⟨A2, k2, rfl, _⟩ := row_form hrow2)
        | go_in)
      go_ret
      have hB2 := grown_bel hbel hown hsz _ hgrow2
      have e1 : ((UInt8.ofNat m).toNat : Int) = m := by rw [toNat_ofNat (by omega)]
      have h1 := hid.out
      rw [uv_small (by omega)] at h1
      refine ⟨_, rfl, ?_, hB2⟩
      rw [← h1, bv_app, List.length_append, List.length_singleton]
      show w2.ownsRow _ _ _ _ _ (bv l1 ++ [.int .u8 ((UInt8.ofNat m).toNat : Int)])
      rw [e1]
      exact hrow2
set_option maxRecDepth 1000000 in
theorem fint_walk {k : Nat} (hk : k ≤ 1000000) (w : World) :
    Calls Tryz.prog 20 #[.int .i64 (k : Int)] w fun e w' => ∃ v, e = .returned v ∧ w'.ownsRow w.heap.size 5 1 v (encI (k : Int)).length (bv (encI (k : Int))) ∧ Below w.heap.size w w' := by
  have hz : zz (k : Int) = 2 * k := by unfold zz; rw [if_neg (by omega)]; omega
  have hu := fuint_walk (n := 2 * k) (by omega) w
  have e2 : ((2 * k : Nat) : Int) = 2 * (k : Int) := by omega
  rw [e2] at hu
  have h0 : ¬ (k : Int) < 0 := by omega
  have m1 : (k : Int) % 18446744073709551616 = k := by omega
  have m2 : (2 * (k : Int)) % 18446744073709551616 = 2 * k := by omega
  unfold encI
  rw [hz]
  clear hz e2
  go_enter Tryz.func20, Tryz.ntmps20
  go_wp2_with (first
    | (go_at_call 44; refine hu.mono ?_; rintro _ w2 ⟨v2, rfl, hr2, hB2⟩)
    | go_in)
  go_ret
  exact ⟨_, rfl, hr2, hB2⟩
set_option maxRecDepth 1000000 in
theorem fraw_walk {w : World} {b : Value} {x : List UInt8} (hb : Sees w 1 b (bv x)) (hx : x.length ≤ 1000000) :
    Calls Tryz.prog 21 #[b] w fun e w' => ∃ v, e = .returned v ∧ w'.ownsRow w.heap.size 5 1 v (encR x).length (bv (encR x)) ∧ Below w.heap.size w w' := by
  obtain ⟨i0, hi0, hz0, hz1, hz2⟩ := info_parts' info5
  obtain ⟨A, m, c, rfl, hxm, hmc, hA⟩ := id hb
  have hxn : x.length = m := by rw [bv_len] at hxm; omega
  subst hxn
  have hu := fuint_walk (n := x.length) (by omega) w
  have hten := uv_ten (n := x.length) (by omega)
  have m1 : (x.length : Int) % 18446744073709551616 = x.length := by omega
  go_enter Tryz.func21, Tryz.ntmps21
  go_wp2_with fail
  refine hu.mono ?_
  clear hu
  rintro _ w2 ⟨v2, rfl, hr2, hB2⟩
  obtain ⟨A2, c2, rfl, _⟩ := row_form hr2
  have hb2 := hb.bel hB2
  have h63 : (uv x.length).length + x.length ≤ maxLen := by unfold maxLen; omega
  have hby : ((uv x.length).length + x.length) * 1 ≤ 140737488355328 := by omega
  have hsz := hB2.size
  have hone := bv_one x
  have hl1 : (bv x).length = x.length * 1 := by rw [bv_len]; omega
  go_wp2_with (first
    | (at_builtin; refine wpList_append_sees rfl _ _ 47 rfl i0 _ 1 Tryz.underlying47 hi0 hz0 hz1 hz2 rfl (by decide) _ _ _ rfl hr2 _ x.length _ rfl hb2 hl1 hone h63 hby hsz ?_; intro v3 w3 hrow3 hgrow3 hown3; obtain ⟨A3, k3, rfl, _⟩ := row_form hrow3)
    | go_in)
  go_ret
  refine ⟨_, rfl, ?_, grown_bel0 hB2 hr2 hsz hgrow3⟩
  unfold encR
  rw [bv_app, List.length_append]
  exact hrow3
set_option maxRecDepth 1000000 in
theorem fraw_str (w : World) (x : List UInt8) (hx : x.length ≤ 1000000) {c : Nat} (hc : x.length ≤ c) :
    Calls Tryz.prog 21 #[.slice (some ⟨w.heap.size, 0, none⟩) x.length c] (Lib.bytesWorld w 5 (ofB x)) fun e w' => ∃ v, e = .returned v ∧ w'.ownsRow w.heap.size 5 1 v (encR x).length (bv (encR x)) ∧ Below w.heap.size w w' := by
  have hb := below_bytes (n := w.heap.size) w 5 (ofB x) (Nat.le_refl _)
  have hsz := Lib.bytesWorld_size w 5 (ofB x)
  have hsee : Sees (Lib.bytesWorld w 5 (ofB x)) 1 (.slice (some ⟨w.heap.size, 0, none⟩) x.length c) (bv x) := by
    refine ⟨_, _, _, rfl, by rw [bv_len]; omega, hc, fun _ => ⟨w.heap.size, 0, rfl, by omega, fun i u hu => ?_⟩⟩
    exact bytes_cell w 5 (ofB x) i u (by rw [toB_ofB]; exact hu)
  refine (fraw_walk hsee hx).mono ?_
  rintro e w' ⟨v, rfl, hr, hB⟩
  exact ⟨v, rfl, row_base hr (by omega), hb.trans (hB.mono (by omega))⟩
set_option maxRecDepth 1000000 in
theorem fbool_walk (b : Bool) (w : World) :
    Calls Tryz.prog 70 #[.bool b] w fun e w' => ∃ v, e = .returned v ∧ w'.ownsRow w.heap.size 5 1 v (encB b).length (bv (encB b)) ∧ Below w.heap.size w w' := by
  have hrow : ∀ x : UInt8, (w.alloc (.cells #[.int .u8 (x.toNat : Int)] 5)).ownsRow w.heap.size 5 1 (.slice (some ⟨w.heap.size, 0, none⟩) 1 1) [x].length (bv [x]) := fun x =>
    ⟨rfl, .inr ⟨_, 1, _, rfl, Nat.le_refl _, heap_alloc_new _ _, Nat.le_refl _, by unfold maxLen; omega, rfl, rfl⟩⟩
  have hB : ∀ x : Value, Below w.heap.size w (w.alloc (.cells #[x] 5)) := fun x => (Below.refl _ _).alloc (Nat.le_refl _) _
  cases b with
  | true =>
    go_enter Tryz.func70, Tryz.ntmps70
    go_wp2
    go_ret
    exact ⟨_, rfl, hrow 1, hB _⟩
  | false =>
    go_enter Tryz.func70, Tryz.ntmps70
    go_wp2
    go_ret
    exact ⟨_, rfl, hrow 0, hB _⟩
set_option maxHeartbeats 8000000 in
set_option maxRecDepth 1000000 in
theorem fencode_walk {w : World} {base : Nat} {v : Value} {rs : List Ru} (hown0 : w.ownsRow base 75 3 v rs.length (rs.flatMap Ru.cells)) (hG : Good rs) :
    Calls Tryz.prog 41 #[v] w fun e w' => ∃ u, e = .returned u ∧ w'.ownsRow w.heap.size 5 1 u (encL rs).length (bv (encL rs)) ∧ Below w.heap.size w w' := by
  obtain ⟨i0, hi0, hz0, hz1, hz2⟩ := info_parts' info5
  have hlen := hG.len
  have hconv := conv_bytes
  have hi1 := fint_walk (k := rs.length) (by omega) w
  obtain ⟨va, vc, rfl, hva⟩ := owns_shape hown0
  have hlt0 := World.ownsRow.lt hown0
  go_enter Tryz.func41, Tryz.ntmps41
  go_wp2_with fail
  refine hi1.mono ?_
  clear hi1
  rintro _ w1 ⟨v1, rfl, hr1, hB1⟩
  have s1 := hB1.size
  go_wp2
  go_loopw [3, 4] (fun ov i wr => ∃ (j : Nat), j ≤ rs.length ∧ i = .int .i64 j ∧ wr.ownsRow w.heap.size 5 1 ov (encI (rs.length : Int) ++ encMany (rs.take j)).length (bv (encI (rs.length : Int) ++ encMany (rs.take j))) ∧ Below w.heap.size w wr) (fun _ i _ => rs.length - (intOf i).toNat)
  case atStart => exact ⟨0, Nat.zero_le _, rfl, by simpa [encMany] using hr1, hB1⟩
  case round =>
    obtain ⟨j, hj, rfl, hown, hbel⟩ := hrel
    have hsz := hbel.size
    by_cases hjl : j < rs.length
    · obtain ⟨g, rfl⟩ := hva (by omega)
      obtain ⟨c0, c1, c2⟩ := rl_cells hown0 hjl
      have hg := (hlt0 g rfl).2
      have c0' := (hbel.cell (p := ⟨g, j * 3, none⟩) hg).trans c0
      have htk := hG.take j
      have hsn := encMany_snoc rs hjl
      have hnl := hG.word (List.getElem_mem hjl)
      have hn6 := hnl.2.2.1
      have hn2 : rs[j].name.length ≤ 2 := by
        obtain ⟨_, q, hq, hnm⟩ := hG.each rs[j] (List.getElem_mem hjl)
        rw [hnm]; exact (word8_len hq).2
      rw [ofB_size] at hn6
      obtain ⟨nm, hnm⟩ : ∃ s, rs[j].name = s := ⟨_, rfl⟩
      obtain ⟨tx, htx⟩ : ∃ s, rs[j].text = s := ⟨_, rfl⟩
      obtain ⟨ru, hru⟩ : ∃ s, rs[j].runes = s := ⟨_, rfl⟩
      rw [hnm] at c0 c0' hsn hn2
      rw [htx] at c1 hsn hn6
      rw [hru] at c2 hsn
      have hI1 : (encI (rs.length : Int)).length ≤ 10 := uv_ten (zz_lt ⟨by omega, by omega⟩)
      obtain ⟨P, hP⟩ : ∃ P, encI (rs.length : Int) ++ encMany (rs.take j) = P := ⟨_, rfl⟩
      have hPl : P.length ≤ 200 := by rw [← hP, List.length_append]; omega
      have hfin : encI (rs.length : Int) ++ encMany (rs.take (j + 1)) = P ++ encR nm ++ encR tx ++ encB ru := by rw [← hP, hsn]; simp
      have hNR : (encR nm).length ≤ 12 := by have := uv_ten (n := nm.length) (by omega); unfold encR; rw [List.length_append]; omega
      have hTR : (encR tx).length ≤ 16 := by have := uv_ten (n := tx.length) (by omega); unfold encR; rw [List.length_append]; omega
      have hBR : (encB ru).length = 1 := rfl
      rw [hP] at hown
      have HF := Lib.hid hfin
      clear hnm htx hru hsn hP hfin htk hnl hG
      have hNS : (ofB nm).size = nm.length := ofB_size nm
      have hTS : (ofB tx).size = tx.length := ofB_size tx
      have hcap1 := cap_le wr (ofB nm)
      rw [hNS] at hcap1
      have hr1 := fraw_str wr nm (by omega) hcap1
      obtain ⟨A1, k1, rfl, _⟩ := row_form hown
      have hj0 : (0 : Int) ≤ (j : Int) := Int.natCast_nonneg _
      have hj1 : (j : Int) < (rs.length : Int) := by omega
      go_wp2_with fail
      refine hr1.mono ?_
      clear hr1 hcap1
      rintro _ w3 ⟨v3, rfl, hr3, hB3⟩
      obtain ⟨A3, k3, rfl, _⟩ := row_form hr3
      have s3 := hB3.size
      have hown3 := owns_bel hown hB3
      have hs3 := Sees.row hr3
      have z3 : P.length + (encR nm).length ≤ maxLen := by unfold maxLen; omega
      have y3 : (P.length + (encR nm).length) * 1 ≤ 140737488355328 := by omega
      have l3 : (bv (encR nm)).length = (encR nm).length * 1 := by rw [bv_len]; omega
      have o3 := bv_one (encR nm)
      have b3 : w.heap.size ≤ w3.heap.size := by omega
      have hBw3 := hbel.trans (hB3.mono hsz)
      go_wp2_with (first
        | (at_builtin; refine wpList_append_sees rfl _ _ 47 rfl i0 _ 1 Tryz.underlying47 hi0 hz0 hz1 hz2 rfl (by decide) _ _ _ rfl hown3 _ (encR nm).length _ rfl hs3 l3 o3 z3 y3 b3 ?_; intro va3 wa3 hrowa3 hgrowa3 howna3; obtain ⟨Aa3, ka3, rfl, _⟩ := row_form hrowa3; have hBa3 := grown_bel0 hBw3 hown3 b3 hgrowa3; have d1 := (hBa3.cell (p := ⟨g, j * 3 + 1, none⟩) hg).trans c1))
      have sa3 := hBa3.size
      have hrowb3 : wa3.ownsRow w.heap.size 5 1 (.slice Aa3 (P.length + (encR nm).length) ka3) (P.length + (encR nm).length) (bv (P ++ encR nm)) := by rw [bv_app]; exact hrowa3
      have hcap2 := cap_le wa3 (ofB tx)
      rw [hTS] at hcap2
      have hr2 := fraw_str wa3 tx (by omega) hcap2
      clear hown3 hs3 z3 y3 l3 o3 hgrowa3 hrowa3 c0' hr3 howna3
      go_wp2_with fail
      refine hr2.mono ?_
      clear hr2 hcap2
      rintro _ w4 ⟨v4, rfl, hr4, hB4⟩
      obtain ⟨A4, k4, rfl, _⟩ := row_form hr4
      have s4 := hB4.size
      have hown4 := owns_bel hrowb3 hB4
      have hs4 := Sees.row hr4
      have z4 : P.length + (encR nm).length + (encR tx).length ≤ maxLen := by unfold maxLen; omega
      have y4 : (P.length + (encR nm).length + (encR tx).length) * 1 ≤ 140737488355328 := by omega
      have l4 : (bv (encR tx)).length = (encR tx).length * 1 := by rw [bv_len]; omega
      have o4 := bv_one (encR tx)
      have b4 : w.heap.size ≤ w4.heap.size := by omega
      have hBw4 := hBa3.trans (hB4.mono (by omega))
      go_wp2_with (first
        | (at_builtin; refine wpList_append_sees rfl _ _ 47 rfl i0 _ 1 Tryz.underlying47 hi0 hz0 hz1 hz2 rfl (by decide) _ _ _ rfl hown4 _ (encR tx).length _ rfl hs4 l4 o4 z4 y4 b4 ?_; intro va4 wa4 hrowa4 hgrowa4 howna4; obtain ⟨Aa4, ka4, rfl, _⟩ := row_form hrowa4; have hBa4 := grown_bel0 hBw4 hown4 b4 hgrowa4; have d2 := (hBa4.cell (p := ⟨g, j * 3 + 2, none⟩) hg).trans c2))
      have sa4 := hBa4.size
      have hrowb4 : wa4.ownsRow w.heap.size 5 1 (.slice Aa4 (P.length + (encR nm).length + (encR tx).length) ka4) (P.length + (encR nm).length + (encR tx).length) (bv (P ++ encR nm ++ encR tx)) := by rw [bv_app]; exact hrowa4
      have hr5 := fbool_walk ru wa4
      clear hown4 hs4 z4 y4 l4 o4 hgrowa4 hrowa4 d1 hr4 howna4
      go_wp2_with fail
      refine hr5.mono ?_
      clear hr5
      rintro _ w5 ⟨v5, rfl, hr5, hB5⟩
      obtain ⟨A5, k5, rfl, _⟩ := row_form hr5
      have s5 := hB5.size
      have hown5 := owns_bel hrowb4 hB5
      have hs5 := Sees.row hr5
      have z5 : P.length + (encR nm).length + (encR tx).length + (encB ru).length ≤ maxLen := by unfold maxLen; omega
      have y5 : (P.length + (encR nm).length + (encR tx).length + (encB ru).length) * 1 ≤ 140737488355328 := by omega
      have l5 : (bv (encB ru)).length = (encB ru).length * 1 := by rw [bv_len]; omega
      have o5 := bv_one (encB ru)
      have b5 : w.heap.size ≤ w5.heap.size := by omega
      have hBw5 := hBa4.trans (hB5.mono (by omega))
      go_wp2_with (first
        | (at_builtin; refine wpList_append_sees rfl _ _ 47 rfl i0 _ 1 Tryz.underlying47 hi0 hz0 hz1 hz2 rfl (by decide) _ _ _ rfl hown5 _ (encB ru).length _ rfl hs5 l5 o5 z5 y5 b5 ?_; intro va5 wa5 hrowa5 hgrowa5 howna5; obtain ⟨Aa5, ka5, rfl, _⟩ := row_form hrowa5))
      have hBa5 := grown_bel0 hBw5 hown5 b5 hgrowa5
      have hrowb5 : wa5.ownsRow w.heap.size 5 1 (.slice Aa5 (P.length + (encR nm).length + (encR tx).length + (encB ru).length) ka5) (encI (rs.length : Int) ++ encMany (rs.take (j + 1))).length (bv (encI (rs.length : Int) ++ encMany (rs.take (j + 1)))) := by
        rw [HF.out, bv_app, List.length_append, List.length_append, List.length_append]
        exact hrowa5
      clear hown5 hs5 z5 y5 l5 o5 hgrowa5 hrowa5 d2 hr5 howna5
      go_roundw
      case rel => exact ⟨j + 1, hjl, by go_num, hrowb5, hBa5⟩
      case measure => simp [intOf]; omega
    · have hje : j = rs.length := by omega
      subst hje
      rw [List.take_length] at hown
      obtain ⟨A1, k1, rfl, _⟩ := row_form hown
      go_wp2
      go_ret
      exact ⟨_, rfl, hown, hbel⟩
set_option maxRecDepth 1000000 in
theorem saveRec_walk {w : World} {base : Nat} {v : Value} {rs : List Ru} (hown0 : w.ownsRow base 75 3 v rs.length (rs.flatMap Ru.cells)) (hG : Good rs) :
    Calls Tryz.prog 18 #[v] w fun e w' => ∃ u, e = .returned u ∧ w'.ownsRow w.heap.size 5 1 u (Rec.enc (.save rs)).length (bv (Rec.enc (.save rs))) ∧ Below w.heap.size w w' := by
  obtain ⟨i0, hi0, hz0, hz1, hz2⟩ := info_parts' info5
  have hEl := hG.encL_len
  have hRl := enc_save_len hG
  have hi1 := fint_walk (k := 0) (by omega) w
  have h1 : (encI ((0 : Nat) : Int)).length = 1 := encI_len1 (by omega)
  obtain ⟨va, vc, rfl, hva⟩ := owns_shape hown0
  go_enter Tryz.func18, Tryz.ntmps18
  go_wp2_with fail
  refine hi1.mono ?_
  clear hi1
  rintro _ w1 ⟨v1, rfl, hr1, hB1⟩
  have s1 := hB1.size
  obtain ⟨A1, k1, rfl, _⟩ := row_form hr1
  have hen := fencode_walk (owns_bel hown0 hB1) hG
  go_wp2_with fail
  refine hen.mono ?_
  clear hen
  rintro _ w2 ⟨v2, rfl, hr2, hB2⟩
  have s2 := hB2.size
  obtain ⟨A2, k2, rfl, _⟩ := row_form hr2
  have hra := fraw_walk (Sees.row hr2) (by omega)
  go_wp2_with fail
  refine hra.mono ?_
  clear hra
  rintro _ w3 ⟨v3, rfl, hr3, hB3⟩
  obtain ⟨A3, k3, rfl, _⟩ := row_form hr3
  have s3 := hB3.size
  have hown3 := owns_bel (owns_bel hr1 hB2) hB3
  have hs3 := Sees.row hr3
  have hRR : (encR (encL rs)).length ≤ 110 := by have e : (Rec.enc (.save rs)).length = (encI 0).length + (encR (encL rs)).length := by unfold Rec.enc; rw [List.length_append]
                                                 omega
  have z3 : (encI ((0 : Nat) : Int)).length + (encR (encL rs)).length ≤ maxLen := by unfold maxLen; omega
  have y3 : ((encI ((0 : Nat) : Int)).length + (encR (encL rs)).length) * 1 ≤ 140737488355328 := by omega
  have l3 : (bv (encR (encL rs))).length = (encR (encL rs)).length * 1 := by rw [bv_len]; omega
  have o3 := bv_one (encR (encL rs))
  have b3 : w.heap.size ≤ w3.heap.size := by omega
  have hBw3 := (hB1.trans (hB2.mono s1)).trans (hB3.mono (by omega))
  go_wp2_with (first
    | (at_builtin; refine wpList_append_sees rfl _ _ 47 rfl i0 _ 1 Tryz.underlying47 hi0 hz0 hz1 hz2 rfl (by decide) _ _ _ rfl hown3 _ (encR (encL rs)).length _ rfl hs3 l3 o3 z3 y3 b3 ?_; intro va3 wa3 hrowa3 hgrowa3 howna3; obtain ⟨Aa3, ka3, rfl, _⟩ := row_form hrowa3))
  go_ret
  refine ⟨_, rfl, ?_, grown_bel0 hBw3 hown3 b3 hgrowa3⟩
  unfold Rec.enc
  rw [bv_app, List.length_append]
  exact hrowa3
set_option maxRecDepth 1000000 in
theorem useRec_walk {n : Nat} (hn : n ≤ 1000) (w : World) :
    Calls Tryz.prog 17 #[.int .i64 (n : Int)] w fun e w' => ∃ u, e = .returned u ∧ w'.ownsRow w.heap.size 5 1 u (Rec.enc (.use n)).length (bv (Rec.enc (.use n))) ∧ Below w.heap.size w w' := by
  obtain ⟨i0, hi0, hz0, hz1, hz2⟩ := info_parts' info5
  have hi1 := fint_walk (k := 1) (by omega) w
  have h1 : (encI ((1 : Nat) : Int)).length = 1 := encI_len1 (by omega)
  have h2 : (encI (n : Int)).length ≤ 10 := uv_ten (zz_lt ⟨by omega, by omega⟩)
  go_enter Tryz.func17, Tryz.ntmps17
  go_wp2_with fail
  refine hi1.mono ?_
  clear hi1
  rintro _ w1 ⟨v1, rfl, hr1, hB1⟩
  have s1 := hB1.size
  obtain ⟨A1, k1, rfl, _⟩ := row_form hr1
  have hi2 := fint_walk (k := n) (by omega) w1
  go_wp2_with fail
  refine hi2.mono ?_
  clear hi2
  rintro _ w3 ⟨v3, rfl, hr3, hB3⟩
  obtain ⟨A3, k3, rfl, _⟩ := row_form hr3
  have s3 := hB3.size
  have hown3 := owns_bel hr1 hB3
  have hs3 := Sees.row hr3
  have z3 : (encI ((1 : Nat) : Int)).length + (encI (n : Int)).length ≤ maxLen := by unfold maxLen; omega
  have y3 : ((encI ((1 : Nat) : Int)).length + (encI (n : Int)).length) * 1 ≤ 140737488355328 := by omega
  have l3 : (bv (encI (n : Int))).length = (encI (n : Int)).length * 1 := by rw [bv_len]; omega
  have o3 := bv_one (encI (n : Int))
  have b3 : w.heap.size ≤ w3.heap.size := by omega
  have hBw3 := hB1.trans (hB3.mono s1)
  go_wp2_with (first
    | (at_builtin; refine wpList_append_sees rfl _ _ 47 rfl i0 _ 1 Tryz.underlying47 hi0 hz0 hz1 hz2 rfl (by decide) _ _ _ rfl hown3 _ (encI (n : Int)).length _ rfl hs3 l3 o3 z3 y3 b3 ?_; intro va3 wa3 hrowa3 hgrowa3 howna3; obtain ⟨Aa3, ka3, rfl, _⟩ := row_form hrowa3))
  go_ret
  refine ⟨_, rfl, ?_, grown_bel0 hBw3 hown3 b3 hgrowa3⟩
  unfold Rec.enc
  rw [bv_app, List.length_append]
  exact hrowa3
end Go.Proofs.YtkndgmjlphppdaaGreatDoor
namespace Go.Proofs.YtkndgmjlphppdaaGreatDoor
open Go Go.RowKit Go.Imap Go.Ev

theorem fewTo_len (l : List Int) (a j : Nat) : (fewTo l a j).length = j := by
  induction j with
  | zero => rfl
  | succ j ih => rw [fewTo, List.length_append, ih, List.length_singleton]
theorem fewTo_get (l : List Int) (a j i : Nat) (h : i < j) : (fewTo l a j)[i]? = some (fewOne l a i) := by
  induction j with
  | zero => omega
  | succ j ih =>
    rw [fewTo]
    rcases Nat.lt_or_ge i j with h1 | h1
    · rw [List.getElem?_append_left (by rw [fewTo_len]; exact h1), ih h1]
    · have e : i = j := by omega
      subst e
      rw [List.getElem?_append_right (by rw [fewTo_len]; exact Nat.le_refl _), fewTo_len, Nat.sub_self]
      rfl
theorem fewL_len (l : List Int) (a : Nat) : (fewL l a).length ≤ 3 := by
  have := pickZ_bd l a (m := 4) (by omega)
  unfold fewL
  rw [fewTo_len]
  omega
theorem fewL_good (l : List Int) (a : Nat) : Good (fewL l a) := by
  refine good_of (fewL_len l a) fun i r hi => ?_
  have hil := (List.getElem?_eq_some_iff.1 hi).1
  unfold fewL at hi hil
  rw [fewTo_len] at hil
  rw [fewTo_get _ _ _ _ hil] at hi
  cases hi
  have h1 := pickZ_bd l (a + i + 1) (m := 3) (by omega)
  have h2 := pickZ_bd l (a + 2 * i + 2) (m := 8) (by omega)
  exact ⟨⟨_, by omega, rfl⟩, _, by omega, rfl⟩
/-- the record i, the first j records -/
def recA (l : List Int) (i : Nat) : Rec := if i % 2 = 0 then .save (fewL l (9 * i)) else .use (i / 2)
def recsA (l : List Int) : Nat → List Rec
  | 0 => []
  | j + 1 => recsA l j ++ [recA l j]
theorem recsA_len (l : List Int) (j : Nat) : (recsA l j).length = j := by
  induction j with
  | zero => rfl
  | succ j ih => rw [recsA, List.length_append, ih, List.length_singleton]
theorem versA_len (l : List Int) : ∀ j, j ≤ 6 → (versOf (recsA l j)).length = (j + 1) / 2
  | 0, _ => rfl
  | 1, _ => rfl
  | 2, _ => rfl
  | 3, _ => rfl
  | 4, _ => rfl
  | 5, _ => rfl
  | 6, _ => rfl
  | n + 7, h => absurd h (by omega)
theorem versA_get (l : List Int) : ∀ j, j ≤ 6 → ∀ n, n < (j + 1) / 2 → (versOf (recsA l j))[n]? = some (fewL l (18 * n))
  | 0, _, n, h => absurd h (by omega)
  | 1, _, 0, _ => rfl
  | 2, _, 0, _ => rfl
  | 3, _, 0, _ => rfl
  | 3, _, 1, _ => rfl
  | 4, _, 0, _ => rfl
  | 4, _, 1, _ => rfl
  | 5, _, 0, _ => rfl
  | 5, _, 1, _ => rfl
  | 5, _, 2, _ => rfl
  | 6, _, 0, _ => rfl
  | 6, _, 1, _ => rfl
  | 6, _, 2, _ => rfl
  | 1, _, n + 1, h => absurd h (by omega)
  | 2, _, n + 1, h => absurd h (by omega)
  | 3, _, n + 2, h => absurd h (by omega)
  | 4, _, n + 2, h => absurd h (by omega)
  | 5, _, n + 3, h => absurd h (by omega)
  | 6, _, n + 3, h => absurd h (by omega)
  | j + 7, h, _, _ => absurd h (by omega)
theorem actA (l : List Int) : ∀ j, j ≤ 6 → actOf (recsA l j) = ((j / 2 : Nat) : Int) - 1
  | 0, _ => rfl
  | 1, _ => rfl
  | 2, _ => rfl
  | 3, _ => rfl
  | 4, _ => rfl
  | 5, _ => rfl
  | 6, _ => rfl
  | n + 7, h => absurd h (by omega)
theorem recA_ok (l : List Int) {j : Nat} (h : j < 6) : RecOk (recsA l j) (recA l j) := by
  unfold recA
  split
  · exact fewL_good _ _
  · show j / 2 < (versOf (recsA l j)).length
    rw [versA_len l j (by omega)]
    omega
theorem recsA_ok (l : List Int) : ∀ j, j ≤ 6 → RecsOk (recsA l j)
  | 0, _ => RecsOk.nil
  | j + 1, h => (recsA_ok l j (by omega)).snoc (by rw [recsA_len]; omega) (recA_ok l (by omega))
/-- where the frames end, and where what is behind a frame's length begins -/
def szA (l : List Int) (i : Nat) : Nat := (fileOf (recsA l i)).length
def headA (l : List Int) (i : Nat) : Nat := szA l i + (uv (core i (recA l i).enc).length).length
theorem szA_succ (l : List Int) (i : Nat) : szA l (i + 1) = szA l i + (frame frameH i (recA l i).enc).length := by
  unfold szA
  rw [recsA, fileOf_snoc, List.length_append, recsA_len]
theorem szA_le (l : List Int) {i : Nat} (h : i ≤ 6) : szA l i ≤ 150 * i := by
  have := fileOf_len (recsA_ok l i h)
  rw [recsA_len] at this
  exact this
def endsA (l : List Int) : Nat → List Value
  | 0 => []
  | j + 1 => endsA l j ++ [.int .i64 (szA l (j + 1) : Int)]
def headsA (l : List Int) : Nat → List Value
  | 0 => []
  | j + 1 => headsA l j ++ [.int .i64 (headA l j : Int)]
theorem endsA_len (l : List Int) (j : Nat) : (endsA l j).length = j := by
  induction j with
  | zero => rfl
  | succ j ih => rw [endsA, List.length_append, ih, List.length_singleton]
theorem headsA_len (l : List Int) (j : Nat) : (headsA l j).length = j := by
  induction j with
  | zero => rfl
  | succ j ih => rw [headsA, List.length_append, ih, List.length_singleton]
theorem endsA_get (l : List Int) (j i : Nat) (h : i < j) : (endsA l j)[i]? = some (.int .i64 (szA l (i + 1) : Int)) := by
  induction j with
  | zero => omega
  | succ j ih =>
    rw [endsA]
    rcases Nat.lt_or_ge i j with h1 | h1
    · rw [List.getElem?_append_left (by rw [endsA_len]; exact h1), ih h1]
    · have e : i = j := by omega
      subst e
      rw [List.getElem?_append_right (by rw [endsA_len]; exact Nat.le_refl _), endsA_len, Nat.sub_self]
      rfl
theorem headsA_get (l : List Int) (j i : Nat) (h : i < j) : (headsA l j)[i]? = some (.int .i64 (headA l i : Int)) := by
  induction j with
  | zero => omega
  | succ j ih =>
    rw [headsA]
    rcases Nat.lt_or_ge i j with h1 | h1
    · rw [List.getElem?_append_left (by rw [headsA_len]; exact h1), ih h1]
    · have e : i = j := by omega
      subst e
      rw [List.getElem?_append_right (by rw [headsA_len]; exact Nat.le_refl _), headsA_len, Nat.sub_self]
      rfl
theorem fileA_more (l : List Int) (k m : Nat) : ∃ T, fileOf (recsA l (k + m)) = fileOf (recsA l k) ++ T := by
  induction m with
  | zero => exact ⟨[], by rw [List.append_nil]; rfl⟩
  | succ m ih =>
    obtain ⟨T, hT⟩ := ih
    exact ⟨T ++ frame frameH (recsA l (k + m)).length (recA l (k + m)).enc, by rw [← Nat.add_assoc, recsA, fileOf_snoc, hT, List.append_assoc]⟩
theorem fileA_split (l : List Int) {k : Nat} (hk : k < 6) : ∃ T, fileOf (recsA l 6) = fileOf (recsA l k) ++ (frame frameH k (recA l k).enc ++ T) := by
  obtain ⟨T, hT⟩ := fileA_more l (k + 1) (6 - (k + 1))
  have e : fileOf (recsA l (k + 1)) = fileOf (recsA l k) ++ frame frameH k (recA l k).enc := by
    show fileOf (recsA l k ++ [recA l k]) = _
    rw [fileOf_snoc, recsA_len]
  rw [show k + 1 + (6 - (k + 1)) = 6 by omega, e] at hT
  exact ⟨T, by rw [hT, List.append_assoc]⟩
theorem bent_set {l : List UInt8} {i : Nat} (hi : i < l.length) {y : UInt8} (hy : l[i]? ≠ some y) : Bent l (l.set i y) i :=
  ⟨(List.length_set ..).symm, hi, fun j hj => by rw [List.getElem?_set_ne (fun e => hj e.symm)], by rw [List.getElem?_set_self hi]; exact hy⟩
/-- what is found in the file where the bit at is altered, in the frame k, behind its length -/
theorem alt_scan (l : List Int) {k bit : Nat} (hk : k < 6) (h1 : headA l k ≤ bit / 8) (h2 : bit / 8 < szA l (k + 1)) : ∀ b : List UInt8, b = flipL (fileOf (recsA l 6)) bit →
    scan frameH (b.length + 1) b 0 = (recsA l k).map Rec.enc ∧ (fileOf (recsA l k)).length ≤ b.length ∧ b.take (fileOf (recsA l k)).length = fileOf (recsA l k) := fun b hb => by
  obtain ⟨T, hT⟩ := fileA_split l hk
  have hs := szA_succ l k
  have hh : szA l k ≤ headA l k := Nat.le_add_right _ _
  have hsz : szA l k = (fileOf (recsA l k)).length := rfl
  have h6 := szA_le l (i := 6) (by omega)
  have h6' : szA l 6 = (fileOf (recsA l 6)).length := rfl
  obtain ⟨F, hF⟩ : ∃ F, frame frameH k (recA l k).enc = F := ⟨_, rfl⟩
  obtain ⟨i, hi⟩ : ∃ i, bit / 8 = szA l k + i := ⟨bit / 8 - szA l k, by omega⟩
  rw [hF] at hT hs
  have hiF : i < F.length := by omega
  have hiT : i < (F ++ T).length := by rw [List.length_append]; omega
  obtain ⟨x, hx⟩ : ∃ x, (F ++ T)[i]? = some x := ⟨_, List.getElem?_eq_getElem hiT⟩
  have hgx : (fileOf (recsA l 6)).getD (bit / 8) 0 = x := by
    rw [List.getD_eq_getElem?_getD, hT, List.getElem?_append_right (by omega), show bit / 8 - (fileOf (recsA l k)).length = i by omega, hx]
    rfl
  have hbe : b = fileOf (recsA l k) ++ (F ++ T).set i (flipB x (bit % 8)) := by
    rw [hb]
    unfold flipL
    rw [hgx, hT, List.set_append_right _ _ (by omega), show bit / 8 - (fileOf (recsA l k)).length = i by omega]
  have hbent : Bent (F ++ T) ((F ++ T).set i (flipB x (bit % 8))) i := bent_set hiT (by rw [hx]; intro e; exact flip_ne (by omega) x (Option.some.inj e).symm)
  have hrl := (recA_ok l hk).len (by rw [recsA_len]; omega)
  have hlF : ((F ++ T).set i (flipB x (bit % 8))).length < 1000000000000 := by
    rw [List.length_set]
    have := congrArg List.length hT
    rw [List.length_append] at this
    omega
  rw [← hF] at hbent hlF
  have hno := fst_bent (k := k) (by omega) (by omega) hlF hbent (by unfold headA at h1; omega) (by rw [hF]; exact hiF)
  rw [hF] at hno
  have hok := recsA_ok l k (by omega)
  have hnf : ((recsA l k).map Rec.enc).length < (fileOf (recsA l k)).length + 1 := by
    have hn : ∀ (k : Nat) (rs : List (List UInt8)), rs.length ≤ (framesFrom frameH k rs).length := by
      intro k rs
      induction rs generalizing k with
      | nil => simp [framesFrom]
      | cons r t ih =>
        have h1 := frame_pos frameH k r
        have h2 := ih (k + 1)
        simp only [framesFrom, List.length_append, List.length_cons]
        omega
    have := hn 0 ((recsA l k).map Rec.enc)
    unfold fileOf
    omega
  have hsc := scan_frames (H := frameH) (b.length + 1) 0 ((recsA l k).map Rec.enc) ((F ++ T).set i (flipB x (bit % 8))) (by rw [hbe, List.length_append]; omega) (by rw [List.length_map, recsA_len]; omega) hok.recs (by rw [Nat.zero_add, List.length_map, recsA_len]; exact hno)
  refine ⟨?_, by rw [hbe, List.length_append]; omega, by rw [hbe, List.take_left]⟩
  have he : framesFrom frameH 0 ((recsA l k).map Rec.enc) ++ (F ++ T).set i (flipB x (bit % 8)) = b := hbe.symm
  rw [he] at hsc
  exact hsc
end Go.Proofs.YtkndgmjlphppdaaGreatDoor
namespace Go.Proofs.YtkndgmjlphppdaaGreatDoor
open Go Go.RowKit Go.Imap

/-- what the law's first loop keeps: the store kk and the other one, and the rules that were given to each -/
structure One (w0 wr : World) (B db mb gS gA kk : Nat) (sb lg k sb2 lg2 k2 : Nat) (U j : Nat) (rv : Nat → Value) (d : Dk) (vv vv2 : Value) (its its2 : List (Value × List Ru)) (l l2 : List Rec) (a a2 : Value) (r r2 : List (Value × List Ru)) (cs zs : Array Value) : Prop where
  env : Env wr B db mb rv d 131072 U
  sto : Sto wr B db d sb lg k vv its l
  sto2 : Sto wr B db d sb2 lg2 k2 vv2 its2 l2
  two : Two sb lg k vv sb2 lg2 k2 vv2
  bS : Blk wr gS 28 cs
  bA : Blk wr gA 39 zs
  al : AllAt wr B a r
  al2 : AllAt wr B a2 r2
  ap : ∀ g, a.ownBlock = some g → a2.ownBlock ≠ some g
  vers : versOf l = r.map Prod.snd
  vers2 : versOf l2 = r2.map Prod.snd
  act : actOf l = (r.length : Int) - 1
  act2 : actOf l2 = (r2.length : Int) - 1
  len : l.length = 2 * r.length
  len2 : l2.length = 2 * r2.length
  good : ∀ x ∈ r, x.2.length ≤ 8
  good2 : ∀ x ∈ r2, x.2.length ≤ 8
  sum : r.length + r2.length = j
  bel : Below B w0 wr
  lo : B ≤ gA
  cS : cs[kk]? = some (.pointer (some ⟨sb, 0, none⟩))
  cA : zs[kk]? = some a
section
variable {w0 wr : World} {B db mb gS gA kk sb lg k sb2 lg2 k2 U j : Nat} {rv : Nat → Value} {d : Dk} {vv vv2 : Value} {its its2 : List (Value × List Ru)} {l l2 : List Rec} {a a2 : Value} {r r2 : List (Value × List Ru)} {cs zs : Array Value}
theorem One.bel' {w' : World} (h : One w0 wr B db mb gS gA kk sb lg k sb2 lg2 k2 U j rv d vv vv2 its its2 l l2 a a2 r r2 cs zs) (hb : Below wr.heap.size wr w') : One w0 w' B db mb gS gA kk sb lg k sb2 lg2 k2 U j rv d vv vv2 its its2 l l2 a a2 r r2 cs zs :=
  ⟨h.env.bel hb, h.sto.bel hb, h.sto2.bel hb, h.two, h.bS.bel hb h.bS.lt, h.bA.bel hb h.bA.lt, h.al.bel hb, h.al2.bel hb, h.ap, h.vers, h.vers2, h.act, h.act2, h.len, h.len2, h.good, h.good2, h.sum, h.bel.trans (hb.mono h.env.hB), h.lo, h.cS, h.cA⟩
theorem sees_refs (wr : World) (x : Value) : Sees (wr.alloc (.cells #[x] 33)) 1 (.slice (some ⟨wr.heap.size, 0, none⟩) 1 1) [x] :=
  Sees.row (base := 0) (e := 33) (n := 1) ⟨rfl, .inr ⟨_, 1, _, rfl, Nat.zero_le _, heap_alloc_new _ _, Nat.le_refl _, by unfold maxLen; omega, rfl, rfl⟩⟩
theorem infoRefs : (Tryz.prog.info? 33).map (fun i => (i.zero, i.size, i.bytes)) = some (some (.slice none 0 0), 1, 24) := by kernel_rfl
theorem One.next (h : One w0 wr B db mb gS gA kk sb lg k sb2 lg2 k2 U j rv d vv vv2 its its2 l l2 a a2 r r2 cs zs) {rs : List Ru} (hG : Good rs) {w6 w7 : World} {d6 d7 : Dk} {vv6 xv : Value} {its6 : List (Value × List Ru)} {base : Nat} {rv6 : Nat → Value}
    (hx : wr.ownsRow base 75 3 xv rs.length (rs.flatMap Ru.cells)) (hbase : B ≤ base) (h6 : After wr w6 B db mb rv d 131072 (U + 150) sb lg k vv d6 vv6 its6 (l ++ [.save rs]))
    (h7 : After w6 w7 B db mb rv6 d6 131072 (U + 150 + 150) sb lg k vv6 d7 vv6 its6 (l ++ [.save rs] ++ [.use r.length])) {w9 : World} {a' : Value}
    (hrow : w9.ownsRow B 33 1 a' (r.length + 1) (r.map Prod.fst ++ [xv])) (hg : (w7.alloc (.cells #[xv] 33)).grownBy w9 a.ownBlock) (ha' : a'.ownBlock = a.ownBlock ∨ ∃ g, a'.ownBlock = some g ∧ (w7.alloc (.cells #[xv] 33)).heap.size ≤ g) :
    ∃ rv', One w0 (w9.setCell ⟨gA, kk, none⟩ a') B db mb gS gA kk sb lg k sb2 lg2 k2 (U + 300) (j + 1) rv' d7 vv6 vv2 its6 its2 (l ++ [.save rs] ++ [.use r.length]) l2 a' a2 (r ++ [(xv, rs)]) r2 cs (zs.setIfInBounds kk a') := by
  obtain ⟨rv7, hE7⟩ := h7.env
  obtain ⟨F6, hF6, hT6⟩ := h6.chg
  obtain ⟨F7, hF7, hT7⟩ := h7.chg
  obtain ⟨ho6, ht6⟩ := h6.other h.sto2 h.two
  obtain ⟨ho7, ht7⟩ := h7.other ho6 ht6
  have hx8 : (w7.alloc (.cells #[xv] 33)).ownsRow B 75 3 xv rs.length (rs.flatMap Ru.cells) := by
    have e1 := row_chg hx hF6 ((hT6.apartly (ts := [75]) (by decide) (by decide) (by decide) (by decide) (by decide)).row hx (by simp))
    have e2 := row_chg e1 hF7 ((hT7.apartly (ts := [75]) (by decide) (by decide) (by decide) (by decide) (by decide)).row e1 (by simp))
    exact row_base (owns_bel e2 ((Below.refl _ _).alloc (Nat.le_refl _) _)) hbase
  have hb8 : Below w7.heap.size w7 (w7.alloc (.cells #[xv] 33)) := (Below.refl _ _).alloc (Nat.le_refl _) _
  have al8 := ((h.al.ft hF6 hT6).ft hF7 hT7).bel hb8
  have al28 := ((h.al2.ft hF6 hT6).ft hF7 hT7).bel hb8
  have bS8 := ((h.bS.ft hF6 hT6 (by decide) (by decide) (by decide) (by decide) (by decide)).ft hF7 hT7 (by decide) (by decide) (by decide) (by decide) (by decide)).bel hb8 (by exact Blk.lt ((h.bS.ft hF6 hT6 (by decide) (by decide) (by decide) (by decide) (by decide)).ft hF7 hT7 (by decide) (by decide) (by decide) (by decide) (by decide)))
  have bA7 := (h.bA.ft hF6 hT6 (by decide) (by decide) (by decide) (by decide) (by decide)).ft hF7 hT7 (by decide) (by decide) (by decide) (by decide) (by decide)
  have bA8 := bA7.bel hb8 bA7.lt
  have hnt := nt_all al8 bA8
  have hch := chg_all (gA := gA) hg kk a'
  have bS9 : Blk (w9.setCell ⟨gA, kk, none⟩ a') gS 28 cs := bS8.chg hch ((hnt.apartly (us := [28]) (by decide)).blk bS8 (by simp))
  have hcg : Chg (fun g => a.ownBlock = some g) (w7.alloc (.cells #[xv] 33)) w9 := ⟨hg.os, hg.tape, hg.output, hg.size, fun k hk hf => hg.block k hk fun e => hf e.symm⟩
  have bA9 := (bA8.chg hcg (fun e => row_blk al8.row bA8 (by decide) e)).put kk a'
  have hs6 := hF6.size
  have hs7 := hF7.size
  have hsz8 : (w7.alloc (.cells #[xv] 33)).heap.size = w7.heap.size + 1 := World.size_alloc ..
  have ho8 := (ho7.bel hb8).nt hch hnt (by decide)
  refine ⟨rv7, (hE7.bel hb8).nt hch hnt (by decide) (by decide), (h7.sto.bel hb8).nt hch hnt (by decide), ho8, ht7, bS9, bA9, AllAt.push al8 hrow hg hx8 bA8 kk a', al8.other al28 h.ap hg bA8 kk a', fun g hg1 hg2 => ?_, ?_, h.vers2, ?_, h.act2, ?_, h.len2, fun x hx => ?_, h.good2, ?_, ?_, h.lo, h.cS, ?_⟩
  · rcases ha' with e | ⟨g', e, hge⟩
    · exact h.ap g (e.symm.trans hg1) hg2
    · rw [e] at hg1
      cases hg1
      have := (World.ownsRow.lt al28.row _ hg2).2
      omega
  · rw [versOf_use, versOf_save, h.vers, List.map_append]
    rfl
  · rw [actOf_use, List.length_append, List.length_singleton]
    omega
  · rw [List.length_append, List.length_append, List.length_append, h.len, List.length_singleton, List.length_singleton, List.length_singleton]
    omega
  · rcases List.mem_append.1 hx with hx | hx
    · exact h.good x hx
    · simp only [List.mem_singleton] at hx
      subst hx
      exact hG.len
  · have := h.sum
    rw [List.length_append, List.length_singleton]
    omega
  · refine (((h.bel.trans h6.bel).trans h7.bel).trans (hb8.mono hE7.hB)).trans (hch.to_below (by have := hE7.hB; omega) fun g _ hg => ?_)
    rcases hg with rfl | hg
    · exact h.lo
    · exact (World.ownsRow.lt al8.row g hg).1
  · have hlt : kk < zs.size := by
      rcases Nat.lt_or_ge kk zs.size with h1 | h1
      · exact h1
      · have := h.cA
        rw [Array.getElem?_eq_none h1] at this
        cases this
    rw [Array.getElem?_setIfInBounds, if_pos rfl, if_pos hlt]
theorem One.cellS (h : One w0 wr B db mb gS gA kk sb lg k sb2 lg2 k2 U j rv d vv vv2 its its2 l l2 a a2 r r2 cs zs) : wr.cell? ⟨gS, kk, none⟩ = some (.pointer (some ⟨sb, 0, none⟩)) := (h.bS.at' kk).trans h.cS
theorem One.vlen (h : One w0 wr B db mb gS gA kk sb lg k sb2 lg2 k2 U j rv d vv vv2 its its2 l l2 a a2 r r2 cs zs) : (versOf l).length = r.length := by rw [h.vers, List.length_map]
theorem One.turn {kk2 : Nat} (h : One w0 wr B db mb gS gA kk sb lg k sb2 lg2 k2 U j rv d vv vv2 its its2 l l2 a a2 r r2 cs zs) (h1 : cs[kk2]? = some (.pointer (some ⟨sb2, 0, none⟩))) (h2 : zs[kk2]? = some a2) :
    One w0 wr B db mb gS gA kk2 sb2 lg2 k2 sb lg k U j rv d vv2 vv its2 its l2 l a2 a r2 r cs zs :=
  ⟨h.env, h.sto2, h.sto, h.two.symm, h.bS, h.bA, h.al2, h.al, fun g h1 h2 => h.ap g h2 h1, h.vers2, h.vers, h.act2, h.act, h.len2, h.len, h.good2, h.good, by have := h.sum; omega, h.bel, h.lo, h1, h2⟩
theorem One.opened (h : One w0 wr B db mb gS gA kk sb lg k sb2 lg2 k2 U j rv d vv vv2 its its2 l l2 a a2 r r2 cs zs) {w' : World} {sbn lgn kn : Nat} {vvn : Value} {itsn : List (Value × List Ru)} {ln : List Rec} (hO : Opened wr w' B db mb d 131072 U sbn lgn kn vvn itsn ln) :
    ∃ rv', One w0 w' B db mb gS gA kk sb lg k sb2 lg2 k2 U j rv' d.harden vv vv2 its its2 l l2 a a2 r r2 cs zs := by
  obtain ⟨rv', hE⟩ := hO.env
  obtain ⟨F, hF, hT⟩ := hO.chg
  exact ⟨rv', hE, (hO.other h.sto).1, (hO.other h.sto2).1, h.two, h.bS.ft hF hT (by decide) (by decide) (by decide) (by decide) (by decide), h.bA.ft hF hT (by decide) (by decide) (by decide) (by decide) (by decide), h.al.ft hF hT, h.al2.ft hF hT, h.ap, h.vers, h.vers2, h.act, h.act2, h.len, h.len2, h.good, h.good2, h.sum, h.bel.trans hO.bel, h.lo, h.cS, h.cA⟩
end
end Go.Proofs.YtkndgmjlphppdaaGreatDoor
namespace Go.Proofs.YtkndgmjlphppdaaGreatDoor
open Go Go.RowKit Go.Imap

theorem Dk.add_ok (d : Dk) (k n : Nat) (r : Rec) : (d.step.put k ⟨(d.fi k).bytes ++ frame frameH n r.enc, (d.fi k).dur⟩).step.harden = d.step.step.add k n r := by
  unfold Dk.add
  rw [Dk.put_step, Dk.step_fi, Dk.step_fi]
set_option maxHeartbeats 8000000 in
set_option maxRecDepth 1000000 in
theorem save_ok {w : World} {B db mb sb lg k n : Nat} {rv : Nat → Value} {d : Dk} {vv v : Value} {its : List (Value × List Ru)} {act : Int} {base : Nat} {rs : List Ru} (h : DkAt w B db mb rv d) (hB : B ≤ w.heap.size) (hS : StAt w B sb lg db k n vv its act)
    (hk : k < 64) (hoff : d.off = false) (hf : d.fails = false) (hf2 : d.step.fails = false) (hn : n < 1000) (hits : its.length < 1000) (hv : w.ownsRow base 86 3 v rs.length (rs.flatMap Ru.cells)) (hG : Good rs)
    (hroom : 200 ≤ d.room - d.used) (hlen : d.len k + 200 ≤ 16777216) :
    Calls Tryz.prog 9 #[.pointer (some ⟨sb, 0, none⟩), v] w fun e w' => ∃ (rv' : Nat → Value) (vv' u : Value), e = .returned (.tuple #[.int .i64 (its.length : Int), .int .i64 0]) ∧ DkAt w' B db mb rv' (d.step.step.add k n (.save rs)) ∧
      StAt w' B sb lg db k (n + 1) vv' (its ++ [(u, rs)]) act ∧ Chg (SF db mb rv d sb lg vv) w w' ∧ (∀ g, vv'.ownBlock = some g → vv.ownBlock = some g ∨ w.heap.size ≤ g) := by
  have hgl := hG.len
  have hEl := hG.encL_len
  have hRl := enc_save_len hG
  have hco := compile_walk hv hG
  obtain ⟨i0, hi0, hz0, hz1, hz2⟩ := info_parts' infoRules
  obtain ⟨va, vc, rfl, hva⟩ := owns_shape hv
  obtain ⟨A, c, rfl, _⟩ := row_form hS.row
  have hits2 : ¬ (1024 : Int) ≤ (its.length : Int) := by omega
  have hslt := hS.st.lt
  go_enter Tryz.func9, Tryz.ntmps9
  go_wp2_with fail
  go_at_call 32
  refine hco.mono ?_
  clear hco
  rintro _ w1 ⟨pp, rfl, hB1⟩
  have s1 := hB1.size
  have hS1 := hS.bel hB1
  have c1 := hS1.st.at' 1
  have hslt1 := hS1.st.lt
  simp at c1
  have hen := encode_walk (owns_bel hv hB1) hG
  go_wp2_with fail
  go_at_call 33
  refine hen.mono ?_
  clear hen c1
  rintro _ w2 ⟨ue, rfl, hue, hB2⟩
  have s2 := hB2.size
  obtain ⟨Au, cu, rfl, _⟩ := row_form hue
  obtain ⟨S, hSz⟩ : ∃ S, w2.heap.size = S := ⟨_, rfl⟩
  have hue3 := owns_bel hue ((Below.refl _ _).alloc (Nat.le_refl _) (.cells #[.slice none 0 0] 81))
  have ha1 : WrAt (w2.alloc (.cells #[.slice none 0 0] 81)) S S (.slice none 0 0) [] := ⟨hSz ▸ Blk.made w2 81 #[.slice none 0 0], World.ownsRow_nil _ _ _ _⟩
  have hz : (w2.alloc (.cells #[.slice none 0 0] 81)).heap.size = S + 1 := by rw [World.size_alloc, hSz]
  have hi := int_walk ha1 (by omega) (by simp) (z := 0) (by constructor <;> omega)
  go_wp2_with fail
  go_at_call 34
  refine hi.mono ?_
  clear hi
  rintro _ w3 ⟨rfl, v3, hW3⟩
  have s3 := hW3.chg.size
  have hw3 := hW3.went ha1 (by omega)
  have hus := fun g hg => (World.ownsRow.lt hue g hg).2
  have hl0 : ([] ++ encI 0 : List UInt8).length ≤ 10 := by rw [List.nil_append]; exact uv_ten (zz_lt (by constructor <;> omega))
  have hlead : ∀ g, Value.leads (.slice Au (encL rs).length cu) = some g → g < S := fun g hg => by
    have := (Sees.row hue).leads_lt hg
    omega
  have hsee3 := hW3.sees ha1 (Sees.row hue3) (fun g hg => ⟨by have := hlead g hg; omega, by simp [Value.ownBlock]⟩)
  have hr := raw_walk hW3.wr (by omega) (by omega) (by omega) hsee3 (fun g hg => hW3.wr.not (Nat.le_refl _) (hlead g hg))
  go_wp2_with fail
  go_at_call 35
  refine hr.mono ?_
  clear hr
  rintro _ w4 ⟨rfl, v4, hW4⟩
  have hw4 := hw3.trans (hW4.went hW3.wr (by omega))
  have s4 := hw4.size
  have hbw : Below w.heap.size w w4 := ((hB1.trans (hB2.mono (by omega))).alloc (by omega) _).trans (hw4.bel.mono (by omega))
  have hwr4 := hw4.wr
  have hxe : [] ++ encI 0 ++ encR (encL rs) = Rec.enc (.save rs) := rfl
  rw [hxe] at hwr4
  have hS4 := hS.bel hbw
  have h4 := h.bel hbw
  have hv4 := owns_bel hv hbw
  have hws := hbw.size
  have hxl : (frame frameH n (Rec.enc (.save rs))).length ≤ 150 := by have := frame_len frameH frameH_lt n (Rec.enc (.save rs)) (by omega) (by omega); omega
  have hdn := done_walk hwr4.drew (by omega)
  have hjw := fun (w5 : World) (u : Value) (hb5 : Below w4.drew.heap.size w4.drew w5) (hs : Sees w5 1 u (bv (Rec.enc (.save rs)))) => jappend_ok (h4.drew.bel hb5) (by have := hb5.size; have : w4.drew.heap.size = w4.heap.size := rfl; omega) hk hoff hf hf2 (hS4.drew.bel hb5).log (by omega) hs (by omega) (by omega) (by omega) (by omega)
  have c0 := hS4.st.at' 0
  simp at c0
  clear hw3 hw4 hW3 hW4 hue3 hsee3 ha1 hue hwr4 hS1
  go_wp2_with fail
  go_region_held3 (fun w' => w'.cell? ⟨sb, 0, none⟩ = some (.pointer (some ⟨lg, 0, none⟩)))
    (first
      | go_keep)
    (first
      | (go_at_call 37; refine hdn.mono ?_; clear hdn; rintro _ w5 ⟨u5, rfl, hr5, hB5⟩; have hcc := (hB5.cell (p := ⟨sb, 0, none⟩) (by { show sb < w4.heap.size; omega })).trans c0)
      | (go_at_call 36; refine (hjw _ _ hB5 (Sees.row hr5)).mono ?_; clear hjw; rintro _ w6 ⟨rv6, rfl, hd6, hl6, hC6, hn6⟩; have hcc6 : w6.cell? ⟨sb, 0, none⟩ = some (.pointer (some ⟨lg, 0, none⟩)) := (by { have h5 := hS4.drew.bel hB5; have h6 := h5.relog (h4.drew.bel hB5) hC6 hl6; have := h6.st.at' 0; simpa using this })))
  have hd5 := h4.drew.bel hB5
  have hS5 := hS4.drew.bel hB5
  have hS6 := hS5.relog hd5 hC6 hl6
  have hv6 := rule_row_keep hS5 hd5 hC6 (owns_bel hv4 ((Below.refl _ _).drew.trans hB5))
  have s5 := hB5.size
  have s5' : w4.drew.heap.size = w4.heap.size := rfl
  have s6 := hC6.size
  have hC : Chg (fun g => DF db mb rv d g ∨ g = lg) w w6 := ((Chg.of_below (hbw.trans (((Below.refl w4.heap.size w4).drew.trans hB5).mono (by omega)))).trans hC6 fun _ _ h => h)
  have hd6' : DkAt w6 B db mb rv6 (d.step.step.add k n (.save rs)) := by rw [← Dk.add_ok]; exact hd6
  have HD := Lib.hid hd6'
  have HC := Lib.hid hC
  have c61 := hS6.st.at' 1
  have f61 := hS6.st.thaw 1
  simp at c61
  have hslt6 := hS6.st.lt
  have hcl := cloner_walk (w := w6.drew) (owns_bel hv6 (Below.refl _ _).drew) (by omega)
  have hn1 : its.length + 1 ≤ maxLen := by unfold maxLen; omega
  have hn2 : (its.length + 1) * 24 ≤ 140737488355328 := by omega
  clear hd6 hn6 hC hd6' hd5 hS5 hr5 hB5 hcc hcc6 hC6 hS4 hv4 h4 c0 hl6
  go_wp2_with fail
  go_region_law
    (first
      | (go_simp; go_at_call 38; refine hcl.mono ?_; clear hcl; rintro _ w7 ⟨u7, rfl, hr7, hB7⟩; obtain ⟨A7, c7, rfl, _⟩ := row_form hr7; have hS7 := hS6.drew.bel hB7; have e7 : w7.cell? ⟨sb, 1, none⟩ = some (.slice A its.length c) := (by { have := hS7.st.at' 1; simpa using this }); have e7' : ∀ o, (w7.alloc o).cell? ⟨sb, 1, none⟩ = some (.slice A its.length c) := (fun o => by { have := (hS7.alloc o).st.at' 1; simpa using this }); have hs7 := hB7.size; have hs7' : w6.drew.heap.size = w6.heap.size := rfl)
      | (refine step_append_lies _ (by rfl) _ _ _ (by rfl) B 37 i0 _ 1 24 Tryz.underlying67 hi0 hz0 hz1 hz2 rfl (by omega) _ its.length (its.map Prod.fst) (by rfl) (hS7.row.alloc _)
          ⟨w7.heap.size, 0, none⟩ 1 1 [.slice A7 rs.length c7] (by rfl) (by rfl) (World.news_of_block (cs := #[.slice A7 rs.length c7]) (t := 37) (fr := (0, 0)) (heap_alloc_new w7 _)) (by simp [Value.oneCell'])
          (by omega) hn1 hn2 (by simp; omega) (w7.heap.size + 1) (by simp) ?_; intro gg cap w8 hown1 hgrow hat hlt; have hst8 : Blk w8 sb 69 #[.pointer (some ⟨lg, 0, none⟩), .slice A its.length c, .int .i64 act] := (hS7.alloc _).st.grown hgrow (fun e => row_blk hS7.row hS7.st (by decide) e.symm); have q1 : w8.cell? ⟨sb, 1, none⟩ = some (.slice A its.length c) := (by { have := hst8.at' 1; simpa using this }); have q2 := hst8.thaw 1))
  all_goals
    have hgs := hgrow.size
    simp only [World.size_alloc] at hgs
    have hBx : Below w6.heap.size w6 (w7.alloc (.cells #[.slice A7 rs.length c7] 37)) := ((Below.refl _ w6).drew.trans hB7).alloc (by omega) _
    have hcg : Chg (fun g => Value.ownBlock (.slice A its.length c) = some g) w6 w8 := ((Chg.of_below hBx)).trans ⟨hgrow.os, hgrow.tape, hgrow.output, hgrow.size, fun k hk hf => hgrow.block k hk fun e => hf e.symm⟩ fun _ _ h => h
    have hcs : Chg (fun g => g = sb ∨ Value.ownBlock (.slice A its.length c) = some g) w6 (w8.setCell ⟨sb, 1, none⟩ (.slice (some ⟨gg, 0, none⟩) (its.length + 1) cap)) := (hcg.more fun _ _ h => .inr h).setCell (p := ⟨sb, 1, none⟩) (.inr (.inl rfl)) _
    have hS8 := StAt.push (u := .slice A7 rs.length c7) (rs := rs) (hS7.alloc (.cells #[.slice A7 rs.length c7] 37)) hown1 hgrow (row_base (owns_bel hr7 ((Below.refl _ _).alloc (Nat.le_refl _) _)) (by omega))
    have hdk : DkAt (w8.setCell ⟨sb, 1, none⟩ (.slice (some ⟨gg, 0, none⟩) (its.length + 1) cap)) B db mb rv6 (d.step.step.add k n (.save rs)) := HD.out.chg hcs fun g hg e => by
      rcases e with rfl | e
      · exact (HD.out.apartly (ts := [69]) (by decide) (by decide)).blk hS6.st (by simp) hg
      · exact (HD.out.apartly (ts := [37]) (by decide) (by decide)).row hS6.row (by simp) g e hg
    have hC2 : Chg (SF db mb rv d sb lg (.slice A its.length c)) w (w8.setCell ⟨sb, 1, none⟩ (.slice (some ⟨gg, 0, none⟩) (its.length + 1) cap)) :=
      (HC.out.more fun g _ h => h.imp id fun h => .inl h).trans hcs fun g _ h => .inr (.inr h)
    have hown : ∀ g, Value.ownBlock (.slice (some ⟨gg, 0, none⟩) (its.length + 1) cap) = some g → Value.ownBlock (.slice A its.length c) = some g ∨ w.heap.size ≤ g := fun g hg => by
      cases hg
      exact hat.imp id fun e => by show w.heap.size ≤ gg; omega
    have c8 := hS8.st.at' 1
    have hsl8 := hS8.st.lt
    simp at c8
    have HS8 := Lib.hid hS8
    have HDK := Lib.hid hdk
    have HC2 := Lib.hid hC2
    have HOWN := Lib.hid hown
    have hwr1 : wrap64 ((its.length : Int) + 1 - 1) = (its.length : Int) := by unfold wrap64; omega
    clear hS8 hdk hC2 hown hcs hcg hBx hown1 hgrow hat hS7 hr7 hB7 hS6 hst8 q1 q2 e7 e7' hlt
    go_wp2
    go_ret2
    exact ⟨rv6, _, _, rfl, HDK.out, HS8.out, HC2.out, HOWN.out⟩
set_option maxHeartbeats 8000000 in
set_option maxRecDepth 1000000 in
theorem save_down {w : World} {B db mb sb lg k n : Nat} {rv : Nat → Value} {d : Dk} {vv v : Value} {its : List (Value × List Ru)} {act : Int} {base : Nat} {rs : List Ru} (h : DkAt w B db mb rv d) (hB : B ≤ w.heap.size) (hS : StAt w B sb lg db k n vv its act)
    (hk : k < 64) (hoff : d.off = false) (hd : d.dies = true) (hn : n < 1000) (hits : its.length < 1000) (hv : w.ownsRow base 86 3 v rs.length (rs.flatMap Ru.cells)) (hG : Good rs)
    (hroom : 200 ≤ d.room - d.used) (hlen : d.len k + 200 ≤ 16777216) :
    Calls Tryz.prog 9 #[.pointer (some ⟨sb, 0, none⟩), v] w fun e w' => ∃ rv' d', e = .returned (.tuple #[.int .i64 0, .int .i64 19]) ∧ DkAt w' B db mb rv' d' ∧ Down d d' k n (Rec.enc (.save rs)) ∧ Blk w' sb 69 #[.pointer (some ⟨lg, 0, none⟩), vv, .int .i64 act] ∧
      Blk w' lg 103 #[.pointer (some ⟨db, 0, none⟩), .int .i64 (k : Int), .int .i64 (n : Int), .bool true] ∧ Chg (SF db mb rv d sb lg vv) w w' := by
  have hgl := hG.len
  have hEl := hG.encL_len
  have hRl := enc_save_len hG
  have hco := compile_walk hv hG
  obtain ⟨i0, hi0, hz0, hz1, hz2⟩ := info_parts' infoRules
  obtain ⟨va, vc, rfl, hva⟩ := owns_shape hv
  obtain ⟨A, c, rfl, _⟩ := row_form hS.row
  have hits2 : ¬ (1024 : Int) ≤ (its.length : Int) := by omega
  have hslt := hS.st.lt
  go_enter Tryz.func9, Tryz.ntmps9
  go_wp2_with fail
  go_at_call 32
  refine hco.mono ?_
  clear hco
  rintro _ w1 ⟨pp, rfl, hB1⟩
  have s1 := hB1.size
  have hS1 := hS.bel hB1
  have c1 := hS1.st.at' 1
  have hslt1 := hS1.st.lt
  simp at c1
  have hen := encode_walk (owns_bel hv hB1) hG
  go_wp2_with fail
  go_at_call 33
  refine hen.mono ?_
  clear hen c1
  rintro _ w2 ⟨ue, rfl, hue, hB2⟩
  have s2 := hB2.size
  obtain ⟨Au, cu, rfl, _⟩ := row_form hue
  obtain ⟨S, hSz⟩ : ∃ S, w2.heap.size = S := ⟨_, rfl⟩
  have hue3 := owns_bel hue ((Below.refl _ _).alloc (Nat.le_refl _) (.cells #[.slice none 0 0] 81))
  have ha1 : WrAt (w2.alloc (.cells #[.slice none 0 0] 81)) S S (.slice none 0 0) [] := ⟨hSz ▸ Blk.made w2 81 #[.slice none 0 0], World.ownsRow_nil _ _ _ _⟩
  have hz : (w2.alloc (.cells #[.slice none 0 0] 81)).heap.size = S + 1 := by rw [World.size_alloc, hSz]
  have hi := int_walk ha1 (by omega) (by simp) (z := 0) (by constructor <;> omega)
  go_wp2_with fail
  go_at_call 34
  refine hi.mono ?_
  clear hi
  rintro _ w3 ⟨rfl, v3, hW3⟩
  have s3 := hW3.chg.size
  have hw3 := hW3.went ha1 (by omega)
  have hus := fun g hg => (World.ownsRow.lt hue g hg).2
  have hl0 : ([] ++ encI 0 : List UInt8).length ≤ 10 := by rw [List.nil_append]; exact uv_ten (zz_lt (by constructor <;> omega))
  have hlead : ∀ g, Value.leads (.slice Au (encL rs).length cu) = some g → g < S := fun g hg => by
    have := (Sees.row hue).leads_lt hg
    omega
  have hsee3 := hW3.sees ha1 (Sees.row hue3) (fun g hg => ⟨by have := hlead g hg; omega, by simp [Value.ownBlock]⟩)
  have hr := raw_walk hW3.wr (by omega) (by omega) (by omega) hsee3 (fun g hg => hW3.wr.not (Nat.le_refl _) (hlead g hg))
  go_wp2_with fail
  go_at_call 35
  refine hr.mono ?_
  clear hr
  rintro _ w4 ⟨rfl, v4, hW4⟩
  have hw4 := hw3.trans (hW4.went hW3.wr (by omega))
  have s4 := hw4.size
  have hbw : Below w.heap.size w w4 := ((hB1.trans (hB2.mono (by omega))).alloc (by omega) _).trans (hw4.bel.mono (by omega))
  have hwr4 := hw4.wr
  have hxe : [] ++ encI 0 ++ encR (encL rs) = Rec.enc (.save rs) := rfl
  rw [hxe] at hwr4
  have hS4 := hS.bel hbw
  have h4 := h.bel hbw
  have hv4 := owns_bel hv hbw
  have hws := hbw.size
  have hxl : (frame frameH n (Rec.enc (.save rs))).length ≤ 150 := by have := frame_len frameH frameH_lt n (Rec.enc (.save rs)) (by omega) (by omega); omega
  have hdn := done_walk hwr4.drew (by omega)
  have hjw := fun (w5 : World) (u : Value) (hb5 : Below w4.drew.heap.size w4.drew w5) (hs : Sees w5 1 u (bv (Rec.enc (.save rs)))) => jappend_down (h4.drew.bel hb5) (by have := hb5.size; have : w4.drew.heap.size = w4.heap.size := rfl; omega) hk hoff hd (hS4.drew.bel hb5).log (by omega) hs (by omega) (by omega) (by omega) (by omega)
  have hns : ∀ w5 : World, Below w4.drew.heap.size w4.drew w5 → ¬ (DF db mb rv d sb ∨ sb = lg) := fun w5 hb5 e => by
    rcases e with e | e
    · exact (h4.drew.apartly (ts := [69]) (by decide) (by decide)).blk hS4.drew.st (by simp) e
    · exact Blk.two hS4.st hS4.log (by decide) e
  have c0 := hS4.st.at' 0
  simp at c0
  clear hw3 hw4 hW3 hW4 hue3 hsee3 ha1 hue hwr4 hS1
  go_wp2_with fail
  go_region_held3 (fun w' => w'.cell? ⟨sb, 0, none⟩ = some (.pointer (some ⟨lg, 0, none⟩)))
    (first
      | go_keep)
    (first
      | (go_at_call 37; refine hdn.mono ?_; clear hdn; rintro _ w5 ⟨u5, rfl, hr5, hB5⟩; have hcc := (hB5.cell (p := ⟨sb, 0, none⟩) (by { show sb < w4.heap.size; omega })).trans c0)
      | (go_at_call 36; refine (hjw _ _ hB5 (Sees.row hr5)).mono ?_; clear hjw; rintro _ w6 ⟨rv6, d6, rfl, hd6, hdn6, hl6, hC6⟩; have hst6 := (hS4.drew.bel hB5).st.chg hC6 (hns _ hB5); have hcc6 : w6.cell? ⟨sb, 0, none⟩ = some (.pointer (some ⟨lg, 0, none⟩)) := (by { have := hst6.at' 0; simpa using this })))
  have s5 := hB5.size
  have s5' : w4.drew.heap.size = w4.heap.size := rfl
  have s6 := hC6.size
  have hC : Chg (SF db mb rv d sb lg (.slice A its.length c)) w w6 := ((Chg.of_below (hbw.trans (((Below.refl w4.heap.size w4).drew.trans hB5).mono (by omega)))).trans hC6 fun g _ h => h.imp id fun h => .inl h)
  have HD := Lib.hid hd6
  have HN := Lib.hid hdn6
  have HC := Lib.hid hC
  have HS := Lib.hid hst6
  have HL := Lib.hid hl6
  clear hd6 hdn6 hC hst6 hl6 hr5 hB5 hcc hcc6 hC6 hS4 h4 c0 hns
  go_wp2
  go_ret2
  exact ⟨rv6, d6, rfl, HD.out, HN.out, HS.out, HL.out, HC.out⟩
set_option maxHeartbeats 8000000 in
set_option maxRecDepth 1000000 in
theorem use_ok {w : World} {B db mb sb lg k n : Nat} {rv : Nat → Value} {d : Dk} {vv : Value} {its : List (Value × List Ru)} {act : Int} {i : Nat} (h : DkAt w B db mb rv d) (hB : B ≤ w.heap.size) (hS : StAt w B sb lg db k n vv its act)
    (hk : k < 64) (hoff : d.off = false) (hf : d.fails = false) (hf2 : d.step.fails = false) (hn : n < 1000) (hits : its.length ≤ 1000) (hi : i < its.length) (hroom : 200 ≤ d.room - d.used) (hlen : d.len k + 200 ≤ 16777216) :
    Calls Tryz.prog 11 #[.pointer (some ⟨sb, 0, none⟩), .int .i64 (i : Int)] w fun e w' => ∃ (rv' : Nat → Value), e = .returned (.int .i64 0) ∧ DkAt w' B db mb rv' (d.step.step.add k n (.use i)) ∧
      StAt w' B sb lg db k (n + 1) vv its (i : Int) ∧ Chg (SF db mb rv d sb lg vv) w w' := by
  have hRl := enc_use_len (n := i) (by omega)
  have hh := has_walk hS hi (by omega)
  have hslt := hS.st.lt
  obtain ⟨S, hSz⟩ : ∃ S, w.heap.size = S := ⟨_, rfl⟩
  have ha1 : WrAt (w.alloc (.cells #[.slice none 0 0] 81)) S S (.slice none 0 0) [] := ⟨hSz ▸ Blk.made w 81 #[.slice none 0 0], World.ownsRow_nil _ _ _ _⟩
  have hz : (w.alloc (.cells #[.slice none 0 0] 81)).heap.size = S + 1 := by rw [World.size_alloc, hSz]
  have hi1 := int_walk ha1 (by omega) (by simp) (z := 1) (by constructor <;> omega)
  go_enter Tryz.func11, Tryz.ntmps11
  go_wp2_with fail
  go_at_call 39
  refine hh.mono ?_
  clear hh
  rintro _ wh ⟨rfl, hwh⟩
  rw [hwh]
  clear hwh wh
  go_wp2_with fail
  go_at_call 34
  refine hi1.mono ?_
  clear hi1
  rintro _ w3 ⟨rfl, v3, hW3⟩
  have s3 := hW3.chg.size
  have hw3 := hW3.went ha1 (by omega)
  have hl0 : ([] ++ encI 1 : List UInt8).length ≤ 10 := by rw [List.nil_append]; exact uv_ten (zz_lt (by constructor <;> omega))
  have hi2 := int_walk hW3.wr (by omega) (by omega) (z := (i : Int)) (by constructor <;> omega)
  go_wp2_with fail
  go_at_call 34
  refine hi2.mono ?_
  clear hi2
  rintro _ w4 ⟨rfl, v4, hW4⟩
  have hw4 := hw3.trans (hW4.went hW3.wr (by omega))
  have s4 := hw4.size
  have hbw : Below w.heap.size w w4 := ((Below.refl _ _).alloc (Nat.le_refl _) _).trans (hw4.bel.mono (by omega))
  have hwr4 := hw4.wr
  have hxe : [] ++ encI 1 ++ encI (i : Int) = Rec.enc (.use i) := rfl
  rw [hxe] at hwr4
  have hS4 := hS.bel hbw
  have h4 := h.bel hbw
  have hws := hbw.size
  have hxl : (frame frameH n (Rec.enc (.use i))).length ≤ 150 := by have := frame_len frameH frameH_lt n (Rec.enc (.use i)) (by omega) (by omega); omega
  have hdn := done_walk hwr4.drew (by omega)
  have hjw := fun (w5 : World) (u : Value) (hb5 : Below w4.drew.heap.size w4.drew w5) (hs : Sees w5 1 u (bv (Rec.enc (.use i)))) => jappend_ok (h4.drew.bel hb5) (by have := hb5.size; have : w4.drew.heap.size = w4.heap.size := rfl; omega) hk hoff hf hf2 (hS4.drew.bel hb5).log (by omega) hs (by omega) (by omega) (by omega) (by omega)
  have c0 := hS4.st.at' 0
  simp at c0
  clear hw3 hw4 hW3 hW4 ha1 hwr4
  go_wp2_with fail
  go_region_held3 (fun w' => w'.cell? ⟨sb, 0, none⟩ = some (.pointer (some ⟨lg, 0, none⟩)))
    (first
      | go_keep)
    (first
      | (go_at_call 37; refine hdn.mono ?_; clear hdn; rintro _ w5 ⟨u5, rfl, hr5, hB5⟩; have hcc := (hB5.cell (p := ⟨sb, 0, none⟩) (by { show sb < w4.heap.size; omega })).trans c0)
      | (go_at_call 36; refine (hjw _ _ hB5 (Sees.row hr5)).mono ?_; clear hjw; rintro _ w6 ⟨rv6, rfl, hd6, hl6, hC6, hn6⟩; have hcc6 : w6.cell? ⟨sb, 0, none⟩ = some (.pointer (some ⟨lg, 0, none⟩)) := (by { have h5 := hS4.drew.bel hB5; have h6 := h5.relog (h4.drew.bel hB5) hC6 hl6; have := h6.st.at' 0; simpa using this })))
  have hd5 := h4.drew.bel hB5
  have hS5 := hS4.drew.bel hB5
  have hS6 := hS5.relog hd5 hC6 hl6
  have s5 := hB5.size
  have s5' : w4.drew.heap.size = w4.heap.size := rfl
  have s6 := hC6.size
  have hC : Chg (fun g => DF db mb rv d g ∨ g = lg) w w6 := ((Chg.of_below (hbw.trans (((Below.refl w4.heap.size w4).drew.trans hB5).mono (by omega)))).trans hC6 fun _ _ h => h)
  have hd6' : DkAt w6 B db mb rv6 (d.step.step.add k n (.use i)) := by rw [← Dk.add_ok]; exact hd6
  have HD := Lib.hid hd6'
  have HC := Lib.hid hC
  have HS := Lib.hid hS6
  have f62 := hS6.st.thaw 2
  have c62 := hS6.st.at' 2
  simp at c62
  have hslt6 := hS6.st.lt
  clear hd6 hn6 hC hd6' hd5 hS5 hr5 hB5 hcc hcc6 hC6 hS4 h4 c0 hl6 hS6
  go_wp2
  go_ret
  refine ⟨rv6, rfl, ?_, HS.out.setAct (i : Int), ?_⟩
  · exact HD.out.chg ((Chg.refl (fun g => g = sb) w6).setCell (p := ⟨sb, 2, none⟩) (.inr rfl) _) fun g hg e => by
      subst e
      exact (HD.out.apartly (ts := [69]) (by decide) (by decide)).blk HS.out.st (by simp) hg
  · exact (HC.out.more fun g _ h => h.imp id fun h => .inl h).setCell (p := ⟨sb, 2, none⟩) (.inr (.inr (.inr (.inl rfl)))) _
set_option maxHeartbeats 8000000 in
set_option maxRecDepth 1000000 in
theorem use_down {w : World} {B db mb sb lg k n : Nat} {rv : Nat → Value} {d : Dk} {vv : Value} {its : List (Value × List Ru)} {act : Int} {i : Nat} (h : DkAt w B db mb rv d) (hB : B ≤ w.heap.size) (hS : StAt w B sb lg db k n vv its act)
    (hk : k < 64) (hoff : d.off = false) (hd : d.dies = true) (hn : n < 1000) (hits : its.length ≤ 1000) (hi : i < its.length) (hroom : 200 ≤ d.room - d.used) (hlen : d.len k + 200 ≤ 16777216) :
    Calls Tryz.prog 11 #[.pointer (some ⟨sb, 0, none⟩), .int .i64 (i : Int)] w fun e w' => ∃ rv' d', e = .returned (.int .i64 19) ∧ DkAt w' B db mb rv' d' ∧ Down d d' k n (Rec.enc (.use i)) ∧ Blk w' sb 69 #[.pointer (some ⟨lg, 0, none⟩), vv, .int .i64 act] ∧
      Blk w' lg 103 #[.pointer (some ⟨db, 0, none⟩), .int .i64 (k : Int), .int .i64 (n : Int), .bool true] ∧ Chg (SF db mb rv d sb lg vv) w w' := by
  have hRl := enc_use_len (n := i) (by omega)
  have hh := has_walk hS hi (by omega)
  have hslt := hS.st.lt
  obtain ⟨S, hSz⟩ : ∃ S, w.heap.size = S := ⟨_, rfl⟩
  have ha1 : WrAt (w.alloc (.cells #[.slice none 0 0] 81)) S S (.slice none 0 0) [] := ⟨hSz ▸ Blk.made w 81 #[.slice none 0 0], World.ownsRow_nil _ _ _ _⟩
  have hz : (w.alloc (.cells #[.slice none 0 0] 81)).heap.size = S + 1 := by rw [World.size_alloc, hSz]
  have hi1 := int_walk ha1 (by omega) (by simp) (z := 1) (by constructor <;> omega)
  go_enter Tryz.func11, Tryz.ntmps11
  go_wp2_with fail
  go_at_call 39
  refine hh.mono ?_
  clear hh
  rintro _ wh ⟨rfl, hwh⟩
  rw [hwh]
  clear hwh wh
  go_wp2_with fail
  go_at_call 34
  refine hi1.mono ?_
  clear hi1
  rintro _ w3 ⟨rfl, v3, hW3⟩
  have s3 := hW3.chg.size
  have hw3 := hW3.went ha1 (by omega)
  have hl0 : ([] ++ encI 1 : List UInt8).length ≤ 10 := by rw [List.nil_append]; exact uv_ten (zz_lt (by constructor <;> omega))
  have hi2 := int_walk hW3.wr (by omega) (by omega) (z := (i : Int)) (by constructor <;> omega)
  go_wp2_with fail
  go_at_call 34
  refine hi2.mono ?_
  clear hi2
  rintro _ w4 ⟨rfl, v4, hW4⟩
  have hw4 := hw3.trans (hW4.went hW3.wr (by omega))
  have s4 := hw4.size
  have hbw : Below w.heap.size w w4 := ((Below.refl _ _).alloc (Nat.le_refl _) _).trans (hw4.bel.mono (by omega))
  have hwr4 := hw4.wr
  have hxe : [] ++ encI 1 ++ encI (i : Int) = Rec.enc (.use i) := rfl
  rw [hxe] at hwr4
  have hS4 := hS.bel hbw
  have h4 := h.bel hbw
  have hws := hbw.size
  have hxl : (frame frameH n (Rec.enc (.use i))).length ≤ 150 := by have := frame_len frameH frameH_lt n (Rec.enc (.use i)) (by omega) (by omega); omega
  have hdn := done_walk hwr4.drew (by omega)
  have hjw := fun (w5 : World) (u : Value) (hb5 : Below w4.drew.heap.size w4.drew w5) (hs : Sees w5 1 u (bv (Rec.enc (.use i)))) => jappend_down (h4.drew.bel hb5) (by have := hb5.size; have : w4.drew.heap.size = w4.heap.size := rfl; omega) hk hoff hd (hS4.drew.bel hb5).log (by omega) hs (by omega) (by omega) (by omega) (by omega)
  have hns : ∀ w5 : World, Below w4.drew.heap.size w4.drew w5 → ¬ (DF db mb rv d sb ∨ sb = lg) := fun w5 hb5 e => by
    rcases e with e | e
    · exact (h4.drew.apartly (ts := [69]) (by decide) (by decide)).blk hS4.drew.st (by simp) e
    · exact Blk.two hS4.st hS4.log (by decide) e
  have c0 := hS4.st.at' 0
  simp at c0
  clear hw3 hw4 hW3 hW4 ha1 hwr4
  go_wp2_with fail
  go_region_held3 (fun w' => w'.cell? ⟨sb, 0, none⟩ = some (.pointer (some ⟨lg, 0, none⟩)))
    (first
      | go_keep)
    (first
      | (go_at_call 37; refine hdn.mono ?_; clear hdn; rintro _ w5 ⟨u5, rfl, hr5, hB5⟩; have hcc := (hB5.cell (p := ⟨sb, 0, none⟩) (by { show sb < w4.heap.size; omega })).trans c0)
      | (go_at_call 36; refine (hjw _ _ hB5 (Sees.row hr5)).mono ?_; clear hjw; rintro _ w6 ⟨rv6, d6, rfl, hd6, hdn6, hl6, hC6⟩; have hst6 := (hS4.drew.bel hB5).st.chg hC6 (hns _ hB5); have hcc6 : w6.cell? ⟨sb, 0, none⟩ = some (.pointer (some ⟨lg, 0, none⟩)) := (by { have := hst6.at' 0; simpa using this })))
  have s5 := hB5.size
  have s5' : w4.drew.heap.size = w4.heap.size := rfl
  have s6 := hC6.size
  have hC : Chg (SF db mb rv d sb lg vv) w w6 := ((Chg.of_below (hbw.trans (((Below.refl w4.heap.size w4).drew.trans hB5).mono (by omega)))).trans hC6 fun g _ h => h.imp id fun h => .inl h)
  have HD := Lib.hid hd6
  have HN := Lib.hid hdn6
  have HC := Lib.hid hC
  have HS := Lib.hid hst6
  have HL := Lib.hid hl6
  clear hd6 hdn6 hC hst6 hl6 hr5 hB5 hcc hcc6 hC6 hS4 h4 c0 hns
  go_wp2
  go_ret
  exact ⟨rv6, d6, rfl, HD.out, HN.out, HS.out, HL.out, HC.out⟩
end Go.Proofs.YtkndgmjlphppdaaGreatDoor
namespace Go.Proofs.YtkndgmjlphppdaaGreatDoor
open Go Go.RowKit Go.Imap

set_option maxRecDepth 1000000 in
theorem jup_walk {w : World} {lg : Nat} {p q r : Value} {b : Bool} (h : Blk w lg 103 #[p, q, r, .bool b]) :
    Calls Tryz.prog 48 #[.pointer (some ⟨lg, 0, none⟩)] w fun e w' => e = .returned (.bool (!b)) ∧ w' = w := by
  have c3 := h.at' 3
  have hlt := h.lt
  simp at c3
  go_enter Tryz.func48, Tryz.ntmps48
  go_wp2
  go_ret
  exact ⟨rfl, rfl⟩
set_option maxRecDepth 1000000 in
theorem sup_walk {w : World} {sb lg : Nat} {p q r u v : Value} {b : Bool} (hs : Blk w sb 69 #[.pointer (some ⟨lg, 0, none⟩), u, v]) (h : Blk w lg 103 #[p, q, r, .bool b]) :
    Calls Tryz.prog 26 #[.pointer (some ⟨sb, 0, none⟩)] w fun e w' => e = .returned (.bool (!b)) ∧ w' = w := by
  have c0 := hs.at' 0
  have hlt := hs.lt
  have hj := jup_walk h
  simp at c0
  go_enter Tryz.func26, Tryz.ntmps26
  go_wp2_with fail
  go_at_call 48
  refine hj.mono ?_
  clear hj
  rintro _ wh ⟨rfl, hwh⟩
  rw [hwh]
  clear hwh wh
  go_wp2
  go_ret
  exact ⟨rfl, rfl⟩
end Go.Proofs.YtkndgmjlphppdaaGreatDoor
namespace Go.Proofs.YtkndgmjlphppdaaGreatDoor
open Go Go.RowKit Go.Imap

theorem Dk.step2_fs (d : Dk) : d.step.step.fs = d.fs := by rw [Dk.step_fs, Dk.step_fs]
theorem Dk.step2_fi (d : Dk) (k : Nat) : d.step.step.fi k = d.fi k := by rw [Dk.step_fi, Dk.step_fi]
theorem Dk.step2_room (d : Dk) : d.step.step.room = d.room ∧ d.step.step.used = d.used := by
  have h1 := Dk.step_room d
  have h2 := Dk.step_room d.step
  exact ⟨h2.1.trans h1.1, h2.2.trans h1.2⟩
theorem Dk.lives {d : Dk} (h : d.dies = false) : d.fails = false ∧ d.step.fails = false := by
  unfold Dk.dies at h
  simpa using h
theorem Dk.add_fs_some (d : Dk) (k n : Nat) (r : Rec) (j : Nat) : ((d.add k n r).fs j).isSome = true ↔ j = k ∨ (d.fs j).isSome = true := by
  unfold Dk.add Dk.harden Dk.put
  simp only [Option.isSome_map]
  by_cases h : j = k
  · have hp := frame_pos frameH n r.enc
    rw [if_pos h, if_neg (by rw [List.length_append]; omega)]
    simp [h]
  · rw [if_neg h]; simp [h]
theorem Dk.add_dur (d : Dk) (k n : Nat) (r : Rec) : ((d.add k n r).fi k).dur = (d.add k n r).len k := by
  unfold Dk.add Dk.harden Dk.put Dk.len Dk.fi
  have hp := frame_pos frameH n r.enc
  simp only [if_true]
  rw [if_neg (by rw [List.length_append]; omega)]
  rfl
/-- the disk is on, has one store's file only, that is durable; it may be armed -/
structure EnvD (w : World) (B db mb : Nat) (rv : Nat → Value) (d : Dk) (U : Nat) : Prop where
  dk : DkAt w B db mb rv d
  hB : B ≤ w.heap.size
  lo : B ≤ db ∧ B ≤ mb
  off : d.off = false
  room : d.room = 65536
  used : d.used ≤ U
  lens : ∀ j, (d.len j : Int) ≤ d.used
  only : ∀ j, (d.fs j).isSome = true → j = 0
  dur : (d.fi 0).dur = d.len 0
section
variable {w w' : World} {B db mb : Nat} {rv : Nat → Value} {d : Dk} {U : Nat}
theorem EnvD.bel (h : EnvD w B db mb rv d U) (hb : Below w.heap.size w w') : EnvD w' B db mb rv d U := ⟨h.dk.bel hb, Nat.le_trans h.hB hb.size, h.lo, h.off, h.room, h.used, h.lens, h.only, h.dur⟩
theorem EnvD.nt {F : Nat → Prop} {ts : List TypeId} (h : EnvD w B db mb rv d U) (hc : Chg F w w') (hn : NT w F ts) (h1 : 62 ∉ ts) (h2 : 5 ∉ ts) : EnvD w' B db mb rv d U :=
  ⟨h.dk.chg hc fun g hg => hn.df h.dk h1 h2 g hg, Nat.le_trans h.hB hc.size, h.lo, h.off, h.room, h.used, h.lens, h.only, h.dur⟩
theorem sf_loD (h : EnvD w B db mb rv d U) {sb lg k n : Nat} {vv : Value} {its : List (Value × List Ru)} {act : Int} (hS : StAt w B sb lg db k n vv its act) {g : Nat} (hg : SF db mb rv d sb lg vv g) : B ≤ g := by
  rcases hg with hg | rfl | rfl | hg
  · rcases hg with rfl | rfl | ⟨i, hi, e⟩
    · exact h.lo.1
    · exact h.lo.2
    · obtain ⟨f, hf⟩ := Option.isSome_iff_exists.1 hi
      exact (World.ownsRow.lt (h.dk.row i f hf) g e).1
  · exact hS.lo.2
  · exact hS.lo.1
  · exact (World.ownsRow.lt hS.row g hg).1
/-- what an operation of the store leaves, done with OK -/
structure AfterD (w w' : World) (B db mb : Nat) (U : Nat) (sb lg : Nat) (d' : Dk) (vv' : Value) (its' : List (Value × List Ru)) (l' : List Rec) : Prop where
  env : ∃ rv', EnvD w' B db mb rv' d' U
  sto : Sto w' B db d' sb lg 0 vv' its' l'
  bel : Below B w w'
  chg : ∃ F, Chg F w w' ∧ FT w F
/-- .. or with the power going off -/
structure Dead (w w' : World) (B db mb : Nat) (rv' : Nat → Value) (d d' : Dk) (sb lg n : Nat) (vv : Value) (act : Int) (x : List UInt8) : Prop where
  dk : DkAt w' B db mb rv' d'
  down : Down d d' 0 n x
  st : Blk w' sb 69 #[.pointer (some ⟨lg, 0, none⟩), vv, .int .i64 act]
  log : Blk w' lg 103 #[.pointer (some ⟨db, 0, none⟩), .int .i64 ((0 : Nat) : Int), .int .i64 (n : Int), .bool true]
  bel : Below B w w'
  chg : ∃ F, Chg F w w' ∧ FT w F
theorem after_ofD (h : EnvD w B db mb rv d U) {sb lg : Nat} {vv vv' : Value} {its its' : List (Value × List Ru)} {l : List Rec} {r : Rec} (hS : Sto w B db d sb lg 0 vv its l) (hl : l.length < 1000) (hr : RecOk l r) (hf : d.dies = false) {rv' : Nat → Value}
    (hd : DkAt w' B db mb rv' (d.step.step.add 0 l.length r)) (hs : StAt w' B sb lg db 0 (l.length + 1) vv' its' (actOf (l ++ [r]))) (hi : its'.map Prod.snd = versOf (l ++ [r])) (hc : Chg (SF db mb rv d sb lg vv) w w') :
    AfterD w w' B db mb (U + 150) sb lg (d.step.step.add 0 l.length r) vv' its' (l ++ [r]) := by
  have hrl := hr.len (by have := hS.ok.len; omega)
  have hfl := frame_len frameH frameH_lt l.length r.enc (by omega) (by omega)
  have hu := Dk.add_used d.step.step 0 l.length r
  have hl2 := Dk.lives hf
  have ho1 := Dk.step_off hl2.1 h.off
  have ho2 := Dk.step_off hl2.2 ho1
  have hrm := Dk.step2_room d
  have hby : ((d.step.step.add 0 l.length r).fi 0).bytes = (d.fi 0).bytes ++ frame frameH l.length r.enc := by rw [Dk.add_bytes, Dk.step2_fi]
  refine ⟨⟨rv', hd, Nat.le_trans h.hB hc.size, h.lo, ho2, hrm.1.trans h.room, ?_, fun j => ?_, fun j hj => ?_, Dk.add_dur _ _ _ _⟩, ⟨by rw [List.length_append]; exact hs, hi, hS.ok.snoc hl hr, by rw [hby, hS.bytes, fileOf_snoc], hS.k64⟩, hc.to_below h.hB fun g _ hg => sf_loD h hS.st hg, ⟨_, hc, FT.sf h.dk hS.st⟩⟩
  · have := h.used; omega
  · have := h.lens j
    by_cases hj : j = 0
    · subst hj
      have e : (d.step.step.add 0 l.length r).len 0 = d.len 0 + (frame frameH l.length r.enc).length := by unfold Dk.len; rw [hby, List.length_append]
      omega
    · have e : (d.step.step.add 0 l.length r).len j = d.len j := by unfold Dk.len; rw [Dk.add_other _ _ _ hj, Dk.step2_fi]
      omega
  · rcases (Dk.add_fs_some _ _ _ _ _).1 hj with h1 | h1
    · exact h1
    · rw [Dk.step2_fs] at h1; exact h.only j h1
/-- Save -/
theorem save_stepD (h : EnvD w B db mb rv d U) {sb lg : Nat} {vv v : Value} {its : List (Value × List Ru)} {l : List Rec} {base : Nat} {rs : List Ru} (hS : Sto w B db d sb lg 0 vv its l) (hl : l.length < 1000) (hU : U + 200 ≤ 65536) (hv : w.ownsRow base 86 3 v rs.length (rs.flatMap Ru.cells)) (hG : Good rs) (hf : d.dies = false) :
    Calls Tryz.prog 9 #[.pointer (some ⟨sb, 0, none⟩), v] w fun e w' => ∃ d' vv' its', e = .returned (.tuple #[.int .i64 ((versOf l).length : Int), .int .i64 0]) ∧ AfterD w w' B db mb (U + 150) sb lg d' vv' its' (l ++ [.save rs]) := by
  have hv2 := versOf_len l
  have hil := hS.ilen
  have hl2 := Dk.lives hf
  refine (save_ok h.dk h.hB hS.st hS.k64 h.off hl2.1 hl2.2 hl (by omega) hv hG (by have := h.used; have := h.room; omega) (by have := hS.len; omega)).mono ?_
  rintro e w' ⟨rv', vv', u, rfl, hd, hs, hc, _⟩
  exact ⟨_, vv', _, by rw [hil], after_ofD h hS hl hG hf hd (by rw [actOf_save]; exact hs) (by rw [versOf_save, List.map_append, hS.its]; rfl) hc⟩
theorem use_stepD (h : EnvD w B db mb rv d U) {sb lg : Nat} {vv : Value} {its : List (Value × List Ru)} {l : List Rec} {i : Nat} (hS : Sto w B db d sb lg 0 vv its l) (hl : l.length < 1000) (hU : U + 200 ≤ 65536) (hi : i < (versOf l).length) (hf : d.dies = false) :
    Calls Tryz.prog 11 #[.pointer (some ⟨sb, 0, none⟩), .int .i64 (i : Int)] w fun e w' => ∃ d', e = .returned (.int .i64 0) ∧ AfterD w w' B db mb (U + 150) sb lg d' vv its (l ++ [.use i]) := by
  have hv2 := versOf_len l
  have hil := hS.ilen
  have hl2 := Dk.lives hf
  refine (use_ok h.dk h.hB hS.st hS.k64 h.off hl2.1 hl2.2 hl (by omega) (by omega) (by have := h.used; have := h.room; omega) (by have := hS.len; omega)).mono ?_
  rintro e w' ⟨rv', rfl, hd, hs, hc⟩
  exact ⟨_, rfl, after_ofD h hS hl hi hf hd (by rw [actOf_use]; exact hs) (by rw [versOf_use]; exact hS.its) hc⟩
theorem save_dead (h : EnvD w B db mb rv d U) {sb lg : Nat} {vv v : Value} {its : List (Value × List Ru)} {l : List Rec} {base : Nat} {rs : List Ru} (hS : Sto w B db d sb lg 0 vv its l) (hl : l.length < 1000) (hU : U + 200 ≤ 65536) (hv : w.ownsRow base 86 3 v rs.length (rs.flatMap Ru.cells)) (hG : Good rs) (hf : d.dies = true) :
    Calls Tryz.prog 9 #[.pointer (some ⟨sb, 0, none⟩), v] w fun e w' => ∃ rv' d', e = .returned (.tuple #[.int .i64 0, .int .i64 19]) ∧ Dead w w' B db mb rv' d d' sb lg l.length vv (actOf l) (Rec.enc (.save rs)) := by
  have hv2 := versOf_len l
  have hil := hS.ilen
  refine (save_down h.dk h.hB hS.st hS.k64 h.off hf hl (by omega) hv hG (by have := h.used; have := h.room; omega) (by have := hS.len; omega)).mono ?_
  rintro e w' ⟨rv', d', rfl, hd, hdn, hst, hlg, hc⟩
  exact ⟨rv', d', rfl, hd, hdn, hst, hlg, hc.to_below h.hB fun g _ hg => sf_loD h hS.st hg, _, hc, FT.sf h.dk hS.st⟩
theorem use_dead (h : EnvD w B db mb rv d U) {sb lg : Nat} {vv : Value} {its : List (Value × List Ru)} {l : List Rec} {i : Nat} (hS : Sto w B db d sb lg 0 vv its l) (hl : l.length < 1000) (hU : U + 200 ≤ 65536) (hi : i < (versOf l).length) (hf : d.dies = true) :
    Calls Tryz.prog 11 #[.pointer (some ⟨sb, 0, none⟩), .int .i64 (i : Int)] w fun e w' => ∃ rv' d', e = .returned (.int .i64 19) ∧ Dead w w' B db mb rv' d d' sb lg l.length vv (actOf l) (Rec.enc (.use i)) := by
  have hv2 := versOf_len l
  have hil := hS.ilen
  refine (use_down h.dk h.hB hS.st hS.k64 h.off hf hl (by omega) (by omega) (by have := h.used; have := h.room; omega) (by have := hS.len; omega)).mono ?_
  rintro e w' ⟨rv', d', rfl, hd, hdn, hst, hlg, hc⟩
  exact ⟨rv', d', rfl, hd, hdn, hst, hlg, hc.to_below h.hB fun g _ hg => sf_loD h hS.st hg, _, hc, FT.sf h.dk hS.st⟩
end
/-- the bytes of a record that may lie behind the records l -/
def tailOf (l : List Rec) : Option Rec → List UInt8
  | none => []
  | some r => frame frameH l.length r.enc
/-- before the crash -/
structure Fin (w0 w : World) (B db mb : Nat) (rv : Nat → Value) (d : Dk) (a : Value) (r : List (Value × List Ru)) (l : List Rec) (tl : Option Rec) : Prop where
  dk : DkAt w B db mb rv d
  hB : B ≤ w.heap.size
  lo : B ≤ db ∧ B ≤ mb
  room : d.room = 65536
  used : d.used ≤ 5000
  lens : ∀ j, (d.len j : Int) ≤ d.used
  ex : ∀ j, (d.fs j).isSome = true ↔ j = 0
  bytes : (d.fi 0).bytes = fileOf l ++ tailOf l tl
  dur : (d.fi 0).dur = (fileOf l).length
  ok : RecsOk l
  tok : ∀ x, tl = some x → RecOk l x
  len : l.length ≤ 20
  al : AllAt w B a r
  bel : Below B w0 w
  good : ∀ x ∈ r, x.2.length ≤ 8
/-- what may be found again -/
def Again (l : List Rec) (tl : Option Rec) (l' : List Rec) : Prop := l' = l ∨ ∃ x, tl = some x ∧ l' = l ++ [x]
theorem fileOf_app_take (l : List Rec) (x : Rec) : (fileOf (l ++ [x])).take (fileOf l).length = fileOf l := by rw [fileOf_snoc, List.take_left]
theorem recs_frames (l : List Rec) : (l.map Rec.enc).length < (fileOf l).length + 1 := by
  have hn : ∀ (k : Nat) (rs : List (List UInt8)), rs.length ≤ (framesFrom frameH k rs).length := by
    intro k rs
    induction rs generalizing k with
    | nil => simp [framesFrom]
    | cons r t ih =>
      have h1 := frame_pos frameH k r
      have h2 := ih (k + 1)
      simp only [framesFrom, List.length_append, List.length_cons]
      omega
  have := hn 0 (l.map Rec.enc)
  unfold fileOf
  omega
/-- the records that are found in what a crash has left -/
theorem crash_scan {l : List Rec} {tl : Option Rec} (hl : RecsOk l) (hlen : l.length ≤ 20) (ht : ∀ x, tl = some x → RecOk l x) {kp : Nat} (hkp : kp ≤ (tailOf l tl).length) :
    ∃ l', Again l tl l' ∧ RecsOk l' ∧ l'.length ≤ 21 ∧ ∀ b : List UInt8, b = (fileOf l ++ tailOf l tl).take ((fileOf l).length + kp) → scan frameH (b.length + 1) b 0 = l'.map Rec.enc ∧ (fileOf l').length ≤ b.length ∧ b.take (fileOf l').length = fileOf l' := by
  by_cases hfull : tl.isSome = true ∧ kp = (tailOf l tl).length
  · obtain ⟨x, hx⟩ := Option.isSome_iff_exists.1 hfull.1
    subst hx
    have hkp2 := hfull.2
    refine ⟨l ++ [x], .inr ⟨x, rfl, rfl⟩, hl.snoc (by omega) (ht x rfl), by simp; omega, fun b hb => ?_⟩
    have hbe : b = fileOf (l ++ [x]) := by
      rw [hb, fileOf_snoc, hkp2, ← List.length_append, List.take_length]
      rfl
    subst hbe
    exact ⟨scan_file (hl.snoc (by omega) (ht x rfl)), Nat.le_refl _, List.take_length⟩
  · refine ⟨l, .inl rfl, hl, by omega, fun b hb => ?_⟩
    have hbe : b = fileOf l ++ (tailOf l tl).take kp := by
      rw [hb, List.take_append, Nat.add_sub_cancel_left, List.take_of_length_le (by omega)]
    have hpart : fst frameH ((tailOf l tl).take kp) l.length = none := by
      cases htl : tl with
      | none => show fst frameH (([] : List UInt8).take kp) l.length = none; rw [List.take_nil]; exact fst_nil _ _
      | some x =>
        subst htl
        have hx := (ht x rfl).len (by have := hl.len; omega)
        have hlt : kp < (frame frameH l.length x.enc).length := by
          have h1 : kp ≠ (tailOf l (Option.some x)).length := fun e => hfull ⟨rfl, e⟩
          have h2 : (tailOf l (Option.some x)).length = (frame frameH l.length x.enc).length := rfl
          omega
        exact fst_part frameH_lt (by omega) (by omega) (List.take_prefix _ _) (by show ((frame frameH l.length x.enc).take kp).length < _; rw [List.length_take]; omega)
    have hnf := recs_frames l
    have := scan_frames (H := frameH) (b.length + 1) 0 (l.map Rec.enc) ((tailOf l tl).take kp) (by rw [hbe, List.length_append]; omega) (by simp; omega) hl.recs (by rw [Nat.zero_add, List.length_map]; exact hpart)
    refine ⟨?_, by rw [hbe, List.length_append]; omega, by rw [hbe, List.take_left]⟩
    have he : framesFrom frameH 0 (l.map Rec.enc) ++ (tailOf l tl).take kp = b := hbe.symm
    rw [he] at this
    exact this
end Go.Proofs.YtkndgmjlphppdaaGreatDoor
namespace Go.Proofs.YtkndgmjlphppdaaGreatDoor
open Go Go.RowKit Go.Imap

theorem Dk.put_bytes (d : Dk) (k : Nat) (f : Fi) : ((d.put k f).fi k).bytes = f.bytes := by
  unfold Dk.put Dk.fi
  simp only [if_pos]
  split
  · rename_i h
    exact (List.length_eq_zero_iff.1 h).symm
  · rfl
theorem Dk.put_other (d : Dk) {k j : Nat} (f : Fi) (h : j ≠ k) : (d.put k f).fs j = d.fs j := by
  unfold Dk.put
  simp only [if_neg h]
theorem Dk.put_len (d : Dk) (k : Nat) (f : Fi) : (d.put k f).len k = f.bytes.length := by unfold Dk.len; rw [Dk.put_bytes]
theorem Dk.fi_of {d e : Dk} (h : d.fs = e.fs) (k : Nat) : d.fi k = e.fi k := by unfold Dk.fi; rw [h]
theorem Dk.len_of {d e : Dk} (h : d.fs = e.fs) (k : Nat) : d.len k = e.len k := by unfold Dk.len; rw [Dk.fi_of h]
theorem Dk.fs_len {d : Dk} {k : Nat} (h : (d.fs k).isSome = false) : d.len k = 0 := by
  unfold Dk.len Dk.fi
  cases hf : d.fs k with
  | none => rfl
  | some f => rw [hf] at h; cases h
section
variable {w0 w w' : World} {B db mb : Nat} {rv rv' : Nat → Value} {d d' : Dk} {U sb lg : Nat} {vv a : Value} {its r : List (Value × List Ru)} {l : List Rec} {x : Rec}
theorem fin_dead (hE : EnvD w B db mb rv d U) (hS : Sto w B db d sb lg 0 vv its l) (hD : Dead w w' B db mb rv' d d' sb lg l.length vv (actOf l) x.enc) (hr : RecOk l x) (hl : l.length ≤ 20) (hU : U + 150 ≤ 5000)
    (hal : AllAt w' B a r) (hbel : Below B w0 w') (hg : ∀ y ∈ r, y.2.length ≤ 8) : Fin w0 w' B db mb rv' d' a r l (some x) := by
  have hrl := hr.len (by omega)
  have hfl := frame_len frameH frameH_lt l.length x.enc (by omega) (by omega)
  have hp := frame_pos frameH l.length x.enc
  obtain ⟨F, hF, _⟩ := hD.chg
  have hfi : d'.fi 0 = ⟨(d.fi 0).bytes ++ frame frameH l.length x.enc, (d.fi 0).dur⟩ := by
    rw [Dk.fi_of hD.down.fs]
    unfold Dk.put Dk.fi
    simp only [if_pos]
    rw [if_neg (by rw [List.length_append]; omega)]
    rfl
  have hlen : d'.len 0 = d.len 0 + (frame frameH l.length x.enc).length := by unfold Dk.len; rw [hfi, List.length_append]
  have hoth : ∀ j, j ≠ 0 → d'.fs j = d.fs j := fun j hj => by rw [hD.down.fs, Dk.put_other d _ hj]
  refine ⟨hD.dk, Nat.le_trans hE.hB hF.size, hE.lo, hD.down.room.trans hE.room, ?_, fun j => ?_, fun j => ⟨fun h => ?_, ?_⟩, ?_, ?_, hS.ok, fun y hy => ?_, hl, hal, hbel, hg⟩
  · have h1 := hD.down.used
    have h2 := hE.used
    omega
  · have h1 := hD.down.used
    have h2 := hE.lens j
    by_cases hj : j = 0
    · subst hj; omega
    · have e : d'.len j = d.len j := by unfold Dk.len Dk.fi; rw [hoth j hj]
      omega
  · by_cases hj : j = 0
    · exact hj
    · rw [hoth j hj] at h
      exact hE.only j h
  · rintro rfl
    rw [hD.down.fs]
    unfold Dk.put
    simp only [if_pos]
    rw [if_neg (by rw [List.length_append]; omega)]
    rfl
  · rw [hfi, ← hS.bytes]
    rfl
  · rw [hfi, ← hS.bytes]
    exact hE.dur
  · cases hy
    exact hr
theorem fin_alive (hE : EnvD w B db mb rv d U) (hS : Sto w B db d sb lg 0 vv its l) (hne : l ≠ []) (hl : l.length ≤ 20) (hU : U ≤ 5000) (hal : AllAt w B a r) (hbel : Below B w0 w) (hg : ∀ y ∈ r, y.2.length ≤ 8) : Fin w0 w B db mb rv d a r l none := by
  refine ⟨hE.dk, hE.hB, hE.lo, hE.room, by have := hE.used; omega, hE.lens, fun j => ⟨hE.only j, ?_⟩, by rw [hS.bytes]; show _ = _ ++ []; rw [List.append_nil], ?_, hS.ok, fun y hy => (by cases hy), hl, hal, hbel, hg⟩
  · rintro rfl
    cases hs : (d.fs 0).isSome with
    | true => rfl
    | false =>
      exfalso
      have h1 := Dk.fs_len hs
      have h2 := recs_frames l
      have h3 : d.len 0 = (fileOf l).length := by unfold Dk.len; rw [hS.bytes]
      have h4 : 0 < l.length := List.length_pos_iff.2 hne
      rw [List.length_map] at h2
      omega
  · rw [← hS.bytes]
    exact hE.dur
/-- behind the crash and the new Open -/
structure Anew (w0 w' : World) (B db mb : Nat) (sb lg : Nat) (vv : Value) (its : List (Value × List Ru)) (a : Value) (r : List (Value × List Ru)) (l' : List Rec) (d2 : Dk) : Prop where
  env : ∃ rv2, Env w' B db mb rv2 d2 65536 5000
  sto : Sto w' B db d2 sb lg 0 vv its l'
  al : AllAt w' B a r
  bel : Below B w0 w'
  good : ∀ y ∈ r, y.2.length ≤ 8
theorem Dk.crash_bytes (d : Dk) (k kp : Nat) : ((d.crash k kp).fi k).bytes = (d.fi k).bytes.take ((d.fi k).dur + kp) := by
  show ((d.cut k kp).harden.fi k).bytes = _
  rw [Dk.harden_bytes]
  unfold Dk.cut
  rw [Dk.put_bytes]
theorem Dk.crash_used (d : Dk) (k kp : Nat) (h : (d.fi k).dur + kp ≤ d.len k) : (d.crash k kp).used = d.used + (((d.fi k).dur + kp : Nat) : Int) - d.len k := by
  show d.used + ((((d.fi k).bytes.take ((d.fi k).dur + kp)).length : Int) - d.len k) = _
  have h1 : (d.fi k).bytes.length = d.len k := rfl
  rw [List.length_take, Nat.min_eq_left (by omega)]
  omega
theorem Dk.crash_other (d : Dk) {k j : Nat} (kp : Nat) (h : j ≠ k) (hj : (d.fs j).isSome = false) : (d.crash k kp).len j = 0 := by
  refine Dk.fs_len ?_
  show (((d.cut k kp).fs j).map _).isSome = false
  unfold Dk.cut
  rw [Dk.put_other d _ h, Option.isSome_map, hj]
theorem Fin.room1 {tl : Option Rec} (h : Fin w0 w B db mb rv d a r l tl) {kp : Nat} (hkp : kp ≤ (tailOf l tl).length) : (d.fi 0).dur + kp ≤ d.len 0 := by
  have : d.len 0 = (fileOf l).length + (tailOf l tl).length := by unfold Dk.len; rw [h.bytes, List.length_append]
  have := h.dur
  omega
theorem Fin.keys {tl : Option Rec} (h : Fin w0 w B db mb rv d a r l tl) : keysOf d = [0] := keys_one h.dk.wf h.ex
theorem Fin.kept {tl : Option Rec} (h : Fin w0 w B db mb rv d a r l tl) (z : Int) : ∃ kp : Nat, min (max z 0) ((d.len 0 : Int) - ((d.fi 0).dur : Int)) = (kp : Int) ∧ kp ≤ (tailOf l tl).length := by
  have h1 : d.len 0 = (fileOf l).length + (tailOf l tl).length := by unfold Dk.len; rw [h.bytes, List.length_append]
  have h2 := h.dur
  refine ⟨(min (max z 0) ((d.len 0 : Int) - ((d.fi 0).dur : Int))).toNat, ?_, ?_⟩ <;> omega
theorem Dk.opened_flags (d : Dk) (k e : Nat) : (d.opened k e).off = d.off ∧ (d.opened k e).armed = d.armed ∧ (d.opened k e).room = d.room := by
  unfold Dk.opened
  split <;> exact ⟨rfl, rfl, rfl⟩
theorem Dk.opened_bytes (d : Dk) (k e : Nat) (he : e ≤ d.len k) : ((d.opened k e).fi k).bytes = (d.fi k).bytes.take e := by
  unfold Dk.opened
  split
  · rw [Dk.harden_bytes, Dk.put_bytes]
  · rw [Dk.harden_bytes]
    have : d.len k = (d.fi k).bytes.length := rfl
    rw [List.take_of_length_le (by omega)]
theorem Dk.opened_used (d : Dk) (k e : Nat) (he : e ≤ d.len k) : (d.opened k e).used = d.used + (e : Int) - d.len k := by
  unfold Dk.opened
  split
  · show d.used + ((((d.fi k).bytes.take e).length : Int) - d.len k) = _
    have h1 : (d.fi k).bytes.length = d.len k := rfl
    rw [List.length_take, Nat.min_eq_left (by omega)]
    omega
  · show d.used = _
    omega
theorem Dk.opened_other (d : Dk) {k j : Nat} (e : Nat) (h : j ≠ k) : (d.opened k e).len j = d.len j := by
  unfold Dk.opened
  split
  · rw [Dk.harden_len]
    unfold Dk.len Dk.fi
    rw [Dk.put_other d _ h]
  · rw [Dk.harden_len]
/-- Open behind a crash -/
theorem reopen_step {tl : Option Rec} (h : Fin w0 w B db mb rv d a r l tl) {kp : Nat} (hkp : kp ≤ (tailOf l tl).length) {w1 : World} {rv1 : Nat → Value} (hd1 : DkAt w1 B db mb rv1 (d.crash 0 kp)) (hc1 : Chg (fun g => g = db ∨ g = mb) w w1) {l' : List Rec} (hl' : RecsOk l')
    (hcs : ∀ b : List UInt8, b = (fileOf l ++ tailOf l tl).take ((fileOf l).length + kp) → scan frameH (b.length + 1) b 0 = l'.map Rec.enc ∧ (fileOf l').length ≤ b.length ∧ b.take (fileOf l').length = fileOf l') :
    Calls Tryz.prog 7 #[.pointer (some ⟨db, 0, none⟩), .int .i64 ((0 : Nat) : Int)] w1 fun e w' => ∃ sb lg vv its d2, e = .returned (.tuple #[.pointer (some ⟨sb, 0, none⟩), .int .i64 0]) ∧ Anew w0 w' B db mb sb lg vv its a r l' d2 := by
  have hb : ((d.crash 0 kp).fi 0).bytes = (fileOf l ++ tailOf l tl).take ((fileOf l).length + kp) := by rw [Dk.crash_bytes, h.bytes, h.dur]
  obtain ⟨q1, q2, q3⟩ := hcs _ hb
  have hlen : (d.crash 0 kp).len 0 = ((d.crash 0 kp).fi 0).bytes.length := rfl
  have hr1 := h.room1 hkp
  have hcl : (d.crash 0 kp).len 0 = (d.fi 0).dur + kp := by
    rw [hlen, Dk.crash_bytes, List.length_take]
    have : (d.fi 0).bytes.length = d.len 0 := rfl
    omega
  have hcu := Dk.crash_used d 0 kp hr1
  have hl0 := h.lens 0
  have hus := h.used
  have ap : ∀ {W : World} {rvv : Nat → Value} {dd : Dk}, DkAt W B db mb rvv dd → Apartly W (fun g => g = db ∨ g = mb) [33, 75] := fun hd g hg t cs fr hh ht => by
    rcases hg with rfl | rfl
    · have e := hh.symm.trans hd.blk
      cases e
      exact absurd ht (by decide)
    · obtain ⟨ms, cl, hm, _⟩ := hd.map
      have e := hh.symm.trans hm
      cases e
  have hlo : ∀ g, g = db ∨ g = mb → B ≤ g := fun g hg => by rcases hg with rfl | rfl; exact h.lo.1; exact h.lo.2
  have hB1 : B ≤ w1.heap.size := Nat.le_trans h.hB hc1.size
  refine (open_walk hd1 (by omega) rfl rfl (by omega) hl' (by rw [hlen]; exact q1) (by rw [hlen]; exact q2)).mono ?_
  rintro e w' ⟨sb, lg, vv, its, rv', rfl, hd, hs, hi, hc, _⟩
  obtain ⟨f1, f2, f3⟩ := Dk.opened_flags (d.crash 0 kp) 0 (fileOf l').length
  have ho := Dk.opened_used (d.crash 0 kp) 0 (fileOf l').length (by rw [hlen]; exact q2)
  have hob := Dk.opened_bytes (d.crash 0 kp) 0 (fileOf l').length (by rw [hlen]; exact q2)
  rw [q3] at hob
  refine ⟨sb, lg, vv, its, _, rfl, ⟨rv', hd, Nat.le_trans hB1 hc.size, h.lo, f1, f2, f3.trans h.room, ?_, fun j => ?_⟩, ⟨hs.base hB1, hi, hl', hob, by omega⟩, (h.al.chg hc1 (ap h.dk)).chg hc (ap hd1), (h.bel.trans (hc1.to_below h.hB fun g _ hg => hlo g hg)).trans (hc.to_below hB1 fun g _ hg => hlo g hg), h.good⟩
  · rw [← hlen] at q2
    omega
  · rw [← hlen] at q2
    by_cases hj : j = 0
    · subst hj
      have : ((d.crash 0 kp).opened 0 (fileOf l').length).len 0 = (fileOf l').length := by unfold Dk.len; rw [hob]
      omega
    · rw [Dk.opened_other _ _ hj, Dk.crash_other d kp hj ?_]
      · omega
      · cases hs : (d.fs j).isSome with
        | false => rfl
        | true => exact absurd ((h.ex j).1 hs) hj
theorem again_act {tl : Option Rec} {l' : List Rec} (h : Again l tl l') : l' = l ∨ ∃ x, tl = some x ∧ l' = l ++ [x] := h
theorem Anew.bel' {l' : List Rec} {d2 : Dk} (h : Anew w0 w B db mb sb lg vv its a r l' d2) (hb : Below w.heap.size w w') : Anew w0 w' B db mb sb lg vv its a r l' d2 := by
  obtain ⟨rv2, hE⟩ := h.env
  exact ⟨⟨rv2, hE.bel hb⟩, h.sto.bel hb, h.al.bel hb, h.bel.trans (hb.mono hE.hB), h.good⟩
end
end Go.Proofs.YtkndgmjlphppdaaGreatDoor
