/-
  utf8.FullRune and utf8.DecodeRune at every row of bytes; stream.whole.
  stream.whole, walked: how many bytes are whole code points.
  A slice of bytes that is an argument of a law: what it holds before the call, and that it reads behind it as before.
  Blocks that lie somewhere: another pattern for them, one block more, a cell stored anew; a call that was run, from blocks to blocks.
  The stream of the rule \u{e4}: its states as the evaluator's patterns; its steps, run by the kernel.
  The stream of the rule zz, walked: Feed of zeros.
  The stream of the rule \u{e4}: how it begins and ends, run by the kernel.
  The stream of the rule zz: how it begins.
  The stream of the rule zz, walked: Feed of zeros.
  The stream of bytes of the rule zz, walked: Feed and Close.
  The stream of bytes of the rule zz, walked: Feed of zeros.
  A rule that flows, walked: feed and end, and the closures that call them.
-/
import Derived.Test.YtahmcjdddcbhnaaGreatDoorUtfPW
import Derived.Test.YtahmcjdddcbhnaaGreatDoorRunG0a
import Derived.Shelf.Spec.DecodeRune
import Derived.Lib.LaidU8T
import Derived.WalkKit
import Derived.Carry
import Derived.ProofKit
import Derived.OpenShut
import Derived.Deep.Grids
import Derived.Test.YtahmcjdddcbhnaaGreatDoorStrSW
import Derived.Test.YtahmcjdddcbhnaaGreatDoorRunG0b
import Derived.Test.YtahmcjdddcbhnaaGreatDoorRunG0c
namespace Go.Proofs
open Go Go.Shelf

def YtahmcjdddcbhnaaGreatDoor.decR_ren : Go.Shelf.Ren := ⟨fun | 32 => 372 | 49 => 376 | n => n, fun | 0 => 0 | 3 => 3 | 4 => 4 | 5 => 5 | 21 => 21 | 25 => 159 | 30 => 23 | 33 => 203 | 66 => 270 | 68 => 272 | 69 => 273 | n => n, fun | 2 => 1 | 3 => 2 | n => n⟩
theorem YtahmcjdddcbhnaaGreatDoor.decR : Lays7.n32 Tryz.prog YtahmcjdddcbhnaaGreatDoor.decR_ren :=
  { mixed := by kernel_rfl
    f32 := Tryz.func372.trans (congrArg some (by kernel_rfl))
    f49 := Tryz.func376.trans (congrArg some (by kernel_rfl))
    t0 := Tryz.underlying0
    a0 := Tryz.isAgg0
    z0 := Tryz.sizeOf0
    v0 := Tryz.zeroValue0
    i0 := by kernel_rfl
    t3 := Tryz.underlying3
    a3 := Tryz.isAgg3
    z3 := Tryz.sizeOf3
    v3 := Tryz.zeroValue3
    i3 := by kernel_rfl
    t4 := Tryz.underlying4
    a4 := Tryz.isAgg4
    z4 := Tryz.sizeOf4
    v4 := Tryz.zeroValue4
    i4 := by kernel_rfl
    t5 := Tryz.underlying5
    a5 := Tryz.isAgg5
    z5 := Tryz.sizeOf5
    v5 := Tryz.zeroValue5
    i5 := by kernel_rfl
    t21 := Tryz.underlying21
    a21 := Tryz.isAgg21
    z21 := Tryz.sizeOf21
    v21 := Tryz.zeroValue21
    i21 := by kernel_rfl
    t25 := Tryz.underlying159
    a25 := Tryz.isAgg159
    z25 := Tryz.sizeOf159
    v25 := Tryz.zeroValue159
    i25 := by kernel_rfl
    t30 := Tryz.underlying23
    a30 := Tryz.isAgg23
    z30 := Tryz.sizeOf23
    v30 := Tryz.zeroValue23
    i30 := by kernel_rfl
    t33 := Tryz.underlying203
    a33 := Tryz.isAgg203
    z33 := Tryz.sizeOf203
    v33 := Tryz.zeroValue203
    i33 := by kernel_rfl
    t66 := Tryz.underlying270
    a66 := Tryz.isAgg270
    z66 := Tryz.sizeOf270
    t68 := Tryz.underlying272
    a68 := Tryz.isAgg272
    z68 := Tryz.sizeOf272
    v68 := Tryz.zeroValue272
    i68 := by kernel_rfl
    t69 := Tryz.underlying273
    a69 := Tryz.isAgg273
    z69 := Tryz.sizeOf273
    v69 := Tryz.zeroValue273
    i69 := by kernel_rfl
    g2 := by kernel_rfl
    g3 := by kernel_rfl }
namespace YtahmcjdddcbhnaaGreatDoor
open Go.RowKit Go.Utf

/-- the library's two tables, and the program's, lie where they were laid -/
abbrev Tabs (w : World) : Prop := Lib.Utf8Tabs 1 2 w
theorem decR_walk {w : World} {b off n cp : Nat} {x : List UInt8} (hT : Tabs w) (hn : x.length = n) (hc : ∀ i u, (bv x)[i]? = some u → w.cell? ⟨b, off + i, none⟩ = some u) (h1 : 1 ≤ n) :
    Calls Tryz.prog 372 #[.slice (some ⟨b, off, none⟩) n cp] w fun e w' => e = .returned (.tuple #[.int .i32 ((Lib.decodeN n (byt x 0) (byt x 1) (byt x 2) (byt x 3)).1 : Nat), .int .i64 ((Lib.decodeN n (byt x 0) (byt x 1) (byt x 2) (byt x 3)).2 : Nat)]) ∧ Below w.heap.size w w' := by
  have hsz : (⟨x.toArray⟩ : ByteArray).size = n := by simpa [ByteArray.size] using hn
  have hg : ∀ i, ((⟨x.toArray⟩ : ByteArray).get! i).toNat = byt x i := fun i => by
    unfold byt ByteArray.get!
    simp [getElem!_def]
    cases x[i]? <;> rfl
  have key := Any7.utf8_DecodeRune YtahmcjdddcbhnaaGreatDoor.decR ⟨x.toArray⟩ b off cp w hT fun j hj => by
    rw [hsz] at hj
    refine hc j _ ?_
    unfold bv
    rw [List.getElem?_map, List.getElem?_eq_getElem (by omega)]
    rw [hg]
    simp [byt, List.getElem?_eq_getElem (show j < x.length by omega)]
  rw [hsz] at key
  refine key.mono ?_
  rintro e w' ⟨rfl, hb⟩
  have hd : Lib.decodeGo (⟨x.toArray⟩ : ByteArray) = Lib.decodeN n (byt x 0) (byt x 1) (byt x 2) (byt x 3) := by
    unfold Lib.decodeGo
    rw [if_neg (by omega), Lib.decode_at, hsz]
    simp only [hg, Nat.sub_zero, Nat.zero_add]
  rw [hd]
  exact ⟨rfl, hb⟩
theorem lt_cell {w : World} {p : Addr} {v : Value} (h : w.cell? p = some v) : p.block < w.heap.size := by
  unfold World.cell? at h
  rcases Nat.lt_or_ge p.block w.heap.size with h1 | h1
  · exact h1
  · rw [Array.getElem?_eq_none h1] at h
    simp at h
set_option maxHeartbeats 16000000 in
set_option maxRecDepth 1000000 in
theorem full_walk {w : World} {b off n cp : Nat} {x : List UInt8} (hT : Tabs w) (hn : x.length = n) (hc : ∀ i u, (bv x)[i]? = some u → w.cell? ⟨b, off + i, none⟩ = some u) (h1 : 1 ≤ n) (hbig : n ≤ 1000000000) :
    Calls Tryz.prog 371 #[.slice (some ⟨b, off, none⟩) n cp] w fun e w' => e = .returned (.bool (fullN n (byt x 0) (byt x 1) (byt x 2))) ∧ Below w.heap.size w w' := by
  have hcell : ∀ i, i < n → w.cell? ⟨b, off + i, none⟩ = some (.int .u8 (byt x i : Nat)) := fun i hi => by
    refine hc i _ ?_
    unfold bv byt
    rw [List.getElem?_map, List.getElem?_eq_getElem (by omega)]
    simp
  have c0 := hcell 0 (by omega)
  rw [Nat.add_zero] at c0
  have hl0 := byt_lt x 0
  have t0 := hT.1 (byt x 0) hl0
  obtain ⟨b0, hb0⟩ : ∃ z, byt x 0 = z := ⟨_, rfl⟩
  obtain ⟨b1, hb1⟩ : ∃ z, byt x 1 = z := ⟨_, rfl⟩
  obtain ⟨b2, hb2⟩ : ∃ z, byt x 2 = z := ⟨_, rfl⟩
  have hl1 : b1 < 256 := hb1 ▸ byt_lt x 1
  have hl2 : b2 < 256 := hb2 ▸ byt_lt x 2
  rw [hb0] at c0 hl0 t0
  have hb0I : (b0 : Int) < 256 := by omega
  have hb00 : (0 : Int) ≤ (b0 : Int) := Int.natCast_nonneg _
  unfold fullN
  rw [hb0, hb1, hb2]
  have hn0 : ((n : Int) == 0) = false := beq_eq_false_iff_ne.2 (by omega)
  rcases Lib.firstT_cases b0 with hx | hx | hx | hx | hx | hx | hx | hx | hx
  · rw [hx] at t0 ⊢
    have hs : ((0 : Int)) ≤ (n : Int) := by omega
    rw [if_pos (by omega)]
    clear hcell hT hn hc hb0 hb1 hb2
    go_enter Tryz.func371, Tryz.ntmps371
    go_wp2_with fail
    go_ret
    exact ⟨rfl, Below.refl _ _⟩
  · rw [hx] at t0 ⊢
    have hs : ((1 : Int)) ≤ (n : Int) := by omega
    rw [if_pos (by omega)]
    clear hcell hT hn hc hb0 hb1 hb2
    go_enter Tryz.func371, Tryz.ntmps371
    go_wp2_with fail
    go_ret
    exact ⟨rfl, Below.refl _ _⟩
  · rw [hx] at t0 ⊢
    obtain ⟨a0, a1⟩ := hT.2 0 (by omega)
    rw [show Lib.accLo 0 = 128 from rfl] at a0
    rw [show Lib.accHi 0 = 191 from rfl] at a1
    rw [show Lib.accLo (2 / 16) = 128 from rfl, show Lib.accHi (2 / 16) = 191 from rfl]
    simp only [Nat.mul_zero, Nat.reduceAdd] at a0 a1
    by_cases hs : (2 : Int) ≤ (n : Int)
    · rw [if_pos (by omega)]
      clear hcell hT hn hc hb0 hb1 hb2
      go_enter Tryz.func371, Tryz.ntmps371
      go_wp2_with fail
      go_ret
      exact ⟨rfl, Below.refl _ _⟩
    rw [if_neg (by omega)]
    obtain ⟨W0, hW0⟩ : ∃ z, w.alloc (.cells #[.int .u8 128, .int .u8 191] 272) = z := ⟨_, rfl⟩
    have hB0 : Below w.heap.size w W0 := by rw [← hW0]; exact (Below.refl _ _).alloc (Nat.le_refl _) _
    have qb : Blk W0 w.heap.size 272 #[.int .u8 128, .int .u8 191] := by rw [← hW0]; exact Blk.made w _ _
    have q0 := qb.at' 0
    have q1 := qb.at' 1
    simp at q0 q1
    have hBk := fun k => hB0.trans ((belowN W0 k).mono hB0.size)
    by_cases n1 : n = 1
    · have hn1 : ¬ (1 : Int) < (n : Int) := by omega
      have hn2 : ¬ (2 : Int) < (n : Int) := by omega
      have hd1 : decide ((1 : Int) < (n : Int)) = false := decide_eq_false hn1
      have hd1' : decide (1 < n) = false := decide_eq_false (by omega)
      rw [if_neg (by omega), if_neg (by omega)]
      clear hcell hT hn hc hb0 hb1 hb2 qb n1
      go_enter Tryz.func371, Tryz.ntmps371
      go_wp2_with fail
      go_quiet (fail)
      go_wp2_with fail
      go_ret
      exact ⟨rfl, hBk _⟩
    omega
  · rw [hx] at t0 ⊢
    obtain ⟨a0, a1⟩ := hT.2 1 (by omega)
    rw [show Lib.accLo 1 = 160 from rfl] at a0
    rw [show Lib.accHi 1 = 191 from rfl] at a1
    rw [show Lib.accLo (19 / 16) = 160 from rfl, show Lib.accHi (19 / 16) = 191 from rfl]
    simp only [Nat.reduceMul, Nat.reduceAdd] at a0 a1
    by_cases hs : (3 : Int) ≤ (n : Int)
    · rw [if_pos (by omega)]
      clear hcell hT hn hc hb0 hb1 hb2
      go_enter Tryz.func371, Tryz.ntmps371
      go_wp2_with fail
      go_ret
      exact ⟨rfl, Below.refl _ _⟩
    rw [if_neg (by omega)]
    obtain ⟨W0, hW0⟩ : ∃ z, w.alloc (.cells #[.int .u8 160, .int .u8 191] 272) = z := ⟨_, rfl⟩
    have hB0 : Below w.heap.size w W0 := by rw [← hW0]; exact (Below.refl _ _).alloc (Nat.le_refl _) _
    have qb : Blk W0 w.heap.size 272 #[.int .u8 160, .int .u8 191] := by rw [← hW0]; exact Blk.made w _ _
    have q0 := qb.at' 0
    have q1 := qb.at' 1
    simp at q0 q1
    have hBk := fun k => hB0.trans ((belowN W0 k).mono hB0.size)
    by_cases n1 : n = 1
    · have hn1 : ¬ (1 : Int) < (n : Int) := by omega
      have hn2 : ¬ (2 : Int) < (n : Int) := by omega
      have hd1 : decide ((1 : Int) < (n : Int)) = false := decide_eq_false hn1
      have hd1' : decide (1 < n) = false := decide_eq_false (by omega)
      rw [if_neg (by omega), if_neg (by omega)]
      clear hcell hT hn hc hb0 hb1 hb2 qb n1
      go_enter Tryz.func371, Tryz.ntmps371
      go_wp2_with fail
      go_quiet (fail)
      go_wp2_with fail
      go_ret
      exact ⟨rfl, hBk _⟩
    have c1 := hcell 1 (by omega)
    rw [hb1] at c1
    have d1 := (hB0.cell (p := ⟨b, off + 1, none⟩) (lt_cell c1)).trans c1
    have hn1 : (1 : Int) < (n : Int) := by omega
    have hd1 : decide ((1 : Int) < (n : Int)) = true := decide_eq_true hn1
    have hd1' : decide (1 < n) = true := decide_eq_true (by omega)
    by_cases k1 : (b1 : Int) < 160
    · have k1b : decide ((b1 : Int) < 160) = true := decide_eq_true k1
      have k1c : decide (b1 < 160) = true := decide_eq_true (by omega)
      rw [if_pos ⟨by omega, .inl (by omega)⟩]
      clear hcell hT hn hc hb0 hb1 hb2 qb n1
      go_enter Tryz.func371, Tryz.ntmps371
      go_wp2_with fail
      go_quiet (fail)
      go_wp2_with fail
      go_ret
      exact ⟨rfl, hBk _⟩
    have k1b : decide ((b1 : Int) < 160) = false := decide_eq_false k1
    have k1c : decide (b1 < 160) = false := decide_eq_false (by omega)
    by_cases k2 : (191 : Int) < (b1 : Int)
    · have k2b : decide ((191 : Int) < (b1 : Int)) = true := decide_eq_true k2
      have k2c : decide (191 < b1) = true := decide_eq_true (by omega)
      rw [if_pos ⟨by omega, .inr (by omega)⟩]
      clear hcell hT hn hc hb0 hb1 hb2 qb n1
      go_enter Tryz.func371, Tryz.ntmps371
      go_wp2_with fail
      go_quiet (fail)
      go_wp2_with fail
      go_ret
      exact ⟨rfl, hBk _⟩
    have k2b : decide ((191 : Int) < (b1 : Int)) = false := decide_eq_false k2
    have k2c : decide (191 < b1) = false := decide_eq_false (by omega)
    rw [if_neg (by omega)]
    by_cases n2 : n = 2
    · have hn2 : ¬ (2 : Int) < (n : Int) := by omega
      rw [if_neg (by omega)]
      clear hcell hT hn hc hb0 hb1 hb2 qb n1 n2
      go_enter Tryz.func371, Tryz.ntmps371
      go_wp2_with fail
      go_quiet (fail)
      go_wp2_with fail
      go_ret
      exact ⟨rfl, hBk _⟩
    omega
  · rw [hx] at t0 ⊢
    obtain ⟨a0, a1⟩ := hT.2 0 (by omega)
    rw [show Lib.accLo 0 = 128 from rfl] at a0
    rw [show Lib.accHi 0 = 191 from rfl] at a1
    rw [show Lib.accLo (3 / 16) = 128 from rfl, show Lib.accHi (3 / 16) = 191 from rfl]
    simp only [Nat.mul_zero, Nat.reduceAdd] at a0 a1
    by_cases hs : (3 : Int) ≤ (n : Int)
    · rw [if_pos (by omega)]
      clear hcell hT hn hc hb0 hb1 hb2
      go_enter Tryz.func371, Tryz.ntmps371
      go_wp2_with fail
      go_ret
      exact ⟨rfl, Below.refl _ _⟩
    rw [if_neg (by omega)]
    obtain ⟨W0, hW0⟩ : ∃ z, w.alloc (.cells #[.int .u8 128, .int .u8 191] 272) = z := ⟨_, rfl⟩
    have hB0 : Below w.heap.size w W0 := by rw [← hW0]; exact (Below.refl _ _).alloc (Nat.le_refl _) _
    have qb : Blk W0 w.heap.size 272 #[.int .u8 128, .int .u8 191] := by rw [← hW0]; exact Blk.made w _ _
    have q0 := qb.at' 0
    have q1 := qb.at' 1
    simp at q0 q1
    have hBk := fun k => hB0.trans ((belowN W0 k).mono hB0.size)
    by_cases n1 : n = 1
    · have hn1 : ¬ (1 : Int) < (n : Int) := by omega
      have hn2 : ¬ (2 : Int) < (n : Int) := by omega
      have hd1 : decide ((1 : Int) < (n : Int)) = false := decide_eq_false hn1
      have hd1' : decide (1 < n) = false := decide_eq_false (by omega)
      rw [if_neg (by omega), if_neg (by omega)]
      clear hcell hT hn hc hb0 hb1 hb2 qb n1
      go_enter Tryz.func371, Tryz.ntmps371
      go_wp2_with fail
      go_quiet (fail)
      go_wp2_with fail
      go_ret
      exact ⟨rfl, hBk _⟩
    have c1 := hcell 1 (by omega)
    rw [hb1] at c1
    have d1 := (hB0.cell (p := ⟨b, off + 1, none⟩) (lt_cell c1)).trans c1
    have hn1 : (1 : Int) < (n : Int) := by omega
    have hd1 : decide ((1 : Int) < (n : Int)) = true := decide_eq_true hn1
    have hd1' : decide (1 < n) = true := decide_eq_true (by omega)
    by_cases k1 : (b1 : Int) < 128
    · have k1b : decide ((b1 : Int) < 128) = true := decide_eq_true k1
      have k1c : decide (b1 < 128) = true := decide_eq_true (by omega)
      rw [if_pos ⟨by omega, .inl (by omega)⟩]
      clear hcell hT hn hc hb0 hb1 hb2 qb n1
      go_enter Tryz.func371, Tryz.ntmps371
      go_wp2_with fail
      go_quiet (fail)
      go_wp2_with fail
      go_ret
      exact ⟨rfl, hBk _⟩
    have k1b : decide ((b1 : Int) < 128) = false := decide_eq_false k1
    have k1c : decide (b1 < 128) = false := decide_eq_false (by omega)
    by_cases k2 : (191 : Int) < (b1 : Int)
    · have k2b : decide ((191 : Int) < (b1 : Int)) = true := decide_eq_true k2
      have k2c : decide (191 < b1) = true := decide_eq_true (by omega)
      rw [if_pos ⟨by omega, .inr (by omega)⟩]
      clear hcell hT hn hc hb0 hb1 hb2 qb n1
      go_enter Tryz.func371, Tryz.ntmps371
      go_wp2_with fail
      go_quiet (fail)
      go_wp2_with fail
      go_ret
      exact ⟨rfl, hBk _⟩
    have k2b : decide ((191 : Int) < (b1 : Int)) = false := decide_eq_false k2
    have k2c : decide (191 < b1) = false := decide_eq_false (by omega)
    rw [if_neg (by omega)]
    by_cases n2 : n = 2
    · have hn2 : ¬ (2 : Int) < (n : Int) := by omega
      rw [if_neg (by omega)]
      clear hcell hT hn hc hb0 hb1 hb2 qb n1 n2
      go_enter Tryz.func371, Tryz.ntmps371
      go_wp2_with fail
      go_quiet (fail)
      go_wp2_with fail
      go_ret
      exact ⟨rfl, hBk _⟩
    omega
  · rw [hx] at t0 ⊢
    obtain ⟨a0, a1⟩ := hT.2 2 (by omega)
    rw [show Lib.accLo 2 = 128 from rfl] at a0
    rw [show Lib.accHi 2 = 159 from rfl] at a1
    rw [show Lib.accLo (35 / 16) = 128 from rfl, show Lib.accHi (35 / 16) = 159 from rfl]
    simp only [Nat.reduceMul, Nat.reduceAdd] at a0 a1
    by_cases hs : (3 : Int) ≤ (n : Int)
    · rw [if_pos (by omega)]
      clear hcell hT hn hc hb0 hb1 hb2
      go_enter Tryz.func371, Tryz.ntmps371
      go_wp2_with fail
      go_ret
      exact ⟨rfl, Below.refl _ _⟩
    rw [if_neg (by omega)]
    obtain ⟨W0, hW0⟩ : ∃ z, w.alloc (.cells #[.int .u8 128, .int .u8 159] 272) = z := ⟨_, rfl⟩
    have hB0 : Below w.heap.size w W0 := by rw [← hW0]; exact (Below.refl _ _).alloc (Nat.le_refl _) _
    have qb : Blk W0 w.heap.size 272 #[.int .u8 128, .int .u8 159] := by rw [← hW0]; exact Blk.made w _ _
    have q0 := qb.at' 0
    have q1 := qb.at' 1
    simp at q0 q1
    have hBk := fun k => hB0.trans ((belowN W0 k).mono hB0.size)
    by_cases n1 : n = 1
    · have hn1 : ¬ (1 : Int) < (n : Int) := by omega
      have hn2 : ¬ (2 : Int) < (n : Int) := by omega
      have hd1 : decide ((1 : Int) < (n : Int)) = false := decide_eq_false hn1
      have hd1' : decide (1 < n) = false := decide_eq_false (by omega)
      rw [if_neg (by omega), if_neg (by omega)]
      clear hcell hT hn hc hb0 hb1 hb2 qb n1
      go_enter Tryz.func371, Tryz.ntmps371
      go_wp2_with fail
      go_quiet (fail)
      go_wp2_with fail
      go_ret
      exact ⟨rfl, hBk _⟩
    have c1 := hcell 1 (by omega)
    rw [hb1] at c1
    have d1 := (hB0.cell (p := ⟨b, off + 1, none⟩) (lt_cell c1)).trans c1
    have hn1 : (1 : Int) < (n : Int) := by omega
    have hd1 : decide ((1 : Int) < (n : Int)) = true := decide_eq_true hn1
    have hd1' : decide (1 < n) = true := decide_eq_true (by omega)
    by_cases k1 : (b1 : Int) < 128
    · have k1b : decide ((b1 : Int) < 128) = true := decide_eq_true k1
      have k1c : decide (b1 < 128) = true := decide_eq_true (by omega)
      rw [if_pos ⟨by omega, .inl (by omega)⟩]
      clear hcell hT hn hc hb0 hb1 hb2 qb n1
      go_enter Tryz.func371, Tryz.ntmps371
      go_wp2_with fail
      go_quiet (fail)
      go_wp2_with fail
      go_ret
      exact ⟨rfl, hBk _⟩
    have k1b : decide ((b1 : Int) < 128) = false := decide_eq_false k1
    have k1c : decide (b1 < 128) = false := decide_eq_false (by omega)
    by_cases k2 : (159 : Int) < (b1 : Int)
    · have k2b : decide ((159 : Int) < (b1 : Int)) = true := decide_eq_true k2
      have k2c : decide (159 < b1) = true := decide_eq_true (by omega)
      rw [if_pos ⟨by omega, .inr (by omega)⟩]
      clear hcell hT hn hc hb0 hb1 hb2 qb n1
      go_enter Tryz.func371, Tryz.ntmps371
      go_wp2_with fail
      go_quiet (fail)
      go_wp2_with fail
      go_ret
      exact ⟨rfl, hBk _⟩
    have k2b : decide ((159 : Int) < (b1 : Int)) = false := decide_eq_false k2
    have k2c : decide (159 < b1) = false := decide_eq_false (by omega)
    rw [if_neg (by omega)]
    by_cases n2 : n = 2
    · have hn2 : ¬ (2 : Int) < (n : Int) := by omega
      rw [if_neg (by omega)]
      clear hcell hT hn hc hb0 hb1 hb2 qb n1 n2
      go_enter Tryz.func371, Tryz.ntmps371
      go_wp2_with fail
      go_quiet (fail)
      go_wp2_with fail
      go_ret
      exact ⟨rfl, hBk _⟩
    omega
  · rw [hx] at t0 ⊢
    obtain ⟨a0, a1⟩ := hT.2 3 (by omega)
    rw [show Lib.accLo 3 = 144 from rfl] at a0
    rw [show Lib.accHi 3 = 191 from rfl] at a1
    rw [show Lib.accLo (52 / 16) = 144 from rfl, show Lib.accHi (52 / 16) = 191 from rfl]
    simp only [Nat.reduceMul, Nat.reduceAdd] at a0 a1
    by_cases hs : (4 : Int) ≤ (n : Int)
    · rw [if_pos (by omega)]
      clear hcell hT hn hc hb0 hb1 hb2
      go_enter Tryz.func371, Tryz.ntmps371
      go_wp2_with fail
      go_ret
      exact ⟨rfl, Below.refl _ _⟩
    rw [if_neg (by omega)]
    obtain ⟨W0, hW0⟩ : ∃ z, w.alloc (.cells #[.int .u8 144, .int .u8 191] 272) = z := ⟨_, rfl⟩
    have hB0 : Below w.heap.size w W0 := by rw [← hW0]; exact (Below.refl _ _).alloc (Nat.le_refl _) _
    have qb : Blk W0 w.heap.size 272 #[.int .u8 144, .int .u8 191] := by rw [← hW0]; exact Blk.made w _ _
    have q0 := qb.at' 0
    have q1 := qb.at' 1
    simp at q0 q1
    have hBk := fun k => hB0.trans ((belowN W0 k).mono hB0.size)
    by_cases n1 : n = 1
    · have hn1 : ¬ (1 : Int) < (n : Int) := by omega
      have hn2 : ¬ (2 : Int) < (n : Int) := by omega
      have hd1 : decide ((1 : Int) < (n : Int)) = false := decide_eq_false hn1
      have hd1' : decide (1 < n) = false := decide_eq_false (by omega)
      rw [if_neg (by omega), if_neg (by omega)]
      clear hcell hT hn hc hb0 hb1 hb2 qb n1
      go_enter Tryz.func371, Tryz.ntmps371
      go_wp2_with fail
      go_quiet (fail)
      go_wp2_with fail
      go_ret
      exact ⟨rfl, hBk _⟩
    have c1 := hcell 1 (by omega)
    rw [hb1] at c1
    have d1 := (hB0.cell (p := ⟨b, off + 1, none⟩) (lt_cell c1)).trans c1
    have hn1 : (1 : Int) < (n : Int) := by omega
    have hd1 : decide ((1 : Int) < (n : Int)) = true := decide_eq_true hn1
    have hd1' : decide (1 < n) = true := decide_eq_true (by omega)
    by_cases k1 : (b1 : Int) < 144
    · have k1b : decide ((b1 : Int) < 144) = true := decide_eq_true k1
      have k1c : decide (b1 < 144) = true := decide_eq_true (by omega)
      rw [if_pos ⟨by omega, .inl (by omega)⟩]
      clear hcell hT hn hc hb0 hb1 hb2 qb n1
      go_enter Tryz.func371, Tryz.ntmps371
      go_wp2_with fail
      go_quiet (fail)
      go_wp2_with fail
      go_ret
      exact ⟨rfl, hBk _⟩
    have k1b : decide ((b1 : Int) < 144) = false := decide_eq_false k1
    have k1c : decide (b1 < 144) = false := decide_eq_false (by omega)
    by_cases k2 : (191 : Int) < (b1 : Int)
    · have k2b : decide ((191 : Int) < (b1 : Int)) = true := decide_eq_true k2
      have k2c : decide (191 < b1) = true := decide_eq_true (by omega)
      rw [if_pos ⟨by omega, .inr (by omega)⟩]
      clear hcell hT hn hc hb0 hb1 hb2 qb n1
      go_enter Tryz.func371, Tryz.ntmps371
      go_wp2_with fail
      go_quiet (fail)
      go_wp2_with fail
      go_ret
      exact ⟨rfl, hBk _⟩
    have k2b : decide ((191 : Int) < (b1 : Int)) = false := decide_eq_false k2
    have k2c : decide (191 < b1) = false := decide_eq_false (by omega)
    rw [if_neg (by omega)]
    by_cases n2 : n = 2
    · have hn2 : ¬ (2 : Int) < (n : Int) := by omega
      rw [if_neg (by omega)]
      clear hcell hT hn hc hb0 hb1 hb2 qb n1 n2
      go_enter Tryz.func371, Tryz.ntmps371
      go_wp2_with fail
      go_quiet (fail)
      go_wp2_with fail
      go_ret
      exact ⟨rfl, hBk _⟩
    have c2 := hcell 2 (by omega)
    rw [hb2] at c2
    have d2 := (hB0.cell (p := ⟨b, off + 2, none⟩) (lt_cell c2)).trans c2
    have hn2 : (2 : Int) < (n : Int) := by omega
    by_cases k3 : (b2 : Int) < 128
    · rw [if_pos ⟨by omega, .inl (by omega)⟩]
      clear hcell hT hn hc hb0 hb1 hb2 qb n1 n2
      go_enter Tryz.func371, Tryz.ntmps371
      go_wp2_with fail
      go_quiet (fail)
      go_wp2_with fail
      go_ret
      exact ⟨rfl, hBk _⟩
    by_cases k4 : (191 : Int) < (b2 : Int)
    · rw [if_pos ⟨by omega, .inr (by omega)⟩]
      clear hcell hT hn hc hb0 hb1 hb2 qb n1 n2
      go_enter Tryz.func371, Tryz.ntmps371
      go_wp2_with fail
      go_quiet (fail)
      go_wp2_with fail
      go_ret
      exact ⟨rfl, hBk _⟩
    rw [if_neg (by omega)]
    clear hcell hT hn hc hb0 hb1 hb2 qb n1 n2
    go_enter Tryz.func371, Tryz.ntmps371
    go_wp2_with fail
    go_quiet (fail)
    go_wp2_with fail
    go_ret
    exact ⟨rfl, hBk _⟩
  · rw [hx] at t0 ⊢
    obtain ⟨a0, a1⟩ := hT.2 0 (by omega)
    rw [show Lib.accLo 0 = 128 from rfl] at a0
    rw [show Lib.accHi 0 = 191 from rfl] at a1
    rw [show Lib.accLo (4 / 16) = 128 from rfl, show Lib.accHi (4 / 16) = 191 from rfl]
    simp only [Nat.mul_zero, Nat.reduceAdd] at a0 a1
    by_cases hs : (4 : Int) ≤ (n : Int)
    · rw [if_pos (by omega)]
      clear hcell hT hn hc hb0 hb1 hb2
      go_enter Tryz.func371, Tryz.ntmps371
      go_wp2_with fail
      go_ret
      exact ⟨rfl, Below.refl _ _⟩
    rw [if_neg (by omega)]
    obtain ⟨W0, hW0⟩ : ∃ z, w.alloc (.cells #[.int .u8 128, .int .u8 191] 272) = z := ⟨_, rfl⟩
    have hB0 : Below w.heap.size w W0 := by rw [← hW0]; exact (Below.refl _ _).alloc (Nat.le_refl _) _
    have qb : Blk W0 w.heap.size 272 #[.int .u8 128, .int .u8 191] := by rw [← hW0]; exact Blk.made w _ _
    have q0 := qb.at' 0
    have q1 := qb.at' 1
    simp at q0 q1
    have hBk := fun k => hB0.trans ((belowN W0 k).mono hB0.size)
    by_cases n1 : n = 1
    · have hn1 : ¬ (1 : Int) < (n : Int) := by omega
      have hn2 : ¬ (2 : Int) < (n : Int) := by omega
      have hd1 : decide ((1 : Int) < (n : Int)) = false := decide_eq_false hn1
      have hd1' : decide (1 < n) = false := decide_eq_false (by omega)
      rw [if_neg (by omega), if_neg (by omega)]
      clear hcell hT hn hc hb0 hb1 hb2 qb n1
      go_enter Tryz.func371, Tryz.ntmps371
      go_wp2_with fail
      go_quiet (fail)
      go_wp2_with fail
      go_ret
      exact ⟨rfl, hBk _⟩
    have c1 := hcell 1 (by omega)
    rw [hb1] at c1
    have d1 := (hB0.cell (p := ⟨b, off + 1, none⟩) (lt_cell c1)).trans c1
    have hn1 : (1 : Int) < (n : Int) := by omega
    have hd1 : decide ((1 : Int) < (n : Int)) = true := decide_eq_true hn1
    have hd1' : decide (1 < n) = true := decide_eq_true (by omega)
    by_cases k1 : (b1 : Int) < 128
    · have k1b : decide ((b1 : Int) < 128) = true := decide_eq_true k1
      have k1c : decide (b1 < 128) = true := decide_eq_true (by omega)
      rw [if_pos ⟨by omega, .inl (by omega)⟩]
      clear hcell hT hn hc hb0 hb1 hb2 qb n1
      go_enter Tryz.func371, Tryz.ntmps371
      go_wp2_with fail
      go_quiet (fail)
      go_wp2_with fail
      go_ret
      exact ⟨rfl, hBk _⟩
    have k1b : decide ((b1 : Int) < 128) = false := decide_eq_false k1
    have k1c : decide (b1 < 128) = false := decide_eq_false (by omega)
    by_cases k2 : (191 : Int) < (b1 : Int)
    · have k2b : decide ((191 : Int) < (b1 : Int)) = true := decide_eq_true k2
      have k2c : decide (191 < b1) = true := decide_eq_true (by omega)
      rw [if_pos ⟨by omega, .inr (by omega)⟩]
      clear hcell hT hn hc hb0 hb1 hb2 qb n1
      go_enter Tryz.func371, Tryz.ntmps371
      go_wp2_with fail
      go_quiet (fail)
      go_wp2_with fail
      go_ret
      exact ⟨rfl, hBk _⟩
    have k2b : decide ((191 : Int) < (b1 : Int)) = false := decide_eq_false k2
    have k2c : decide (191 < b1) = false := decide_eq_false (by omega)
    rw [if_neg (by omega)]
    by_cases n2 : n = 2
    · have hn2 : ¬ (2 : Int) < (n : Int) := by omega
      rw [if_neg (by omega)]
      clear hcell hT hn hc hb0 hb1 hb2 qb n1 n2
      go_enter Tryz.func371, Tryz.ntmps371
      go_wp2_with fail
      go_quiet (fail)
      go_wp2_with fail
      go_ret
      exact ⟨rfl, hBk _⟩
    have c2 := hcell 2 (by omega)
    rw [hb2] at c2
    have d2 := (hB0.cell (p := ⟨b, off + 2, none⟩) (lt_cell c2)).trans c2
    have hn2 : (2 : Int) < (n : Int) := by omega
    by_cases k3 : (b2 : Int) < 128
    · rw [if_pos ⟨by omega, .inl (by omega)⟩]
      clear hcell hT hn hc hb0 hb1 hb2 qb n1 n2
      go_enter Tryz.func371, Tryz.ntmps371
      go_wp2_with fail
      go_quiet (fail)
      go_wp2_with fail
      go_ret
      exact ⟨rfl, hBk _⟩
    by_cases k4 : (191 : Int) < (b2 : Int)
    · rw [if_pos ⟨by omega, .inr (by omega)⟩]
      clear hcell hT hn hc hb0 hb1 hb2 qb n1 n2
      go_enter Tryz.func371, Tryz.ntmps371
      go_wp2_with fail
      go_quiet (fail)
      go_wp2_with fail
      go_ret
      exact ⟨rfl, hBk _⟩
    rw [if_neg (by omega)]
    clear hcell hT hn hc hb0 hb1 hb2 qb n1 n2
    go_enter Tryz.func371, Tryz.ntmps371
    go_wp2_with fail
    go_quiet (fail)
    go_wp2_with fail
    go_ret
    exact ⟨rfl, hBk _⟩
  · rw [hx] at t0 ⊢
    obtain ⟨a0, a1⟩ := hT.2 4 (by omega)
    rw [show Lib.accLo 4 = 128 from rfl] at a0
    rw [show Lib.accHi 4 = 143 from rfl] at a1
    rw [show Lib.accLo (68 / 16) = 128 from rfl, show Lib.accHi (68 / 16) = 143 from rfl]
    simp only [Nat.reduceMul, Nat.reduceAdd] at a0 a1
    by_cases hs : (4 : Int) ≤ (n : Int)
    · rw [if_pos (by omega)]
      clear hcell hT hn hc hb0 hb1 hb2
      go_enter Tryz.func371, Tryz.ntmps371
      go_wp2_with fail
      go_ret
      exact ⟨rfl, Below.refl _ _⟩
    rw [if_neg (by omega)]
    obtain ⟨W0, hW0⟩ : ∃ z, w.alloc (.cells #[.int .u8 128, .int .u8 143] 272) = z := ⟨_, rfl⟩
    have hB0 : Below w.heap.size w W0 := by rw [← hW0]; exact (Below.refl _ _).alloc (Nat.le_refl _) _
    have qb : Blk W0 w.heap.size 272 #[.int .u8 128, .int .u8 143] := by rw [← hW0]; exact Blk.made w _ _
    have q0 := qb.at' 0
    have q1 := qb.at' 1
    simp at q0 q1
    have hBk := fun k => hB0.trans ((belowN W0 k).mono hB0.size)
    by_cases n1 : n = 1
    · have hn1 : ¬ (1 : Int) < (n : Int) := by omega
      have hn2 : ¬ (2 : Int) < (n : Int) := by omega
      have hd1 : decide ((1 : Int) < (n : Int)) = false := decide_eq_false hn1
      have hd1' : decide (1 < n) = false := decide_eq_false (by omega)
      rw [if_neg (by omega), if_neg (by omega)]
      clear hcell hT hn hc hb0 hb1 hb2 qb n1
      go_enter Tryz.func371, Tryz.ntmps371
      go_wp2_with fail
      go_quiet (fail)
      go_wp2_with fail
      go_ret
      exact ⟨rfl, hBk _⟩
    have c1 := hcell 1 (by omega)
    rw [hb1] at c1
    have d1 := (hB0.cell (p := ⟨b, off + 1, none⟩) (lt_cell c1)).trans c1
    have hn1 : (1 : Int) < (n : Int) := by omega
    have hd1 : decide ((1 : Int) < (n : Int)) = true := decide_eq_true hn1
    have hd1' : decide (1 < n) = true := decide_eq_true (by omega)
    by_cases k1 : (b1 : Int) < 128
    · have k1b : decide ((b1 : Int) < 128) = true := decide_eq_true k1
      have k1c : decide (b1 < 128) = true := decide_eq_true (by omega)
      rw [if_pos ⟨by omega, .inl (by omega)⟩]
      clear hcell hT hn hc hb0 hb1 hb2 qb n1
      go_enter Tryz.func371, Tryz.ntmps371
      go_wp2_with fail
      go_quiet (fail)
      go_wp2_with fail
      go_ret
      exact ⟨rfl, hBk _⟩
    have k1b : decide ((b1 : Int) < 128) = false := decide_eq_false k1
    have k1c : decide (b1 < 128) = false := decide_eq_false (by omega)
    by_cases k2 : (143 : Int) < (b1 : Int)
    · have k2b : decide ((143 : Int) < (b1 : Int)) = true := decide_eq_true k2
      have k2c : decide (143 < b1) = true := decide_eq_true (by omega)
      rw [if_pos ⟨by omega, .inr (by omega)⟩]
      clear hcell hT hn hc hb0 hb1 hb2 qb n1
      go_enter Tryz.func371, Tryz.ntmps371
      go_wp2_with fail
      go_quiet (fail)
      go_wp2_with fail
      go_ret
      exact ⟨rfl, hBk _⟩
    have k2b : decide ((143 : Int) < (b1 : Int)) = false := decide_eq_false k2
    have k2c : decide (143 < b1) = false := decide_eq_false (by omega)
    rw [if_neg (by omega)]
    by_cases n2 : n = 2
    · have hn2 : ¬ (2 : Int) < (n : Int) := by omega
      rw [if_neg (by omega)]
      clear hcell hT hn hc hb0 hb1 hb2 qb n1 n2
      go_enter Tryz.func371, Tryz.ntmps371
      go_wp2_with fail
      go_quiet (fail)
      go_wp2_with fail
      go_ret
      exact ⟨rfl, hBk _⟩
    have c2 := hcell 2 (by omega)
    rw [hb2] at c2
    have d2 := (hB0.cell (p := ⟨b, off + 2, none⟩) (lt_cell c2)).trans c2
    have hn2 : (2 : Int) < (n : Int) := by omega
    by_cases k3 : (b2 : Int) < 128
    · rw [if_pos ⟨by omega, .inl (by omega)⟩]
      clear hcell hT hn hc hb0 hb1 hb2 qb n1 n2
      go_enter Tryz.func371, Tryz.ntmps371
      go_wp2_with fail
      go_quiet (fail)
      go_wp2_with fail
      go_ret
      exact ⟨rfl, hBk _⟩
    by_cases k4 : (191 : Int) < (b2 : Int)
    · rw [if_pos ⟨by omega, .inr (by omega)⟩]
      clear hcell hT hn hc hb0 hb1 hb2 qb n1 n2
      go_enter Tryz.func371, Tryz.ntmps371
      go_wp2_with fail
      go_quiet (fail)
      go_wp2_with fail
      go_ret
      exact ⟨rfl, hBk _⟩
    rw [if_neg (by omega)]
    clear hcell hT hn hc hb0 hb1 hb2 qb n1 n2
    go_enter Tryz.func371, Tryz.ntmps371
    go_wp2_with fail
    go_quiet (fail)
    go_wp2_with fail
    go_ret
    exact ⟨rfl, hBk _⟩
end YtahmcjdddcbhnaaGreatDoor
end Go.Proofs
namespace Go.Proofs.YtahmcjdddcbhnaaGreatDoor
open Go Go.RowKit Go.Utf

theorem Tabs.below {w w' : World} (h : Tabs w) (hb : Below w.heap.size w w') : Tabs w' :=
  ⟨fun c hc => (hb.cell (p := ⟨1, c, none⟩) (lt_cell (h.1 c hc))).trans (h.1 c hc), fun i hi => ⟨(hb.cell (p := ⟨2, 2 * i, none⟩) (lt_cell (h.2 i hi).1)).trans (h.2 i hi).1, (hb.cell (p := ⟨2, 2 * i + 1, none⟩) (lt_cell (h.2 i hi).2)).trans (h.2 i hi).2⟩⟩
theorem prs_nil {S : List Nat} {r : List UInt8} (h : Prs [] S r) : S = [] ∧ r = [] := by
  cases h with
  | nil => exact ⟨rfl, rfl⟩
  | cons hb _ _ => exact absurd rfl hb
theorem prs_ok {b : List UInt8} {S : List Nat} {r : List UInt8} {c k : Nat} (h : Prs b S r) (hs : Stop r) (hb : b ≠ []) (ho : Utf.one b = .ok c k) : ∃ S', S = c :: S' ∧ Prs (b.drop k) S' r := by
  cases h with
  | nil =>
    rcases hs with e | e
    · exact absurd e hb
    · exact absurd ho (e _ _)
  | cons hb' ho' h' =>
    rw [ho] at ho'
    cases ho'
    exact ⟨_, rfl, h'⟩
theorem prs_no {b : List UInt8} {S : List Nat} {r : List UInt8} (h : Prs b S r) (ho : ∀ c k, Utf.one b ≠ .ok c k) : S = [] ∧ r = b := by
  cases h with
  | nil => exact ⟨rfl, rfl⟩
  | cons _ ho' _ => exact absurd ho' (ho _ _)
/-- what whole says -/
def wholeE (x r : List UInt8) : Int × Bool := match r, Utf.one r with
  | _ :: _, .bad => (0, false)
  | _, _ => ((x.length : Int) - r.length, true)
theorem wholeE_nil (x : List UInt8) : wholeE x [] = ((x.length : Int), true) := by unfold wholeE; simp
theorem wholeE_more {x r : List UInt8} (h : Utf.one r = .more) : wholeE x r = ((x.length : Int) - r.length, true) := by
  unfold wholeE
  rw [h]
  cases r <;> rfl
theorem wholeE_bad {x r : List UInt8} (hr : r ≠ []) (h : Utf.one r = .bad) : wholeE x r = (0, false) := by
  unfold wholeE
  rw [h]
  cases r with
  | nil => exact absurd rfl hr
  | cons _ _ => rfl
set_option maxHeartbeats 8000000 in
set_option maxRecDepth 1000000 in
theorem whole_walk {w : World} {v : Value} {x : List UInt8} {S : List Nat} {r : List UInt8} (hT : Tabs w) (hv : Sees w 1 v (bv x)) (hx : x.length ≤ 100000000) (hp : Prs x S r) (hs : Stop r) :
    Calls Tryz.prog 359 #[v] w fun e w' => e = .returned (.tuple #[.int .i64 (wholeE x r).1, .bool (wholeE x r).2]) ∧ Below w.heap.size w w' := by
  obtain ⟨A, n, cp, rfl, h1, h2, h3⟩ := hv
  have hn : x.length = n := by rw [bv_len] at h1; omega
  obtain ⟨R1, hR1⟩ : ∃ z, (wholeE x r).1 = z := ⟨_, rfl⟩
  obtain ⟨R2, hR2⟩ : ∃ z, (wholeE x r).2 = z := ⟨_, rfl⟩
  have HR := Lib.hid (And.intro hR1 hR2)
  rw [hR1, hR2]
  have HT := Lib.hid hT
  have HP := Lib.hid hp
  have HN := Lib.hid hn
  have HS := Lib.hid hs
  have H3 := Lib.hid h3
  have hbig : n ≤ 100000000 := by omega
  clear hT hp hs hn h1 h3 hR1 hR2
  go_enter Tryz.func359, Tryz.ntmps359
  go_wp2_with fail
  go_loopw [4] (fun iv wr => ∃ (j : Nat) (S' : List Nat), j ≤ n ∧ iv = .int .i64 j ∧ Below w.heap.size w wr ∧ Hid (Prs (x.drop j) S' r)) (fun iv _ => n - (intOf iv).toNat)
  case atStart => exact ⟨0, S, Nat.zero_le _, rfl, Below.refl _ _, Lib.hid (by simpa using HP.out)⟩
  case round =>
    obtain ⟨j, S', hj, rfl, hbel, hP⟩ := hrel
    have hj0 : (0 : Int) ≤ (j : Int) := Int.natCast_nonneg _
    by_cases hjn : j < n
    case neg =>
      have hjn' : ¬ (j : Int) < (n : Int) := by omega
      have e : x.drop j = [] := List.drop_eq_nil_of_le (by have := HN.out; omega)
      have hp := hP.out
      rw [e] at hp
      have hr : r = [] := (prs_nil hp).2
      have hRR := HR.out
      rw [hr, wholeE_nil] at hRR
      have hRH := Lib.hid hRR
      have hHN := HN.out
      have hjj : Hid (j = n) := Lib.hid (by omega)
      clear hp hRR e hr hHN hjn
      go_wp2_with fail
      go_ret2
      obtain ⟨a1, a2⟩ := hRH.out
      refine ⟨?_, hbel⟩
      rw [← a1, ← a2, HN.out, ← hjj.out]
      rfl
    have hjn' : (j : Int) < (n : Int) := by omega
    obtain ⟨b, s, rfl, hb, hcc⟩ := H3.out (by omega)
    have hlen : (x.drop j).length = n - j := by rw [List.length_drop, HN.out]
    have hne : x.drop j ≠ [] := fun e => by rw [e] at hlen; simp at hlen; omega
    have hcell : ∀ i u, (bv (x.drop j))[i]? = some u → wr.cell? ⟨b, s + j + i, none⟩ = some u := fun i u hu => by
      have : (bv x)[j + i]? = some u := by
        unfold bv at hu ⊢
        rw [List.map_drop, List.getElem?_drop] at hu
        exact hu
      rw [Nat.add_assoc]
      exact (hbel.cell (p := ⟨b, s + (j + i), none⟩) hb).trans (hcc _ _ this)
    have hTr := HT.out.below hbel
    have hfull := full_walk (cp := cp - j) hTr hlen hcell (by omega) (by omega)
    have hcpj : ¬ cp = j := by omega
    have hFO := full_one (n := n - j) (b0 := byt (x.drop j) 0) (b1 := byt (x.drop j) 1) (b2 := byt (x.drop j) 2) (b3 := byt (x.drop j) 3) (by omega)
    have hDO := dec_one (n := n - j) (b0 := byt (x.drop j) 0) (b1 := byt (x.drop j) 1) (b2 := byt (x.drop j) 2) (b3 := byt (x.drop j) 3) (by omega) (byt_lt _ _) (byt_lt _ _) (byt_lt _ _) (byt_lt _ _)
    have hone : Utf.one (x.drop j) = oneN (n - j) (byt (x.drop j) 0) (byt (x.drop j) 1) (byt (x.drop j) 2) (byt (x.drop j) 3) := by unfold Utf.one; rw [hlen]
    cases ho : Utf.one (x.drop j) with
    | more =>
      have hff : fullN (n - j) (byt (x.drop j) 0) (byt (x.drop j) 1) (byt (x.drop j) 2) = false := by
        rw [Bool.eq_false_iff]
        intro e
        exact hFO.1 e (hone.symm.trans ho)
      rw [hff] at hfull
      have hr : r = x.drop j := (prs_no hP.out fun c k e => by rw [ho] at e; cases e).2
      have hRR := HR.out
      rw [wholeE_more (by rw [hr]; exact ho), hr, hlen] at hRR
      have hRH := Lib.hid hRR
      clear hFO hDO hone hcell hcc hlen hne hr hRR ho hff hTr
      go_wp2_with (first
        | (go_at_call 371; refine hfull.mono ?_; clear hfull; rintro _ w1 ⟨rfl, hb1⟩)
        | fail)
      go_ret2
      obtain ⟨a1, a2⟩ := hRH.out
      refine ⟨?_, hbel.trans (hb1.mono hbel.size)⟩
      rw [← a1, ← a2, HN.out]
      congr 4
      simp
      omega
    | bad =>
      have hft : fullN (n - j) (byt (x.drop j) 0) (byt (x.drop j) 1) (byt (x.drop j) 2) = true := hFO.2 (by rw [← hone, ho]; intro e; cases e)
      rw [hft] at hfull
      have hd : Lib.decodeN (n - j) (byt (x.drop j) 0) (byt (x.drop j) 1) (byt (x.drop j) 2) (byt (x.drop j) 3) = (65533, 1) := hDO.2 (hone.symm.trans ho)
      have hdec := fun w1 (hb : Below wr.heap.size wr w1) => decR_walk (w := w1) (b := b) (off := s + j) (cp := cp - j) (hTr.below hb) hlen (fun i u hu => (hb.cell (p := ⟨b, s + j + i, none⟩) (lt_cell (hcell i u hu))).trans (hcell i u hu)) (by omega)
      rw [hd] at hdec
      have hr : r = x.drop j := (prs_no hP.out fun c k e => by rw [ho] at e; cases e).2
      have hRR := HR.out
      rw [wholeE_bad (by rw [hr]; exact hne) (by rw [hr]; exact ho)] at hRR
      have hRH := Lib.hid hRR
      clear hFO hDO hone hcell hcc hlen hne hr hRR ho hft hTr hd
      go_wp2_with (first
        | (go_at_call 371; refine hfull.mono ?_; clear hfull; rintro _ w1 ⟨rfl, hb1⟩; have hdec1 := hdec w1 hb1; clear hdec)
        | (go_at_call 372; refine hdec1.mono ?_; clear hdec1; rintro _ w2 ⟨rfl, hb2⟩)
        | fail)
      go_ret2
      obtain ⟨a1, a2⟩ := hRH.out
      have hb12 := hb1.trans (hb2.mono hb1.size)
      refine ⟨?_, hbel.trans (hb12.mono hbel.size)⟩
      rw [← a1, ← a2]
      rfl
    | ok c k =>
      have hft : fullN (n - j) (byt (x.drop j) 0) (byt (x.drop j) 1) (byt (x.drop j) 2) = true := hFO.2 (by rw [← hone, ho]; intro e; cases e)
      rw [hft] at hfull
      have hd : Lib.decodeN (n - j) (byt (x.drop j) 0) (byt (x.drop j) 1) (byt (x.drop j) 2) (byt (x.drop j) 3) = (c, k) := hDO.1 _ _ (hone.symm.trans ho)
      have hdec := fun w1 (hb : Below wr.heap.size wr w1) => decR_walk (w := w1) (b := b) (off := s + j) (cp := cp - j) (hTr.below hb) hlen (fun i u hu => (hb.cell (p := ⟨b, s + j + i, none⟩) (lt_cell (hcell i u hu))).trans (hcell i u hu)) (by omega)
      rw [hd] at hdec
      obtain ⟨⟨hk1, hk4, hkl⟩, -, hk8⟩ := one_ok hne ho
      obtain ⟨S'', -, hP'⟩ := prs_ok hP.out HS.out hne ho
      rw [List.drop_drop] at hP'
      have HP' := Lib.hid hP'
      have hkI : (1 : Int) ≤ (k : Int) := by omega
      have hkn : (j : Int) + (k : Int) ≤ (n : Int) := by omega
      have hjk : j + k ≤ n := by omega
      have hc65 : ((c : Int) == 65533) = false ∨ (((c : Int) == 65533) = true ∧ ((k : Int) == 1) = false) := by
        by_cases e : c = 65533
        · exact .inr ⟨by simp [e], beq_eq_false_iff_ne.2 (by omega)⟩
        · exact .inl (beq_eq_false_iff_ne.2 (by omega))
      clear hFO hDO hone hcell hcc hlen hne ho hft hTr hd hP' hk8
      rcases hc65 with hce | ⟨hce, hk1b⟩
      all_goals
        go_wp2_with (first
          | (go_at_call 371; refine hfull.mono ?_; clear hfull; rintro _ w1 ⟨rfl, hb1⟩; have hdec1 := hdec w1 hb1; clear hdec)
          | (go_at_call 372; refine hdec1.mono ?_; clear hdec1; rintro _ w2 ⟨rfl, hb2⟩)
          | fail)
        have hb12 := hb1.trans (hb2.mono hb1.size)
        go_roundw
        case rel => exact ⟨j + k, S'', hjk, by go_num, hbel.trans (hb12.mono hbel.size), HP'⟩
        case measure => simp [intOf]; omega
end Go.Proofs.YtahmcjdddcbhnaaGreatDoor
namespace Go.Proofs.YtahmcjdddcbhnaaGreatDoor
open Go Go.ChangeShapes Go.WideShapes Go.ChangeAt Go.RowKit Go.Deep
theorem cellsU8 : Tryz.prog.cellsOf 5 = 1 := by kernel_rfl
section
variable {H : Type} {enc : TypeId × Value → H}
/-- the numbers of bytes are bytes -/
theorem bv_ofInts (zs : List Int) (h : ∀ z ∈ zs, 0 ≤ z ∧ z ≤ 255) : bv (zs.map fun z => UInt8.ofNat z.toNat) = zs.map (Value.int .u8) := by
  unfold bv
  rw [List.map_map]
  refine List.map_congr_left fun z hz => ?_
  have := h z hz
  simp only [Function.comp_apply, UInt8.toNat_ofNat']
  congr 1
  omega
set_option maxRecDepth 100000 in
theorem read_bytes {W : World} {base : Nat} {v : Value} {d : DataW H} {ps : List MemPlace} (hval : Value.okWide Tryz.prog W .any base 23 v) (h : DataW.Trod enc Tryz.prog W 0 (fun _ => true) true 23 v d ps) :
    ∃ R, (Sees W 1 v (bv R) ∧ R.length ≤ 9223372036854775807) ∧ ∀ W' : World, (∀ b, b < W.heap.size → W'.heap[b]? = W.heap[b]?) → DataW.Trod enc Tryz.prog W' 0 (fun b => decide (b < W.heap.size)) true 23 v d ps := by
  obtain ⟨a0, len, cap, rfl⟩ := okWide_slice Tryz.underlying23 hval
  obtain ⟨fuel, hf⟩ := h
  rcases open_ints Tryz.underlying23 Tryz.underlying5 cellsU8 hf with ⟨hcs, hx⟩ | ⟨a, len', cap', zs, hcs, _, hl, hm, hz, hx, hcell, hwz⟩
  · simp [Value.cells] at hcs
    obtain ⟨rfl, rfl, rfl⟩ := hcs
    simp only [Prod.mk.injEq] at hx
    obtain ⟨rfl, rfl⟩ := hx
    refine ⟨[], ⟨⟨_, _, _, rfl, rfl, Nat.le_refl _, fun h => absurd rfl h⟩, by decide⟩, fun W' _ => ⟨1, ?_⟩⟩
    simp [DataW.trod, Tryz.underlying23, Value.cells]
  · simp [Value.cells] at hcs
    obtain ⟨rfl, rfl, rfl⟩ := hcs
    simp only [Prod.mk.injEq] at hx
    obtain ⟨rfl, rfl⟩ := hx
    simp only [if_true] at hz
    have hlt : (zs.take len).length = len := by simp; omega
    have hbd : ∀ z ∈ zs, 0 ≤ z ∧ z ≤ 255 := fun z hz => by
      have := hwz z hz
      simp [Lit.wf, IntKind.min, IntKind.max, IntKind.signed, IntKind.bits] at this
      omega
    refine ⟨(zs.take len).map fun z => UInt8.ofNat z.toNat, ⟨⟨_, _, _, rfl, ?_, hl, fun h => ?_⟩, by rw [List.length_map, hlt]; unfold maxLen at hm; omega⟩, fun W' hW' => ?_⟩
    · rw [bv_len, List.length_map, hlt, Nat.mul_one]
    · have hpos : 0 < zs.length := by omega
      obtain ⟨b, off, rfl, hc⟩ := ints_at hcell hpos
      refine ⟨b, off, rfl, ?_, fun i u hi => ?_⟩
      · have := hc 0 hpos
        simp only [World.cell?] at this
        by_cases hb : b < W.heap.size
        · exact hb
        · rw [Array.getElem?_eq_none (by omega)] at this
          simp at this
      · rw [bv_ofInts _ (fun z hz => hbd z (List.mem_of_mem_take hz)), List.getElem?_map] at hi
        cases hg : (zs.take len)[i]? with
        | none => rw [hg] at hi; cases hi
        | some z =>
          rw [hg] at hi
          obtain rfl : Value.int .u8 z = u := Option.some.inj hi
          have hil : i < len := by
            have := (List.getElem?_eq_some_iff.1 hg).1
            omega
          rw [List.getElem?_take, if_pos hil] at hg
          rw [hc i (by have := (List.getElem?_eq_some_iff.1 hg).1; omega)]
          simp [List.getD, hg]
    · refine ⟨2, shut_ints 0 Tryz.underlying23 Tryz.underlying5 cellsU8 (Nat.zero_le _) hl hm ?_ (fun i hi => ?_) hwz⟩
      · rcases Nat.eq_zero_or_pos zs.length with h0 | h0
        · split <;> omega
        · obtain ⟨b, off, rfl, hc⟩ := ints_at hcell h0
          have hb : b < W.heap.size := by
            have := hc 0 h0
            simp only [World.cell?] at this
            by_cases hb : b < W.heap.size
            · exact hb
            · rw [Array.getElem?_eq_none (by omega)] at this
              simp at this
          simp [hb, hz]
      · obtain ⟨b, off, rfl, hc⟩ := ints_at hcell (by omega)
        have hci := hcell i hi
        rw [Go.WideShapes.add_plain] at hci ⊢
        rw [← hci]
        have hb : b < W.heap.size := by
          have := hc 0 (by omega)
          simp only [World.cell?] at this
          by_cases hb : b < W.heap.size
          · exact hb
          · rw [Array.getElem?_eq_none (by omega)] at this
            simp at this
        simp only [World.cell?]
        rw [hW' b hb]
end
end Go.Proofs.YtahmcjdddcbhnaaGreatDoor
namespace Go.Proofs.YtahmcjdddcbhnaaGreatDoor
open Go Go.Ev Go.RowKit

section
variable {w w' : World} {A A2 : List (Pth × O)} {σ τ : Nat → Int} {ι : Emb}
/-- the same blocks, looked at through another pattern -/
theorem Lies.fit {asg : Asg} {spec : Ev.Spec} {l0 : Asc} (h : Lies w A σ ι) (hfit : fitF asg spec l0 A2 (hp A) = true) (hn : Num asg spec σ τ) :
    ∃ ι2, Lies w A2 τ ι2 ∧ (∀ b, foot ι2 A2 b → foot ι A b) ∧ ∀ e ∈ l0, ι2 e.1 = ι e.2 := by
  obtain ⟨ι2, h1, h2, h3⟩ := fit_core hfit hn h.sym (Step.refl h.hok)
  refine ⟨ι2, h1, fun b hb => ?_, h3⟩
  rcases h2 b hb with ⟨q, s, g1, g2⟩ | g
  · exact ⟨q, s, g1, g2⟩
  · have := h1.lt hb
    omega
theorem hok_fit {H : Heap} {asg : Asg} {spec : Ev.Spec} {l0 : Asc} (h : HOK Tryz.prog ι H w) (hs : ι.sym = σ) (hfit : fitF asg spec l0 A2 H = true) (hn : Num asg spec σ τ) :
    ∃ ι2, Lies w A2 τ ι2 ∧ (∀ b, foot ι2 A2 b → ∃ q s, Live H q ∧ ι q = some (b, s)) ∧ ∀ e ∈ l0, ι2 e.1 = ι e.2 := by
  obtain ⟨ι2, h1, h2, h3⟩ := fit_core hfit hn hs (Step.refl h)
  refine ⟨ι2, h1, fun b hb => ?_, h3⟩
  rcases h2 b hb with ⟨q, s, g1, g2⟩ | g
  · exact ⟨q, s, g1, g2⟩
  · have := h1.lt hb
    omega
/-- one block more -/
theorem Lies.add (h : Lies w A σ ι) {p : Pth} (hp : p ∉ names A) {c : List V} {cs : Array Value} (t : TypeId) (hc : V.rels ι c cs.toList) :
    ∃ ι2, Lies (w.alloc (.cells cs t)) ((p, .cells c) :: A) σ ι2 ∧ ι2 p = some (w.heap.size, 0) ∧ ι2.size w.heap.size = cs.size ∧ (∀ q z, ι q = some z → ι2 q = some z) ∧ ∀ b, foot ι2 ((p, .cells c) :: A) b → foot ι A b ∨ b = w.heap.size := by
  have hι : ι p = none := by
    cases h0 : ι p with
    | none => rfl
    | some z => exact absurd (h.dom p (by rw [h0]; simp)) hp
  have hn : (Ev.hp A).get p = none := hp_none hp
  have bel : Below w.heap.size w (w.alloc (.cells cs t)) := (Below.refl _ _).alloc (Nat.le_refl _) _
  have hle := upd_le_new (T := cs.size) hι h.hok
  have st : Step Tryz.prog ι (Ev.hp A) w (upd ι p (w.heap.size, 0) cs.size) (Tr.set p (.cells c) (Ev.hp A)) (w.alloc (.cells cs t)) := by
    refine Step.fresh h.hok hn hι (Nat.le_refl _) (by rw [World.size_alloc]; omega) bel ⟨w.heap.size, 0, cs, t, (0, 0), upd_same _ _ _ _, heap_alloc_new w _, .inl rfl, ?_, upd_size _ _ _ _, rfl⟩
    rw [List.drop_zero, List.take_of_length_le (by rw [rels_length hc]; exact Nat.le_refl _)]
    exact V.rels.mono hle _ _ hc
  refine ⟨upd ι p (w.heap.size, 0) cs.size, ⟨h.sym, ?_, fun q hq => ?_⟩, upd_same _ _ _ _, upd_size _ _ _ _, fun q z hz => st.ext.name q z hz, fun b hb => ?_⟩
  · show HOK Tryz.prog _ (Ev.hp ((p, .cells c) :: A)) _
    rw [hp_cons]; exact st.hok
  · show q ∈ p :: names A
    by_cases e : p = q
    · exact e ▸ List.mem_cons_self ..
    · rw [upd_other e] at hq
      exact List.mem_cons_of_mem _ (h.dom q hq)
  · obtain ⟨q, s, ⟨o, hl1, hl2⟩, hq⟩ := hb
    rw [hp_cons, Tr.get_set] at hl1
    by_cases e : p = q
    · subst e
      rw [upd_same] at hq
      cases hq
      exact .inr rfl
    · rw [if_neg e] at hl1
      rw [upd_other e] at hq
      exact .inl ⟨q, s, ⟨o, hl1, hl2⟩, hq⟩
theorem rels_set : ∀ {c : List V} {xs : List Value} {j : Nat} {v : V} {x : Value}, V.rels ι c xs → V.rel ι v x → V.rels ι (c.set j v) (xs.set j x)
  | [], xs, j, v, x, h, _ => by rw [rels_nil_inv h]; exact rels_nil
  | a :: c, xs, j, v, x, h, hx => by
    obtain ⟨y, ys, rfl, hy, ht⟩ := rels_cons_inv h
    cases j with
    | zero => exact rels_cons hx ht
    | succ j => exact rels_cons hy (rels_set ht hx)
/-- a cell stored anew -/
theorem Lies.put (h : Lies w A σ ι) {p : Pth} {c : List V} (hp : (Ev.hp A).get p = some (.cells c)) {b : Nat} (hb : ι p = some (b, 0)) {j : Nat} {v : V} {x : Value} (_hj : j < c.length) (hx : V.rel ι v x) :
    HOK Tryz.prog ι (Tr.set p (.cells (c.set j v)) (Ev.hp A)) (w.setCell ⟨b, j, none⟩ x) := by
  have lv : ∀ {q}, Live (Tr.set p (.cells (c.set j v)) (Ev.hp A)) q → Live (Ev.hp A) q := fun {q} hl => by
    obtain ⟨o, h1, h2⟩ := hl
    rw [Tr.get_set] at h1
    by_cases e : p = q
    · subst e; exact ⟨_, hp, by simp⟩
    · rw [if_neg e] at h1; exact ⟨o, h1, h2⟩
  have hlp : Live (Ev.hp A) p := ⟨_, hp, by simp⟩
  obtain ⟨b', s', cs, el, fr, g1, g2, g3, g4, g5, g6⟩ := h.hok.obj p _ hp
  rw [hb] at g1
  cases g1
  refine ⟨fun q o hq => ?_, fun q r d s s' hq hr eq er => h.hok.inj q r d s s' (lv hq) (lv hr) eq er, fun q d s hq => ?_⟩
  · rw [Tr.get_set] at hq
    by_cases e : p = q
    · subst e
      rw [if_pos rfl] at hq
      cases hq
      refine ⟨b, 0, cs.setIfInBounds j x, el, fr, hb, (setCell_block g2 j x).2, by simpa using g3, ?_, by simpa using g5, rfl⟩
      rw [List.drop_zero, List.length_set, Array.toList_setIfInBounds, List.take_set]
      rw [List.drop_zero] at g4
      exact rels_set g4 hx
    · rw [if_neg e] at hq
      refine O.ok_mono (h.hok.obj q o hq) (Emb.le.refl _) fun d s hd hq' => ?_
      refine Below.heap_setCell w ⟨b, j, none⟩ x d fun e2 => ?_
      have e3 : d = b := e2
      subst e3
      exact e (h.hok.inj p q d 0 s hlp ⟨o, hq, hd⟩ hb hq')
  · simp only [World.setCell, Array.size_modify]
    exact h.hok.lt q d s hq
theorem Live.of_set {H : Heap} {p q : Pth} {o : O} (hp : Live H p) (h : Live (Tr.set p o H) q) : Live H q := by
  obtain ⟨o', h1, h2⟩ := h
  rw [Tr.get_set] at h1
  by_cases e : p = q
  · subst e; exact hp
  · rw [if_neg e] at h1; exact ⟨o', h1, h2⟩
/-- a call that was run -/
theorem runs_ok {f : Nat} {args : List V} {asg : Asg} {spec : Ev.Spec} {l0 : V → Asc} {pv : V → Bool} (h : runs f args A A2 asg spec l0 pv = true) (hn : Num asg spec σ τ) (hL : Lies w A σ ι) {xs : Array Value} (hxs : V.rels ι args xs.toList) :
    Calls Tryz.prog f xs w fun e w' => ∃ x v ι' ι2, e = .returned x ∧ pv v = true ∧ V.rel ι' v x ∧ Lies w' A2 τ ι2 ∧ Chg (foot ι A) w w' ∧ (∀ b, foot ι2 A2 b → foot ι A b ∨ w.heap.size ≤ b) ∧ ∀ e ∈ l0 v, ι2 e.1 = ι' e.2 ∧ ∀ z, ι e.2 = some z → ι2 e.1 = some z := by
  unfold runs at h
  split at h
  · rename_i v H' n hc
    cases hp : pv v with
    | false => simp [hp] at h
    | true =>
      simp only [hp] at h
      refine (call_fit hc h hn hL hxs).mono ?_
      rintro e w' ⟨x, ι', ι2, rfl, h1, h2, h3, h4, h5⟩
      exact ⟨x, v, ι', ι2, rfl, hp, h1, h2, h3, h4, h5⟩
  · cases h
end
end Go.Proofs.YtahmcjdddcbhnaaGreatDoor
namespace Go.Proofs.YtahmcjdddcbhnaaGreatDoor
open Go Go.Ev Go.RowKit
noncomputable section
/-- which classes of symbols (0: below, 1: the symbol, 2: above) have been met, in their order -/
def sigs : List (List Nat) := [[], [0], [1], [2], [0, 1], [0, 2], [1, 0], [1, 2], [2, 0], [2, 1], [0, 1, 2], [0, 2, 1], [1, 0, 2], [1, 2, 0], [2, 0, 1], [2, 1, 0]]
def hasN (c : Nat) (σ : List Nat) : Bool := List.rec false (fun x _ ih => match Nat.beq x c with | true => true | false => ih) σ
def nxt (σ : List Nat) (c : Nat) : List Nat := match hasN c σ with | true => σ | false => σ ++ [c]
def lenN (σ : List Nat) : Nat := List.rec 0 (fun _ _ ih => Nat.succ ih) σ
/-- the mark with which the symbol was met -/
def markOf (σ : List Nat) : Nat → Int := List.rec (fun _ => 0) (fun x _ ih n => match Nat.beq x 1 with | true => Int.ofNat n | false => ih (Nat.succ n)) σ
def tgt (c : Nat) : V := match Nat.beq c 1 with | true => .ptr (nm 20) 0 | false => .ptr (nm 16) 0
def nextU (σ : List Nat) : Nat → List (V × V × Nat) := List.rec (fun _ => []) (fun c _ ih i => (J (Int.ofNat c), tgt c, i) :: ih (Nat.succ i)) σ
def deadK (i : Nat) : V × V × Nat := (.str [], .ptr (nm 16) 0, i)
def doneK (i : Nat) : V × V × Nat := (.str [0, 1], .ptr (nm 20) 0, i)
/-- its states, in their order -/
def statesU (σ : List Nat) : List (V × V × Nat) := match σ with
  | [] => [firstK]
  | 1 :: r => (match r with | [] => [firstK, doneK 1] | _ => [firstK, doneK 1, deadK 2])
  | _ :: r => (match hasN 1 r with | true => [firstK, deadK 1, doneK 2] | false => [firstK, deadK 1])
def codU : List (Pth × O) :=
  [(nm 3, .cells [.sl (nm 7) 0 2 2 5, .bool true, .sl (nm 8) 0 2 2 1, .sl (nm 9) 0 2 2 0]),
   (nm 7, .cells [J 1, J 0, J 0, J 0, .sl (nm 12) 0 1 1 2, J 0, J 0, J 0, J 0, .nilsl]), (nm 8, .cells [J 228, J 229]),
   (nm 9, .cells [.bool true, .bool false]), (nm 10, .cells [J 0]), (nm 12, .cells [J 228, J 228])]
def headU (runs len : V) (begun : Bool) (round : V) (σ : List Nat) : List (Pth × O) :=
  [(nm 1, .cells [.ptr (nm 2) 0, runs, len, J 1, .bool begun, .bool false]), (nm 2, .cells [.ptr (nm 3) 0, .mp (nm 4), .sl (nm 5) 0 2 2 0, J (Int.ofNat (Nat.succ (lenN σ))), round, .ptr (nm 6) 0]), (nm 4, .map (statesU σ) (lenN (List.rec [] (fun _ _ ih => 0 :: ih) (statesU σ)))),
   (nm 5, .cells [J 1, J (markOf σ 2)]),
   (nm 6, .cells [.sl (nm 10) 0 1 1 1, .bool false, .bool false, .mp (nm 11), round, J 0]), (nm 11, .map (nextU σ 0) (lenN σ))]
def doneU : List (Pth × O) := [(nm 20, .cells [.sl (nm 21) 0 1 1 1, .bool true, .bool true, .mp (nm 22), J 0, J 0]), (nm 21, .cells [J 1]), (nm 22, .map [] 0)]
def addU (σ : List Nat) : List (Pth × O) := (match hasN 1 σ with | true => doneU | false => []) ++ (match hasN 0 σ, hasN 2 σ with | false, false => [] | _, _ => deadZ)
def sU : V := .sym 0 .i64 0 65536
/-- fresh -/
def strU0 : List (Pth × O) := headU .nilsl (J 0) false (J 0) [] ++ codU
/-- begun -/
def strU (σ : List Nat) : List (Pth × O) := headU (.sl (nm 14) 0 1 1 2) sU true (.lin 0 .i64 1 1 65537) σ ++ codU ++ runZ sU ++ addU σ
/-- the symbol, by its class -/
def symU (c : Nat) : V := match c with | 0 => .iv .i64 0 227 1 | 1 => J 228 | 2 => .iv .i64 230 1114111 1 | _ => J 229
/-- the results: k pairs -/
def pairsU : Nat → List V := Nat.rec [] (fun i ih => ih ++ [.sym (Nat.succ i) .i64 0 65536, .lin (Nat.succ i) .i64 1 1 65537])
def resU (k : Nat) : List (Pth × O) := match k with
  | 0 => resZ
  | Nat.succ j => [(nm 18, .cells [.sl (nm 19) 0 (Nat.succ j) (Nat.succ j) 2]), (nm 19, .cells (pairsU (Nat.succ j)))]
def asgK (k : Nat) : Asg := (0, .lin 0 .i64 1 1 65537) :: (Nat.rec [] (fun i ih => ih ++ [(Nat.succ i, V.sym (Nat.succ i) .i64 0 65536)]) k) ++ [(Nat.succ k, sU)]
def spK (k : Nat) : Ev.Spec := Nat.rec [(0, 0, 65536)] (fun i ih => ih ++ [(Nat.succ i, 0, 65536)]) k
def allB (p : List Nat → Bool) : Bool := List.rec true (fun σ _ ih => match p σ with | true => ih | false => false) sigs
end
/-- a step with another symbol, k results being there -/
noncomputable def asgJ (k : Nat) : Asg := (0, .lin 0 .i64 1 1 65537) :: (Nat.rec [] (fun i ih => ih ++ [(Nat.succ i, V.sym (Nat.succ i) .i64 0 65536)]) k)
noncomputable def clsU (c : Nat) : Nat := match c with | 3 => 2 | c => c
noncomputable def stepJ (c k : Nat) : Bool := allB fun σ => runs 374 [.ptr (nm 1) 0, symU c, .ptr (nm 18) 0] (resU k ++ strU σ) (resU k ++ strU (nxt σ (clsU c))) (asgJ k) (spK k) (fun _ => idl [1, 18]) isUnit
/-- a step with the symbol, k results being there -/
noncomputable def stepK (k : Nat) : Bool := allB fun σ => runs 374 [.ptr (nm 1) 0, symU 1, .ptr (nm 18) 0] (resU k ++ strU σ) (resU (Nat.succ k) ++ strU (nxt σ 1)) (asgK k) (spK (Nat.succ k)) (fun _ => idl [1, 18]) isUnit
theorem recAll {α : Type} {p : α → Bool} : ∀ {l : List α}, List.rec (motive := fun _ => Bool) true (fun σ _ ih => match p σ with | true => ih | false => false) l = true → ∀ σ ∈ l, p σ = true
  | [], _, σ, h => by cases h
  | x :: t, h, σ, hm => by
    have h' : (match p x with | true => List.rec (motive := fun _ => Bool) true (fun σ _ ih => match p σ with | true => ih | false => false) t | false => false) = true := h
    cases hx : p x with
    | false => rw [hx] at h'; cases h'
    | true =>
      rw [hx] at h'
      rcases List.mem_cons.1 hm with rfl | hm
      · exact hx
      · exact recAll h' σ hm
theorem allB_ok {p : List Nat → Bool} (h : allB p = true) {σ : List Nat} (hσ : σ ∈ sigs) : p σ = true := recAll h σ hσ
end Go.Proofs.YtahmcjdddcbhnaaGreatDoor
namespace Go.Proofs.YtahmcjdddcbhnaaGreatDoor
open Go Go.Ev Go.RowKit

/-- a cell that is named may be stored into -/
theorem Lies.thaw {w : World} {A : List (Pth × O)} {σ : Nat → Int} {ι : Emb} (h : Lies w A σ ι) {p : Pth} {c : List V} (hp : (Ev.hp A).get p = some (.cells c)) {b t : Nat} (hb : ι p = some (b, t)) {j : Nat} (hj : j < c.length) : w.frozen? ⟨b, j, none⟩ = false := by
  obtain ⟨b', s', cs, el, fr, g1, g2, g3, g4, g5, g6⟩ := h.hok.obj p _ hp
  rw [hb] at g1
  cases g1
  have := rels_length g4
  rw [g6, List.drop_zero, List.length_take] at this
  have hs : cs.toList.length = cs.size := Array.length_toList
  exact frozen_of g2 g3 (by omega)
theorem num_none {σ τ : Nat → Int} : Num [] [] σ τ := ⟨fun i u h => (by cases h), fun i lo hi h => (by cases h)⟩
theorem num_L {V0 : V} {σ τ : Nat → Int} (h : τ 0 = numV σ V0) (hb : 1 ≤ τ 0 ∧ τ 0 ≤ 65536) : Num [(0, V0)] spL σ τ := by
  refine ⟨fun i u hi => ?_, fun i lo hi h2 => ?_⟩
  · cases i with
    | zero => cases hi; exact h
    | succ i => cases hi
  · cases i with
    | zero => cases h2; exact hb
    | succ i => cases h2
/-- a stream of zz: fresh, begun, with L symbols -/
structure StrAt (w : World) (sb : Nat) (k : Nat) (L : Int) (ι : Emb) : Prop where
  lies : Lies w (strZ k) (fun _ => L) ι
  root : ι (nm 1) = some (sb, 0)
  st : (k = 0 ∧ L = 0) ∨ (k = 1 ∧ L = 0) ∨ (k = 2 ∧ 1 ≤ L ∧ L ≤ 65536)
/-- .. and the results of a Feed -/
structure StrR (w : World) (sb rp : Nat) (k : Nat) (L : Int) (ι : Emb) : Prop where
  lies : Lies w (resZ ++ strZ k) (fun _ => L) ι
  root : ι (nm 1) = some (sb, 0)
  res : ι (nm 18) = some (rp, 0)
  st : (k = 0 ∧ L = 0) ∨ (k = 1 ∧ L = 0) ∨ (k = 2 ∧ 1 ≤ L ∧ L ≤ 65536)
noncomputable def lenV (k : Nat) : V := match k with | 0 => J 0 | 1 => J 0 | _ => sL
noncomputable def runsV (k : Nat) : V := match k with | 0 => .nilsl | _ => .sl (nm 14) 0 1 1 2
def begunB (k : Nat) : Bool := match k with | 0 => false | _ => true
theorem strZ_get1 {k : Nat} (h : k = 0 ∨ k = 1 ∨ k = 2) : (hp (strZ k)).get (nm 1) = some (.cells [.ptr (nm 2) 0, runsV k, lenV k, J 1, .bool (begunB k), .bool false]) := by
  rcases h with rfl | rfl | rfl <;> rfl
theorem strZ_get2 {k : Nat} (h : k = 0 ∨ k = 1 ∨ k = 2) : ∃ a, (hp (strZ k)).get (nm 2) = some (.cells (.ptr (nm 3) 0 :: a)) := by
  rcases h with rfl | rfl | rfl <;> exact ⟨_, rfl⟩
theorem strZ_get3 {k : Nat} (h : k = 0 ∨ k = 1 ∨ k = 2) : ∃ a b, (hp (strZ k)).get (nm 3) = some (.cells (a :: .bool false :: b)) := by
  rcases h with rfl | rfl | rfl <;> exact ⟨_, _, rfl⟩
section
variable {w w' : World} {sb rp k : Nat} {L : Int} {ι : Emb}
/-- what is read of a stream -/
theorem StrAt.cells (h : StrAt w sb k L ι) : ∃ mb cb, w.cell? ⟨sb, 0, none⟩ = some (.pointer (some ⟨mb, 0, none⟩)) ∧ w.cell? ⟨sb, 2, none⟩ = some (.int .i64 L) ∧ w.cell? ⟨sb, 4, none⟩ = some (.bool (begunB k)) ∧ w.cell? ⟨sb, 5, none⟩ = some (.bool false) ∧
    w.cell? ⟨mb, 0, none⟩ = some (.pointer (some ⟨cb, 0, none⟩)) ∧ w.cell? ⟨cb, 1, none⟩ = some (.bool false) := by
  have hk : k = 0 ∨ k = 1 ∨ k = 2 := by rcases h.st with h | h | h <;> omega
  have g1 := strZ_get1 hk
  obtain ⟨a2, g2⟩ := strZ_get2 hk
  obtain ⟨a3, b3, g3⟩ := strZ_get3 hk
  obtain ⟨x0, c0, r0⟩ := h.lies.cell g1 h.root (j := 0) rfl
  obtain ⟨x2, c2, r2⟩ := h.lies.cell g1 h.root (j := 2) rfl
  obtain ⟨x4, c4, r4⟩ := h.lies.cell g1 h.root (j := 4) rfl
  obtain ⟨x5, c5, r5⟩ := h.lies.cell g1 h.root (j := 5) rfl
  simp only [V.rel] at r0 r4 r5
  obtain ⟨mb, s, q0, rfl⟩ := r0
  have e0 := cells_zero h.lies.hok g2 q0
  subst e0
  obtain ⟨y0, d0, t0⟩ := h.lies.cell g2 q0 (j := 0) rfl
  simp only [V.rel] at t0
  obtain ⟨cb, s, p0, rfl⟩ := t0
  have e0 := cells_zero h.lies.hok g3 p0
  subst e0
  obtain ⟨z1, f1, u1⟩ := h.lies.cell g3 p0 (j := 1) rfl
  simp only [V.rel] at u1
  subst r4 r5 u1
  refine ⟨mb, cb, by simpa using c0, ?_, c4, c5, by simpa using d0, f1⟩
  rw [c2]
  have hsym : ι.sym 0 = L := by rw [h.lies.sym]
  rcases h.st with ⟨rfl, rfl⟩ | ⟨rfl, rfl⟩ | ⟨rfl, h1, h2⟩
  · simp only [lenV, J, V.rel] at r2; rw [r2]
  · simp only [lenV, J, V.rel] at r2; rw [r2]
  · simp only [lenV, sL, V.rel] at r2
    rw [r2.1, hsym]
theorem StrR.drop (h : StrR w sb rp k L ι) : ∃ ι2, StrAt w sb k L ι2 ∧ ∀ b, foot ι2 (strZ k) b → foot ι (resZ ++ strZ k) b := by
  rcases h.st with ⟨rfl, rfl⟩ | ⟨rfl, rfl⟩ | ⟨rfl, h1, h2⟩
  · obtain ⟨ι2, a, b, c⟩ := h.lies.fit fit_drop0 (num_none (τ := fun _ => 0))
    exact ⟨ι2, ⟨a, (c (nm 1, nm 1) (by simp [idl])).trans h.root, .inl ⟨rfl, rfl⟩⟩, b⟩
  · obtain ⟨ι2, a, b, c⟩ := h.lies.fit fit_drop1 (num_none (τ := fun _ => 0))
    exact ⟨ι2, ⟨a, (c (nm 1, nm 1) (by simp [idl])).trans h.root, .inr (.inl ⟨rfl, rfl⟩)⟩, b⟩
  · obtain ⟨ι2, a, b, c⟩ := h.lies.fit fit_drop2 (num_L (τ := fun _ => L) rfl ⟨h1, h2⟩)
    exact ⟨ι2, ⟨a, (c (nm 1, nm 1) (by simp [idl])).trans h.root, .inr (.inr ⟨rfl, h1, h2⟩)⟩, b⟩
theorem StrAt.chg {F : Nat → Prop} (h : StrAt w sb k L ι) (hc : Chg F w w') (hf : ∀ b, foot ι (strZ k) b → ¬ F b) : StrAt w' sb k L ι := ⟨h.lies.chg hc hf, h.root, h.st⟩
theorem unit_of {ι : Emb} {v : V} {x : Value} (hp : isUnit v = true) (hr : V.rel ι v x) : x = .tuple #[] := by
  unfold isUnit at hp
  split at hp
  · simp only [V.rel] at hr
    obtain ⟨cs, rfl, hc⟩ := hr
    have := rels_nil_inv hc
    rw [show cs = #[] from Array.toList_inj.1 this]
  · cases hp
theorem ptr_rel {p : Pth} {b : Nat} (h : ι p = some (b, 0)) : V.rel ι (.ptr p 0) (.pointer (some ⟨b, 0, none⟩)) := by
  simp only [V.rel]
  exact ⟨b, 0, h, by simp⟩
end
end Go.Proofs.YtahmcjdddcbhnaaGreatDoor
namespace Go.Proofs.YtahmcjdddcbhnaaGreatDoor
open Go Go.Ev Go.RowKit
noncomputable section
/-- begun, but its first run not yet there -/
def strUB : List (Pth × O) := headU .nilsl (J 0) true (J 0) [] ++ codU
/-- its first run made -/
def strUC : List (Pth × O) := resZ ++ strUB ++ [(nm 15, .cells [J 0, J (-1), .nilsl])]
/-- .. and handed on -/
def strUD : List (Pth × O) := (nm 14, .cells [.ptr (nm 6) 0, .ptr (nm 15) 0]) :: strUC
/-- without the results -/
def dropK (k : Nat) : Bool := allB fun σ => fitF [(0, sU)] [(0, 0, 65536)] (idl [1]) (strU σ) (hp (resU k ++ strU σ))
end
theorem run_startU : runs 354 [.ptr (nm 1) 0] (resZ ++ strUB) strUC [] [] runA isRun = true := by decide +kernel
theorem run_advU : runs 373 [.ptr (nm 1) 0, .sl (nm 14) 0 1 1 2, .ptr (nm 18) 0] strUD (resZ ++ strU []) [(0, J 0)] [(0, 0, 65536)] (fun _ => idl [1, 18]) isUnit = true := by decide +kernel
theorem run_closeU0 : runs 350 [.ptr (nm 1) 0] strU0 [] [] [] (fun _ => []) isDone = true := by decide +kernel
theorem run_closeU : allB (fun σ => runs 350 [.ptr (nm 1) 0] (strU σ) [] [] [] (fun _ => []) isDone) = true := by decide +kernel
theorem fit_begunU : fitF [] [] (idl [1, 18]) (resZ ++ strUB) (Tr.set (nm 1) (.cells (cell1.set 4 (.bool true))) (hp (resZ ++ strU0))) = true := by decide +kernel
theorem fit_dropK0 : dropK 0 = true := by decide +kernel
theorem fit_dropK1 : dropK 1 = true := by decide +kernel
theorem fit_dropK2 : dropK 2 = true := by decide +kernel
theorem fit_dropK3 : dropK 3 = true := by decide +kernel
theorem fit_dropK4 : dropK 4 = true := by decide +kernel
theorem fit_dropK5 : dropK 5 = true := by decide +kernel
theorem fit_dropK6 : dropK 6 = true := by decide +kernel
theorem fit_dropK7 : dropK 7 = true := by decide +kernel
theorem fit_dropK8 : dropK 8 = true := by decide +kernel
theorem fit_dropK9 : dropK 9 = true := by decide +kernel
theorem fit_dropK10 : dropK 10 = true := by decide +kernel
theorem fit_dropK11 : dropK 11 = true := by decide +kernel
theorem fit_dropK12 : dropK 12 = true := by decide +kernel
theorem fit_dropK13 : dropK 13 = true := by decide +kernel
theorem fit_dropK14 : dropK 14 = true := by decide +kernel
theorem fit_dropK15 : dropK 15 = true := by decide +kernel
theorem fit_dropK16 : dropK 16 = true := by decide +kernel
theorem fit_dropK17 : dropK 17 = true := by decide +kernel
theorem fit_dropK18 : dropK 18 = true := by decide +kernel
theorem fit_dropK19 : dropK 19 = true := by decide +kernel
theorem fit_dropK20 : dropK 20 = true := by decide +kernel
theorem fit_dropK21 : dropK 21 = true := by decide +kernel
theorem fit_dropK22 : dropK 22 = true := by decide +kernel
theorem fit_dropK23 : dropK 23 = true := by decide +kernel
theorem fit_dropK24 : dropK 24 = true := by decide +kernel
theorem dropK_all : ∀ k, k < 25 → dropK k = true
  | 0, _ => fit_dropK0
  | 1, _ => fit_dropK1
  | 2, _ => fit_dropK2
  | 3, _ => fit_dropK3
  | 4, _ => fit_dropK4
  | 5, _ => fit_dropK5
  | 6, _ => fit_dropK6
  | 7, _ => fit_dropK7
  | 8, _ => fit_dropK8
  | 9, _ => fit_dropK9
  | 10, _ => fit_dropK10
  | 11, _ => fit_dropK11
  | 12, _ => fit_dropK12
  | 13, _ => fit_dropK13
  | 14, _ => fit_dropK14
  | 15, _ => fit_dropK15
  | 16, _ => fit_dropK16
  | 17, _ => fit_dropK17
  | 18, _ => fit_dropK18
  | 19, _ => fit_dropK19
  | 20, _ => fit_dropK20
  | 21, _ => fit_dropK21
  | 22, _ => fit_dropK22
  | 23, _ => fit_dropK23
  | 24, _ => fit_dropK24
  | k + 25, h => by omega
end Go.Proofs.YtahmcjdddcbhnaaGreatDoor
namespace Go.Proofs.YtahmcjdddcbhnaaGreatDoor
open Go Go.Ev Go.RowKit

/-- begun, without its first run -/
structure StrBt (w : World) (sb rp : Nat) (ι : Emb) : Prop where
  lies : Lies w (resZ ++ strB) (fun _ => 0) ι
  root : ι (nm 1) = some (sb, 0)
  res : ι (nm 18) = some (rp, 0)
/-- its first run made -/
structure StrCt (w : World) (sb rp fb gb : Nat) (ι : Emb) : Prop where
  lies : Lies w strC (fun _ => 0) ι
  root : ι (nm 1) = some (sb, 0)
  res : ι (nm 18) = some (rp, 0)
  fst : ι (nm 6) = some (fb, 0)
  grp : ι (nm 15) = some (gb, 0)
section
variable {w w' : World} {sb rp fb gb k : Nat} {L : Int} {ι : Emb}
/-- the results' block is made -/
theorem StrAt.withRes (h : StrAt w sb k L ι) : ∃ ι2, StrR (w.alloc (.cells #[.slice none 0 0] 63)) sb w.heap.size k L ι2 ∧ ∀ b, foot ι2 (resZ ++ strZ k) b → foot ι (strZ k) b ∨ b = w.heap.size := by
  have hn : nm 18 ∉ names (strZ k) := by
    rcases h.st with ⟨rfl, _⟩ | ⟨rfl, _⟩ | ⟨rfl, _⟩ <;> decide
  obtain ⟨ι2, a, b, -, c, d⟩ := h.lies.add hn (c := [.nilsl]) (cs := #[.slice none 0 0]) 63 (rels_cons (by simp only [V.rel]) rels_nil)
  exact ⟨ι2, ⟨a, c _ _ h.root, b, h.st⟩, d⟩
theorem run_of {ι' ι2 : Emb} {v : V} {x : Value} (hp : isRun v = true) (hr : V.rel ι' v x) (hL : Lies w' strC (fun _ => 0) ι2) (h : ∀ e ∈ runA v, ι2 e.1 = ι' e.2) :
    ∃ fb gb, x = .agg #[.pointer (some ⟨fb, 0, none⟩), .pointer (some ⟨gb, 0, none⟩)] ∧ ι2 (nm 6) = some (fb, 0) ∧ ι2 (nm 15) = some (gb, 0) := by
  unfold isRun at hp
  split at hp
  · rename_i p q
    have hpe := (Pth.beq_iff _ _).1 hp
    subst hpe
    have e6 := h (nm 6, nm 6) (by simp [runA])
    have e15 := h (nm 15, q) (by simp [runA])
    simp only [V.rel] at hr
    obtain ⟨cs, rfl, hc⟩ := hr
    obtain ⟨x1, t1, e1, h1, hc⟩ := rels_cons_inv hc
    obtain ⟨x2, t2, e2, h2, hc⟩ := rels_cons_inv hc
    have := rels_nil_inv hc
    subst this
    simp only [V.rel] at h1 h2
    obtain ⟨b1, s1, g1, rfl⟩ := h1
    obtain ⟨b2, s2, g2, rfl⟩ := h2
    have f1 : ι2 (nm 6) = some (b1, s1) := e6.trans g1
    have f2 : ι2 (nm 15) = some (b2, s2) := e15.trans g2
    have z1 := cells_zero hL.hok (p := nm 6) (l := [.sl (nm 10) 0 1 1 1, .bool false, .bool false, .mp (nm 11), J 0, J 0]) (by rfl) f1
    have z2 := cells_zero hL.hok (p := nm 15) (l := [J 0, J (-1), .nilsl]) (by rfl) f2
    subst z1 z2
    refine ⟨b1, b2, ?_, f1, f2⟩
    congr 1
    apply Array.toList_inj.1
    rw [e1, e2]
  · cases hp
end
end Go.Proofs.YtahmcjdddcbhnaaGreatDoor
namespace Go.Proofs.YtahmcjdddcbhnaaGreatDoor
open Go Go.Ev Go.RowKit

theorem sorted_nil (w : World) : Calls Tryz.prog 356 #[.slice none 0 0] w fun e w' => e = .returned (.slice none 0 0) ∧ Below w.heap.size w w' := by
  have h := run_sorted
  split at h
  · rename_i H n hc
    refine (call1 cal0_ok hc (fun _ => 0) w #[.slice none 0 0] (rels_cons (by simp only [V.rel]) rels_nil)).mono ?_
    rintro e w' ⟨x, ι, rfl, hx, _, hb, _⟩
    simp only [V.rel] at hx
    exact ⟨by rw [hx], hb⟩
  · cases h
end Go.Proofs.YtahmcjdddcbhnaaGreatDoor
namespace Go.Proofs.YtahmcjdddcbhnaaGreatDoor
open Go Go.Ev Go.RowKit

set_option maxRecDepth 1000000 in
theorem cloneb_walk {w : World} {v : Value} {x : List UInt8} (hv : Sees w 1 v (bv x)) (hx : x.length ≤ 100000000) :
    Calls Tryz.prog 361 #[v] w fun e w' => ∃ u, e = .returned u ∧ w'.ownsRow w.heap.size 5 1 u x.length (bv x) ∧ Below w.heap.size w w' := by
  obtain ⟨i0, hi0, hz0, hz1, hz2⟩ := info_parts' infoU8
  obtain ⟨A, n, c, rfl, h1, h2, h3⟩ := id hv
  have hn : n = x.length := by rw [bv_len] at h1; omega
  subst hn
  cases A with
  | none =>
    have hx0 : x = [] := by
      rcases Nat.eq_zero_or_pos x.length with h | h
      · exact List.length_eq_zero_iff.1 h
      · obtain ⟨b, s, e, _⟩ := h3 (by omega)
        cases e
    subst hx0
    have heq : (binOp BinOp.eql 23 (.slice none 0 c) (.slice none 0 0)).run Tryz.prog w = .ok (.bool true) w := by kernel_rfl
    go_enter Tryz.func361, Tryz.ntmps361
    go_wp2
    go_ret
    exact ⟨_, rfl, World.ownsRow_nil _ _ _ _, Below.refl _ _⟩
  | some a =>
    have h63 : 0 + x.length ≤ maxLen := by unfold maxLen; omega
    have hby : (0 + x.length) * 1 ≤ 140737488355328 := by omega
    have hs1 := hv.alloc (.cells #[] 5)
    have hmade := World.ownsRow_made (e := 5) (size := 1) (base := w.heap.size) w #[] 0 (Nat.le_refl _) (Nat.zero_le _) rfl
    have hxl : (bv x).length = x.length * 1 := by rw [bv_len]; omega
    have heq : (binOp BinOp.eql 23 (.slice (some a) x.length c) (.slice none 0 0)).run Tryz.prog w = .ok (.bool false) w := by kernel_rfl
    go_enter Tryz.func361, Tryz.ntmps361
    go_wp2_with (first
      | (at_builtin; refine wpList_append_sees rfl _ _ 23 rfl i0 _ 1 Tryz.underlying23 hi0 hz0 hz1 hz2 rfl (by decide) _ 0 [] rfl hmade _ x.length _ rfl hs1 hxl (bv_one x) h63 hby (by simp) ?_; intro v2 w2 hrow2 hgrow2 hown2; obtain ⟨A2, k2, rfl, _⟩ := row_form hrow2; rw [Nat.zero_add] at hrow2)
      | go_in)
    go_ret
    have hb2 : Below w.heap.size w w2 := ((Below.refl _ _).alloc (Nat.le_refl _) _).grown hgrow2 (by simp) fun k hk => by cases hk; exact Nat.le_refl _
    rw [List.nil_append] at hrow2
    exact ⟨_, rfl, by simpa using hrow2, hb2⟩
/-- a stream of bytes -/
structure BytAt (w : World) (bb sb k : Nat) (L : Int) (ι : Emb) (A : Option Addr) (c : Nat) : Prop where
  blk : Blk w bb 198 #[.pointer (some ⟨sb, 0, none⟩), .slice A 0 c]
  str : StrAt w sb k L ι
  out : ¬ foot ι (strZ k) bb
/-- where it lies -/
def BFt (bb k : Nat) (ι : Emb) (b : Nat) : Prop := b = bb ∨ foot ι (strZ k) b
section
variable {w w' : World} {bb sb k : Nat} {L : Int} {ι : Emb} {A : Option Addr} {c : Nat}
theorem BytAt.lt (h : BytAt w bb sb k L ι A c) {b : Nat} (hb : BFt bb k ι b) : b < w.heap.size := by
  rcases hb with rfl | hb
  · exact h.blk.lt
  · exact h.str.lies.lt hb
theorem BytAt.chg {F : Nat → Prop} (h : BytAt w bb sb k L ι A c) (hc : Chg F w w') (hf : ∀ b, BFt bb k ι b → ¬ F b) : BytAt w' bb sb k L ι A c :=
  ⟨h.blk.chg hc (hf bb (.inl rfl)), h.str.chg hc fun b hb => hf b (.inr hb), h.out⟩
theorem BytAt.bel (h : BytAt w bb sb k L ι A c) (hb : Below w.heap.size w w') : BytAt w' bb sb k L ι A c := h.chg (F := fun _ => False) (Chg.of_below hb) fun _ _ h => h
theorem done_of {ι : Emb} {v : V} {x : Value} (hp : isDone v = true) (hr : V.rel ι v x) : x = .tuple #[.slice none 0 0, .int .i64 0] := by
  unfold isDone at hp
  split at hp
  · simp only [V.rel] at hr
    obtain ⟨cs, rfl, hc⟩ := hr
    obtain ⟨x1, t1, e1, h1, hc⟩ := rels_cons_inv hc
    obtain ⟨x2, t2, e2, h2, hc⟩ := rels_cons_inv hc
    have := rels_nil_inv hc
    subst this
    simp only [V.rel] at h1 h2
    subst h1 h2
    rw [show cs = #[.slice none 0 0, .int .i64 0] from Array.toList_inj.1 (by rw [e1, e2])]
  · cases hp
end
end Go.Proofs.YtahmcjdddcbhnaaGreatDoor
namespace Go.Proofs.YtahmcjdddcbhnaaGreatDoor
open Go Go.Ev Go.RowKit

theorem leads_own {w : World} {base : Nat} {e : TypeId} {size : Nat} {v : Value} {n : Nat} {xs : List Value} (h : w.ownsRow base e size v n xs) {g : Nat} (hg : Value.leads v = some g) : v.ownBlock = some g := by
  obtain ⟨A, c, rfl, _⟩ := row_form h
  cases n with
  | zero => cases A <;> cases hg
  | succ m =>
    cases A with
    | none => cases hg
    | some a => cases hg; rfl
end Go.Proofs.YtahmcjdddcbhnaaGreatDoor
namespace Go.Proofs.YtahmcjdddcbhnaaGreatDoor
open Go Go.Ev Go.RowKit

section
variable {w : World} {mb ub bb sb k n : Nat} {sh pe tk us L : Int} {ι : Emb} {A : Option Addr} {c : Nat} {v : Value}
/-- what a piece leaves: the meter, the stream -/
structure Fed (w : World) (mb ub bb sb k : Nat) (sh pe t us' L' : Int) (ι : Emb) (w' : World) : Prop where
  met : MtAt w' mb ub sh pe t us'
  byt : ∃ k2 ι2 A2 c2, BytAt w' bb sb k2 L' ι2 A2 c2 ∧ ∀ b, BFt bb k2 ι2 b → BFt bb k ι b ∨ w.heap.size ≤ b
  chg : Chg (fun b => MFt mb ub b ∨ BFt bb k ι b) w w'
theorem Fed.pre {w0 w' : World} {t us' L' : Int} (h : Fed w0 mb ub bb sb k sh pe t us' L' ι w') (hb : Below w.heap.size w w0) : Fed w mb ub bb sb k sh pe t us' L' ι w' := by
  obtain ⟨k2, ι2, A2, c2, h1, h2⟩ := h.byt
  have := hb.size
  exact ⟨h.met, ⟨k2, ι2, A2, c2, h1, fun b hb => (h2 b hb).imp id fun e => by omega⟩, (Chg.of_below hb).trans h.chg fun _ _ h => h⟩
/-- a rule that flows, as what it does for a connection -/
def flowV (bb : Nat) : Value := .iface 153 (.agg #[.pointer (some ⟨bb, 0, none⟩)])
theorem meth_feed : methAt Tryz.prog "rexmill/filter.feed" 153 = some 349 := by kernel_rfl
theorem meth_end : methAt Tryz.prog "rexmill/filter.end" 153 = some 348 := by kernel_rfl
end
end Go.Proofs.YtahmcjdddcbhnaaGreatDoor
