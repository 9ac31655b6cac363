/-
  The printer of trees, walked: Tree.
-/
import Derived.Test.YtdacamjpcdbphaaGreatDoorQuaWW
import Derived.Deep.RegionHeld3
namespace Go.Proofs.YtdacamjpcdbphaaGreatDoor
open Go Go.RowKit

set_option maxHeartbeats 32000000 in
set_option maxRecDepth 1000000 in
theorem print_walk {B : Nat → Prop} : ∀ (N : Nat) {w : World} {t : VT}, t.num = N → N ≤ 2000 → TreeAt w B t →
    Calls Tryz.prog 40 #[t.val] w (SomeStr w (40 * N)) := by
  intro N
  induction N using Nat.strongRecOn with
  | _ N ih =>
  intro w t hN hN2 hT
  have hl0 := hT.len
  have hlt := fun j hj => VT.num_le (t := t) (j := j) hj
  have hnum := VT.num_eq t
  have hSh0 := hT.node
  have hq := fun (h4 : t.op = 4) (M : Nat) (hM : M ≤ 1000000) (hp : ∀ k ∈ t.kids, Prints w 40 k.val M) (wr : World) (hb : Below w.heap.size w wr) => quant_walk (hT.bel hb) h4 hM (fun k hk w' hb' => hp k hk w' (hb.trans (hb'.mono hb.size)))
  obtain ⟨op, set, kidv, mn, mx, mo, n, neg, spans, kids⟩ := t
  have hS2 : Shape op mn mx mo n neg spans kids.length := hSh0
  have hl3 : kids.length ≤ 3 := hl0
  have hK : SeesT w kidv kids := hT.kids
  have hP : SeesP w set spans := hT.set
  obtain ⟨A, cp, rfl, hcp, -⟩ := hK.shape
  obtain ⟨A2, cp2, rfl, hcp2, -⟩ := hP.shape
  have hnum' : N = 1 + VT.sum kids := by rw [← hN]; exact hnum
  have hlt' : ∀ (j : Nat) (hj : j < kids.length), kids[j].num < N := fun j hj => by have := hlt j hj; rw [hN] at this; exact this
  have hkid : ∀ k ∈ kids, TreeAt w B k := hT.kid
  -- a kid printed
  have hpr : ∀ (j : Nat) (hj : j < kids.length), Prints w 40 (.agg #[.int .i64 kids[j].op, kids[j].set, kids[j].kidv, .int .i64 kids[j].mn, .int .i64 kids[j].mx, .int .i64 kids[j].mo, .int .i64 kids[j].n, .bool kids[j].neg]) (40 * kids[j].num) := fun j hj w' hb =>
    ih _ (hlt' j hj) rfl (by have := hlt' j hj; omega) ((hkid _ (List.getElem_mem hj)).bel hb)
  have hitem : ∀ (wr : World) (j : Nat) (hj : j < kids.length), Below w.heap.size w wr → Calls Tryz.prog 62 #[.agg #[.int .i64 kids[j].op, kids[j].set, kids[j].kidv, .int .i64 kids[j].mn, .int .i64 kids[j].mx, .int .i64 kids[j].mo, .int .i64 kids[j].n, .bool kids[j].neg]] wr (SomeStr wr (40 * kids[j].num + 4)) := fun wr j hj hb =>
    asItem_walk (by have := hlt' j hj; omega) fun w' hb' => hpr j hj w' (hb.trans (hb'.mono hb.size))
  have hcat : ∀ (wr : World) (j : Nat) (hj : j < kids.length), Below w.heap.size w wr → Calls Tryz.prog 63 #[.agg #[.int .i64 kids[j].op, kids[j].set, kids[j].kidv, .int .i64 kids[j].mn, .int .i64 kids[j].mx, .int .i64 kids[j].mo, .int .i64 kids[j].n, .bool kids[j].neg]] wr (SomeStr wr (40 * kids[j].num + 4)) := fun wr j hj hb =>
    asCat_walk (by have := hlt' j hj; omega) fun w' hb' => hpr j hj w' (hb.trans (hb'.mono hb.size))
  have hcl : spans ∈ sets8 → ∀ wr, Below w.heap.size w wr → Calls Tryz.prog 61 #[.slice A2 spans.length cp2] wr (SomeStr wr 30) := fun hl wr hb => class_walk (hP.bel hb) hl
  have hqu : op = 4 → ∀ wr, Below w.heap.size w wr → Calls Tryz.prog 64 #[.agg #[.int .i64 op, .slice A2 spans.length cp2, .slice A kids.length cp, .int .i64 mn, .int .i64 mx, .int .i64 mo, .int .i64 n, .bool neg]] wr (SomeStr wr (40 * N)) := fun h4 wr hb => by
    have h := hq h4 (40 * (N - 1)) (by omega) (fun k hk => by
      obtain ⟨j, hj, rfl⟩ := List.getElem_of_mem hk
      intro w' hb'
      have := hlt' j hj
      exact (hpr j hj w' hb').mono fun e w2 hs => hs.more (by omega)) wr hb
    exact h.mono fun e w2 hs => hs.more (by omega)
  have hdig : ∀ (wr : World), 0 ≤ n → n ≤ 5 → Calls Tryz.prog 43 #[.int .i64 n, .int .i64 10] wr fun e w2 => ∃ s : ByteArray, e = .returned (.string s) ∧ s.size ≤ 3 ∧ w2 = wr := by
    intro wr h1 h2
    have h := digits_same wr n.toNat 10 (by omega) (.inl rfl)
    rw [show ((n.toNat : Nat) : Int) = n by omega] at h
    exact h
  have hbox := fun (wr : World) (hb : Below (w.heap.size + 1) (w.alloc (.cells #[.int .i64 op, .slice A2 spans.length cp2, .slice A kids.length cp, .int .i64 mn, .int .i64 mx, .int .i64 mo, .int .i64 n, .bool neg] 51)) wr) =>
    ((Blk.made w 51 #[.int .i64 op, .slice A2 spans.length cp2, .slice A kids.length cp, .int .i64 mn, .int .i64 mx, .int .i64 mo, .int .i64 n, .bool neg]).bel hb (by omega)).eight
  have hB0 := (Below.refl _ w).alloc (Nat.le_refl _) (.cells #[.int .i64 op, .slice A2 spans.length cp2, .slice A kids.length cp, .int .i64 mn, .int .i64 mx, .int .i64 mo, .int .i64 n, .bool neg] 51)
  clear hlt hN hT ih hkid hSh0 hl0 hq hnum hP
  show Calls Tryz.prog 40 #[.agg #[.int .i64 op, .slice A2 spans.length cp2, .slice A kids.length cp, .int .i64 mn, .int .i64 mx, .int .i64 mo, .int .i64 n, .bool neg]] w _
  obtain ⟨m, hm⟩ : ∃ m, kids.length = m := ⟨_, rfl⟩
  obtain ⟨p, hp⟩ : ∃ p, spans.length = p := ⟨_, rfl⟩
  rw [hm] at hS2 hqu hB0 hbox hcp ⊢
  rw [hp] at hqu hB0 hbox hcl ⊢
  have hN1 : 1 ≤ N := by omega
  have HM := Lib.hid hm
  have HS := Lib.hid hnum'
  have HP := Lib.hid hp
  clear hm hnum' hp
  cases hS2
  case empty =>
    go_enter Tryz.func40, Tryz.ntmps40
    go_wp2_with fail
    go_ret
    exact ⟨_, rfl, Nat.zero_le _, hB0⟩
  case set h1 =>
    have hcl' := hcl h1 _ hB0
    clear hcl hqu hitem hcat hpr hdig hbox
    go_enter Tryz.func40, Tryz.ntmps40
    go_wp2_with fail
    refine hcl'.mono ?_
    rintro _ w1 ⟨s, rfl, hs, hB1⟩
    go_wp2_with fail
    go_ret
    exact ⟨s, rfl, by omega, hB0.trans (hB1.mono hB0.size)⟩
  case rep h1 h2 h3 h4 =>
    have hq := hqu rfl _ hB0
    clear hcl hqu hitem hcat hpr hdig hbox
    go_enter Tryz.func40, Tryz.ntmps40
    go_wp2_with fail
    refine hq.mono ?_
    rintro _ w1 ⟨s, rfl, hs, hB1⟩
    go_wp2_with fail
    go_ret
    exact ⟨s, rfl, hs, hB0.trans (hB1.mono hB0.size)⟩
  case star h1 h4 =>
    have hq := hqu rfl _ hB0
    clear hcl hqu hitem hcat hpr hdig hbox
    go_enter Tryz.func40, Tryz.ntmps40
    go_wp2_with fail
    refine hq.mono ?_
    rintro _ w1 ⟨s, rfl, hs, hB1⟩
    go_wp2_with fail
    go_ret
    exact ⟨s, rfl, hs, hB0.trans (hB1.mono hB0.size)⟩
  case ref nn h1 h2 =>
    have hd := hdig (w.alloc (.cells #[.int .i64 6, .slice A2 p cp2, .slice A 0 cp, .int .i64 0, .int .i64 0, .int .i64 0, .int .i64 (nn : Int), .bool false] 51)) (by omega) (by omega)
    clear hcl hqu hitem hcat hpr hdig hbox
    go_enter Tryz.func40, Tryz.ntmps40
    go_wp2_with fail
    refine hd.mono ?_
    rintro _ w1 ⟨s, rfl, hs, rfl⟩
    have k1 : 1 + s.size ≤ 9223372036854775807 := by omega
    go_wp2_with fail
    go_ret
    exact ⟨_, rfl, by simp [ByteArray.size_append', ByteArray.size_mk']; omega, hB0⟩
  case assert nn h1 =>
    clear hcl hqu hitem hcat hpr hdig hbox
    have h6 : nn = 0 ∨ nn = 1 ∨ nn = 2 ∨ nn = 3 ∨ nn = 4 ∨ nn = 5 := by omega
    rcases h6 with rfl | rfl | rfl | rfl | rfl | rfl
    all_goals
      go_enter Tryz.func40, Tryz.ntmps40
      go_wp2_with fail
      go_ret
      exact ⟨_, rfl, by simp [ByteArray.size_mk']; omega, hB0.alloc hB0.size _⟩
  case atom =>
    clear hcl hqu hitem hcat hdig hbox
    have hm1 := HM.out
    obtain ⟨b, o, hA, q0, q1, q2, q3, q4, q5, q6, q7⟩ := hK.load hB0 (show 0 < kids.length by omega)
    rw [hm1] at hK
    subst hA
    simp only [Nat.zero_mul, Nat.add_zero] at q0 q1 q2 q3 q4 q5 q6 q7
    have hs1 := VT.sum_le kids 1
    have hs2 := VT.sum_take kids (show 0 < kids.length by omega)
    have hs3 := HS.out
    have hp0 := hpr 0 (by omega) _ hB0
    have hp1 := hpr 0 (by omega)
    obtain ⟨k, hk⟩ : ∃ k, kids[0]'(by omega) = k := ⟨_, rfl⟩
    rw [hk] at q0 q1 q2 q3 q4 q5 q6 q7 hp0 hp1 hs2
    have hbd : 40 * k.num + 40 ≤ 40 * N := by simp [VT.sum] at hs1 hs2; simp [VT.sum] at hs3; omega
    have hkN : k.num ≤ 2000 := by omega
    clear hm1 hs1 hs2 hs3 hk hpr
    go_enter Tryz.func40, Tryz.ntmps40
    go_wp2_with fail
    refine hp0.mono ?_
    rintro _ w1 ⟨s, rfl, hs, hB1⟩
    have k1 : 3 + s.size + 1 ≤ 9223372036854775807 := by omega
    have k2 : 3 + s.size ≤ 9223372036854775807 := by omega
    have k3 : 4 + s.size + 1 ≤ 9223372036854775807 := by omega
    have k4 : 4 + s.size ≤ 9223372036854775807 := by omega
    go_wp2_with fail
    go_ret
    exact ⟨_, rfl, by simp [ByteArray.size_append', ByteArray.size_mk']; omega, hB0.trans (hB1.mono hB0.size)⟩
  case ahead =>
    clear hcl hqu hitem hcat hdig hbox
    have hm1 := HM.out
    obtain ⟨b, o, hA, q0, q1, q2, q3, q4, q5, q6, q7⟩ := hK.load hB0 (show 0 < kids.length by omega)
    rw [hm1] at hK
    subst hA
    simp only [Nat.zero_mul, Nat.add_zero] at q0 q1 q2 q3 q4 q5 q6 q7
    have hs1 := VT.sum_le kids 1
    have hs2 := VT.sum_take kids (show 0 < kids.length by omega)
    have hs3 := HS.out
    have hp0 := hpr 0 (by omega) _ hB0
    have hp1 := hpr 0 (by omega)
    obtain ⟨k, hk⟩ : ∃ k, kids[0]'(by omega) = k := ⟨_, rfl⟩
    rw [hk] at q0 q1 q2 q3 q4 q5 q6 q7 hp0 hp1 hs2
    have hbd : 40 * k.num + 40 ≤ 40 * N := by simp [VT.sum] at hs1 hs2; simp [VT.sum] at hs3; omega
    have hkN : k.num ≤ 2000 := by omega
    clear hm1 hs1 hs2 hs3 hk hpr
    cases neg
    all_goals
      go_enter Tryz.func40, Tryz.ntmps40
      go_wp2_with fail
      refine hp0.mono ?_
      rintro _ w1 ⟨s, rfl, hs, hB1⟩
      have k1 : 3 + s.size + 1 ≤ 9223372036854775807 := by omega
      have k2 : 3 + s.size ≤ 9223372036854775807 := by omega
      have k3 : 4 + s.size + 1 ≤ 9223372036854775807 := by omega
      have k4 : 4 + s.size ≤ 9223372036854775807 := by omega
      go_wp2_with fail
      go_ret
      exact ⟨_, rfl, by simp [ByteArray.size_append', ByteArray.size_mk']; omega, hB0.trans (hB1.mono hB0.size)⟩
  case behind =>
    clear hcl hqu hitem hcat hdig hbox
    have hm1 := HM.out
    obtain ⟨b, o, hA, q0, q1, q2, q3, q4, q5, q6, q7⟩ := hK.load hB0 (show 0 < kids.length by omega)
    rw [hm1] at hK
    subst hA
    simp only [Nat.zero_mul, Nat.add_zero] at q0 q1 q2 q3 q4 q5 q6 q7
    have hs1 := VT.sum_le kids 1
    have hs2 := VT.sum_take kids (show 0 < kids.length by omega)
    have hs3 := HS.out
    have hp0 := hpr 0 (by omega) _ hB0
    have hp1 := hpr 0 (by omega)
    obtain ⟨k, hk⟩ : ∃ k, kids[0]'(by omega) = k := ⟨_, rfl⟩
    rw [hk] at q0 q1 q2 q3 q4 q5 q6 q7 hp0 hp1 hs2
    have hbd : 40 * k.num + 40 ≤ 40 * N := by simp [VT.sum] at hs1 hs2; simp [VT.sum] at hs3; omega
    have hkN : k.num ≤ 2000 := by omega
    clear hm1 hs1 hs2 hs3 hk hpr
    cases neg
    all_goals
      go_enter Tryz.func40, Tryz.ntmps40
      go_wp2_with fail
      refine hp0.mono ?_
      rintro _ w1 ⟨s, rfl, hs, hB1⟩
      have k1 : 3 + s.size + 1 ≤ 9223372036854775807 := by omega
      have k2 : 3 + s.size ≤ 9223372036854775807 := by omega
      have k3 : 4 + s.size + 1 ≤ 9223372036854775807 := by omega
      have k4 : 4 + s.size ≤ 9223372036854775807 := by omega
      go_wp2_with fail
      go_ret
      exact ⟨_, rfl, by simp [ByteArray.size_append', ByteArray.size_mk']; omega, hB0.trans (hB1.mono hB0.size)⟩
  case cat h1 h2 =>
    clear hcl hqu hcat hdig hpr
    go_enter Tryz.func40, Tryz.ntmps40
    go_wp2
    go_loopw [4, 5] (fun sv iv wr => ∃ (j : Nat) (s : ByteArray), j ≤ m ∧ iv = .int .i64 j ∧ sv = .string s ∧ s.size ≤ 40 * VT.sum (kids.take j) + 5 * j ∧ Below (w.heap.size + 1) (w.alloc (.cells #[.int .i64 2, .slice A2 p cp2, .slice A m cp, .int .i64 0, .int .i64 0, .int .i64 0, .int .i64 0, .bool false] 51)) wr) (fun _ iv _ => m - (intOf iv).toNat)
    case atStart => exact ⟨0, _, Nat.zero_le _, rfl, rfl, by simp [ByteArray.size_mk', VT.sum], Below.refl _ _⟩
    case round =>
      obtain ⟨j, s, hj, rfl, rfl, hss, hbel⟩ := hrel
      obtain ⟨-, -, k2, -⟩ := hbox wr hbel
      have hBw := bel_box hbel
      have hsz := hbel.size
      simp at hsz
      have hm1 := HM.out
      have hs3 := HS.out
      have hs1 := VT.sum_le kids j
      by_cases hjl : j < m
      · obtain ⟨b, o, hA, q0, q1, q2, q3, q4, q5, q6, q7⟩ := hK.load hBw (show j < kids.length by omega)
        subst hA
        have hs2 := VT.sum_take kids (show j < kids.length by omega)
        have hs4 := VT.sum_le kids (j + 1)
        have hj1 : (j : Int) < (m : Int) := by omega
        have hi := hitem wr j (by omega) hBw
        obtain ⟨k, hk⟩ : ∃ k, kids[j]'(by omega) = k := ⟨_, rfl⟩
        rw [hk] at q0 q1 q2 q3 q4 q5 q6 q7 hi hs2
        obtain ⟨S1, hS1⟩ : ∃ x, VT.sum (kids.take (j + 1)) = x := ⟨_, rfl⟩
        obtain ⟨S0, hS0⟩ : ∃ x, VT.sum (kids.take j) = x := ⟨_, rfl⟩
        rw [hS0] at hss hs2 hs1
        rw [hS1] at hs2 hs4
        have HS1 := Lib.hid hS1
        have hsum : S1 + 1 ≤ N := by omega
        have hlim : S0 ≤ 2000 := by omega
        have HK := Lib.hid hs2
        clear hk hitem hbox hS1 hS0 hs2 hm1 hs3
        go_wp2_with fail
        refine hi.mono ?_
        clear hi
        rintro _ w2 ⟨s2, rfl, hs2, hB2⟩
        have hlim2 : k.num ≤ 2000 := by have := HK.out; omega
        have i1 : s.size + s2.size ≤ 9223372036854775807 := by omega
        go_wp2_with fail
        go_roundw
        case rel => exact ⟨j + 1, _, hjl, by go_num, rfl, by rw [HS1.out, HK.out]; simp; omega, hbel.trans (hB2.mono (by omega))⟩
        case measure => simp [intOf]; omega
      · have hje : j = m := by omega
        subst hje
        have hf : VT.sum (kids.take j) ≤ N - 1 := by omega
        clear hm1 hs3
        go_wp2_with fail
        go_ret
        exact ⟨s, rfl, by omega, hBw⟩
  case alt h1 h2 =>
    clear hcl hqu hitem hdig hpr
    have hm1 := HM.out
    have hs3 := HS.out
    obtain ⟨b0, o0, hA, q0, q1, q2, q3, q4, q5, q6, q7⟩ := hK.load hB0 (show 0 < kids.length by omega)
    subst hA
    simp only [Nat.zero_mul, Nat.add_zero] at q0 q1 q2 q3 q4 q5 q6 q7
    have hs1 := VT.sum_le kids 1
    have hs2 := VT.sum_take kids (show 0 < kids.length by omega)
    have hc0 := hcat _ 0 (by omega) hB0
    obtain ⟨k, hk⟩ : ∃ k, kids[0]'(by omega) = k := ⟨_, rfl⟩
    rw [hk] at q0 q1 q2 q3 q4 q5 q6 q7 hc0 hs2
    have hk1 : VT.sum (kids.take 1) = k.num := by simpa [VT.sum] using hs2
    have hm0 : (0 : Int) < (m : Int) := by omega
    clear hk hs2 hs3 hm1
    go_enter Tryz.func40, Tryz.ntmps40
    go_wp2_with fail
    refine hc0.mono ?_
    clear hc0 q0 q1 q2 q3 q4 q5 q6 q7
    rintro _ w1 ⟨s0, rfl, hs0, hB1⟩
    go_wp2_with fail
    go_loopw [6, 7] (fun sv iv wr => ∃ (j : Nat) (s : ByteArray), j ≤ m ∧ iv = .int .i64 j ∧ sv = .string s ∧ s.size ≤ 40 * VT.sum (kids.take j) + 5 * j ∧ Below (w.heap.size + 1) (w.alloc (.cells #[.int .i64 3, .slice A2 p cp2, .slice (some ⟨b0, o0, none⟩) m cp, .int .i64 0, .int .i64 0, .int .i64 0, .int .i64 0, .bool false] 51)) wr) (fun _ iv _ => m - (intOf iv).toNat)
    case atStart => exact ⟨1, s0, by omega, rfl, rfl, by rw [hk1]; omega, by have := hB1; simp at this; exact this⟩
    case round =>
      obtain ⟨j, s, hj, rfl, rfl, hss, hbel⟩ := hrel
      obtain ⟨-, -, k2, -⟩ := hbox wr hbel
      have hBw := bel_box hbel
      have hsz := hbel.size
      simp at hsz
      have hm1 := HM.out
      have hs3 := HS.out
      have hs1 := VT.sum_le kids j
      by_cases hjl : j < m
      · obtain ⟨b, o, hA, q0, q1, q2, q3, q4, q5, q6, q7⟩ := hK.load hBw (show j < kids.length by omega)
        cases hA
        have hs2 := VT.sum_take kids (show j < kids.length by omega)
        have hs4 := VT.sum_le kids (j + 1)
        have hj1 : (j : Int) < (m : Int) := by omega
        have hi := hcat wr j (by omega) hBw
        obtain ⟨k', hk'⟩ : ∃ k, kids[j]'(by omega) = k := ⟨_, rfl⟩
        rw [hk'] at q0 q1 q2 q3 q4 q5 q6 q7 hi hs2
        obtain ⟨S1, hS1⟩ : ∃ x, VT.sum (kids.take (j + 1)) = x := ⟨_, rfl⟩
        obtain ⟨S0, hS0⟩ : ∃ x, VT.sum (kids.take j) = x := ⟨_, rfl⟩
        rw [hS0] at hss hs2 hs1
        rw [hS1] at hs2 hs4
        have HS1 := Lib.hid hS1
        have hsum : S1 + 1 ≤ N := by omega
        have hlim : S0 ≤ 2000 := by omega
        have HK := Lib.hid hs2
        have i0 : s.size + 1 ≤ 9223372036854775807 := by omega
        clear hk' hcat hbox hS1 hS0 hs2 hm1 hs3 hk1
        go_wp2_with fail
        refine hi.mono ?_
        clear hi
        rintro _ w2 ⟨s2, rfl, hs2, hB2⟩
        have hlim2 : k'.num ≤ 2000 := by have := HK.out; omega
        have i1 : s.size + 1 + s2.size ≤ 9223372036854775807 := by omega
        go_wp2_with fail
        go_roundw
        case rel => exact ⟨j + 1, _, hjl, by go_num, rfl, by rw [HS1.out, HK.out]; simp [ByteArray.size_append', ByteArray.size_mk']; omega, hbel.trans (hB2.mono (by omega))⟩
        case measure => simp [intOf]; omega
      · have hje : j = m := by omega
        subst hje
        have hf : VT.sum (kids.take j) ≤ N - 1 := by omega
        clear hm1 hs3
        go_wp2_with fail
        go_ret
        exact ⟨s, rfl, by omega, hBw⟩
  case cap nn h1 h2 =>
    have hd := fun wr => hdig wr (by omega) (by omega)
    clear hcl hqu hitem hcat hdig hbox
    have hm1 := HM.out
    obtain ⟨b, o, hA, q0, q1, q2, q3, q4, q5, q6, q7⟩ := hK.load hB0 (show 0 < kids.length by omega)
    rw [hm1] at hK
    subst hA
    simp only [Nat.zero_mul, Nat.add_zero] at q0 q1 q2 q3 q4 q5 q6 q7
    have hs1 := VT.sum_le kids 1
    have hs2 := VT.sum_take kids (show 0 < kids.length by omega)
    have hs3 := HS.out
    have hp0 := hpr 0 (by omega) _ hB0
    have hp1 := hpr 0 (by omega)
    obtain ⟨k, hk⟩ : ∃ k, kids[0]'(by omega) = k := ⟨_, rfl⟩
    rw [hk] at q0 q1 q2 q3 q4 q5 q6 q7 hp0 hp1 hs2
    have hbd : 40 * k.num + 40 ≤ 40 * N := by simp [VT.sum] at hs1 hs2; simp [VT.sum] at hs3; omega
    have hkN : k.num ≤ 2000 := by omega
    clear hm1 hs1 hs2 hs3 hk hpr
    have hp3 := hp1 _ hB0.drew
    clear hp0 hp1
    go_enter Tryz.func40, Tryz.ntmps40
    go_wp2_with fail
    go_region_law
      (first
        | (go_simp; go_at_call 43; with_reducible refine (hd _).mono ?_; rintro _ w2 ⟨s2, rfl, hs2, rfl⟩; have i1 : ¬ 9223372036854775807 < 3 + s2.size := (by omega); have i2 : ¬ 9223372036854775807 < 3 + s2.size + 1 := (by omega))
        | (go_simp; go_at_call 40; (with_reducible refine hp3.mono ?_); rintro _ w3 ⟨s3, rfl, hs3, hB3⟩; have i3 : ¬ 9223372036854775807 < 3 + s2.size + 1 + s3.size := (by omega); have i4 : ¬ 9223372036854775807 < 3 + s2.size + 1 + s3.size + 1 := (by omega)))
    all_goals
      go_wp2_with fail
      go_ret
      exact ⟨_, rfl, by simp [ByteArray.size_append', ByteArray.size_mk']; omega, hB0.drew.trans (hB3.mono hB0.drew.size)⟩
  case cond nn h1 h2 =>
    have hd := fun wr => hdig wr (by omega) (by omega)
    clear hcl hqu hitem hdig hpr
    have hm1 := HM.out
    have hs3 := HS.out
    obtain ⟨b, o, hA, q0, q1, q2, q3, q4, q5, q6, q7⟩ := hK.load hB0 (show 0 < kids.length by omega)
    rw [hm1] at hK
    subst hA
    simp only [Nat.zero_mul, Nat.add_zero] at q0 q1 q2 q3 q4 q5 q6 q7
    have hs1 := VT.sum_le kids 2
    have hs2 := VT.sum_take kids (show 0 < kids.length by omega)
    have hs4 := VT.sum_take kids (show 1 < kids.length by omega)
    have hc0 := fun wr hb => hcat wr 0 (by omega) hb
    have hc1 := fun wr hb => hcat wr 1 (by omega) hb
    have hl := fun (wr : World) (hb : Below w.heap.size w wr) => SeesT.cells (wr := wr) (b := b) (o := o) (cp := cp) (ts := kids) (by rw [hm1]; exact hK) hb (j := 1) (by omega) (i := o + 8) (by omega)
    obtain ⟨k, hk⟩ : ∃ k, kids[0]'(by omega) = k := ⟨_, rfl⟩
    rw [hk] at q0 q1 q2 q3 q4 q5 q6 q7 hc0 hs2
    obtain ⟨k', hk'⟩ : ∃ k, kids[1]'(by omega) = k := ⟨_, rfl⟩
    rw [hk'] at hl hc1 hs4
    have hbd : 40 * (k.num + k'.num) + 40 ≤ 40 * N := by simp [VT.sum] at hs1 hs2 hs4; simp [VT.sum] at hs3; omega
    have hkN : k.num ≤ 2000 := by omega
    have hkN' : k'.num ≤ 2000 := by omega
    have hl0 := fun (wr : World) (hb : Below w.heap.size w wr) => SeesT.cells (wr := wr) (b := b) (o := o) (cp := cp) (ts := kids) (by rw [hm1]; exact hK) hb (j := 0) (by omega) (i := o) (by omega)
    rw [hk] at hl0
    have hS : ∀ w' : World, Below (w.heap.size + 1) (w.alloc (.cells #[.int .i64 10, .slice A2 p cp2, .slice (some ⟨b, o, none⟩) 2 cp, .int .i64 0, .int .i64 0, .int .i64 0, .int .i64 (nn : Int), .bool false] 51)) w' → w'.cell? ⟨w.heap.size, 6, none⟩ = some (.int .i64 (nn : Int)) ∧ w'.cell? ⟨w.heap.size, 2, none⟩ = some (.slice (some ⟨b, o, none⟩) 2 cp) ∧ w'.cell? ⟨b, o, none⟩ = some (.int .i64 k.op) ∧ w'.cell? ⟨b, o + 1, none⟩ = some (k.set) ∧ w'.cell? ⟨b, o + 2, none⟩ = some (k.kidv) ∧ w'.cell? ⟨b, o + 3, none⟩ = some (.int .i64 k.mn) ∧ w'.cell? ⟨b, o + 4, none⟩ = some (.int .i64 k.mx) ∧ w'.cell? ⟨b, o + 5, none⟩ = some (.int .i64 k.mo) ∧ w'.cell? ⟨b, o + 6, none⟩ = some (.int .i64 k.n) ∧ w'.cell? ⟨b, o + 7, none⟩ = some (.bool k.neg) ∧ w'.cell? ⟨b, o + 8, none⟩ = some (.int .i64 k'.op) ∧ w'.cell? ⟨b, o + 8 + 1, none⟩ = some (k'.set) ∧ w'.cell? ⟨b, o + 8 + 2, none⟩ = some (k'.kidv) ∧ w'.cell? ⟨b, o + 8 + 3, none⟩ = some (.int .i64 k'.mn) ∧ w'.cell? ⟨b, o + 8 + 4, none⟩ = some (.int .i64 k'.mx) ∧ w'.cell? ⟨b, o + 8 + 5, none⟩ = some (.int .i64 k'.mo) ∧ w'.cell? ⟨b, o + 8 + 6, none⟩ = some (.int .i64 k'.n) ∧ w'.cell? ⟨b, o + 8 + 7, none⟩ = some (.bool k'.neg) := by
      intro w' hb
      obtain ⟨-, -, g2, -, -, -, g6, -⟩ := hbox w' hb
      obtain ⟨r0, r1, r2, r3, r4, r5, r6, r7⟩ := hl0 w' (bel_box hb)
      obtain ⟨p0, p1, p2, p3, p4, p5, p6, p7⟩ := hl w' (bel_box hb)
      exact ⟨g6, g2, r0, r1, r2, r3, r4, r5, r6, r7, p0, p1, p2, p3, p4, p5, p6, p7⟩
    have hc0d := hc0 _ hB0.drew
    have hb0d := (Below.refl (w.heap.size + 1) (w.alloc (.cells #[.int .i64 10, .slice A2 p cp2, .slice (some ⟨b, o, none⟩) 2 cp, .int .i64 0, .int .i64 0, .int .i64 0, .int .i64 (nn : Int), .bool false] 51))).drew
    clear hm1 hs1 hs2 hs3 hs4 hk hk' hcat hc0 q0 q1 q2 q3 q4 q5 q6 q7
    go_enter Tryz.func40, Tryz.ntmps40
    go_wp2_with fail
    go_region_held3 (fun w' => w'.cell? ⟨w.heap.size, 6, none⟩ = some (.int .i64 (nn : Int)) ∧ w'.cell? ⟨w.heap.size, 2, none⟩ = some (.slice (some ⟨b, o, none⟩) 2 cp) ∧ w'.cell? ⟨b, o, none⟩ = some (.int .i64 k.op) ∧ w'.cell? ⟨b, o + 1, none⟩ = some (k.set) ∧ w'.cell? ⟨b, o + 2, none⟩ = some (k.kidv) ∧ w'.cell? ⟨b, o + 3, none⟩ = some (.int .i64 k.mn) ∧ w'.cell? ⟨b, o + 4, none⟩ = some (.int .i64 k.mx) ∧ w'.cell? ⟨b, o + 5, none⟩ = some (.int .i64 k.mo) ∧ w'.cell? ⟨b, o + 6, none⟩ = some (.int .i64 k.n) ∧ w'.cell? ⟨b, o + 7, none⟩ = some (.bool k.neg) ∧ w'.cell? ⟨b, o + 8, none⟩ = some (.int .i64 k'.op) ∧ w'.cell? ⟨b, o + 8 + 1, none⟩ = some (k'.set) ∧ w'.cell? ⟨b, o + 8 + 2, none⟩ = some (k'.kidv) ∧ w'.cell? ⟨b, o + 8 + 3, none⟩ = some (.int .i64 k'.mn) ∧ w'.cell? ⟨b, o + 8 + 4, none⟩ = some (.int .i64 k'.mx) ∧ w'.cell? ⟨b, o + 8 + 5, none⟩ = some (.int .i64 k'.mo) ∧ w'.cell? ⟨b, o + 8 + 6, none⟩ = some (.int .i64 k'.n) ∧ w'.cell? ⟨b, o + 8 + 7, none⟩ = some (.bool k'.neg))
      (first
        | exact hS _ hb0d
        | exact hS _ hbw
        | exact hS _ hbv)
      (first
        | (go_at_call 43; (with_reducible refine (hd _).mono ?_); clear hd; rintro _ w2 ⟨s2, rfl, hs2, rfl⟩; have i1 : ¬ 9223372036854775807 < 3 + s2.size := (by omega); have i2 : ¬ 9223372036854775807 < 3 + s2.size + 1 := (by omega))
        | (go_at_call 63; (with_reducible refine hc0d.mono ?_); clear hc0d; rintro _ w3 ⟨s3, rfl, hs3, hB3⟩; have i3 : ¬ 9223372036854775807 < 3 + s2.size + 1 + s3.size := (by omega); have i4 : ¬ 9223372036854775807 < 3 + s2.size + 1 + s3.size + 1 := (by omega); have hbw := hb0d.trans (hB3.mono (by simp)); have hc4 := hc1 w3 (bel_box hbw))
        | (go_at_call 63; (with_reducible refine hc4.mono ?_); rintro _ w4 ⟨s4, rfl, hs4, hB4⟩; have i5 : ¬ 9223372036854775807 < 3 + s2.size + 1 + s3.size + 1 + s4.size := (by omega); have i6 : ¬ 9223372036854775807 < 3 + s2.size + 1 + s3.size + 1 + s4.size + 1 := (by omega); have hbv := hbw.trans (hB4.mono (by have := hbw.size; simp at this; omega))))
    all_goals
      go_wp2_with fail
      go_ret
      exact ⟨_, rfl, by simp [ByteArray.size_append', ByteArray.size_mk']; omega, (bel_box hbw).trans (hB4.mono (bel_box hbw).size)⟩
end Go.Proofs.YtdacamjpcdbphaaGreatDoor
