/-
  text.Encode of code points, walked.
-/
import Derived.Test.YtahmcjdddcbhnaaGreatDoorFstWW
import Derived.Test.YtahmcjdddcbhnaaGreatDoorRunG2a
import Derived.Test.YtahmcjdddcbhnaaGreatDoorRunG0b
namespace Go.Utf
/-- the bytes of a code point -/
def encN (c : Nat) : List Nat := if c < 128 then [c] else if c < 2048 then [192 + c / 64, 128 + c % 64] else if c < 65536 then [224 + c / 4096, 128 + c / 64 % 64, 128 + c % 64] else [240 + c / 262144, 128 + c / 4096 % 64, 128 + c / 64 % 64, 128 + c % 64]
def enc (c : Nat) : List UInt8 := (encN c).map UInt8.ofNat
def encs (S : List Nat) : List UInt8 := S.flatMap enc
theorem encs_next {S : List Nat} {j : Nat} (h : j < S.length) : encs (S.take (j + 1)) = encs (S.take j) ++ enc S[j] := by
  unfold encs
  rw [List.take_succ_eq_append_getElem h, List.flatMap_append, List.flatMap_singleton]
theorem ofNat_toNat {a : Nat} (h : a < 256) : (UInt8.ofNat a).toNat = a := by
  rw [UInt8.toNat_ofNat']
  exact Nat.mod_eq_of_lt h
theorem enc_one {c : Nat} (hc : Cp c) (x : List UInt8) : Utf.one (enc c ++ x) = .ok c (enc c).length ∧ (enc c).length ≤ 4 := by
  obtain ⟨h1, h2⟩ := hc
  unfold enc encN
  by_cases c1 : c < 128
  · rw [if_pos c1]
    have e0 : (UInt8.ofNat c).toNat = c := ofNat_toNat (by omega)
    constructor
    · show oneN _ _ _ _ _ = _
      simp only [byt, List.map_cons, List.map_nil, List.cons_append, List.getElem?_cons_zero, Option.getD_some, e0]
      unfold oneN
      rw [if_pos c1]
      rfl
    · simp
  rw [if_neg c1]
  by_cases c2 : c < 2048
  · rw [if_pos c2]
    have e0 : (UInt8.ofNat (192 + c / 64)).toNat = 192 + c / 64 := ofNat_toNat (by omega)
    have e1 : (UInt8.ofNat (128 + c % 64)).toNat = 128 + c % 64 := ofNat_toNat (by omega)
    constructor
    · show oneN _ _ _ _ _ = _
      simp only [byt, List.map_cons, List.map_nil, List.cons_append, List.nil_append, List.getElem?_cons_zero, List.getElem?_cons_succ, Option.getD_some, e0, e1, List.length_cons]
      unfold oneN
      rw [if_neg (by omega), if_neg (by omega), if_pos (by omega), if_neg (by omega), if_neg (by omega)]
      congr 1
      omega
    · simp
  rw [if_neg c2]
  by_cases c3 : c < 65536
  · rw [if_pos c3]
    have e0 : (UInt8.ofNat (224 + c / 4096)).toNat = 224 + c / 4096 := ofNat_toNat (by omega)
    have e1 : (UInt8.ofNat (128 + c / 64 % 64)).toNat = 128 + c / 64 % 64 := ofNat_toNat (by omega)
    have e2 : (UInt8.ofNat (128 + c % 64)).toNat = 128 + c % 64 := ofNat_toNat (by omega)
    constructor
    · show oneN _ _ _ _ _ = _
      simp only [byt, List.map_cons, List.map_nil, List.cons_append, List.nil_append, List.getElem?_cons_zero, List.getElem?_cons_succ, Option.getD_some, e0, e1, e2, List.length_cons]
      unfold oneN loB hiB
      rw [if_neg (by omega), if_neg (by omega), if_neg (by omega), if_pos (by omega), if_neg (by omega), if_neg (by (repeat' split) <;> omega), if_neg (by omega), if_neg (by omega)]
      congr 1
      omega
    · simp
  · rw [if_neg c3]
    have e0 : (UInt8.ofNat (240 + c / 262144)).toNat = 240 + c / 262144 := ofNat_toNat (by omega)
    have e1 : (UInt8.ofNat (128 + c / 4096 % 64)).toNat = 128 + c / 4096 % 64 := ofNat_toNat (by omega)
    have e2 : (UInt8.ofNat (128 + c / 64 % 64)).toNat = 128 + c / 64 % 64 := ofNat_toNat (by omega)
    have e3 : (UInt8.ofNat (128 + c % 64)).toNat = 128 + c % 64 := ofNat_toNat (by omega)
    constructor
    · show oneN _ _ _ _ _ = _
      simp only [byt, List.map_cons, List.map_nil, List.cons_append, List.nil_append, List.getElem?_cons_zero, List.getElem?_cons_succ, Option.getD_some, e0, e1, e2, e3, List.length_cons]
      unfold oneN loB hiB
      rw [if_neg (by omega), if_neg (by omega), if_neg (by omega), if_neg (by omega), if_neg (by omega), if_neg (by (repeat' split) <;> omega), if_neg (by omega), if_neg (by omega), if_neg (by omega), if_neg (by omega)]
      congr 1
      omega
    · simp
theorem prs_enc : ∀ {S : List Nat}, (∀ c ∈ S, Cp c) → Prs (encs S) S []
  | [], _ => .nil _
  | c :: t, h => by
    have h1 := enc_one (h c (List.mem_cons_self ..)) (encs t)
    have ih := prs_enc (S := t) fun d hd => h d (List.mem_cons_of_mem _ hd)
    show Prs ((c :: t).flatMap enc) _ _
    rw [List.flatMap_cons]
    refine .cons ?_ h1.1 ?_
    · unfold enc encN; split <;> (try split) <;> (try split) <;> simp
    · rw [List.drop_left]
      exact ih
theorem enc_len : ∀ {S : List Nat}, (∀ c ∈ S, Cp c) → (encs S).length ≤ 4 * S.length
  | [], _ => by simp [encs]
  | c :: t, h => by
    have h1 := (enc_one (h c (List.mem_cons_self ..)) []).2
    have ih := enc_len (S := t) fun d hd => h d (List.mem_cons_of_mem _ hd)
    show ((c :: t).flatMap enc).length ≤ _
    rw [List.flatMap_cons, List.length_append, List.length_cons]
    unfold encs at ih
    omega
end Go.Utf
namespace Go.Proofs.YtahmcjdddcbhnaaGreatDoor
open Go Go.Ev Go.RowKit Go.Utf

theorem and63i (x : Nat) (hx : x < 1073741824) : bits .and .i64 (x : Int) 63 = ((x % 64 : Nat) : Int) := by
  have h1 : (BitVec.ofInt 64 ((x : Nat) : Int)).toNat = x := by
    rw [BitVec.ofInt_natCast, BitVec.toNat_ofNat]; exact Nat.mod_eq_of_lt (by omega)
  have h2 : (BitVec.ofInt 64 (63 : Int)).toNat = 63 := by decide
  have h3 : x &&& 63 = x % 64 := Nat.and_two_pow_sub_one_eq_mod x 6
  show IntKind.i64.wrap ((BitVec.ofInt 64 ((x : Nat) : Int) &&& BitVec.ofInt 64 (63 : Int)).toNat : Int) = _
  rw [BitVec.toNat_and, h1, h2, h3, IntKind.wrap_i64]
  omega
theorem bv_enc1 {c : Nat} (h : c < 128) : bv (enc c) = [.int .u8 (c : Int)] := by
  unfold enc encN
  rw [if_pos h]
  show [Value.int .u8 ((UInt8.ofNat c).toNat : Int)] = _
  rw [ofNat_toNat (by omega)]
theorem bv_enc2 {c : Nat} (h1 : ¬ c < 128) (h2 : c < 2048) : bv (enc c) = [.int .u8 ((192 + c / 64 : Nat) : Int), .int .u8 ((128 + c % 64 : Nat) : Int)] := by
  unfold enc encN
  rw [if_neg h1, if_pos h2]
  show [Value.int .u8 ((UInt8.ofNat _).toNat : Int), Value.int .u8 ((UInt8.ofNat _).toNat : Int)] = _
  rw [ofNat_toNat (by omega), ofNat_toNat (by omega)]
theorem bv_enc3 {c : Nat} (h1 : ¬ c < 128) (h2 : ¬ c < 2048) (h3 : c < 65536) : bv (enc c) = [.int .u8 ((224 + c / 4096 : Nat) : Int), .int .u8 ((128 + c / 64 % 64 : Nat) : Int), .int .u8 ((128 + c % 64 : Nat) : Int)] := by
  unfold enc encN
  rw [if_neg h1, if_neg h2, if_pos h3]
  show [Value.int .u8 ((UInt8.ofNat _).toNat : Int), Value.int .u8 ((UInt8.ofNat _).toNat : Int), Value.int .u8 ((UInt8.ofNat _).toNat : Int)] = _
  rw [ofNat_toNat (by omega), ofNat_toNat (by omega), ofNat_toNat (by omega)]
theorem bv_enc4 {c : Nat} (h1 : ¬ c < 128) (h2 : ¬ c < 2048) (h3 : ¬ c < 65536) (h4 : c ≤ 1114111) : bv (enc c) = [.int .u8 ((240 + c / 262144 : Nat) : Int), .int .u8 ((128 + c / 4096 % 64 : Nat) : Int), .int .u8 ((128 + c / 64 % 64 : Nat) : Int), .int .u8 ((128 + c % 64 : Nat) : Int)] := by
  unfold enc encN
  rw [if_neg h1, if_neg h2, if_neg h3]
  show [Value.int .u8 ((UInt8.ofNat _).toNat : Int), Value.int .u8 ((UInt8.ofNat _).toNat : Int), Value.int .u8 ((UInt8.ofNat _).toNat : Int), Value.int .u8 ((UInt8.ofNat _).toNat : Int)] = _
  rw [ofNat_toNat (by omega), ofNat_toNat (by omega), ofNat_toNat (by omega), ofNat_toNat (by omega)]
theorem make_room (W : World) {m : Nat} (hm : m ≤ 20) : ∃ w', (Instr.makeSlice 23 (.int .i64 0) (.int .i64 (m : Int))).run Tryz.prog W = .ok (.slice (some ⟨W.heap.size, 0, none⟩) 0 m) w' ∧ w'.ownsRow W.heap.size 5 1 (.slice (some ⟨W.heap.size, 0, none⟩) 0 m) 0 [] ∧ Below W.heap.size W w' := by
  obtain ⟨i0, hi0, hz0, hz1, hz2⟩ := info_parts' infoU8
  obtain ⟨w', h1, h2, h3⟩ := run_makeSlice_owned (P := Tryz.prog) (w := W) W.heap.size 23 5 i0 (.int .u8 0) 1 Tryz.underlying23 hi0 hz0 hz1 .i64 .i64 m (by omega) (by rw [hz2]; omega) (by unfold maxLen; omega) (Nat.le_refl _)
  exact ⟨w', h1, h2, (Below.refl _ W).grown h3 (Nat.le_refl _) (fun k hk => by cases hk)⟩
theorem hv_1 {c : Nat} (h : c < 128) : IntKind.u8.wrap (IntKind.i64.wrap (c : Int)) = ((c : Nat) : Int) := by rw [IntKind.wrap_i64, IntKind.wrap_u8]; omega
theorem hv_2 {c : Nat} (h : c < 2048) : IntKind.u8.wrap (IntKind.i64.wrap (192 + (c : Int) / 64)) = ((192 + c / 64 : Nat) : Int) := by rw [IntKind.wrap_i64, IntKind.wrap_u8]; omega
theorem hv_3 {c : Nat} (h : c < 65536) : IntKind.u8.wrap (IntKind.i64.wrap (224 + (c : Int) / 4096)) = ((224 + c / 4096 : Nat) : Int) := by rw [IntKind.wrap_i64, IntKind.wrap_u8]; omega
theorem hv_4 {c : Nat} (h : c ≤ 1114111) : IntKind.u8.wrap (IntKind.i64.wrap (240 + (c : Int) / 262144)) = ((240 + c / 262144 : Nat) : Int) := by rw [IntKind.wrap_i64, IntKind.wrap_u8]; omega
theorem hb_0 {c : Nat} (h : c ≤ 1114111) : bits .and .i64 (c : Int) 63 = ((c % 64 : Nat) : Int) := and63i c (by omega)
theorem hb_1 {c : Nat} (h : c ≤ 1114111) : bits .and .i64 ((c : Int) / 64) 63 = ((c / 64 % 64 : Nat) : Int) := by have := and63i (c / 64) (by omega); rwa [Int.natCast_ediv] at this
theorem hb_2 {c : Nat} (h : c ≤ 1114111) : bits .and .i64 ((c : Int) / 4096) 63 = ((c / 4096 % 64 : Nat) : Int) := by have := and63i (c / 4096) (by omega); rwa [Int.natCast_ediv] at this
theorem hu_n (x : Nat) : IntKind.u8.wrap (IntKind.i64.wrap (128 + ((x % 64 : Nat) : Int))) = ((128 + x % 64 : Nat) : Int) := by rw [IntKind.wrap_i64, IntKind.wrap_u8]; omega
theorem hu_w (x : Nat) : wrap64 (128 + ((x % 64 : Nat) : Int)) % 256 = ((128 + x % 64 : Nat) : Int) := by unfold wrap64; omega
theorem sees_oneD (w : World) (e : TypeId) (x : Value) {N : Nat} (hN : w.heap.size = N) : Sees (w.alloc (.cells #[x] e)).drew 1 (.slice (some ⟨N, 0, none⟩) 1 1) [x] :=
  (sees_oneN w e #[x] rfl hN).bel (Below.refl _ _).drew
structure EncAt (w : World) (B : Nat) (v : Value) (m : Nat) (xs : List Value) (W : World) : Prop where
  bel : Below B w W
  size : B ≤ W.heap.size
  row : W.ownsRow B 5 1 v m xs
theorem EncAt.alloc {w : World} {B : Nat} {v : Value} {m : Nat} {xs : List Value} {W : World} (h : EncAt w B v m xs W) (o : Obj) : EncAt w B v m xs (W.alloc o) :=
  ⟨h.bel.alloc h.size o, by rw [World.size_alloc]; have := h.size; omega, h.row.alloc o⟩
theorem EncAt.drew {w : World} {B : Nat} {v : Value} {m : Nat} {xs : List Value} {W : World} (h : EncAt w B v m xs W) : EncAt w B v m xs W.drew :=
  ⟨h.bel.drew, h.size, h.row.drew⟩
theorem EncAt.app {w : World} {B : Nat} {v v' : Value} {m m' : Nat} {xs xs' : List Value} {W W' : World} (h : EncAt w B v m xs W) (h1 : W'.ownsRow B 5 1 v' m' xs') (h2 : W.grownBy W' v.ownBlock) : EncAt w B v' m' xs' W' :=
  ⟨grown_bel0 h.bel h.row h.size h2, Nat.le_trans h.size h2.size, h1⟩
set_option maxHeartbeats 16000000 in
set_option maxRecDepth 1000000 in
theorem encode_walk {w : World} {v : Value} {S : List Nat} (hF : Forms w) (h : Sees w 1 v (natI S)) (hcp : ∀ c ∈ S, Cp c) (hS : S.length ≤ 20) :
    Calls Tryz.prog 5 #[v, .bool true] w fun e w' => ∃ u, e = .returned (.tuple #[u, .int .i64 0]) ∧ w'.ownsRow w.heap.size 5 1 u (encs S).length (bv (encs S)) ∧ Below w.heap.size w w' := by
  obtain ⟨i0, hi0, hz0, hz1, hz2⟩ := info_parts' infoU8
  have hva := valid_walk (w := w) (v := v) (l := S.map fun c : Nat => (c : Int)) (r := true) (by rw [← natI_ints]; exact h) (by rw [List.length_map]; omega) (fun z hz => by obtain ⟨c, hc, rfl⟩ := List.mem_map.1 hz; have := hcp c hc; exact ⟨by omega, by have h9 := this.1; show (c : Int) ≤ 1114111; omega, fun _ => by have := this.2; omega⟩)
  obtain ⟨A, n, cp, rfl, h1, h2, h3⟩ := h
  have hn : S.length = n := by rw [natI_len] at h1; omega
  have HN := Lib.hid (And.intro hn (And.intro h3 hcp))
  have HF := Lib.hid hF
  have hn20 : n ≤ 20 := by omega
  have hmk := fun W => make_room W hn20
  clear h1 hn h3 hcp hF
  go_enter Tryz.func5, Tryz.ntmps5
  go_wp2_with (first | (go_at_call 24; refine hva.mono ?_; clear hva; rintro _ w1 ⟨rfl, hb1⟩; obtain ⟨w2, hm1, hm2, hm3⟩ := hmk w1) | fail)
  have hb12 : Below w.heap.size w w2 := hb1.trans (hm3.mono hb1.size)
  have hz1' := hb1.size
  have hz2' := hb12.size
  have HM := Lib.hid (And.intro hb12 hm2)
  have i0' := form_at0
  have i1' := form_at1
  have i2' := form_at2
  have i3' := form_at3
  clear hm1 hm2 hm3 hmk
  go_loopw [7, 24] (fun ov iv wr => ∃ (j m : Nat), j ≤ n ∧ iv = .int .i64 j ∧ Hid (m = (encs (S.take j)).length) ∧ m ≤ 4 * j ∧ Below w.heap.size w wr ∧ wr.ownsRow w.heap.size 5 1 ov m (bv (encs (S.take j)))) (fun _ iv _ => n - (intOf iv).toNat)
  case atStart => exact ⟨0, 0, Nat.zero_le _, rfl, Lib.hid rfl, Nat.zero_le _, HM.out.1, row_base HM.out.2 hz1'⟩
  case round =>
    obtain ⟨j, m, hj, rfl, hm, hm4, hbel, hrow⟩ := hrel
    obtain ⟨Ao, co, rfl, _⟩ := row_form hrow
    by_cases c1 : j < n
    case neg =>
      have c1' : ¬ (j : Int) < (n : Int) := by omega
      have htk : S.take j = S := List.take_of_length_le (by rw [HN.out.1]; omega)
      have e : m = (encs S).length := by rw [hm.out, htk]
      rw [htk] at hrow
      have h9 : wr.ownsRow w.heap.size 5 1 (.slice Ao m co) (encs S).length (bv (encs S)) := by rw [← e]; exact hrow
      have HR := Lib.hid h9
      clear hrow h9 e htk
      go_wp2_with fail
      go_ret2
      exact ⟨.slice Ao m co, rfl, HR.out, hbel⟩
    have c1' : (j : Int) < (n : Int) := by omega
    obtain ⟨b, off, rfl, hb, hcc⟩ := HN.out.2.1 (by omega)
    have hjl : j < S.length := by rw [HN.out.1]; exact c1
    have hcell := (hbel.cell (p := ⟨b, off + j, none⟩) hb).trans (hcc j (.int .i64 ((S[j] : Nat) : Int)) (by unfold natI; rw [List.getElem?_map, List.getElem?_eq_getElem hjl]; rfl))
    have hcpj := HN.out.2.2 _ (List.getElem_mem hjl)
    have htk := encs_next hjl
    obtain ⟨c, hc⟩ : ∃ c : Nat, S[j] = c := ⟨_, rfl⟩
    rw [hc] at hcell hcpj htk
    have HTK := Lib.hid (And.intro htk hcpj)
    have hFr := HF.out.below hbel
    have g0 := hFr 0 _ rfl
    have g1 := hFr 1 _ rfl
    have g2 := hFr 2 _ rfl
    have g3 := hFr 3 _ rfl
    have g4 := hFr 4 _ rfl
    have g5 := hFr 5 _ rfl
    have g6 := hFr 6 _ rfl
    have g7 := hFr 7 _ rfl
    have g8 := hFr 8 _ rfl
    have g9 := hFr 9 _ rfl
    have g10 := hFr 10 _ rfl
    have g11 := hFr 11 _ rfl
    have g12 := hFr 12 _ rfl
    have g13 := hFr 13 _ rfl
    have g14 := hFr 14 _ rfl
    have g15 := hFr 15 _ rfl
    have hzw := hbel.size
    have hw0 : IntKind.i64.wrap 0 = 0 := by decide
    have hw6 : IntKind.i64.wrap 6 = 6 := by decide
    have hw12 : IntKind.i64.wrap 12 = 12 := by decide
    have hw18 : IntKind.i64.wrap 18 = 18 := by decide
    have hE : EncAt w w.heap.size (.slice Ao m co) m (bv (encs (S.take j))) wr := ⟨hbel, hzw, hrow⟩
    have hno : ∀ i : Nat, some (wr.heap.size + i) ≠ (Value.slice Ao m co).ownBlock := fun i e => by
      have := (World.ownsRow.lt hrow _ e.symm).2
      omega
    clear hcc hc htk hFr
    --LEAVES
    by_cases d1 : c < 128
    · have hle := HTK.out.2.1
      have e0 : ¬ (127 : Int) < (c : Int) := by omega
      have hv0 := hv_1 d1
      have hbv := bv_enc1 d1
      obtain ⟨n0, hn0⟩ : ∃ n : Nat, c = n := ⟨_, rfl⟩
      skip
      clear hn0
      have HBV := Lib.hid hbv
      clear hbv
      go_wp2_with fail
      refine wp_loop_rounds 2 ?_
      rw [rounds_succ]
      go_wp2_with fail
      go_region_law (
        refine step_append_sees (base := w.heap.size) (by rfl) _ _ _ (by rfl) i0 _ 1 Tryz.underlying23 hi0 hz0 hz1 hz2 rfl (by omega) (.slice Ao m co) m (bv (encs (S.take j))) (by rfl) ((hE.alloc _).alloc _).drew.row (.slice (some ⟨wr.heap.size + 1, 0, none⟩) 1 1) 1 [.int .u8 (c : Int)] (by rfl) ?_ ?_ ?_ ?_ ?_ ((hE.alloc _).alloc _).drew.size ?_
        · refine sees_oneD _ _ _ ?_
          simp
        · rfl
        · simp [Value.oneCell']
        · unfold maxLen; omega
        · omega
        intro v3 w3 hrow3 hgrow3 hown3
        obtain ⟨A3, c3, rfl, _⟩ := row_form hrow3
        have hE3 := EncAt.app ((hE.alloc _).alloc _).drew hrow3 hgrow3
        have f3 := hgrow3.cell_far ⟨wr.heap.size + 0, 3, none⟩ (by simp <;> omega) (hno 0)
        simp at f3
        clear hrow3 hown3 hgrow3)
      all_goals
        go_wp2_with fail
        refine wp_loop_rounds 1 ?_
        rw [rounds_succ]
        go_wp2_with fail
        go_roundw
        case rel =>
          have e1 : bv (encs (S.take (j + 1))) = (bv (encs (S.take j)) ++ [.int .u8 (c : Int)]) := by rw [HTK.out.1, bv_app, HBV.out]; first | done | simp
          have e2 : (encs (S.take (j + 1))).length = m + 1 := by rw [HTK.out.1, List.length_append, ← hm.out, ← bv_len (enc c), HBV.out]; rfl
          exact ⟨j + 1, m + 1, by omega, by go_num, Lib.hid e2.symm, by omega, hE3.bel, by { rw [e1]; exact hE3.row }⟩
        case measure => simp [intOf]; omega
    by_cases d2 : c < 2048
    · have hle := HTK.out.2.1
      have e0 : (127 : Int) < (c : Int) := by omega
      have e1 : ¬ (2047 : Int) < (c : Int) := by omega
      have b0 := hb_0 HTK.out.2.1
      have u0 := hu_n (c)
      have v0 := hu_w (c)
      have hv0 := hv_2 d2
      have hbv := bv_enc2 d1 d2
      obtain ⟨n0, hn0⟩ : ∃ n : Nat, 192 + c / 64 = n := ⟨_, rfl⟩
      rw [hn0] at hv0 hbv
      obtain ⟨z0, hz0z⟩ : ∃ z : Nat, 128 + c % 64 = z := ⟨_, rfl⟩
      rw [hz0z] at u0 v0 hbv
      obtain ⟨y0, hy0z⟩ : ∃ y : Nat, c % 64 = y := ⟨_, rfl⟩
      rw [hy0z] at u0 v0 b0
      clear hz0z hy0z
      clear hn0
      have HBV := Lib.hid hbv
      clear hbv
      go_wp2_with fail
      refine wp_loop_rounds 3 ?_
      rw [rounds_succ]
      go_wp2_with fail
      rw [rounds_succ]
      go_wp2_with fail
      go_region_law (
        refine step_append_sees (base := w.heap.size) (by rfl) _ _ _ (by rfl) i0 _ 1 Tryz.underlying23 hi0 hz0 hz1 hz2 rfl (by omega) (.slice Ao m co) m (bv (encs (S.take j))) (by rfl) (((hE.alloc _).alloc _).alloc _).drew.row (.slice (some ⟨wr.heap.size + 2, 0, none⟩) 1 1) 1 [.int .u8 (n0 : Int)] (by rfl) ?_ ?_ ?_ ?_ ?_ (((hE.alloc _).alloc _).alloc _).drew.size ?_
        · refine sees_oneD _ _ _ ?_
          simp
        · rfl
        · simp [Value.oneCell']
        · unfold maxLen; omega
        · omega
        intro v3 w3 hrow3 hgrow3 hown3
        obtain ⟨A3, c3, rfl, _⟩ := row_form hrow3
        have hE3 := EncAt.app (((hE.alloc _).alloc _).alloc _).drew hrow3 hgrow3
        have f3 := hgrow3.cell_far ⟨wr.heap.size + 1, 3, none⟩ (by simp <;> omega) (hno 1)
        simp at f3
        clear hrow3 hown3 hgrow3)
      all_goals
        go_wp2_with fail
        refine wp_loop_rounds 2 ?_
        rw [rounds_succ]
        go_wp2_with (first
          | (at_builtin
             refine wpList_append_sees (base := w.heap.size) rfl _ _ 23 rfl i0 _ 1 Tryz.underlying23 hi0 hz0 hz1 hz2 rfl (by decide) (.slice A3 (m + 1) c3) (m + 1) (bv (encs (S.take j)) ++ [.int .u8 (n0 : Int)]) rfl (hE3.alloc _).row _ 1 _ rfl (sees_one _ 5 #[.int .u8 ((z0 : Nat))] (size := 1) rfl) rfl (by simp [Value.oneCell']) (by unfold maxLen; omega) (by omega) (hE3.alloc _).size ?_
             intro v4 w4 hrow4 hgrow4 hown4
             obtain ⟨A4, c4, rfl, _⟩ := row_form hrow4
             have hE4 := EncAt.app (hE3.alloc _) hrow4 hgrow4
             clear hrow4 hgrow4 hown4)
          | fail)
        rw [rounds_succ]
        go_wp2_with fail
        go_roundw
        case rel =>
          have e1 : bv (encs (S.take (j + 1))) = ((bv (encs (S.take j)) ++ [.int .u8 (n0 : Int)]) ++ [.int .u8 (z0 : Int)]) := by rw [HTK.out.1, bv_app, HBV.out]; first | done | simp
          have e2 : (encs (S.take (j + 1))).length = m + 2 := by rw [HTK.out.1, List.length_append, ← hm.out, ← bv_len (enc c), HBV.out]; rfl
          exact ⟨j + 1, m + 2, by omega, by go_num, Lib.hid e2.symm, by omega, hE4.bel, by { rw [e1]; exact hE4.row }⟩
        case measure => simp [intOf]; omega
    by_cases d3 : c < 65536
    · have hle := HTK.out.2.1
      have e0 : (127 : Int) < (c : Int) := by omega
      have e1 : (2047 : Int) < (c : Int) := by omega
      have e2 : ¬ (65535 : Int) < (c : Int) := by omega
      have b0 := hb_0 HTK.out.2.1
      have u0 := hu_n (c)
      have v0 := hu_w (c)
      have b1 := hb_1 HTK.out.2.1
      have u1 := hu_n (c / 64)
      have v1 := hu_w (c / 64)
      have hv0 := hv_3 d3
      have hbv := bv_enc3 d1 d2 d3
      obtain ⟨n0, hn0⟩ : ∃ n : Nat, 224 + c / 4096 = n := ⟨_, rfl⟩
      rw [hn0] at hv0 hbv
      obtain ⟨z0, hz0z⟩ : ∃ z : Nat, 128 + c % 64 = z := ⟨_, rfl⟩
      rw [hz0z] at u0 v0 hbv
      obtain ⟨y0, hy0z⟩ : ∃ y : Nat, c % 64 = y := ⟨_, rfl⟩
      rw [hy0z] at u0 v0 b0
      clear hz0z hy0z
      obtain ⟨z1, hz1z⟩ : ∃ z : Nat, 128 + c / 64 % 64 = z := ⟨_, rfl⟩
      rw [hz1z] at u1 v1 hbv
      obtain ⟨y1, hy1z⟩ : ∃ y : Nat, c / 64 % 64 = y := ⟨_, rfl⟩
      rw [hy1z] at u1 v1 b1
      clear hz1z hy1z
      clear hn0
      have HBV := Lib.hid hbv
      clear hbv
      go_wp2_with fail
      refine wp_loop_rounds 4 ?_
      rw [rounds_succ]
      go_wp2_with fail
      rw [rounds_succ]
      go_wp2_with fail
      rw [rounds_succ]
      go_wp2_with fail
      go_region_law (
        refine step_append_sees (base := w.heap.size) (by rfl) _ _ _ (by rfl) i0 _ 1 Tryz.underlying23 hi0 hz0 hz1 hz2 rfl (by omega) (.slice Ao m co) m (bv (encs (S.take j))) (by rfl) ((((hE.alloc _).alloc _).alloc _).alloc _).drew.row (.slice (some ⟨wr.heap.size + 3, 0, none⟩) 1 1) 1 [.int .u8 (n0 : Int)] (by rfl) ?_ ?_ ?_ ?_ ?_ ((((hE.alloc _).alloc _).alloc _).alloc _).drew.size ?_
        · refine sees_oneD _ _ _ ?_
          simp
        · rfl
        · simp [Value.oneCell']
        · unfold maxLen; omega
        · omega
        intro v3 w3 hrow3 hgrow3 hown3
        obtain ⟨A3, c3, rfl, _⟩ := row_form hrow3
        have hE3 := EncAt.app ((((hE.alloc _).alloc _).alloc _).alloc _).drew hrow3 hgrow3
        have f3 := hgrow3.cell_far ⟨wr.heap.size + 2, 3, none⟩ (by simp <;> omega) (hno 2)
        simp at f3
        clear hrow3 hown3 hgrow3)
      all_goals
        go_wp2_with fail
        refine wp_loop_rounds 3 ?_
        rw [rounds_succ]
        go_wp2_with (first
          | (at_builtin
             refine wpList_append_sees (base := w.heap.size) rfl _ _ 23 rfl i0 _ 1 Tryz.underlying23 hi0 hz0 hz1 hz2 rfl (by decide) (.slice A3 (m + 1) c3) (m + 1) (bv (encs (S.take j)) ++ [.int .u8 (n0 : Int)]) rfl (hE3.alloc _).row _ 1 _ rfl (sees_one _ 5 #[.int .u8 ((z1 : Nat))] (size := 1) rfl) rfl (by simp [Value.oneCell']) (by unfold maxLen; omega) (by omega) (hE3.alloc _).size ?_
             intro v4 w4 hrow4 hgrow4 hown4
             obtain ⟨A4, c4, rfl, _⟩ := row_form hrow4
             have hE4 := EncAt.app (hE3.alloc _) hrow4 hgrow4
             clear hrow4 hgrow4 hown4)
          | fail)
        rw [rounds_succ]
        go_wp2_with (first
          | (at_builtin
             refine wpList_append_sees (base := w.heap.size) rfl _ _ 23 rfl i0 _ 1 Tryz.underlying23 hi0 hz0 hz1 hz2 rfl (by decide) (.slice A4 (m + 2) c4) (m + 2) ((bv (encs (S.take j)) ++ [.int .u8 (n0 : Int)]) ++ [.int .u8 (z1 : Int)]) rfl (hE4.alloc _).row _ 1 _ rfl (sees_one _ 5 #[.int .u8 ((z0 : Nat))] (size := 1) rfl) rfl (by simp [Value.oneCell']) (by unfold maxLen; omega) (by omega) (hE4.alloc _).size ?_
             intro v5 w5 hrow5 hgrow5 hown5
             obtain ⟨A5, c5, rfl, _⟩ := row_form hrow5
             have hE5 := EncAt.app (hE4.alloc _) hrow5 hgrow5
             clear hrow5 hgrow5 hown5)
          | fail)
        rw [rounds_succ]
        go_wp2_with fail
        go_roundw
        case rel =>
          have e1 : bv (encs (S.take (j + 1))) = (((bv (encs (S.take j)) ++ [.int .u8 (n0 : Int)]) ++ [.int .u8 (z1 : Int)]) ++ [.int .u8 (z0 : Int)]) := by rw [HTK.out.1, bv_app, HBV.out]; first | done | simp
          have e2 : (encs (S.take (j + 1))).length = m + 3 := by rw [HTK.out.1, List.length_append, ← hm.out, ← bv_len (enc c), HBV.out]; rfl
          exact ⟨j + 1, m + 3, by omega, by go_num, Lib.hid e2.symm, by omega, hE5.bel, by { rw [e1]; exact hE5.row }⟩
        case measure => simp [intOf]; omega
    have hle := HTK.out.2.1
    have e0 : (127 : Int) < (c : Int) := by omega
    have e1 : (2047 : Int) < (c : Int) := by omega
    have e2 : (65535 : Int) < (c : Int) := by omega
    have e3 : ¬ (1114111 : Int) < (c : Int) := by omega
    have b0 := hb_0 HTK.out.2.1
    have u0 := hu_n (c)
    have v0 := hu_w (c)
    have b1 := hb_1 HTK.out.2.1
    have u1 := hu_n (c / 64)
    have v1 := hu_w (c / 64)
    have b2 := hb_2 HTK.out.2.1
    have u2 := hu_n (c / 4096)
    have v2 := hu_w (c / 4096)
    have hv0 := hv_4 HTK.out.2.1
    have hbv := bv_enc4 d1 d2 d3 HTK.out.2.1
    obtain ⟨n0, hn0⟩ : ∃ n : Nat, 240 + c / 262144 = n := ⟨_, rfl⟩
    rw [hn0] at hv0 hbv
    obtain ⟨z0, hz0z⟩ : ∃ z : Nat, 128 + c % 64 = z := ⟨_, rfl⟩
    rw [hz0z] at u0 v0 hbv
    obtain ⟨y0, hy0z⟩ : ∃ y : Nat, c % 64 = y := ⟨_, rfl⟩
    rw [hy0z] at u0 v0 b0
    clear hz0z hy0z
    obtain ⟨z1, hz1z⟩ : ∃ z : Nat, 128 + c / 64 % 64 = z := ⟨_, rfl⟩
    rw [hz1z] at u1 v1 hbv
    obtain ⟨y1, hy1z⟩ : ∃ y : Nat, c / 64 % 64 = y := ⟨_, rfl⟩
    rw [hy1z] at u1 v1 b1
    clear hz1z hy1z
    obtain ⟨z2, hz2z⟩ : ∃ z : Nat, 128 + c / 4096 % 64 = z := ⟨_, rfl⟩
    rw [hz2z] at u2 v2 hbv
    obtain ⟨y2, hy2z⟩ : ∃ y : Nat, c / 4096 % 64 = y := ⟨_, rfl⟩
    rw [hy2z] at u2 v2 b2
    clear hz2z hy2z
    clear hn0
    have HBV := Lib.hid hbv
    clear hbv
    go_wp2_with fail
    refine wp_loop_rounds 5 ?_
    rw [rounds_succ]
    go_wp2_with fail
    rw [rounds_succ]
    go_wp2_with fail
    rw [rounds_succ]
    go_wp2_with fail
    rw [rounds_succ]
    go_wp2_with fail
    go_region_law (
      refine step_append_sees (base := w.heap.size) (by rfl) _ _ _ (by rfl) i0 _ 1 Tryz.underlying23 hi0 hz0 hz1 hz2 rfl (by omega) (.slice Ao m co) m (bv (encs (S.take j))) (by rfl) (((((hE.alloc _).alloc _).alloc _).alloc _).alloc _).drew.row (.slice (some ⟨wr.heap.size + 4, 0, none⟩) 1 1) 1 [.int .u8 (n0 : Int)] (by rfl) ?_ ?_ ?_ ?_ ?_ (((((hE.alloc _).alloc _).alloc _).alloc _).alloc _).drew.size ?_
      · refine sees_oneD _ _ _ ?_
        simp
      · rfl
      · simp [Value.oneCell']
      · unfold maxLen; omega
      · omega
      intro v3 w3 hrow3 hgrow3 hown3
      obtain ⟨A3, c3, rfl, _⟩ := row_form hrow3
      have hE3 := EncAt.app (((((hE.alloc _).alloc _).alloc _).alloc _).alloc _).drew hrow3 hgrow3
      have f3 := hgrow3.cell_far ⟨wr.heap.size + 3, 3, none⟩ (by simp <;> omega) (hno 3)
      simp at f3
      clear hrow3 hown3 hgrow3)
    all_goals
      go_wp2_with fail
      refine wp_loop_rounds 4 ?_
      rw [rounds_succ]
      go_wp2_with (first
        | (at_builtin
           refine wpList_append_sees (base := w.heap.size) rfl _ _ 23 rfl i0 _ 1 Tryz.underlying23 hi0 hz0 hz1 hz2 rfl (by decide) (.slice A3 (m + 1) c3) (m + 1) (bv (encs (S.take j)) ++ [.int .u8 (n0 : Int)]) rfl (hE3.alloc _).row _ 1 _ rfl (sees_one _ 5 #[.int .u8 ((z2 : Nat))] (size := 1) rfl) rfl (by simp [Value.oneCell']) (by unfold maxLen; omega) (by omega) (hE3.alloc _).size ?_
           intro v4 w4 hrow4 hgrow4 hown4
           obtain ⟨A4, c4, rfl, _⟩ := row_form hrow4
           have hE4 := EncAt.app (hE3.alloc _) hrow4 hgrow4
           clear hrow4 hgrow4 hown4)
        | fail)
      rw [rounds_succ]
      go_wp2_with (first
        | (at_builtin
           refine wpList_append_sees (base := w.heap.size) rfl _ _ 23 rfl i0 _ 1 Tryz.underlying23 hi0 hz0 hz1 hz2 rfl (by decide) (.slice A4 (m + 2) c4) (m + 2) ((bv (encs (S.take j)) ++ [.int .u8 (n0 : Int)]) ++ [.int .u8 (z2 : Int)]) rfl (hE4.alloc _).row _ 1 _ rfl (sees_one _ 5 #[.int .u8 ((z1 : Nat))] (size := 1) rfl) rfl (by simp [Value.oneCell']) (by unfold maxLen; omega) (by omega) (hE4.alloc _).size ?_
           intro v5 w5 hrow5 hgrow5 hown5
           obtain ⟨A5, c5, rfl, _⟩ := row_form hrow5
           have hE5 := EncAt.app (hE4.alloc _) hrow5 hgrow5
           clear hrow5 hgrow5 hown5)
        | fail)
      rw [rounds_succ]
      go_wp2_with (first
        | (at_builtin
           refine wpList_append_sees (base := w.heap.size) rfl _ _ 23 rfl i0 _ 1 Tryz.underlying23 hi0 hz0 hz1 hz2 rfl (by decide) (.slice A5 (m + 3) c5) (m + 3) (((bv (encs (S.take j)) ++ [.int .u8 (n0 : Int)]) ++ [.int .u8 (z2 : Int)]) ++ [.int .u8 (z1 : Int)]) rfl (hE5.alloc _).row _ 1 _ rfl (sees_one _ 5 #[.int .u8 ((z0 : Nat))] (size := 1) rfl) rfl (by simp [Value.oneCell']) (by unfold maxLen; omega) (by omega) (hE5.alloc _).size ?_
           intro v6 w6 hrow6 hgrow6 hown6
           obtain ⟨A6, c6, rfl, _⟩ := row_form hrow6
           have hE6 := EncAt.app (hE5.alloc _) hrow6 hgrow6
           clear hrow6 hgrow6 hown6)
        | fail)
      rw [rounds_succ]
      go_wp2_with fail
      go_roundw
      case rel =>
        have e1 : bv (encs (S.take (j + 1))) = ((((bv (encs (S.take j)) ++ [.int .u8 (n0 : Int)]) ++ [.int .u8 (z2 : Int)]) ++ [.int .u8 (z1 : Int)]) ++ [.int .u8 (z0 : Int)]) := by rw [HTK.out.1, bv_app, HBV.out]; first | done | simp
        have e2 : (encs (S.take (j + 1))).length = m + 4 := by rw [HTK.out.1, List.length_append, ← hm.out, ← bv_len (enc c), HBV.out]; rfl
        exact ⟨j + 1, m + 4, by omega, by go_num, Lib.hid e2.symm, by omega, hE6.bel, by { rw [e1]; exact hE6.row }⟩
      case measure => simp [intOf]; omega
end Go.Proofs.YtahmcjdddcbhnaaGreatDoor
