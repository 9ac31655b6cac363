/-
  See at the text [97, x], where both sides are the same set; the numbers that are possible.
-/
import Derived.Test.YtopicmcaoeameaaGreatDoorNewC
import Derived.Test.YtopicmcaoeameaaGreatDoorFirsts
namespace Go.Proofs.YtopicmcaoeameaaGreatDoor
open Go Go.Ev Go.RowKit Go.Smap

theorem Bel.below {M : Nat → Prop} {B : Nat} {w w' : World} (h : Bel M B w w') (hM : ∀ k, M k → B ≤ k) : Below B w w' := ⟨h.os, h.tape, h.output, h.size, fun k hk => h.block k hk fun e => by have := hM k e; omega⟩
theorem differ_self (rs : List Rl) (D : List (Int × Int × Int)) (ns : List ByteArray) : differ rs rs D D ns = [] := by
  unfold differ
  rw [List.filter_eq_nil_iff]
  intro a _
  simp
/-- what See gives at the first text of a canary whose sides are one set -/
def seePost (M : Nat → Prop) (cb : Nat) (C : Can) (w w' : World) (e : Ending) : Except Int (List (Int × Int × Int)) → Prop
  | .error er => e = .returned (.tuple #[.bool false, .bool false, .int .i64 er]) ∧ Bel M w.heap.size w w' ∧ CanAt w' cb C
  | .ok _ => e = .returned (.tuple #[.bool true, .bool true, .int .i64 0]) ∧ BelBut M cb w w' ∧ CanAt w' cb { C with seen := C.seen + 1, compared := C.compared + 1 }
theorem see_args {M : Nat → Prop} {lo hi b cb bm base : Nat} {w : World} {rs : List Rl} {ns : List ByteArray} {vn : Value} (hMw : ∀ k, M k → k < w.heap.size) (hS : SetAt M lo hi w b rs) (hhi : hi ≤ w.heap.size) (hlen : rs.length ≤ 100) (hsz : ∀ r ∈ rs, r.name.size ≤ maxLen)
    {C : Can} (hC : CanAt w cb C) (e1 : C.b1 = b) (e2 : C.b2 = b) (e3 : C.every = 1) (e4 : C.most = 0) (e5 : C.enough = 5) (e6 : C.seen = 0) (e7 : C.compared = 0) (e8 : C.unlike = 0) (e9 : C.names = vn) (e10 : C.allowed = .map (some bm))
    (hcm : ¬ M cb) (hbmm : ¬ M bm) (hbm : IsMap w bm 0 fun _ => none) (hnames : w.ownsRow base 9 1 vn ns.length (ns.map Value.string)) (hbase : ∀ k, M k → k < base) (hnl : ns.length ≤ 1000) (hns : ∀ s ∈ ns, s.size ≤ maxLen)
    {ta : Option Addr} {n tc : Nat} (hn : n ≤ 1000) {F : Nat → Nat → FR} (hF : FirstOf M lo hi w (.slice ta n tc) n 2000 F rs) :
    Calls Tryz.prog 12 #[.pointer (some ⟨cb, 0, none⟩), .slice ta n tc, .int .i64 2000] w fun e w' => seePost M cb C w w' e (fnd F n 0 rs) := by
  obtain ⟨an, kn, rfl, han⟩ := owns_shape hnames
  have hcb := hC.lt
  obtain ⟨ng, hng, hngm, hna, hcell⟩ : ∃ ng, ng < w.heap.size ∧ ¬ M ng ∧ (ns ≠ [] → an = some ⟨ng, 0, none⟩) ∧ ∀ (i : Nat) (s : ByteArray), ns[i]? = some s → s.size ≤ maxLen ∧ w.cell? ⟨ng, i, none⟩ = some (.string s) := by
    by_cases h0 : ns = []
    · exact ⟨cb, hcb, hcm, fun h => absurd h0 h, fun i s hi => by rw [h0] at hi; simp at hi⟩
    · obtain ⟨g, rfl⟩ := han (fun e => h0 (List.length_eq_zero_iff.1 e))
      have hl := World.ownsRow.lt hnames g rfl
      refine ⟨g, hl.2, fun e => by have := hbase g e; omega, fun _ => rfl, fun i s hi => ⟨hns s (List.mem_of_getElem? hi), ?_⟩⟩
      have hil := (List.getElem?_eq_some_iff.1 hi).1
      rw [hnames.cellAt i (by omega), List.getElem?_map, hi]
      rfl
  have hcmp : ∀ w1, Below w.heap.size w w1 → Calls Tryz.prog 28 #[.pointer (some ⟨cb, 0, none⟩), .slice ta n tc, .int .i64 2000] w1 fun e w' => Bel M w1.heap.size w1 w' ∧ comparePost w1 w' e rs rs ns (fnd F n 0 rs) (fnd F n 0 rs) := fun w1 hb => by
    have hC1 := hC.below hb
    have hS1 := hS.bel (Bel.of hb) hhi
    have hs := hb.size
    refine compare_walk (na := an) (nc := kn) (fun k hk => Nat.lt_of_lt_of_le (hMw k hk) hs) hS1 hS1 (Nat.le_trans hhi hs) (Nat.le_trans hhi hs) hlen hlen hsz hsz hn (hF.later (.of hb)) (hF.later (.of hb)) (Nat.lt_of_lt_of_le hcb hs) hcm hbmm hngm ?_ ?_ ?_ ?_ (hbm.same (hb.block bm hbm.lt)) hna (Nat.lt_of_lt_of_le hng hs) (fun i s hi => ⟨(hcell i s hi).1, (hb.cell (p := ⟨ng, i, none⟩) hng).trans (hcell i s hi).2⟩) hnl
    · rw [hC1.cell 0]; simp [Can.cells, e1]
    · rw [hC1.cell 1]; simp [Can.cells, e2]
    · rw [hC1.cell 8]; simp [Can.cells, e9]
    · rw [hC1.cell 9]; simp [Can.cells, e10]
  have hv : verdict C.most C.enough C.compared C.unlike = 0 := by rw [e4, e5, e7, e8]; decide
  cases hX : fnd F n 0 rs with
  | error er =>
    rw [hX] at hcmp
    refine (see_err (M := M) hC hv (by rw [e6]; decide) (by rw [e3]; decide) (by rw [e6]; simp) _ _ er (fnd_err _ _ _ _ _ hX) hcmp).mono ?_
    rintro e w' ⟨rfl, hb⟩
    exact ⟨rfl, hb, hC.bel hcm hb⟩
  | ok D =>
    rw [hX] at hcmp
    refine (see_same (M := M) hcm hC hv (by rw [e6]; decide) (by rw [e3]; decide) (by rw [e6]; decide) (by rw [e7]; decide) (by rw [e7]; decide) (by rw [e6]; simp) _ _ (fun w1 hb => (hcmp w1 hb).mono ?_)).mono ?_
    · rintro e w' ⟨hb', v, rfl, hown⟩
      rw [differ_self] at hown
      obtain ⟨a, c, rfl, _⟩ := owns_shape hown
      exact ⟨hb', a, c, rfl⟩
    · rintro e w' ⟨rfl, hb, hC'⟩
      exact ⟨rfl, hb, hC'⟩
set_option maxHeartbeats 8000000 in
set_option maxRecDepth 1000000 in
theorem num_yes {ev mo en : Int} (h : Nums ev mo en) (w : World) : Calls Tryz.prog 15 #[.int .i64 ev, .int .i64 mo, .int .i64 en] w fun e w' => e = .returned (.bool true) ∧ w' = w := by
  obtain ⟨n1, n2, n3, n4, n5, n6⟩ := h
  go_enter Tryz.func15, Tryz.ntmps15
  go_wp2
  go_ret
  refine ⟨?_, rfl⟩
  simp [n1, n2, n3, n4, n5, n6]
set_option maxHeartbeats 8000000 in
set_option maxRecDepth 1000000 in
theorem num_no {ev mo en : Int} (h : ¬ Nums ev mo en) (w : World) : Calls Tryz.prog 15 #[.int .i64 ev, .int .i64 mo, .int .i64 en] w fun e w' => e = .returned (.bool false) ∧ w' = w := by
  have hX : Hid (¬ Nums ev mo en) := h
  clear h
  go_enter Tryz.func15, Tryz.ntmps15
  go_wp2
  all_goals go_ret
  all_goals refine ⟨?_, rfl⟩
  all_goals first
    | rfl
    | (have := hX.out
       unfold Nums at this
       simp
       omega)
theorem new_yes {M : Nat → Prop} {lo hi b : Nat} {w : World} {rs : List Rl} (hs : SetAt M lo hi w b rs) (hhi : hi ≤ w.heap.size) (hG : Good rs) {ev mo en : Int} (hN : Nums ev mo en) :
    Calls Tryz.prog 9 #[.pointer (some ⟨b, 0, none⟩), .pointer (some ⟨b, 0, none⟩), .int .i64 ev, .int .i64 mo, .int .i64 en] w fun e w' => ∃ cb : Nat, e = .returned (.tuple #[.pointer (some ⟨cb, 0, none⟩), .int .i64 0]) ∧ Below w.heap.size w w' := by
  refine (new_walk hs hs hhi hhi hG.len hG.len (fun r hr => (hG.each r ((List.mem_append.1 hr).elim id id)).2.2.2) hN).mono ?_
  rintro e w' ⟨cb, bm, vn, ns, rfl, hb, _⟩
  exact ⟨cb, rfl, hb⟩
theorem new_no (b : Nat) {ev mo en : Int} (hN : ¬ Nums ev mo en) (w : World) :
    Calls Tryz.prog 9 #[.pointer (some ⟨b, 0, none⟩), .pointer (some ⟨b, 0, none⟩), .int .i64 ev, .int .i64 mo, .int .i64 en] w fun e w' => ∃ _cb : Nat, e = .returned (.tuple #[.pointer none, .int .i64 1]) ∧ Below w.heap.size w w' := by
  refine (new_bad b b ev mo en hN w).mono ?_
  rintro e w' ⟨rfl, rfl⟩
  exact ⟨0, rfl, Below.refl _ _⟩
end Go.Proofs.YtopicmcaoeameaaGreatDoor
