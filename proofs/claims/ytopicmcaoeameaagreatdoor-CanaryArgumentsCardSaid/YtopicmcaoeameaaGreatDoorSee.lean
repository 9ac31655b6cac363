/-
  The canary's See, walked.
-/
import Derived.Test.YtopicmcaoeameaaGreatDoorCompare
import Derived.Test.YtopicmcaoeameaaGreatDoorSmall
namespace Go.Proofs.YtopicmcaoeameaaGreatDoor
open Go Go.Ev Go.RowKit Go.Smap

/-- See, where the verdict is no longer open -/
theorem verdict_range (m e c u : Int) : verdict m e c u = 0 ∨ verdict m e c u = 1 ∨ verdict m e c u = 2 := by
  unfold verdict; split
  · exact .inr (.inr rfl)
  · split
    · exact .inr (.inl rfl)
    · exact .inl rfl
set_option maxRecDepth 1000000 in
theorem see_shut {cb : Nat} {w : World} {m e c u : Int} (k3 : w.cell? ⟨cb, 3, none⟩ = some (.int .i64 m)) (k4 : w.cell? ⟨cb, 4, none⟩ = some (.int .i64 e)) (k6 : w.cell? ⟨cb, 6, none⟩ = some (.int .i64 c)) (k7 : w.cell? ⟨cb, 7, none⟩ = some (.int .i64 u))
    (hv : verdict m e c u ≠ 0) (t : Value) (fuel : Int) :
    Calls Tryz.prog 12 #[.pointer (some ⟨cb, 0, none⟩), t, .int .i64 fuel] w fun ed w' => ed = .returned (.tuple #[.bool false, .bool false, .int .i64 20]) ∧ Below w.heap.size w w' := by
  have hvw := verdict_walk k3 k4 k6 k7
  obtain ⟨V, hV⟩ : ∃ V, verdict m e c u = V := ⟨_, rfl⟩
  rw [hV] at hvw hv
  clear hV
  go_enter Tryz.func12, Tryz.ntmps12
  go_wp2_with (first
    | (go_at_call 19; refine hvw.mono ?_; rintro _ w1 ⟨rfl, hb1⟩)
    | go_in)
  go_ret3
  exact ⟨rfl, hb1⟩
/-- a canary's fields -/
structure Can where
  b1 : Nat
  b2 : Nat
  every : Int
  most : Int
  enough : Int
  seen : Int
  compared : Int
  unlike : Int
  names : Value
  allowed : Value
  cases : Value
def Can.cells (C : Can) : Array Value := #[.pointer (some ⟨C.b1, 0, none⟩), .pointer (some ⟨C.b2, 0, none⟩), .int .i64 C.every, .int .i64 C.most, .int .i64 C.enough, .int .i64 C.seen, .int .i64 C.compared, .int .i64 C.unlike, C.names, C.allowed, C.cases]
/-- block cb is the canary C -/
def CanAt (w : World) (cb : Nat) (C : Can) : Prop := w.heap[cb]? = some (.cells C.cells 69 (0, 0))
theorem CanAt.cell {w : World} {cb : Nat} {C : Can} (h : CanAt w cb C) (o : Nat) : w.cell? ⟨cb, o, none⟩ = C.cells[o]? := by simp [World.cell?, show w.heap[cb]? = _ from h]
theorem CanAt.frozen {w : World} {cb : Nat} {C : Can} (h : CanAt w cb C) (o : Nat) : w.frozen? ⟨cb, o, none⟩ = false := by simp [World.frozen?, show w.heap[cb]? = _ from h]
theorem CanAt.lt {w : World} {cb : Nat} {C : Can} (h : CanAt w cb C) : cb < w.heap.size := (Array.getElem?_eq_some_iff.1 h).1
theorem CanAt.below {w w' : World} {cb : Nat} {C : Can} (h : CanAt w cb C) (hb : Below w.heap.size w w') : CanAt w' cb C := (hb.block cb h.lt).trans h
theorem CanAt.set {w : World} {cb : Nat} {C C' : Can} (h : CanAt w cb C) (o : Nat) (v : Value) (hc : C.cells.setIfInBounds o v = C'.cells) : CanAt (w.setCell ⟨cb, o, none⟩ v) cb C' := by
  unfold CanAt at h ⊢
  rw [← hc]
  show (w.heap.modify cb _)[cb]? = _
  rw [Array.getElem?_modify, if_pos rfl, h]
  rfl
theorem CanAt.bel {M : Nat → Prop} {w w' : World} {cb : Nat} {C : Can} (h : CanAt w cb C) (hm : ¬ M cb) (hb : Bel M w.heap.size w w') : CanAt w' cb C := (hb.block cb h.lt hm).trans h
/-- but for block cb, and what the machines M hold, all that was there is as it was -/
structure BelBut (M : Nat → Prop) (cb : Nat) (w w' : World) : Prop where
  os : w'.os = w.os
  tape : w'.tape = w.tape
  output : w'.output = w.output
  size : w.heap.size ≤ w'.heap.size
  block : ∀ k, k < w.heap.size → k ≠ cb → ¬ M k → w'.heap[k]? = w.heap[k]?
  mach : ∀ k, k < w.heap.size → M k → SameM (w.heap[k]?) (w'.heap[k]?)
theorem BelBut.of {M : Nat → Prop} {cb : Nat} {w w' : World} (h : Bel M w.heap.size w w') : BelBut M cb w w' := ⟨h.os, h.tape, h.output, h.size, fun k hk _ hm => h.block k hk hm, h.mach⟩
theorem BelBut.set {M : Nat → Prop} {cb : Nat} {w w' : World} (h : BelBut M cb w w') (hm : ¬ M cb) (o : Nat) (v : Value) : BelBut M cb w (w'.setCell ⟨cb, o, none⟩ v) :=
  ⟨h.os, h.tape, h.output, by simp [World.setCell]; exact h.size, fun k hk hne hk2 => (Below.heap_setCell _ _ _ _ hne).trans (h.block k hk hne hk2),
    fun k hk hk2 => by rw [Below.heap_setCell _ _ _ _ (show k ≠ cb from fun e => hm (e ▸ hk2))]; exact h.mach k hk hk2⟩
theorem BelBut.drew {M : Nat → Prop} {cb : Nat} {w w' : World} (h : BelBut M cb w w') : BelBut M cb w w'.drew := ⟨h.os, h.tape, h.output, h.size, h.block, h.mach⟩
/-- where cb is new, that is nothing of what was there -/
theorem Bel.but {M : Nat → Prop} {B cb : Nat} {a w w' : World} (h : Bel M B a w) (k : BelBut M cb w w') (hB : B ≤ w.heap.size) (hcb : B ≤ cb) : Bel M B a w' :=
  h.trans ⟨k.os, k.tape, k.output, k.size, fun i hi hm => k.block i (by omega) (by omega) hm, fun i hi hm => k.mach i (by omega) hm⟩
set_option maxHeartbeats 4000000 in
set_option maxRecDepth 1000000 in
theorem see_skip {cb : Nat} {w : World} {C : Can} (h : CanAt w cb C) (hv : verdict C.most C.enough C.compared C.unlike = 0) (h0 : 0 ≤ C.seen) (h1 : 1 ≤ C.every) (hs : C.seen ≤ 1000000) (hm : C.seen % C.every ≠ 0) (t : Value) (fuel : Int) :
    Calls Tryz.prog 12 #[.pointer (some ⟨cb, 0, none⟩), t, .int .i64 fuel] w fun ed w' => ed = .returned (.tuple #[.bool false, .bool false, .int .i64 0]) ∧ But cb w w' ∧ CanAt w' cb { C with seen := C.seen + 1 } := by
  obtain ⟨b1, b2, every, most, enough, seen, compared, unlike, names, allowed, cases⟩ := C
  have hvw := verdict_walk (h.cell 3) (h.cell 4) (h.cell 6) (h.cell 7)
  simp only at hv h0 h1 hs hm hvw
  rw [hv] at hvw
  clear hv
  have hz : every ≠ 0 := by omega
  have hm2 : (seen % every != 0) = true := by simpa using hm
  go_enter Tryz.func12, Tryz.ntmps12
  go_wp2_with (first
    | (go_at_call 19; refine hvw.mono ?_; rintro _ w1 ⟨rfl, hb1⟩; have hC := h.below hb1; have c5 : w1.cell? ⟨cb, 5, none⟩ = some (.int .i64 seen) := hC.cell 5; have c2 : w1.cell? ⟨cb, 2, none⟩ = some (.int .i64 every) := hC.cell 2; have f5 := hC.frozen 5)
    | go_in)
  go_region
  all_goals (try go_wp2)
  all_goals (go_ret3; exact ⟨rfl, ((But.of hb1).set 5 _).drew, hC.set 5 _ rfl⟩)
set_option maxHeartbeats 4000000 in
set_option maxRecDepth 1000000 in
/-- a text that is compared, with an error -/
theorem see_err {M : Nat → Prop} {cb : Nat} {w : World} {C : Can} (h : CanAt w cb C) (hv : verdict C.most C.enough C.compared C.unlike = 0) (h0 : 0 ≤ C.seen) (h1 : 1 ≤ C.every) (hm : C.seen % C.every = 0) (t : Value) (fuel er : Int) (her : er ≠ 0)
    (hcmp : ∀ w1, Below w.heap.size w w1 → Calls Tryz.prog 28 #[.pointer (some ⟨cb, 0, none⟩), t, .int .i64 fuel] w1 fun e w' => Bel M w1.heap.size w1 w' ∧ e = .returned (.tuple #[.slice none 0 0, .int .i64 er])) :
    Calls Tryz.prog 12 #[.pointer (some ⟨cb, 0, none⟩), t, .int .i64 fuel] w fun ed w' => ed = .returned (.tuple #[.bool false, .bool false, .int .i64 er]) ∧ Bel M w.heap.size w w' := by
  obtain ⟨b1, b2, every, most, enough, seen, compared, unlike, names, allowed, cases⟩ := C
  have hvw := verdict_walk (h.cell 3) (h.cell 4) (h.cell 6) (h.cell 7)
  simp only at hv h0 h1 hm hvw
  rw [hv] at hvw
  clear hv
  have hz : every ≠ 0 := by omega
  have hm2 : (seen % every != 0) = false := by simpa using hm
  clear hm
  go_enter Tryz.func12, Tryz.ntmps12
  go_wp2_with (first
    | (go_at_call 19; refine hvw.mono ?_; rintro _ w1 ⟨rfl, hb1⟩; have hC := h.below hb1; have c5 : w1.cell? ⟨cb, 5, none⟩ = some (.int .i64 seen) := hC.cell 5; have c2 : w1.cell? ⟨cb, 2, none⟩ = some (.int .i64 every) := hC.cell 2)
    | go_in)
  go_region
  all_goals go_wp2_with (first
    | (go_at_call 28; refine (hcmp _ hb1.drew).mono ?_; rintro _ w2 ⟨hb2, rfl⟩)
    | go_in)
  all_goals (go_ret3; exact ⟨rfl, (Bel.of hb1.drew).trans (hb2.mono hb1.size)⟩)
set_option maxHeartbeats 4000000 in
set_option maxRecDepth 1000000 in
/-- a text that is compared, and at which nothing differs -/
theorem see_same {M : Nat → Prop} {cb : Nat} {w : World} {C : Can} (hcm : ¬ M cb) (h : CanAt w cb C) (hv : verdict C.most C.enough C.compared C.unlike = 0) (h0 : 0 ≤ C.seen) (h1 : 1 ≤ C.every) (hs : C.seen ≤ 1000000) (h0c : 0 ≤ C.compared) (hsc : C.compared ≤ 1000000) (hm : C.seen % C.every = 0) (t : Value) (fuel : Int)
    (hcmp : ∀ w1, Below w.heap.size w w1 → Calls Tryz.prog 28 #[.pointer (some ⟨cb, 0, none⟩), t, .int .i64 fuel] w1 fun e w' => Bel M w1.heap.size w1 w' ∧ ∃ va vc, e = .returned (.tuple #[.slice va 0 vc, .int .i64 0])) :
    Calls Tryz.prog 12 #[.pointer (some ⟨cb, 0, none⟩), t, .int .i64 fuel] w fun ed w' => ed = .returned (.tuple #[.bool true, .bool true, .int .i64 0]) ∧ BelBut M cb w w' ∧ CanAt w' cb { C with seen := C.seen + 1, compared := C.compared + 1 } := by
  obtain ⟨b1, b2, every, most, enough, seen, compared, unlike, names, allowed, cases⟩ := C
  have hvw := verdict_walk (h.cell 3) (h.cell 4) (h.cell 6) (h.cell 7)
  simp only at hv h0 h1 hs h0c hsc hm hvw
  rw [hv] at hvw
  clear hv
  have hz : every ≠ 0 := by omega
  have hm2 : (seen % every != 0) = false := by simpa using hm
  clear hm
  go_enter Tryz.func12, Tryz.ntmps12
  go_wp2_with (first
    | (go_at_call 19; refine hvw.mono ?_; rintro _ w1 ⟨rfl, hb1⟩; have hC := h.below hb1; have c5 : w1.cell? ⟨cb, 5, none⟩ = some (.int .i64 seen) := hC.cell 5; have c2 : w1.cell? ⟨cb, 2, none⟩ = some (.int .i64 every) := hC.cell 2)
    | go_in)
  go_region
  all_goals go_wp2_with (first
    | (go_at_call 28; refine (hcmp _ hb1.drew).mono ?_; rintro _ w2 ⟨hb2, va, vc, rfl⟩; have hC2 := CanAt.bel (w := w1.drew) hC hcm hb2; have c5' : w2.cell? ⟨cb, 5, none⟩ = some (.int .i64 seen) := hC2.cell 5; have c6' : w2.cell? ⟨cb, 6, none⟩ = some (.int .i64 compared) := hC2.cell 6; have f5 := hC2.frozen 5; have f6 := hC2.frozen 6)
    | go_in)
  all_goals (refine wp_loop_rounds 1 ?_; rw [rounds_succ])
  all_goals go_wp2_with fail
  all_goals (try go_region)
  all_goals (try go_wp2_with fail)
  all_goals go_ret3
  all_goals exact ⟨rfl, ((BelBut.of ((Bel.of hb1.drew).trans (hb2.mono hb1.size))).set hcm 5 _).set hcm 6 _, (hC2.set (C' := ⟨b1, b2, every, most, enough, seen + 1, compared, unlike, names, allowed, cases⟩) 5 _ rfl).set 6 _ rfl⟩
end Go.Proofs.YtopicmcaoeameaaGreatDoor
