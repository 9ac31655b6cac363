/-
  The filter, walked: Data where it is refused.
  The meter of a version, walked: move, Take, and a share's left and take.
  The meter of a version, walked, whatever the tags of its blocks (the texts MtrW and MtrX over, by mkmtc).
  slices.Sort at ints: the library's contract, laid at this dump.
  slices.Sorted(maps.Keys(m)) of the connections: the library's contracts, laid at this dump.
-/
import Derived.Test.YtahmcjdddcbhnaaGreatDoorRunG0b
import Derived.Test.YtahmcjdddcbhnaaGreatDoorRunG0a
import Derived.Deep.QuietTactic
import Derived.BigQuiet
import Derived.Test.YtahmcjdddcbhnaaGreatDoorProg
import Derived.KernelRfl
import Derived.Shelf.SortM.Plain
import Derived.Shelf.SortM.SortNone
import Derived.Ground.SlgmProg
import Derived.Test.YtahmcjdddcbhnaaGreatDoorEvD
import Derived.Shelf.SlIterI.Nil
import Derived.Shelf.SlIterI.Sorted
import Derived.Ground.GgzProg
namespace Go.Proofs.YtahmcjdddcbhnaaGreatDoor
open Go Go.RowKit Go.Imap

section
variable {w : World} {g cm : Nat} {sh pe tk cu : Int} {m1 : Value} {f : Nat → Option Value} {pA : Option Addr} {pn pc : Nat}
end
end Go.Proofs.YtahmcjdddcbhnaaGreatDoor
namespace Go.Proofs.YtahmcjdddcbhnaaGreatDoor
open Go Go.RowKit

theorem zeroInt (w : World) : (zeroValue 3).run Tryz.prog w = .ok (.int .i64 0) w := by kernel_rfl
theorem clear_one {w : World} {ub : Nat} {u : Int} (hc : w.cell? ⟨ub, 0, none⟩ = some (.int .i64 u)) (hf : w.frozen? ⟨ub, 0, none⟩ = false) :
    (Builtin.clear_ #[22] 0 #[.slice (some ⟨ub, 0, none⟩) 1 1]).run Tryz.prog w = .ok (.tuple #[]) (w.setCell ⟨ub, 0, none⟩ (.int .i64 0)) := by
  simp [Builtin.clear_, run_underlying Tryz.underlying22, Sem.run_bind, Builtin.zeroCells, storeCells, store, Result.andThen, Value.cells, Addr.add]
  simp [Sem.run, hc, hf]
/-- the blocks of a meter -/
def MFt (mb ub : Nat) (b : Nat) : Prop := b = mb ∨ b = ub
section
variable {w : World} {mb ub : Nat} {sh pe tk us : Int}
theorem MtAt.upd {w' : World} {tk' us' : Int} (h : MtAt w mb ub sh pe tk us) (hb : Blk w' mb 151 #[.int .i64 sh, .int .i64 pe, .int .i64 tk', .slice (some ⟨ub, 0, none⟩) 1 1]) (hu : Blk w' ub 3 #[.int .i64 us']) (h1 : 0 ≤ tk' ∧ tk' ≤ 1099511627776) (h2 : 0 ≤ us' ∧ us' ≤ sh) : MtAt w' mb ub sh pe tk' us' :=
  ⟨hb, hu, h.hsh, h.hpe, h1, h2⟩
/-- a rule's share at a tick -/
def shareV (mb : Nat) (t : Int) : Value := .agg #[.pointer (some ⟨mb, 0, none⟩), .int .i64 0, .int .i64 t]
end
end Go.Proofs.YtahmcjdddcbhnaaGreatDoor
namespace Go.Proofs.YtahmcjdddcbhnaaGreatDoor
open Go Go.RowKit

section
/-- a meter of one rule -/
structure MtC (w : World) (mb ub : Nat) (sh pe tk us : Int) : Prop where
  blk : Cel w mb #[.int .i64 sh, .int .i64 pe, .int .i64 tk, .slice (some ⟨ub, 0, none⟩) 1 1]
  used : Cel w ub #[.int .i64 us]
  hsh : 0 ≤ sh ∧ sh ≤ 1099511627776
  hpe : 1 ≤ pe ∧ pe ≤ 1099511627776
  htk : 0 ≤ tk ∧ tk ≤ 1099511627776
  hus : 0 ≤ us ∧ us ≤ sh
  ne : mb ≠ ub
theorem MtC.bel {w w' : World} {mb ub : Nat} {sh pe tk us : Int} (h : MtC w mb ub sh pe tk us) (hb : Below w.heap.size w w') : MtC w' mb ub sh pe tk us := ⟨h.blk.bel hb h.blk.lt, h.used.bel hb h.used.lt, h.hsh, h.hpe, h.htk, h.hus, h.ne⟩
theorem MtC.chg {w w' : World} {mb ub : Nat} {sh pe tk us : Int} {F : Nat → Prop} (h : MtC w mb ub sh pe tk us) (hc : Chg F w w') (h1 : ¬ F mb) (h2 : ¬ F ub) : MtC w' mb ub sh pe tk us := ⟨h.blk.chg hc h1, h.used.chg hc h2, h.hsh, h.hpe, h.htk, h.hus, h.ne⟩
variable {w : World} {mb ub : Nat} {sh pe tk us : Int}
set_option maxHeartbeats 4000000 in
set_option maxRecDepth 1000000 in
theorem wrong_walkC (h : MtC w mb ub sh pe tk us) {n t : Int} (hn : 0 ≤ n ∧ n ≤ 1099511627776) (ht : tk ≤ t ∧ t ≤ 1099511627776) :
    Calls Tryz.prog 362 #[.pointer (some ⟨mb, 0, none⟩), .int .i64 0, .int .i64 n, .int .i64 t] w fun e w' => e = .returned (.int .i64 0) ∧ w' = w := by
  have c2 := h.blk.at' 2
  have c3 := h.blk.at' 3
  simp at c2 c3
  have h0 := h.htk
  have o1 := out_no (x := 0) (lo := 0) (hi := 0) (by omega) (by omega) w
  have o2 := out_no (x := n) (lo := 0) (hi := 1099511627776) hn.1 hn.2 w
  have o3 := out_no (x := t) (lo := 0) (hi := 1099511627776) (by omega) ht.2 w
  have k1 : ¬ t < tk := by omega
  clear h hn ht h0
  go_enter Tryz.func362, Tryz.ntmps362
  go_wp2_with (first
    | (go_at_call 52; refine o1.mono ?_; clear o1; rintro _ w1 ⟨rfl, rfl⟩)
    | (go_at_call 52; refine o2.mono ?_; clear o2; rintro _ w1 ⟨rfl, rfl⟩)
    | (go_at_call 52; refine o3.mono ?_; clear o3; rintro _ w1 ⟨rfl, rfl⟩)
    | fail)
  go_ret
  exact ⟨rfl, rfl⟩
set_option maxHeartbeats 4000000 in
set_option maxRecDepth 1000000 in
theorem fresh_walkC (h : MtC w mb ub sh pe tk us) {t : Int} (ht : 0 ≤ t ∧ t ≤ 1099511627776) :
    Calls Tryz.prog 369 #[.pointer (some ⟨mb, 0, none⟩), .int .i64 t] w fun e w' => e = .returned (.bool (fresh pe tk t)) ∧ Below w.heap.size w w' := by
  have c1 := h.blk.at' 1
  have c2 := h.blk.at' 2
  simp at c1 c2
  have hq1 := quo_wrap (a := t) ht h.hpe
  have hq2 := quo_wrap (a := tk) h.htk h.hpe
  have h0 : ¬ pe = 0 := by have := h.hpe; omega
  clear h ht
  go_enter Tryz.func369, Tryz.ntmps369
  go_wp2
  (refine wp_region_quiet_lit (by kernel_rfl) (by kernel_rfl) ?_; (repeat (with_reducible refine wpQuiet_step (fun K hK => ?_); go_simp; with_reducible refine hK _ ?_; clear hK K)); with_reducible refine wpQuiet_nil ?_; rintro _ ⟨nq, rfl⟩)
  go_wp2
  go_ret
  exact ⟨rfl, belowN _ _⟩
set_option maxHeartbeats 4000000 in
set_option maxRecDepth 1000000 in
theorem spent_walkC (h : MtC w mb ub sh pe tk us) {t : Int} (ht : 0 ≤ t ∧ t ≤ 1099511627776) :
    Calls Tryz.prog 363 #[.pointer (some ⟨mb, 0, none⟩), .int .i64 0, .int .i64 t] w fun e w' => e = .returned (.int .i64 (usedAt pe tk us t)) ∧ Below w.heap.size w w' := by
  have hf := fresh_walkC h ht
  unfold usedAt
  cases hb : fresh pe tk t with
  | true =>
    rw [hb] at hf
    clear hb h
    go_enter Tryz.func363, Tryz.ntmps363
    go_wp2_with (first | (go_at_call 369; refine hf.mono ?_; clear hf; rintro _ w1 ⟨rfl, hb1⟩) | fail)
    go_ret
    exact ⟨rfl, hb1⟩
  | false =>
    rw [hb] at hf
    clear hb
    go_enter Tryz.func363, Tryz.ntmps363
    go_wp2_with (first | (go_at_call 369; refine hf.mono ?_; clear hf; rintro _ w1 ⟨rfl, hb1⟩; have h1 := h.bel hb1; have c3 := h1.blk.at' 3; have d0 := h1.used.at' 0; simp at c3 d0) | fail)
    go_ret
    exact ⟨rfl, hb1⟩
theorem MtC.usedBd (h : MtC w mb ub sh pe tk us) (t : Int) : 0 ≤ usedAt pe tk us t ∧ usedAt pe tk us t ≤ sh := by
  have := h.hus
  unfold usedAt; split <;> omega
set_option maxHeartbeats 4000000 in
set_option maxRecDepth 1000000 in
theorem left_walkC (h : MtC w mb ub sh pe tk us) {t : Int} (ht : tk ≤ t ∧ t ≤ 1099511627776) :
    Calls Tryz.prog 353 #[.pointer (some ⟨mb, 0, none⟩), .int .i64 0, .int .i64 t] w fun e w' => e = .returned (.tuple #[.int .i64 (sh - usedAt pe tk us t), .int .i64 0]) ∧ Below w.heap.size w w' := by
  have hw := wrong_walkC h (n := 0) (by omega) ht
  have hu := h.usedBd t
  have hsh := h.hsh
  have hsp := spent_walkC (h.bel (Below.refl w.heap.size w).drew) (t := t) (by have := h.htk; omega)
  have hc : ∀ w', Below w.heap.size w w' → w'.cell? ⟨mb, 0, none⟩ = some (.int .i64 sh) := fun w' hb => by
    have := (h.bel hb).blk.at' 0
    simpa using this
  have HC := Lib.hid hc
  obtain ⟨u, hu'⟩ : ∃ u, usedAt pe tk us t = u := ⟨_, rfl⟩
  rw [hu'] at hsp hu ⊢
  have hwr : IntKind.i64.wrap (sh - u) = sh - u := wrapS (by omega) (by omega)
  have hc0 := hc _ (Below.refl w.heap.size w).drew
  clear h hu' hc
  go_enter Tryz.func353, Tryz.ntmps353
  go_wp2_with (first
    | (go_at_call 362; refine hw.mono ?_; clear hw; rintro _ w1 ⟨rfl, rfl⟩)
    | fail)
  go_region_held3 (fun w' => w'.cell? ⟨mb, 0, none⟩ = some (.int .i64 sh))
    (first | (exact HC.out _ ((Below.refl _ _).drew.trans hb1)) | go_keep)
    (first
      | (go_at_call 363; refine hsp.mono ?_; clear hsp; rintro _ w2 ⟨rfl, hb1⟩))
  go_wp2
  go_ret2
  exact ⟨rfl, (Below.refl _ _).drew.trans hb1⟩
theorem MtC.upd {w' : World} {tk' us' : Int} (h : MtC w mb ub sh pe tk us) (hb : Cel w' mb #[.int .i64 sh, .int .i64 pe, .int .i64 tk', .slice (some ⟨ub, 0, none⟩) 1 1]) (hu : Cel w' ub #[.int .i64 us']) (h1 : 0 ≤ tk' ∧ tk' ≤ 1099511627776) (h2 : 0 ≤ us' ∧ us' ≤ sh) : MtC w' mb ub sh pe tk' us' :=
  ⟨hb, hu, h.hsh, h.hpe, h1, h2, h.ne⟩
set_option maxHeartbeats 4000000 in
set_option maxRecDepth 1000000 in
theorem move_walkC (hM : MtC w mb ub sh pe tk us) {t : Int} (ht : tk ≤ t ∧ t ≤ 1099511627776) :
    Calls Tryz.prog 344 #[.pointer (some ⟨mb, 0, none⟩), .int .i64 t] w fun e w' => e = .returned (.tuple #[]) ∧ MtC w' mb ub sh pe t (usedAt pe tk us t) ∧ Chg (MFt mb ub) w w' := by
  have htk := hM.htk
  have hus := hM.hus
  have hf := fresh_walkC hM (t := t) (by omega)
  have hne := hM.ne
  unfold usedAt
  have hbel := fun w' (hb : Below w.heap.size w w') => hM.bel hb
  cases hb : fresh pe tk t with
  | true =>
    rw [hb] at hf
    clear hb
    go_enter Tryz.func344, Tryz.ntmps344
    go_wp2_with (first
      | (go_at_call 369; refine hf.mono ?_; clear hf; rintro _ w1 ⟨rfl, hb1⟩; have h1 := hbel w1 hb1; have c3 := h1.blk.at' 3; have d0 := h1.used.at' 0; have f2 := h1.blk.thaw 2; have g0 := h1.used.thaw 0; have c2 := h1.blk.at' 2; simp at c3 d0 c2; have hclr := clear_one d0 g0; have c2' := ((h1.blk.away (p := ⟨ub, 0, none⟩) hne (.int .i64 0)).at' 2); have f2' := ((h1.blk.away (p := ⟨ub, 0, none⟩) hne (.int .i64 0)).thaw 2); simp at c2')
      | fail)
    refine bodyPost_end (results_none rfl _ _ _) rfl ?_
    have k1 := (Chg.of_below (F := MFt mb ub) hb1).setCell (p := ⟨ub, 0, none⟩) (.inr (.inr rfl)) (.int .i64 0)
    refine ⟨rfl, hM.upd ?_ ?_ (by omega) (by simp; have := hM.hsh; omega), k1.setCell (p := ⟨mb, 2, none⟩) (.inr (.inl rfl)) _⟩
    · simpa using (h1.blk.away (p := ⟨ub, 0, none⟩) hne (.int .i64 0)).put 2 (.int .i64 t)
    · have := (h1.used.put 0 (.int .i64 0)).away (p := ⟨mb, 2, none⟩) (fun e => hne e.symm) (.int .i64 t)
      simpa using this
  | false =>
    rw [hb] at hf
    clear hb
    go_enter Tryz.func344, Tryz.ntmps344
    go_wp2_with (first
      | (go_at_call 369; refine hf.mono ?_; clear hf; rintro _ w1 ⟨rfl, hb1⟩; have h1 := hbel w1 hb1; have c2 := h1.blk.at' 2; have f2 := h1.blk.thaw 2; simp at c2)
      | fail)
    refine bodyPost_end (results_none rfl _ _ _) rfl ?_
    refine ⟨rfl, hM.upd ?_ ?_ (by omega) hus, ?_⟩
    · simpa using h1.blk.put 2 (.int .i64 t)
    · exact h1.used.away (p := ⟨mb, 2, none⟩) (fun e => hne e.symm) _
    · exact (Chg.of_below hb1).setCell (p := ⟨mb, 2, none⟩) (.inr (.inl rfl)) _
set_option maxHeartbeats 4000000 in
set_option maxRecDepth 1000000 in
theorem take_walkC (hM : MtC w mb ub sh pe tk us) {t n : Int} (ht : tk ≤ t ∧ t ≤ 1099511627776) (hn : 0 ≤ n ∧ n ≤ sh - usedAt pe tk us t) :
    Calls Tryz.prog 357 #[.pointer (some ⟨mb, 0, none⟩), .int .i64 0, .int .i64 n, .int .i64 t] w fun e w' => e = .returned (.tuple #[.int .i64 n, .int .i64 0]) ∧ MtC w' mb ub sh pe t (usedAt pe tk us t + n) ∧ Chg (MFt mb ub) w w' := by
  have hu := hM.usedBd t
  have hsh := hM.hsh
  have htk := hM.htk
  have hw := wrong_walkC hM (n := n) (by omega) ht
  have hmv := move_walkC hM ht
  have hne := hM.ne
  obtain ⟨u, hu'⟩ : ∃ u, usedAt pe tk us t = u := ⟨_, rfl⟩
  rw [hu'] at hmv hu hn ⊢
  have hwr : IntKind.i64.wrap (sh - u) = sh - u := wrapS (by omega) (by omega)
  have hwa : IntKind.i64.wrap (u + n) = u + n := wrapS (by omega) (by omega)
  have hmin : ¬ sh - u < n := by omega
  have hmn : min n (sh - u) = n := by omega
  clear hu'
  go_enter Tryz.func357, Tryz.ntmps357
  go_wp2_with (first
    | (go_at_call 362; refine hw.mono ?_; clear hw; rintro _ w1 ⟨rfl, rfl⟩)
    | (go_at_call 344; refine hmv.mono ?_; clear hmv; rintro _ w2 ⟨rfl, hM2, hC2⟩; have c0 := hM2.blk.at' 0; have c3 := hM2.blk.at' 3; have d0 := hM2.used.at' 0; simp at c0 c3 d0)
    | fail)
  (refine wp_region_quiet_lit (by kernel_rfl) (by kernel_rfl) ?_; (repeat (with_reducible refine wpQuiet_step (fun K hK => ?_); go_simp; with_reducible refine hK _ ?_; clear hK K)); with_reducible refine wpQuiet_nil ?_; rintro _ ⟨nq, rfl⟩)
  have hB3 := belowN w2 nq
  have hM3 := hM2.bel hB3
  obtain ⟨w3, hw3⟩ : ∃ x, w2.drewN nq = x := ⟨_, rfl⟩
  rw [hw3] at hB3 hM3 ⊢
  have e3 := hM3.blk.at' 3
  have g0 := hM3.used.at' 0
  have gf := hM3.used.thaw 0
  simp at e3 g0
  clear c0 c3 d0
  go_wp2_with fail
  go_ret2
  refine ⟨rfl, hM3.upd (hM3.blk.away (p := ⟨ub, 0, none⟩) hne _) ?_ (by omega) (by omega), ?_⟩
  · simpa using hM3.used.put 0 (.int .i64 (u + n))
  · exact (hC2.trans (Chg.of_below (F := fun _ => False) hB3) fun _ _ h => h.elim).setCell (p := ⟨ub, 0, none⟩) (.inr (.inr rfl)) _
set_option maxHeartbeats 4000000 in
set_option maxRecDepth 1000000 in
theorem qleft_walkC (hM : MtC w mb ub sh pe tk us) {t : Int} (ht : tk ≤ t ∧ t ≤ 1099511627776) :
    Calls Tryz.prog 345 #[shareV mb t] w fun e w' => e = .returned (.int .i64 (sh - usedAt pe tk us t)) ∧ Below w.heap.size w w' := by
  have hl := fun w1 (hb : Below w.heap.size w w1) => left_walkC (hM.bel hb) ht
  obtain ⟨r, hr⟩ : ∃ r, sh - usedAt pe tk us t = r := ⟨_, rfl⟩
  rw [hr] at hl ⊢
  have hb0 : Below w.heap.size w (w.alloc (.cells #[.pointer (some ⟨mb, 0, none⟩), .int .i64 0, .int .i64 t] 118)) := (Below.refl _ _).alloc (Nat.le_refl _) _
  have hl0 := hl _ hb0
  clear hM hr hl
  unfold shareV
  go_enter Tryz.func345, Tryz.ntmps345
  go_wp2_with (first
    | (go_at_call 353; refine hl0.mono ?_; clear hl0; rintro _ w1 ⟨rfl, hb1⟩)
    | fail)
  go_ret
  exact ⟨rfl, hb0.trans (hb1.mono hb0.size)⟩
set_option maxHeartbeats 4000000 in
set_option maxRecDepth 1000000 in
theorem qtake_walkC (hM : MtC w mb ub sh pe tk us) {t n : Int} (ht : tk ≤ t ∧ t ≤ 1099511627776) (hn : 0 ≤ n ∧ n ≤ sh - usedAt pe tk us t) :
    Calls Tryz.prog 351 #[shareV mb t, .int .i64 n] w fun e w' => e = .returned (.tuple #[]) ∧ MtC w' mb ub sh pe t (usedAt pe tk us t + n) ∧ Chg (MFt mb ub) w w' := by
  have hl := fun w1 (hb : Below w.heap.size w w1) => take_walkC (hM.bel hb) ht hn
  obtain ⟨r, hr⟩ : ∃ r, usedAt pe tk us t + n = r := ⟨_, rfl⟩
  rw [hr] at hl ⊢
  have hb0 : Below w.heap.size w (w.alloc (.cells #[.pointer (some ⟨mb, 0, none⟩), .int .i64 0, .int .i64 t] 118)) := (Below.refl _ _).alloc (Nat.le_refl _) _
  have hl0 := hl _ hb0
  clear hM hr hl
  unfold shareV
  go_enter Tryz.func351, Tryz.ntmps351
  go_wp2_with (first
    | (go_at_call 357; refine hl0.mono ?_; clear hl0; rintro _ w1 ⟨rfl, hM1, hC1⟩)
    | fail)
  refine bodyPost_end (results_none rfl _ _ _) rfl ?_
  exact ⟨rfl, hM1, (Chg.of_below hb0).trans hC1 fun _ _ h => h⟩
end
end Go.Proofs.YtahmcjdddcbhnaaGreatDoor
namespace Go.Proofs
open Go.RowKit Go.Sort Go.Shelf

end Go.Proofs
namespace Go.Proofs
open Go.RowKit Go.Maps Go.Sort Go.Shelf

namespace YtahmcjdddcbhnaaGreatDoor
open Go.Ev
end YtahmcjdddcbhnaaGreatDoor
end Go.Proofs
