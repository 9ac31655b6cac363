/-
  The row of FilterRunes: for all arguments the law returns true, and its arguments read behind the call as before; conditions: the listed tables of packages text and utf8 hold what the program's text lays in them (the card ties that); nothing else.
  How: walks of the functions that the law reaches through (the filter, its meter and streams, decoding, the backtracker), over contracts that a verified evaluator of the model's code (the texts EvA to EvD), run by the kernel, gives for the rule of one symbol: the compiled set, the rule's program, its stream's states and steps.
-/
import Derived.Test.YtahmcjdddcbhnaaGreatDoorRows
import Derived.Test.YtahmcjdddcbhnaaGreatDoorRunG1a
import Derived.Test.YtahmcjdddcbhnaaGreatDoorRunG5a
import Derived.Test.YtahmcjdddcbhnaaGreatDoorFactAW
import Derived.Test.YtahmcjdddcbhnaaGreatDoorFactBW
import Derived.Test.YtahmcjdddcbhnaaGreatDoorRunFactCW
import Derived.Test.YtahmcjdddcbhnaaGreatDoorRunFactDW
import Derived.Test.YtahmcjdddcbhnaaGreatDoorRunFactEW
import Derived.Test.YtahmcjdddcbhnaaGreatDoorRunFactFW
import Derived.Test.YtahmcjdddcbhnaaGreatDoorRunFactHW
import Derived.WalkKit
import Derived.Carry
import Derived.ProofKit
import Derived.OpenShut
import Derived.LaidLaws
import Derived.Handed
import Derived.Deep.DeepLaidRun
namespace Go.Proofs.YtahmcjdddcbhnaaGreatDoor
open Go Go.ChangeShapes Go.WideShapes Go.ChangeAt Go.RowKit Go.Ev

/-! ### A world that meets the row's condition: the two tables laid -/
theorem own : ownKnob Tryz.prog.godebug = none := by kernel_rfl
noncomputable def laidWorld (os : Os) : World :=
  let w0 := World.holding Tryz.prog os ⟨#[], #[], []⟩
  { w0 with heap := ((w0.heap.modify 0 fun
      | .cells _ t frozen => .cells ([0, 127, 0, 0, 128, 2047, 192, 1, 2048, 65535, 224, 2, 65536, 1114111, 240, 3].map fun (n : Nat) => Value.int .i64 n).toArray t frozen
      | o => o).modify 1 fun
      | .cells _ t frozen => .cells (Go.Pinned.utf8FirstZ.map fun (n : Nat) => Value.int .u8 n).toArray t frozen
      | o => o).modify 2 fun
      | .cells _ t frozen => .cells ([128, 191, 160, 191, 128, 159, 144, 191, 128, 143, 0, 0, 0, 0, 0, 0, 0, 0, 0, 0, 0, 0, 0, 0, 0, 0, 0, 0, 0, 0, 0, 0].map fun (n : Nat) => Value.int .u8 n).toArray t frozen
      | o => o }
set_option maxRecDepth 10000000 in
theorem laid_met (os : Os) (args : Array Value) : laidMet Tryz.prog Rows.filterRunesRow.laid ((laidWorld os).forCall (fun _ _ => 0) ⟨#[], args, []⟩).memory :=
  laidMet_of_run3 8 (by kernel_rfl) (by kernel_rfl) (by kernel_rfl)

theorem keptBut_of_below {w w' : World} (h : Below w.heap.size w w') : w.keptBut w' (fun _ => False) := World.keptBut_none_iff.2 ⟨h.os, h.output, h.block⟩

/-! ### The row -/
set_option maxRecDepth 100000 in
theorem lifted (os : Os) (started : os.Started) (H : Type) (enc : TypeId × Value → H) :
    ReturnsInHanded {} Tryz.checked os 3 .any (fun w args => (Rows.filterRunesSpec.pre enc Tryz.prog Tryz.f3 Rows.filterRunesRow.domain false w args ∧ laidMet Tryz.prog Rows.filterRunesRow.laid w) ∧ sizedMet enc Tryz.prog Tryz.f3 (OpenSpec.ofChange Rows.filterRunesSpec) false w args)
      (Rows.filterRunesSpec.post enc Tryz.prog Tryz.f3 false true false false) := by
  refine returnsInHanded_of_change_and (C := Tryz.checked) (X := fun w _ => laidMet Tryz.prog Rows.filterRunesRow.laid w) (fun _ _ _ hh h => h.of_heap hh) own started (by kernel_rfl) Tryz.func3
    (ChangeSpec.witness_at (enc := enc) (C := Tryz.checked) (os := os) (X := fun w _ => laidMet Tryz.prog Rows.filterRunesRow.laid w) false (laidWorld os) #[.slice none 0 0, .slice none 0 0, .slice none 0 0, .bool false] 8 rfl (by kernel_rfl) (by kernel_rfl) (by kernel_rfl) (by kernel_rfl) (by kernel_rfl) (laid_met os _)) ?_
  intro W base args ds gs before hval0 hW _ _ hL _
  have hval : ∀ (j : Nat) t v, Tryz.f3.params[j]? = some t → args[j]? = some v → Value.okWide Tryz.prog W .any base t v := hval0
  have hW' := hW
  obtain ⟨p, q, hA0, hV, rfl, hfz, hnd⟩ := hW
  have hA : DataW.TrodAll enc Tryz.prog W 0 (fun _ => true) true Tryz.f3.params.toList args.toList ds p := hA0
  rw [Tryz.params3] at hA hval
  obtain ⟨v0, v1, v2, v3, d0, d1, d2, d3, p0, p1, p2, p3, rfl, rfl, rfl, h0, h1, h2, h3⟩ := trodAll_four hA
  obtain ⟨rfl, rfl⟩ := trodVars_none hV
  obtain ⟨l0, hl0, hm0⟩ := read_ints (hval 0 22 v0 rfl rfl) h0
  obtain ⟨l1, hl1, hm1⟩ := read_ints (hval 1 22 v1 rfl rfl) h1
  obtain ⟨l2, ⟨hl2, hn2⟩, hm2⟩ := read_bytes (hval 2 23 v2 rfl rfl) h2
  obtain ⟨m3, rfl, rfl, rfl⟩ := open_bool Tryz.underlying4 (hval 3 4 v3 rfl rfl) h3
  clear hA0 hval0
  refine (runesLaw hL m3 hl0 hl1 hl2 hn2).mono fun e W' ⟨he, hk⟩ => ?_
  subst he
  have hheap : ∀ b, b < W.heap.size → W'.heap[b]? = W.heap[b]? := fun b hb => hk.block b hb
  exact ⟨_, rfl, _, _, _, [], _, [], hW', trodAll_mk1 (shut_bool Tryz.underlying4 true), trodAll_mk4 (hm0 W' hheap) (hm1 W' hheap) (hm2 W' hheap) (shut_bool Tryz.underlying4 m3), rfl,
    World.keptBut_mono (fun _ h => h.elim) (keptBut_of_below hk), fun h => by cases h⟩
set_option maxRecDepth 100000 in
theorem facts : joinedFacts Tryz.pinned.checked.prog 3 Tryz.f3 Rows.filterRunesSpec Rows.filterRunesRow = true := by
  unfold joinedFacts
  rw [factA, factB, factC, factD, factE, factF]
  kernel_rfl
theorem row_holds : Rows.FilterRunesSaid :=
  OpenClaim.holds_of_wide 3 Tryz.f3 rfl rfl rfl rfl rfl rfl rfl ⟨rfl, rfl, rfl, rfl, rfl⟩ rfl rfl rfl rfl rfl factI Tryz.func3 facts
    (of_decide_eq_true (by kernel_rfl)) (by unfold Func.isWrapper; first | (rw [if_pos (by decide +kernel)]; kernel_rfl) | (rw [if_neg (by decide +kernel)]; exact ⟨rfl, rfl⟩))
    (fun os started H enc _ => lifted os started H enc)
end Go.Proofs.YtahmcjdddcbhnaaGreatDoor
