/-
  The row of FilterErrors: for all arguments the law returns true, and its arguments read behind the call as before; conditions: the two listed tables of package utf8 hold what the program's text lays in them (the card ties that); nothing else.
  How: walks of the functions that the law reaches through (the filter, its meter and streams, the reference's filter), over contracts that a verified evaluator of the model's code (the texts EvA to EvD), run by the kernel, gives for the rule zz: the compiled set, the rule's program, its stream's states and steps.
-/
import Derived.Test.YtahmcjdddcbhnaaGreatDoorRows
import Derived.Test.YtahmcjdddcbhnaaGreatDoorReadFW
import Derived.Test.YtahmcjdddcbhnaaGreatDoorErrG3a
import Derived.Test.YtahmcjdddcbhnaaGreatDoorFactAW
import Derived.Test.YtahmcjdddcbhnaaGreatDoorFactBW
import Derived.Test.YtahmcjdddcbhnaaGreatDoorErrFactCW
import Derived.Test.YtahmcjdddcbhnaaGreatDoorErrFactDW
import Derived.Test.YtahmcjdddcbhnaaGreatDoorErrFactEW
import Derived.Test.YtahmcjdddcbhnaaGreatDoorErrFactFW
import Derived.Test.YtahmcjdddcbhnaaGreatDoorErrFactHW
import Derived.WalkKit
import Derived.Carry
import Derived.ProofKit
import Derived.OpenShut
import Derived.LaidLaws
import Derived.Handed
import Derived.Deep.DeepLaidRun
namespace Go.Proofs.YtahmcjdddcbhnaaGreatDoor
open Go Go.ChangeShapes Go.WideShapes Go.ChangeAt Go.RowKit Go.Ev

/-! ### A world that meets the row's condition: the two tables laid -/
theorem own : ownKnob Tryz.prog.godebug = none := by kernel_rfl
noncomputable def laidWorld (os : Os) : World :=
  let w0 := World.holding Tryz.prog os ⟨#[], #[], []⟩
  { w0 with heap := (w0.heap.modify 1 fun
      | .cells _ t frozen => .cells (Go.Pinned.utf8FirstZ.map fun (n : Nat) => Value.int .u8 n).toArray t frozen
      | o => o).modify 2 fun
      | .cells _ t frozen => .cells ([128, 191, 160, 191, 128, 159, 144, 191, 128, 143, 0, 0, 0, 0, 0, 0, 0, 0, 0, 0, 0, 0, 0, 0, 0, 0, 0, 0, 0, 0, 0, 0].map fun (n : Nat) => Value.int .u8 n).toArray t frozen
      | o => o }
set_option maxRecDepth 10000000 in
theorem laid_met (os : Os) (args : Array Value) : laidMet Tryz.prog Rows.filterErrorsRow.laid ((laidWorld os).forCall (fun _ _ => 0) ⟨#[], args, []⟩).memory :=
  laidMet_of_run3 8 (by kernel_rfl) (by kernel_rfl) (by kernel_rfl)

theorem keptBut_of_below {w w' : World} (h : Below w.heap.size w w') : w.keptBut w' (fun _ => False) := World.keptBut_none_iff.2 ⟨h.os, h.output, h.block⟩

/-! ### The row -/
set_option maxRecDepth 100000 in
theorem lifted (os : Os) (started : os.Started) (H : Type) (enc : TypeId × Value → H) :
    ReturnsInHanded {} Tryz.checked os 4 .any (fun w args => (Rows.filterErrorsSpec.pre enc Tryz.prog Tryz.f4 Rows.filterErrorsRow.domain false w args ∧ laidMet Tryz.prog Rows.filterErrorsRow.laid w) ∧ sizedMet enc Tryz.prog Tryz.f4 (OpenSpec.ofChange Rows.filterErrorsSpec) false w args)
      (Rows.filterErrorsSpec.post enc Tryz.prog Tryz.f4 false true false false) := by
  refine returnsInHanded_of_change_and (C := Tryz.checked) (X := fun w _ => laidMet Tryz.prog Rows.filterErrorsRow.laid w) (fun _ _ _ hh h => h.of_heap hh) own started (by kernel_rfl) Tryz.func4
    (ChangeSpec.witness_at (enc := enc) (C := Tryz.checked) (os := os) (X := fun w _ => laidMet Tryz.prog Rows.filterErrorsRow.laid w) false (laidWorld os) #[.slice none 0 0, .int .i64 0, .int .i64 0, .int .i64 0] 8 rfl (by kernel_rfl) (by kernel_rfl) (by kernel_rfl) (by kernel_rfl) (by kernel_rfl) (laid_met os _)) ?_
  intro W base args ds gs before hval0 hW _ _ _ _
  have hval : ∀ (j : Nat) t v, Tryz.f4.params[j]? = some t → args[j]? = some v → Value.okWide Tryz.prog W .any base t v := hval0
  have hW' := hW
  obtain ⟨p, q, hA0, hV, rfl, hfz, hnd⟩ := hW
  have hA : DataW.TrodAll enc Tryz.prog W 0 (fun _ => true) true Tryz.f4.params.toList args.toList ds p := hA0
  rw [Tryz.params4] at hA hval
  obtain ⟨v0, v1, v2, v3, d0, d1, d2, d3, p0, p1, p2, p3, rfl, rfl, rfl, h0, h1, h2, h3⟩ := trodAll_four hA
  obtain ⟨rfl, rfl⟩ := trodVars_none hV
  obtain ⟨l0, hl0, hm0⟩ := read_ints (hval 0 22 v0 rfl rfl) h0
  obtain ⟨m1, rfl, rfl, rfl, w1⟩ := open_int Tryz.underlying3 (hval 1 3 v1 rfl rfl) h1
  obtain ⟨m2, rfl, rfl, rfl, w2⟩ := open_int Tryz.underlying3 (hval 2 3 v2 rfl rfl) h2
  obtain ⟨m3, rfl, rfl, rfl, w3⟩ := open_int Tryz.underlying3 (hval 3 3 v3 rfl rfl) h3
  clear hA0 hval0
  have hbd : ∀ m : Int, (Lit.int .i64 m).wf = true → -9223372036854775808 ≤ m ∧ m ≤ 9223372036854775807 := fun m wm => by
    have h : IntKind.i64.min ≤ m ∧ m ≤ IntKind.i64.max := by simpa [Lit.wf] using wm
    exact h
  refine (errors_walk hl0 (hbd _ w1) (hbd _ w2) (hbd _ w3)).mono fun e W' ⟨he, hk⟩ => ?_
  subst he
  have hheap : ∀ b, b < W.heap.size → W'.heap[b]? = W.heap[b]? := fun b hb => hk.block b hb
  exact ⟨_, rfl, _, _, _, [], _, [], hW', trodAll_mk1 (shut_bool Tryz.underlying4 true), trodAll_mk4 (hm0 W' hheap) (shut_int Tryz.underlying3 w1) (shut_int Tryz.underlying3 w2) (shut_int Tryz.underlying3 w3), rfl,
    World.keptBut_mono (fun _ h => h.elim) (keptBut_of_below hk), fun h => by cases h⟩
set_option maxRecDepth 100000 in
theorem facts : joinedFacts Tryz.pinned.checked.prog 4 Tryz.f4 Rows.filterErrorsSpec Rows.filterErrorsRow = true := by
  unfold joinedFacts
  rw [factA, factB, factC, factD, factE, factF]
  kernel_rfl
theorem row_holds : Rows.FilterErrorsSaid :=
  OpenClaim.holds_of_wide 4 Tryz.f4 rfl rfl rfl rfl rfl rfl rfl ⟨rfl, rfl, rfl, rfl, rfl⟩ rfl rfl rfl rfl rfl factI Tryz.func4 facts
    (of_decide_eq_true (by kernel_rfl)) (by unfold Func.isWrapper; first | (rw [if_pos (by decide +kernel)]; kernel_rfl) | (rw [if_neg (by decide +kernel)]; exact ⟨rfl, rfl⟩))
    (fun os started H enc _ => lifted os started H enc)
end Go.Proofs.YtahmcjdddcbhnaaGreatDoor
