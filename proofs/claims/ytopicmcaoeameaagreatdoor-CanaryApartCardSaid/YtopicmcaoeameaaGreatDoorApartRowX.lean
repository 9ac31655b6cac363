/-
  The row of CanaryApart: for all numbers the law returns true, and its arguments read behind the call as before; conditions: the two listed tables of package utf8 hold what the program's text lays in them (the card ties that); nothing else.
  How: walks of the functions that the law reaches through (sides, rule, own, Compile, New, See ..), over contracts of Parse, plan.New and First that a verified evaluator of the model's code (the texts EvA to EvD), run by the kernel, gives for the twelve texts of rules, by classes of the symbols that are read; See as a step of a plain state.
-/
import Derived.Test.YtopicmcaoeameaaGreatDoorRows
import Derived.Test.YtopicmcaoeameaaGreatDoorApartG2a
import Derived.Test.YtopicmcaoeameaaGreatDoorFactAX
import Derived.Test.YtopicmcaoeameaaGreatDoorFactBX
import Derived.Test.YtopicmcaoeameaaGreatDoorApartFactCX
import Derived.Test.YtopicmcaoeameaaGreatDoorApartFactDX
import Derived.Test.YtopicmcaoeameaaGreatDoorApartFactEX
import Derived.Test.YtopicmcaoeameaaGreatDoorApartFactFX
import Derived.Test.YtopicmcaoeameaaGreatDoorApartFactHX
import Derived.WalkKit
import Derived.Carry
import Derived.ProofKit
import Derived.OpenShut
import Derived.LaidLaws
import Derived.Handed
import Derived.Deep.DeepLaidRun
namespace Go.Proofs.YtopicmcaoeameaaGreatDoor
open Go Go.ChangeShapes Go.WideShapes Go.ChangeAt Go.RowKit Go.Ev

/-! ### A world that meets the row's condition: the two tables laid -/
noncomputable def laidWorld (os : Os) : World :=
  let w0 := World.holding Tryz.prog os ⟨#[], #[], []⟩
  { w0 with heap := (w0.heap.modify 0 fun
      | .cells _ t frozen => .cells (Go.Pinned.utf8FirstZ.map fun (n : Nat) => Value.int .u8 n).toArray t frozen
      | o => o).modify 1 fun
      | .cells _ t frozen => .cells ([128, 191, 160, 191, 128, 159, 144, 191, 128, 143, 0, 0, 0, 0, 0, 0, 0, 0, 0, 0, 0, 0, 0, 0, 0, 0, 0, 0, 0, 0, 0, 0].map fun (n : Nat) => Value.int .u8 n).toArray t frozen
      | o => o }
set_option maxRecDepth 10000000 in
theorem laid_met (os : Os) (args : Array Value) : laidMet Tryz.prog Rows.canaryApartRow.laid ((laidWorld os).forCall (fun _ _ => 0) ⟨#[], args, []⟩).memory :=
  laidMet_of_run3 8 (by kernel_rfl) (by kernel_rfl) (by kernel_rfl)

/-! ### A slice of numbers, read before the call and behind it -/
theorem cells3 : Tryz.prog.cellsOf 3 = 1 := by kernel_rfl
section
variable {H : Type} {enc : TypeId × Value → H}
set_option maxRecDepth 100000 in
theorem read_ints {W : World} {base : Nat} {v : Value} {d : DataW H} {ps : List MemPlace} (hval : Value.okWide Tryz.prog W .any base 22 v) (h : DataW.Trod enc Tryz.prog W 0 (fun _ => true) true 22 v d ps) :
    ∃ l, SlCap W v l ∧ ∀ W' : World, (∀ b, b < W.heap.size → W'.heap[b]? = W.heap[b]?) → DataW.Trod enc Tryz.prog W' 0 (fun b => decide (b < W.heap.size)) true 22 v d ps := by
  obtain ⟨a0, len, cap, rfl⟩ := okWide_slice Tryz.underlying22 hval
  obtain ⟨fuel, hf⟩ := h
  rcases open_ints Tryz.underlying22 Tryz.underlying3 cells3 hf with ⟨hcs, hx⟩ | ⟨a, len', cap', zs, hcs, _, hl, hm, hz, hx, hcell, hwz⟩
  · simp [Value.cells] at hcs
    obtain ⟨rfl, rfl, rfl⟩ := hcs
    simp only [Prod.mk.injEq] at hx
    obtain ⟨rfl, rfl⟩ := hx
    refine ⟨[], ⟨⟨⟨none, 0, rfl, fun h => absurd rfl h⟩, by decide, fun z hz => by simp at hz⟩, ⟨none, 0, rfl, Nat.le_refl _, by decide⟩⟩, fun W' _ => ⟨1, ?_⟩⟩
    simp [DataW.trod, Tryz.underlying22, Value.cells]
  · simp [Value.cells] at hcs
    obtain ⟨rfl, rfl, rfl⟩ := hcs
    simp only [Prod.mk.injEq] at hx
    obtain ⟨rfl, rfl⟩ := hx
    simp only [if_true] at hz
    have hmax : cap ≤ 9223372036854775807 := by unfold maxLen at hm; omega
    have hlt : (zs.take len).length = len := by simp; omega
    have hbd : ∀ z ∈ zs, -9223372036854775808 ≤ z ∧ z ≤ 9223372036854775807 := fun z hz => by
      have := hwz z hz
      simp [Lit.wf, IntKind.min, IntKind.max, IntKind.signed, IntKind.bits] at this
      omega
    refine ⟨zs.take len, ⟨⟨⟨some a, cap, by rw [hlt], fun h => ?_⟩, by rw [hlt]; omega, fun z hz => hbd z (List.mem_of_mem_take hz)⟩, ⟨some a, cap, by rw [hlt], by rw [hlt]; omega, hmax⟩⟩, fun W' hW' => ?_⟩
    · have hpos : 0 < zs.length := by
        rcases Nat.eq_zero_or_pos zs.length with h0 | h0
        · rw [List.length_eq_zero_iff.1 h0] at h; simp at h
        · exact h0
      obtain ⟨b, off, rfl, hc⟩ := ints_at hcell hpos
      refine ⟨b, off, rfl, ?_, fun i z hi => ?_⟩
      · have := hc 0 hpos
        simp only [World.cell?] at this
        by_cases hb : b < W.heap.size
        · exact hb
        · rw [Array.getElem?_eq_none (by omega)] at this
          simp at this
      · have hi' : (zs.take len)[i]? = some z := hi
        have hil : i < len := by
          have := (List.getElem?_eq_some_iff.1 hi').1
          omega
        rw [List.getElem?_take, if_pos hil] at hi'
        rw [hc i (by have := (List.getElem?_eq_some_iff.1 hi').1; omega)]
        simp [List.getD, hi']
    · refine ⟨2, shut_ints 0 Tryz.underlying22 Tryz.underlying3 cells3 (Nat.zero_le _) hl hm ?_ (fun i hi => ?_) hwz⟩
      · rcases Nat.eq_zero_or_pos zs.length with h0 | h0
        · split <;> omega
        · obtain ⟨b, off, rfl, hc⟩ := ints_at hcell h0
          have hb : b < W.heap.size := by
            have := hc 0 h0
            simp only [World.cell?] at this
            by_cases hb : b < W.heap.size
            · exact hb
            · rw [Array.getElem?_eq_none (by omega)] at this
              simp at this
          simp [hb, hz]
      · obtain ⟨b, off, rfl, hc⟩ := ints_at hcell (by omega)
        have hci := hcell i hi
        rw [Go.WideShapes.add_plain] at hci ⊢
        rw [← hci]
        have hb : b < W.heap.size := by
          have := hc 0 (by omega)
          simp only [World.cell?] at this
          by_cases hb : b < W.heap.size
          · exact hb
          · rw [Array.getElem?_eq_none (by omega)] at this
            simp at this
        simp only [World.cell?]
        rw [hW' b hb]
end

section
variable {H : Type} {enc : TypeId × Value → H} {P : Program} {w : World} {base : Nat} {spare : Nat → Bool} {held : Bool}
end
theorem keptBut_of_below {w w' : World} (h : Below w.heap.size w w') : w.keptBut w' (fun _ => False) := World.keptBut_none_iff.2 ⟨h.os, h.output, h.block⟩

/-! ### The row -/
set_option maxRecDepth 100000 in
theorem lifted (os : Os) (started : os.Started) (H : Type) (enc : TypeId × Value → H) :
    ReturnsInHanded {} Tryz.checked os 3 .any (fun w args => (Rows.canaryApartSpec.pre enc Tryz.prog Tryz.f3 Rows.canaryApartRow.domain false w args ∧ laidMet Tryz.prog Rows.canaryApartRow.laid w) ∧ sizedMet enc Tryz.prog Tryz.f3 (OpenSpec.ofChange Rows.canaryApartSpec) false w args)
      (Rows.canaryApartSpec.post enc Tryz.prog Tryz.f3 false true false false) := by
  refine returnsInHanded_of_change_and (C := Tryz.checked) (X := fun w _ => laidMet Tryz.prog Rows.canaryApartRow.laid w) (fun _ _ _ hh h => h.of_heap hh) own started (by kernel_rfl) Tryz.func3
    (ChangeSpec.witness_at (enc := enc) (C := Tryz.checked) (os := os) (X := fun w _ => laidMet Tryz.prog Rows.canaryApartRow.laid w) false (laidWorld os) #[.slice none 0 0, .slice none 0 0, .int .i64 0] 8 rfl (by kernel_rfl) (by kernel_rfl) (by kernel_rfl) (by kernel_rfl) (by kernel_rfl) (laid_met os _)) ?_
  intro W base args ds gs before hval0 hW _ _ _ _
  have hval : ∀ (j : Nat) t v, Tryz.f3.params[j]? = some t → args[j]? = some v → Value.okWide Tryz.prog W .any base t v := hval0
  have hW' := hW
  obtain ⟨p, q, hA0, hV, rfl, hfz, hnd⟩ := hW
  have hA : DataW.TrodAll enc Tryz.prog W 0 (fun _ => true) true Tryz.f3.params.toList args.toList ds p := hA0
  rw [Tryz.params3] at hA hval
  obtain ⟨v0, v1, v2, d0, d1, d2, p0, p1, p2, rfl, rfl, rfl, h0, h1, h2⟩ := trodAll_three hA
  obtain ⟨rfl, rfl⟩ := trodVars_none hV
  obtain ⟨l, hl, hl2⟩ := read_ints (hval 0 22 v0 rfl rfl) h0
  obtain ⟨m, hm, hm2⟩ := read_ints (hval 1 22 v1 rfl rfl) h1
  obtain ⟨m2, rfl, rfl, rfl, w2⟩ := open_int Tryz.underlying3 (hval 2 3 v2 rfl rfl) h2
  clear hA0 hval0
  have hb : ∀ m : Int, (Lit.int .i64 m).wf = true → -9223372036854775808 ≤ m ∧ m ≤ 9223372036854775807 := fun m wm => by
    have h : IntKind.i64.min ≤ m ∧ m ≤ IntKind.i64.max := by simpa [Lit.wf] using wm
    exact h
  refine (apart_law hl.arg hm (hb _ w2)).mono fun e W' ⟨he, hk⟩ => ?_
  subst he
  have hheap : ∀ b, b < W.heap.size → W'.heap[b]? = W.heap[b]? := fun b hb => hk.block b hb
  exact ⟨_, rfl, _, _, _, [], _, [], hW', trodAll_mk1 (shut_bool Tryz.underlying4 true), trodAll_mk3 (hl2 W' hheap) (hm2 W' hheap) (shut_int Tryz.underlying3 w2), rfl,
    World.keptBut_mono (fun _ h => h.elim) (keptBut_of_below hk), fun h => by cases h⟩
set_option maxRecDepth 100000 in
theorem facts : joinedFacts Tryz.pinned.checked.prog 3 Tryz.f3 Rows.canaryApartSpec Rows.canaryApartRow = true := by
  unfold joinedFacts
  rw [factA, factB, factC, factD, factE, factF]
  kernel_rfl
theorem row_holds : Rows.CanaryApartSaid :=
  OpenClaim.holds_of_wide 3 Tryz.f3 rfl rfl rfl rfl rfl rfl rfl ⟨rfl, rfl, rfl, rfl, rfl⟩ rfl rfl rfl rfl rfl factI Tryz.func3 facts
    (of_decide_eq_true (by kernel_rfl)) (by unfold Func.isWrapper; first | (rw [if_pos (by decide +kernel)]; kernel_rfl) | (rw [if_neg (by decide +kernel)]; exact ⟨rfl, rfl⟩))
    (fun os started H enc _ => lifted os started H enc)
end Go.Proofs.YtopicmcaoeameaaGreatDoor
