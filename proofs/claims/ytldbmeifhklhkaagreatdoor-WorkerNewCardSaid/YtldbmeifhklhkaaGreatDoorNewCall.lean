/-
  The law WorkerNew evaluated by the kernel, for each of nine parts of the inputs; and so its call, for every input and in every world.
-/
import Derived.Test.YtldbmeifhklhkaaGreatDoorLives
namespace Go.Proofs.YtldbmeifhklhkaaGreatDoor
open Go

noncomputable def calL : Ev.Cal := Ev.liveCal 9 cal
theorem calL_ok : Ev.CalOK Tryz.prog (fun _ => []) calL := Ev.liveCal_ok cal_ok lives_true
/-- the law's evaluation, its arguments being from a to b and from c to d -/
noncomputable def evLaw (a b c d : Int) : Bool := Ev.okTrue (Ev.evFun calL (fun _ => []) 1000000 (Ev.funIR Tryz.prog 3) [.sym 0 .i64 a b, .sym 1 .i64 c d] .nil .e)
set_option maxRecDepth 10000000 in
theorem law_ll : evLaw (-9223372036854775808) (-1) (-9223372036854775808) (-1) = true := by decide +kernel
set_option maxRecDepth 10000000 in
theorem law_lm : evLaw (-9223372036854775808) (-1) 0 1024 = true := by decide +kernel
set_option maxRecDepth 10000000 in
theorem law_lh : evLaw (-9223372036854775808) (-1) 1025 9223372036854775807 = true := by decide +kernel
set_option maxRecDepth 10000000 in
theorem law_ml : evLaw 0 63 (-9223372036854775808) (-1) = true := by decide +kernel
set_option maxRecDepth 10000000 in
theorem law_mm : evLaw 0 63 0 1024 = true := by decide +kernel
set_option maxRecDepth 10000000 in
theorem law_mh : evLaw 0 63 1025 9223372036854775807 = true := by decide +kernel
set_option maxRecDepth 10000000 in
theorem law_hl : evLaw 64 9223372036854775807 (-9223372036854775808) (-1) = true := by decide +kernel
set_option maxRecDepth 10000000 in
theorem law_hm : evLaw 64 9223372036854775807 0 1024 = true := by decide +kernel
set_option maxRecDepth 10000000 in
theorem law_hh : evLaw 64 9223372036854775807 1025 9223372036854775807 = true := by decide +kernel

/-! ### The call -/
theorem part {a b c d m n : Int} (h : evLaw a b c d = true) (h1 : a ≤ m) (h2 : m ≤ b) (h3 : c ≤ n) (h4 : n ≤ d) (w : World) :
    Calls Tryz.prog 3 #[.int .i64 m, .int .i64 n] w fun e w' => e = .returned (.bool true) ∧ w.keptBut w' (fun _ => False) := by
  refine Ev.law_ok calL_ok mix named h (fun i => match i with | 0 => m | _ => n) w _ ?_
  refine Ev.rels_cons ?_ (Ev.rels_cons ?_ Ev.rels_nil)
  · simp only [Ev.V.rel]; exact ⟨rfl, h1, h2⟩
  · simp only [Ev.V.rel]; exact ⟨rfl, h3, h4⟩
theorem range64 {n : Int} (h : (Lit.int .i64 n).wf = true) : -9223372036854775808 ≤ n ∧ n ≤ 9223372036854775807 := by
  have a1 : IntKind.i64.min = -9223372036854775808 := rfl
  have a2 : IntKind.i64.max = 9223372036854775807 := rfl
  simp only [Lit.wf, Bool.and_eq_true, decide_eq_true_eq] at h
  omega
theorem walk (m n : Int) (w0 : (Lit.int .i64 m).wf = true) (w1 : (Lit.int .i64 n).wf = true) (w : World) :
    Calls Tryz.prog 3 #[.int .i64 m, .int .i64 n] w fun e w' => e = .returned (.bool true) ∧ w.keptBut w' (fun _ => False) := by
  obtain ⟨a1, a2⟩ := range64 w0
  obtain ⟨b1, b2⟩ := range64 w1
  have hm : m ≤ -1 ∨ (0 ≤ m ∧ m ≤ 63) ∨ 64 ≤ m := by omega
  have hn : n ≤ -1 ∨ (0 ≤ n ∧ n ≤ 1024) ∨ 1025 ≤ n := by omega
  rcases hm with hm | ⟨hm1, hm2⟩ | hm <;> rcases hn with hn | ⟨hn1, hn2⟩ | hn
  · exact part law_ll a1 hm b1 hn w
  · exact part law_lm a1 hm hn1 hn2 w
  · exact part law_lh a1 hm hn b2 w
  · exact part law_ml hm1 hm2 b1 hn w
  · exact part law_mm hm1 hm2 hn1 hn2 w
  · exact part law_mh hm1 hm2 hn b2 w
  · exact part law_hl hm a2 b1 hn w
  · exact part law_hm hm a2 hn1 hn2 w
  · exact part law_hh hm a2 hn b2 w

end Go.Proofs.YtldbmeifhklhkaaGreatDoor
