/-
  The documented example of package worker, which the law WorkerNew ends in, evaluated by the kernel with the verified evaluator (Ev1 to Ev34).
-/
import Derived.Test.YtldbmeifhklhkaaGreatDoorRows
import Derived.Test.YtldbmeifhklhkaaGreatDoorEv34
namespace Go.Proofs.YtldbmeifhklhkaaGreatDoor
open Go

theorem own : ownKnob Tryz.prog.godebug = none := by kernel_rfl
theorem mix : Tryz.prog.follows .mixedOrders = true := by kernel_rfl
theorem noName : Tryz.prog.funcs.all (fun fn => !(fn.name == "runtime.NumGoroutine")) = true := by kernel_rfl
theorem named (f : Nat) (fn : Func) (h : Tryz.prog.funcs[f]? = some fn) : (fn.name == "runtime.NumGoroutine") = false := by
  have h1 := Array.all_eq_true_iff_forall_mem.1 noName fn (Array.mem_of_getElem? h)
  simpa using h1

/-! ### The evaluations -/
/-- calls, however deep within bounds that suffice -/
noncomputable def cal : Ev.Cal := Ev.evCal (Ev.funIR Tryz.prog) (fun _ => []) 1000000 1000
theorem cal_ok : Ev.CalOK Tryz.prog (fun _ => []) cal := Ev.cal_ok mix named 1000
set_option maxRecDepth 10000000 in
theorem lives_true : Ev.okTrue (cal.fn 9 [] .nil .e) = true := by decide +kernel
end Go.Proofs.YtldbmeifhklhkaaGreatDoor
