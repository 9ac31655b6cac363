/-
  The documented example of package ruleset, evaluated by the kernel.
-/
import Derived.Test.YtdacamjpcdbphaaGreatDoorEvD
import Derived.Test.YtdacamjpcdbphaaGreatDoorProg
import Derived.KernelRfl
namespace Go.Proofs.YtdacamjpcdbphaaGreatDoor
open Go Go.Ev Go.RowKit

theorem mix : Tryz.prog.follows .mixedOrders = true := by kernel_rfl
theorem noName : Tryz.prog.funcs.all (fun fn => !(fn.name == "runtime.NumGoroutine")) = true := by kernel_rfl
theorem notNamed (f : Nat) (fn : Func) (h : Tryz.prog.funcs[f]? = some fn) : (fn.name == "runtime.NumGoroutine") = false := by
  have h1 := Array.all_eq_true_iff_forall_mem.1 noName fn (Array.mem_of_getElem? h)
  simpa using h1
/-- calls, however deep within bounds that suffice -/
noncomputable def cal0 : Cal := evCal (funIR Tryz.prog) Γ0 1000000 1000
theorem cal0_ok : CalOK Tryz.prog Γ0 cal0 := Go.Ev.cal_ok mix notNamed 1000
set_option maxRecDepth 10000000 in
theorem lives_run : okTrue (cal0.fn 17 [] .nil .e) = true := by decide +kernel
end Go.Proofs.YtdacamjpcdbphaaGreatDoor
