/-
  The program; what Parse and plan.New make of the twelve texts of rules.
-/
import Derived.Test.YtopicmcaoeameaaGreatDoorProg
import Derived.Test.YtopicmcaoeameaaGreatDoorPlans
import Derived.KernelRfl
namespace Go.Proofs.YtopicmcaoeameaaGreatDoor
open Go Go.Ev Go.RowKit

theorem own : ownKnob Tryz.prog.godebug = none := by kernel_rfl
theorem mix : Tryz.prog.follows .mixedOrders = true := by kernel_rfl
theorem noName : Tryz.prog.funcs.all (fun fn => !(fn.name == "runtime.NumGoroutine")) = true := by kernel_rfl
theorem named (f : Nat) (fn : Func) (h : Tryz.prog.funcs[f]? = some fn) : (fn.name == "runtime.NumGoroutine") = false := by
  have h1 := Array.all_eq_true_iff_forall_mem.1 noName fn (Array.mem_of_getElem? h)
  simpa using h1
/-- calls, however deep within bounds that suffice -/
noncomputable def calOf (Γ : Glo) : Cal := evCal (funIR Tryz.prog) Γ 1000000 1000
noncomputable def cal0 : Cal := calOf Γ0
theorem calOf_ok (Γ : Glo) : CalOK Tryz.prog Γ (calOf Γ) := Go.Ev.cal_ok mix named 1000
theorem cal0_ok : CalOK Tryz.prog Γ0 cal0 := calOf_ok Γ0

/-- the flags of Parse: none -/
def noFlags : V := .agg [.bool false, .bool false, .bool false, .bool false]
def isSl : V → Bool | .sl _ _ _ _ _ => true | .nilsl => true | _ => false
/-- is it a parsed pattern's value: ten cells? -/
def shp : V → Bool
  | .agg [.int .i64 _, s1, s2, .int .i64 _, .int .i64 _, .int .i64 _, .int .i64 _, .bool _, .int .i64 _, .bool _] => (match isSl s1 with | true => isSl s2 | false => false)
  | _ => false
/-- does Parse, and then New, make the plan k of the text k? -/
noncomputable def chkNew (k : Nat) : Bool :=
  match cal0.fn 39 [.str (txt k), noFlags] .nil .e with
  | .ok (.tup [p, _, .int .i64 (.ofNat 0)]) H n => (match shp p with
    | true => (match cal0.fn 40 [p, .int .i64 64] H n with
      | .ok (.tup [.ptr r 0, .int .i64 (.ofNat 0)]) H2 _ => (match r.beq (root k) with | true => inH H2 (plan k) | false => false)
      | _ => false)
    | false => false)
  | _ => false
end Go.Proofs.YtopicmcaoeameaaGreatDoor
