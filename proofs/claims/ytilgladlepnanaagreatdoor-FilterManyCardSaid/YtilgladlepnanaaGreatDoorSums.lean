/-
  What the filter's newRule and watch do at the rule "a", evaluated by the kernel with the verified evaluator: summaries for every call like these.
-/
import Derived.Test.YtilgladlepnanaaGreatDoorRows
import Derived.Test.YtilgladlepnanaaGreatDoorEv40
namespace Go.Proofs.YtilgladlepnanaaGreatDoor
open Go Go.Ev

theorem own : ownKnob Tryz.prog.godebug = none := by kernel_rfl
theorem mix : Tryz.prog.follows .mixedOrders = true := by kernel_rfl
theorem noName : Tryz.prog.funcs.all (fun fn => !(fn.name == "runtime.NumGoroutine")) = true := by kernel_rfl
theorem named (f : Nat) (fn : Func) (h : Tryz.prog.funcs[f]? = some fn) : (fn.name == "runtime.NumGoroutine") = false := by
  have h1 := Array.all_eq_true_iff_forall_mem.1 noName fn (Array.mem_of_getElem? h)
  simpa using h1
/-- calls, however deep within bounds that suffice -/
noncomputable def cal : Cal := evCal (funIR Tryz.prog) (fun _ => []) 1000000 1000
theorem cal_ok : CalOK Tryz.prog (fun _ => []) cal := Go.Ev.cal_ok mix named 1000

noncomputable def s17 : Smy := ⟨17, [.agg [.str [97], .str [97], .bool false]],
  [],
  .agg [.int .i64 (1), .sl (toPth 111) 0 1 1 2, .nilsl, .int .i64 (0), .int .i64 (0), .int .i64 (0), .int .i64 (0), .bool false, .int .i64 (0), .bool false, .sl (toPth 149) 0 2 2 5, .int .i64 (0), .bool false, .bool true],
  [(toPth 111, .cells [.int .i64 (97), .int .i64 (97)]),
    (toPth 149, .cells [.int .i64 (1), .int .i64 (0), .int .i64 (0), .int .i64 (0), .sl (toPth 144) 0 1 1 2, .int .i64 (0), .int .i64 (0), .int .i64 (0), .int .i64 (0), .nilsl]),
    (toPth 144, .cells [.int .i64 (97), .int .i64 (97)])],
  [toPth 111, toPth 149, toPth 144]⟩
noncomputable def s15 : Smy := ⟨15, [.agg [.int .i64 (1), .sl (toPth 111) 0 1 1 2, .nilsl, .int .i64 (0), .int .i64 (0), .int .i64 (0), .int .i64 (0), .bool false, .int .i64 (0), .bool false, .sl (toPth 149) 0 2 2 5, .int .i64 (0), .bool false, .bool true]],
  [(toPth 111, .cells [.int .i64 (97), .int .i64 (97)]),
    (toPth 149, .cells [.int .i64 (1), .int .i64 (0), .int .i64 (0), .int .i64 (0), .sl (toPth 144) 0 1 1 2, .int .i64 (0), .int .i64 (0), .int .i64 (0), .int .i64 (0), .nilsl]),
    (toPth 144, .cells [.int .i64 (97), .int .i64 (97)])],
  .ifc 110 (.unk),
  [(toPth 111, .cells [.int .i64 (97), .int .i64 (97)]),
    (toPth 149, .cells [.int .i64 (1), .int .i64 (0), .int .i64 (0), .int .i64 (0), .sl (toPth 144) 0 1 1 2, .int .i64 (0), .int .i64 (0), .int .i64 (0), .int .i64 (0), .nilsl]),
    (toPth 144, .cells [.int .i64 (97), .int .i64 (97)])],
  []⟩
set_option maxRecDepth 10000000 in
theorem s17_ok : s17.ok Tryz.prog := smy_of cal_ok (n := .e) (by decide +kernel)
set_option maxRecDepth 10000000 in
theorem s15_ok : s15.ok Tryz.prog := smy_of cal_ok (n := toPth 203) (by decide +kernel)
theorem s17_good : s17.good = true := by decide +kernel
theorem s15_good : s15.good = true := by decide +kernel
end Go.Proofs.YtilgladlepnanaaGreatDoor
