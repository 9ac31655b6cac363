/-
  The program, the law's code in pieces, the calls with Around and the documented example overridden.
-/
import Derived.Test.YtckeidfhhobmcaaGreatDoorRows
import Derived.Test.YtckeidfhhobmcaaGreatDoorShapes
import Derived.Tactics
import Derived.Tactics2
import Derived.StillTactics
import Derived.WalkKit
namespace Go.Proofs.YtckeidfhhobmcaaGreatDoor
open Go Go.Ev

theorem own : ownKnob Tryz.prog.godebug = none := by kernel_rfl
theorem mix : Tryz.prog.follows .mixedOrders = true := by kernel_rfl
theorem noName : Tryz.prog.funcs.all (fun fn => !(fn.name == "runtime.NumGoroutine")) = true := by kernel_rfl
theorem named (f : Nat) (fn : Func) (h : Tryz.prog.funcs[f]? = some fn) : (fn.name == "runtime.NumGoroutine") = false := by
  have h1 := Array.all_eq_true_iff_forall_mem.1 noName fn (Array.mem_of_getElem? h)
  simpa using h1
/-- calls, however deep within bounds that suffice -/
noncomputable def cal0 : Cal := evCal (funIR Tryz.prog) Γ0 1000000 1000
theorem cal0_ok : CalOK Tryz.prog Γ0 cal0 := Go.Ev.cal_ok mix named 1000

set_option maxRecDepth 1000000 in
theorem around_walk (z : Int) (m : Nat) (w : World) (hm : 0 < m) (h1 : IntKind.i64.min ≤ z) (h2 : z ≤ IntKind.i64.max) (h3 : (m : Int) ≤ IntKind.i64.max) :
    Calls Tryz.prog 4 #[.int .i64 z, .int .i64 (m : Int)] w fun e w' => e = .returned (.int .i64 (arnd z m)) ∧ w' = w := by
  go_enter Tryz.func4, Tryz.ntmps4
  go_wp2
  · rename_i hn
    have l1 : -9223372036854775808 ≤ z := h1
    have l2 : z ≤ 9223372036854775807 := h2
    go_ret
    refine ⟨?_, rfl⟩
    have e1 : RowKit.wrap64 (z + 1) = z + 1 := by unfold RowKit.wrap64; omega
    have e2 : RowKit.wrap64 (-(z + 1)) = -(z + 1) := by unfold RowKit.wrap64; omega
    rw [e1, e2]
    unfold arnd
    rw [if_pos hn, Int.tmod_eq_emod_of_nonneg (by omega)]; rfl
  · rename_i hn
    go_ret
    refine ⟨?_, rfl⟩
    unfold arnd
    rw [if_neg (by omega)]; rfl
theorem around_callable : Callable Tryz.prog 4 := ⟨Tryz.f4, Tryz.func4, rfl, named 4 _ Tryz.func4⟩

/- the law's code -/
noncomputable def cSnd : Code → Code | .seq _ b => b | c => c
noncomputable def cFst : Code → Code | .seq a _ => a | c => c
noncomputable def cIn : Code → Code | .block _ a => a | .loop a => a | c => c
noncomputable def lawC : Code := match Tryz.f3.body with | some c => c | none => .skip
noncomputable def lawU : Nat := maskOf Tryz.f3 lawC
noncomputable def lawN : Nat := Tryz.f3.ntmps
noncomputable def c1 : Code := cSnd lawC
noncomputable def c2 : Code := cSnd c1
noncomputable def c3 : Code := cSnd c2
noncomputable def c4 : Code := cSnd c3
noncomputable def c5 : Code := cSnd c4
noncomputable def c6 : Code := cSnd c5
noncomputable def c7 : Code := cSnd c6
noncomputable def pre : List Code := [cFst lawC, cFst c1, cFst c2, cFst c3, cFst c4, cFst c5, cFst c6]
noncomputable def setI : Code := cFst (cFst c7)
noncomputable def body : Code := cIn (cIn (cSnd (cFst c7)))
noncomputable def ending : Code := cSnd c7
noncomputable def hd : Code := cFst body
noncomputable def blk : Code := cIn (cFst (cSnd body))
noncomputable def incI : Code := cSnd (cSnd body)
noncomputable def k2 : Code := cFst blk
noncomputable def t1 : Code := cSnd blk
noncomputable def t2 : Code := cSnd (cSnd t1)
noncomputable def k3 : List Code := [cFst t1, cFst (cSnd t1)]
noncomputable def k4 : List Code := [cFst t2, cFst (cSnd t2), cFst (cSnd (cSnd t2))]
noncomputable def k5 : Code := cSnd (cSnd (cSnd t2))
theorem law_code : lawC = seqs pre (.seq (.seq setI (.block 0 (.loop (.seq hd (.seq (.block 1 (seqs [k2] (seqs k3 (seqs k4 k5)))) incI))))) ending) := by kernel_rfl
theorem law_body : Tryz.f3.body = some lawC := by kernel_rfl
end Go.Proofs.YtckeidfhhobmcaaGreatDoor
