/-
  FilterMany's run, evaluated by the kernel: whatever the tick and the number are; newRule, watch, Around, Remove, the sorted keys and the documented example go by their contracts.
-/
import Derived.Test.YtilgladlepnanaaGreatDoorSorted
import Derived.Test.YtilgladlepnanaaGreatDoorBusy
import Derived.Test.YtilgladlepnanaaGreatDoorAround
import Derived.Test.YtilgladlepnanaaGreatDoorLives
namespace Go.Proofs.YtilgladlepnanaaGreatDoor
open Go Go.Ev
noncomputable def ov (c : Cal) : Cal := smyCal s17 (smyCal s15 (aroundCal 6 (removeCal (sortedCal 19 33 (liveCal 12 c)))))
theorem callable6 : Callable Tryz.prog 6 := ⟨Tryz.f6, Tryz.func6, by kernel_rfl, by kernel_rfl⟩
theorem callable19 : Callable Tryz.prog 19 := ⟨Tryz.f19, Tryz.func19, by kernel_rfl, by kernel_rfl⟩
theorem ov_ok (c : Cal) (k : CalOK Tryz.prog (fun _ => []) c) : CalOK Tryz.prog (fun _ => []) (ov c) :=
  smyCal_ok s17_good s17_ok (smyCal_ok s15_good s15_ok (aroundCal_ok callable6 (fun z m w hm h1 h2 h3 => around_walk z m w hm h1 h2 h3)
    (removeCal_ok (sortedCal_ok callable19 sorted_keys (liveCal_ok2 cal_ok lives_true k)))))
noncomputable def calO : Cal := ov (evCalO ov (funIR Tryz.prog) (fun _ => []) 1000000 1000)
theorem calO_ok' : CalOK Tryz.prog (fun _ => []) calO := ov_ok _ (calO_ok mix named ov_ok 1000)
set_option maxRecDepth 10000000 in
theorem law_true : okTrue (evFun calO (fun _ => []) 1000000 (funIR Tryz.prog 3) [.pre 0 64, .pre 1 1099511627776] .nil .e) = true := by decide +kernel
theorem walk (m n : Int) (wm : (Lit.int .i64 m).wf = true) (wn : (Lit.int .i64 n).wf = true) (w : World) :
    Calls Tryz.prog 3 #[.int .i64 m, .int .i64 n] w fun e w' => e = .returned (.bool true) ∧ w.keptBut w' (fun _ => False) := by
  have hm : IntKind.i64.min ≤ m ∧ m ≤ IntKind.i64.max := by simpa [Lit.wf] using wm
  have hn : IntKind.i64.min ≤ n ∧ n ≤ IntKind.i64.max := by simpa [Lit.wf] using wn
  refine law_ok calO_ok' mix named law_true (fun i => match i with | 0 => arnd m 64 | _ => arnd n 1099511627776) w _ ?_
  refine rels_cons ?_ (rels_one ?_)
  · simp only [V.rel]; exact ⟨m, rfl, hm.1, hm.2, rfl⟩
  · simp only [V.rel]; exact ⟨n, rfl, hn.1, hn.2, rfl⟩
end Go.Proofs.YtilgladlepnanaaGreatDoor
