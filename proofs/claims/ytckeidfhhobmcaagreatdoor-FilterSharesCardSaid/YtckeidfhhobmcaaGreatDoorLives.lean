/-
  The documented example, evaluated by the kernel; calls with it and Around overridden.
-/
import Derived.Test.YtckeidfhhobmcaaGreatDoorBase
namespace Go.Proofs.YtckeidfhhobmcaaGreatDoor
open Go Go.Ev

set_option maxRecDepth 10000000 in
theorem lives_run : okTrue (cal0.fn 10 [] .nil .e) = true := by decide +kernel
noncomputable def ov (t : Tab) (c : Cal) : Cal := liveCal 10 (arndCal 4 t c)
theorem ov_ok (Γ : Glo) (c : Cal) (k : CalOK Tryz.prog Γ c) : CalOK Tryz.prog Γ (ov Γ.tab c) := liveCal_ok3 cal0_ok lives_run (arndCal_ok around_callable around_walk k)
noncomputable def calG (Γ : Glo) : Cal := ov Γ.tab (evCalO (ov Γ.tab) (funIR Tryz.prog) Γ 1000000 1000)
theorem calG_ok (Γ : Glo) : CalOK Tryz.prog Γ (calG Γ) := ov_ok Γ _ (calO_ok mix named (ov_ok Γ) 1000)
noncomputable section
def ps : List Pth := [nm 8, nm 9]
/-- a piece takes the state R, A (and B, which it does not look at) to R2, A2 (and B2) -/
def chk (kd : Go.Ev.K) (Γ : Glo) (asg : Asg) (codes : List Code) (R R2 : List (Nat × V)) (A A2 B B2 : List (Pth × O)) : Bool :=
  kfits kd ps asg spec R2 A2 B2 B A (evChain (calG Γ) Γ 1000000 (irs Tryz.prog lawU lawN codes) (regsOf R) (hp A) n0)
end
end Go.Proofs.YtckeidfhhobmcaaGreatDoor
