/-
  Diff at the documented example, evaluated by the kernel.
-/
import Derived.Test.YtkndgmjlphppdaaGreatDoorDurG0a
namespace Go.Proofs.YtkndgmjlphppdaaGreatDoor
open Go Go.Ev Go.RowKit

/-- the numeral of n (less than 4096) -/
def nm (n : Nat) : Pth :=
  Nat.rec (motive := fun _ => Nat → Pth) (fun _ => .e) (fun _ ih n => match Nat.beq n 0 with
    | true => .e
    | false => match Nat.beq (Nat.mod (Nat.sub n 1) 2) 0 with
      | true => .l (ih (Nat.div (Nat.sub n 1) 2))
      | false => .r (ih (Nat.div (Nat.sub n 1) 2))) 12 n
/-- the store of the example, as it lies -/
def dRo : List (Pth × List V) :=
  [(nm 11, [.unk, .sl (nm 12) 0 2 2 1, .int .i64 1]),
   (nm 12, [.sl (nm 13) 0 2 2 3, .sl (nm 14) 0 2 2 3]),
   (nm 13, [.str [120], .str [97], .bool false, .str [121], .str [98], .bool false]),
   (nm 14, [.str [120], .str [97], .bool false, .str [121], .str [99], .bool false])]
noncomputable def gloD : Glo := ⟨fun _ => [], [], [], dRo⟩
noncomputable def calD : Cal := evCal (funIR Tryz.prog) gloD 1000000 1000
theorem calD_ok : CalOK Tryz.prog gloD calD := Go.Ev.cal_ok mix notNamed 1000
noncomputable def chkDiff : Bool := match calD.fn 40 [.ptr (nm 11) 0, .int .i64 0, .int .i64 1] .nil (nm 100) with
  | .ok (.tup [.sl p o m _ _, .int .i64 (.ofNat 0)]) H _ => (match Nat.beq m 1 with
    | true => (match Nat.beq o 0 with
      | true => (match H.get p with
        | some (.cells l) => (match l with | .str s :: _ => (match decide (s = [121]) with | true => freeH H (dRo.map (·.1)) | false => false) | _ => false)
        | _ => false)
      | false => false)
    | false => false)
  | _ => false
set_option maxRecDepth 1000000 in
theorem diff_ok : chkDiff = true := by decide +kernel
end Go.Proofs.YtkndgmjlphppdaaGreatDoor
