/-
  Calls with slices.Sorted(maps.Keys(m)) overridden, where m's keys are just x and y.
-/
import Derived.Test.YtopicmcaoeameaaGreatDoorApartG0a
namespace Go.Proofs.YtopicmcaoeameaaGreatDoor
open Go Go.Ev

/-- are the keys x and y, in this order? -/
def keysXY (es : List (V × V × Nat)) : Bool := match es with
  | [(.str [120], _), (.str [121], _)] => true
  | _ => false
/-- the function 24 (slices.Sorted at strings) at the iterator that the function 37 (maps.Keys' own) is -/
noncomputable def sxyCal (c : Cal) : Cal :=
  ⟨fun f args H n => match Nat.beq f 24, args with
    | true, [.fn g [] [.ptr q o]] => (match Nat.beq g 37, Nat.beq o 0, H.get q with
      | true, true, some (.cells [.mp p]) => (match H.get p with
        | some (.map es cl) => (match keysXY es, nodupN' (borns es), allBelow cl (borns es), H.get n with
          | true, true, true, none => .ok (.sl n 0 2 2 1) (H.set n (.cells [.str [120], .str [121]])) n.succ
          | _, _, _, _ => .bad)
        | _ => .bad)
      | _, _, _ => c.fn f args H n)
    | _, _ => c.fn f args H n, c.rd⟩
noncomputable def calL : Cal := sxyCal (evCalO sxyCal (funIR Tryz.prog) Γ0 1000000 1000)
set_option maxRecDepth 10000000 in
theorem lives_run : okTrue (calL.fn 13 [] .nil .e) = true := by decide +kernel
end Go.Proofs.YtopicmcaoeameaaGreatDoor
