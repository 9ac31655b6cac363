/-
  The stream of the rule zz, whose text is zeros: its states as the evaluator's patterns; its steps, run by the kernel.
-/
import Derived.Test.YtahmcjdddcbhnaaGreatDoorRunG0b
namespace Go.Proofs.YtahmcjdddcbhnaaGreatDoor
open Go Go.Ev Go.RowKit
noncomputable section
def nm (i : Nat) : Pth := toPth i
def J (n : Int) : V := .int .i64 n
def codZ : List (Pth × O) :=
  [(nm 3, .cells [.sl (nm 7) 0 3 3 5, .bool false, .sl (nm 8) 0 2 4 1, .sl (nm 9) 0 3 3 0]), (nm 5, .cells [J 1, J 0, J 0]),
   (nm 7, .cells [J 1, J 0, J 0, J 0, .sl (nm 12) 0 1 1 2, J 1, J 0, J 0, J 0, .sl (nm 13) 0 1 1 2, J 0, J 0, J 0, J 0, .nilsl]), (nm 8, .cells [J 122, J 123, J 0, J 0]),
   (nm 9, .cells [.bool true, .bool true, .bool false]), (nm 10, .cells [J 0]), (nm 12, .cells [J 122, J 122]), (nm 13, .cells [J 122, J 122])]
def headZ (runs len : V) (begun : Bool) (mark : Int) (round : V) (states : List (V × V × Nat)) (cs : Nat) (next : List (V × V × Nat)) (cn : Nat) : List (Pth × O) :=
  [(nm 1, .cells [.ptr (nm 2) 0, runs, len, J 1, .bool begun, .bool false]), (nm 2, .cells [.ptr (nm 3) 0, .mp (nm 4), .sl (nm 5) 0 3 3 0, J mark, round, .ptr (nm 6) 0]), (nm 4, .map states cs),
   (nm 6, .cells [.sl (nm 10) 0 1 1 1, .bool false, .bool false, .mp (nm 11), round, J 0]), (nm 11, .map next cn)]
def runZ (at' : V) : List (Pth × O) := [(nm 14, .cells [.ptr (nm 6) 0, .ptr (nm 15) 0]), (nm 15, .cells [at', J (-1), .nilsl])]
def deadZ : List (Pth × O) := [(nm 16, .cells [.nilsl, .bool false, .bool true, .mp (nm 17), J 0, J 0]), (nm 17, .map [] 0)]
def firstK : V × V × Nat := (.str [0, 0], .ptr (nm 6) 0, 0)
def sL : V := .sym 0 .i64 1 65536
def resZ : List (Pth × O) := [(nm 18, .cells [.nilsl])]
/-- 0: fresh; 1: begun, without symbols; 2: with symbols -/
def strZ (k : Nat) : List (Pth × O) :=
  match k with
  | 0 => headZ .nilsl (J 0) false 1 (J 0) [firstK] 1 [] 0 ++ codZ
  | 1 => headZ (.sl (nm 14) 0 1 1 2) (J 0) true 1 (J 1) [firstK] 1 [] 0 ++ codZ ++ runZ (J 0)
  | _ => headZ (.sl (nm 14) 0 1 1 2) sL true 2 (.lin 0 .i64 1 2 65537) [firstK, (.str [], .ptr (nm 16) 0, 1)] 2 [(J 0, .ptr (nm 16) 0, 0)] 1 ++ codZ ++ runZ sL ++ deadZ
/-- begun, but its first run not yet there -/
def strB : List (Pth × O) := headZ .nilsl (J 0) true 1 (J 0) [firstK] 1 [] 0 ++ codZ
/-- its first run made -/
def strC : List (Pth × O) := resZ ++ strB ++ [(nm 15, .cells [J 0, J (-1), .nilsl])]
def idl : List Nat → Asc := List.map fun i => (nm i, nm i)
def isUnit (v : V) : Bool := match v with | .tup [] => true | _ => false
def isDone (v : V) : Bool := match v with | .tup [.nilsl, .int .i64 0] => true | _ => false
def isRun (v : V) : Bool := match v with | .agg [.ptr p 0, .ptr _ 0] => Pth.beq p (nm 6) | _ => false
def runA (v : V) : Asc := match v with | .agg [_, .ptr p 0] => [(nm 1, nm 1), (nm 6, nm 6), (nm 18, nm 18), (nm 15, p)] | _ => []
def cell1 : List V := [.ptr (nm 2) 0, .nilsl, J 0, J 1, .bool false, .bool false]
/-- a call from the blocks A to the blocks A2, what is returned being as pv says -/
def runs (f : Nat) (args : List V) (A A2 : List (Pth × O)) (asg : Asg) (spec : Ev.Spec) (l0 : V → Asc) (pv : V → Bool) : Bool :=
  match cal0.fn f args (hp A) (nm 100) with
  | .ok v H' _ => (match pv v with | true => fitF asg spec (l0 v) A2 H' | false => false)
  | .bad => false
end
def spL : Ev.Spec := [(0, 1, 65536)]
theorem fit_drop0 : fitF [] [] (idl [1]) (strZ 0) (hp (resZ ++ strZ 0)) = true := by decide +kernel
theorem fit_drop1 : fitF [] [] (idl [1]) (strZ 1) (hp (resZ ++ strZ 1)) = true := by decide +kernel
theorem fit_drop2 : fitF [(0, sL)] spL (idl [1]) (strZ 2) (hp (resZ ++ strZ 2)) = true := by decide +kernel
theorem run_sorted : (match cal0.fn 356 [.nilsl] .nil .e with | .ok .nilsl _ _ => true | _ => false) = true := by decide +kernel
end Go.Proofs.YtahmcjdddcbhnaaGreatDoor
