/-
  The states of a filter with one rule "b" and two connections, and of the law's frame, as the evaluator's patterns; what is told at each piece of the law's loop.
-/
import Derived.Test.YtckeidfhhobmcaaGreatDoorEvD
namespace Go.Proofs.YtckeidfhhobmcaaGreatDoor
open Go Go.Ev
noncomputable section
def flowT : Nat := 97
def nm (i : Nat) : Pth := toPth i
def J (n : Int) : V := .int .i64 n
def imin : Int := -9223372036854775808
def imax : Int := 9223372036854775807
def sN : V := .sym 0 .i64 0 39
def sU : V := .sym 1 .i64 0 39
def sTick : V := .sym 2 .i64 0 1000
def sMt : V := .sym 3 .i64 0 1000
def sFt : V := .sym 4 .i64 0 1000
def sUsed : V := .sym 5 .i64 0 39
def sW : V := .sym 6 .i64 0 6
def sX : V := .sym 7 .i64 imin imax
def sXh : V := .sym 8 .i64 imin imax
def sNext : V := .sym 10 .i64 0 1000
def sQn : V := .sym 11 .i64 0 100
def sQt : V := .sym 12 .i64 0 100
def sQm : V := .sym 15 .i64 0 100
def sI : V := .sym 16 .i64 0 20
def sY : V := .sym 19 .i64 imin imax
def sLeft : V := .sym 20 .i64 0 39
def sShare : V := .sym 23 .i64 imin imax
def sMany : V := .sym 24 .i64 0 8
def sSum : V := .sym 25 .i64 0 100
def lenL : V := .sym 17 .i64 0 imax
def lenY : V := .sym 18 .i64 0 imax
def inL : V := .inp (nm 8) 17
def inY : V := .inp (nm 9) 18
/-- the filter, its versions, its connections, the version, its meter -/
def cmn : List (Pth × O) :=
  [(nm 1, .cells [sN, J 10, sFt, J 0, .mp (nm 2), .mp (nm 3)]),
   (nm 2, .map [(J 0, .ptr (nm 4) 0, 0)] 1),
   (nm 3, .map [(J 1, .ptr (nm 20) 0, 0), (J 2, .ptr (nm 50) 0, 1)] 2),
   (nm 4, .cells [.ptr (nm 5) 0, .unk]),
   (nm 5, .cells [sN, J 10, sMt, .sl (nm 6) 0 1 1 0]),
   (nm 6, .cells [sU])]
/-- what is the same in all the states of a connection that is not out -/
def code (k : Nat) : List (Pth × O) :=
  [(nm (k + 5), .cells [.sl (nm (k + 9)) 0 2 2 5, .bool false, .sl (nm (k + 10)) 0 2 2 1, .sl (nm (k + 11)) 0 2 2 0]),
   (nm (k + 7), .cells [J 1, J 0]),
   (nm (k + 9), .cells [J 1, J 0, J 0, J 0, .sl (nm (k + 14)) 0 1 1 2, J 0, J 0, J 0, J 0, .nilsl]),
   (nm (k + 10), .cells [J 98, J 99]),
   (nm (k + 11), .cells [.bool true, .bool false]),
   (nm (k + 12), .cells [J 0]),
   (nm (k + 14), .cells [J 98, J 98])]
def head (k : Nat) (whole held runs len : V) (begun : Bool) : List (Pth × O) :=
  [(nm k, .cells [J 0, .ptr (nm 4) 0, whole, .sl (nm (k + 1)) 0 1 1 1]),
   (nm (k + 1), .cells [.ifc flowT (.agg [.ptr (nm (k + 2)) 0])]),
   (nm (k + 2), .cells [.ptr (nm (k + 3)) 0, held]),
   (nm (k + 3), .cells [.ptr (nm (k + 4)) 0, runs, len, J 1, .bool begun, .bool false])]
def mach (k : Nat) (mark : Int) (round : V) (states : List (V × V × Nat)) (cs : Nat) (next : List (V × V × Nat)) (cn : Nat) : List (Pth × O) :=
  [(nm (k + 4), .cells [.ptr (nm (k + 5)) 0, .mp (nm (k + 6)), .sl (nm (k + 7)) 0 2 2 0, J mark, round, .ptr (nm (k + 8)) 0]),
   (nm (k + 6), .map states cs),
   (nm (k + 8), .cells [.sl (nm (k + 12)) 0 1 1 1, .bool false, .bool false, .mp (nm (k + 13)), round, J 0]),
   (nm (k + 13), .map next cn)]
def runs1 (k : Nat) (at' : V) : List (Pth × O) :=
  [(nm (k + 17), .cells [.ptr (nm (k + 8)) 0, .ptr (nm (k + 18)) 0]), (nm (k + 18), .cells [at', J (-1), .nilsl])]
def st2 (k : Nat) : List (Pth × O) :=
  [(nm (k + 15), .cells [.nilsl, .bool false, .bool true, .mp (nm (k + 16)), J 0, J 0]), (nm (k + 16), .map [] 0)]
/-- a connection: 0 fresh, 1 begun, 2 and 3 with symbols (the last piece was not empty; was empty), 4 out -/
def con (k i : Nat) (s : Nat) : List (Pth × O) :=
  match s with
  | 0 => head k .nilsl .nilsl .nilsl (J 0) false ++ mach k 1 (J 0) [(.str [0, 0], .ptr (nm (k + 8)) 0, 0)] 1 [] 0 ++ code k
  | 1 => head k .nilsl .nilsl (.sl (nm (k + 17)) 0 1 1 2) (J 0) true ++ runs1 k (J 0) ++ mach k 1 (J 1) [(.str [0, 0], .ptr (nm (k + 8)) 0, 0)] 1 [] 0 ++ code k
  | 2 => head k (.jsl (nm (k + 19)) (21 + i) 0 0 1000) (.sl0 true) (.sl (nm (k + 17)) 0 1 1 2) (.sym (13 + i) .i64 0 1000) true ++ runs1 k (.sym (13 + i) .i64 0 1000) ++
      mach k 2 (.lin (13 + i) .i64 1 1 1001) [(.str [0, 0], .ptr (nm (k + 8)) 0, 0), (.str [], .ptr (nm (k + 15)) 0, 1)] 2 [(J 0, .ptr (nm (k + 15)) 0, 0)] 1 ++ code k ++ st2 k ++ [(nm (k + 19), .cells [])]
  | 3 => head k (.jsl (nm (k + 19)) (21 + i) 0 0 1000) .nilsl (.sl (nm (k + 17)) 0 1 1 2) (.sym (13 + i) .i64 0 1000) true ++ runs1 k (.sym (13 + i) .i64 0 1000) ++
      mach k 2 (.lin (13 + i) .i64 1 1 1001) [(.str [0, 0], .ptr (nm (k + 8)) 0, 0), (.str [], .ptr (nm (k + 15)) 0, 1)] 2 [(J 0, .ptr (nm (k + 15)) 0, 0)] 1 ++ code k ++ st2 k ++ [(nm (k + 19), .cells [])]
  | _ => [(nm k, .cells [J 0, .ptr (nm 4) 0, .jsl (nm (k + 19)) (21 + i) 0 0 1000, .sl (nm (k + 1)) 0 1 1 1]), (nm (k + 1), .cells [.nilif]), (nm (k + 19), .cells [])]
def conn (c s : Nat) : List (Pth × O) := match c with | 0 => con 20 0 s | _ => con 50 1 s
def outB (o0 o1 : Bool) : List (Pth × O) := [(nm 7, .cells [.bool o0, .bool o1])]
def rF : V := .ptr (nm 1) 0
def rOut : V := .sl (nm 7) 0 2 2 0
/-- the frame at the loop's head, the tick and what is used of the share, the index being these -/
def frame (tick used i : V) : List (Nat × V) := [(0, inL), (2, inY), (7, sN), (8, rF), (9, tick), (10, used), (11, rOut), (12, i)]
/-- what is told in the piece that sends: mode 0: the rule is out already; 1: another period; 2: the same period; ft: the share suffices -/
def tab4 (c m mode : Nat) (ft : Bool) : Tab :=
  [(20, sX, J 2, J (.ofNat c)), (3, sX, J 2, sXh), (20, sXh, J 9, J (.ofNat m)), (7, sI, lenL, .bool true), (7, sNext, sFt, .bool false)] ++
  (match mode with
   | 0 => []
   | 1 => [(7, sNext, sMt, .bool false), (3, sNext, J 10, sQn), (3, sMt, J 10, sQm), (6, sQn, sQm, .bool true), (7, .lin 0 .i64 0 0 39, J (.ofNat m), .bool (!ft))]
   | _ => [(7, sNext, sMt, .bool false), (3, sNext, J 10, sQn), (3, sMt, J 10, sQm), (6, sQn, sQm, .bool false), (1, sN, sU, sLeft), (7, sLeft, J (.ofNat m), .bool (!ft))])
def ldL : List (Pth × Nat × V) := [(nm 8, 16, sX)]
def ldY : List (Pth × Nat × V) := [(nm 9, 16, sY)]
def G4 (c m mode : Nat) (ft : Bool) : Glo := ⟨fun _ => [], tab4 c m mode ft, ldL⟩
def n0 : Pth := nm 200
def symI (i : Nat) (lo hi : Int) : V := .sym i .i64 lo hi
/-- the numbers that a state may name, each as it is -/
def ids : Asg := [(0, sN), (1, sU), (2, sTick), (3, sMt), (4, sFt), (5, sUsed), (10, sNext), (13, symI 13 0 1000), (14, symI 14 0 1000), (16, sI), (17, lenL), (18, lenY), (21, symI 21 0 1000), (22, symI 22 0 1000), (24, sMany)]
def spec : Go.Ev.Spec := [(0, 0, 39), (1, 0, 39), (2, 0, 1000), (3, 0, 1000), (4, 0, 1000), (5, 0, 39), (10, 0, 1000), (13, 0, 1000), (14, 0, 1000), (16, 0, 20), (17, 0, imax), (18, 0, imax), (21, 0, 1000), (22, 0, 1000), (24, 0, 8)]
/-- all blocks, where the rules of the connections have gone out or not, and the connections stand so -/
def full (o0 o1 : Bool) (s1 s2 : Nat) : List (Pth × O) := cmn ++ (outB o0 o1 ++ (conn 0 s1 ++ conn 1 s2))
def isOut (s : Nat) : Bool := Nat.beq s 4
def fullS (s1 s2 : Nat) : List (Pth × O) := full (isOut s1) (isOut s2) s1 s2
/-- the state behind a piece of m bytes -/
def newS (s m : Nat) (ft : Bool) : Nat :=
  match isOut s, ft with
  | true, _ => 4
  | false, false => 4
  | false, true => (match Nat.beq m 0 with
    | true => (match Nat.ble s 1 with | true => 1 | false => 3)
    | false => 2)
def goesS (s : Nat) (ft : Bool) : Bool := match isOut s, ft with | false, false => true | _, _ => false
def xB (g : Bool) : List (Pth × O) := match g with | true => [(nm 80, .cells [J 0, J (-1), J (-1)])] | false => []
def xV (g : Bool) : V := match g with | true => .sl (nm 80) 0 1 1 3 | false => .nilsl
def lin (i : Nat) (m : Int) : V := .lin i .i64 m 0 0
/-- the new numbers behind the piece that sends -/
def asg4 (c s m mode : Nat) (ft : Bool) : Asg :=
  (24, J (.ofNat m)) :: (4, sNext) ::
  ((match mode, ft with
    | 0, _ => []
    | _, false => []
    | 1, true => [(3, sNext), (1, J (.ofNat m))]
    | _, true => [(3, sNext), (1, lin 1 (.ofNat m))]) ++
   ((match Nat.ble s 1, Nat.beq m 0 with
    | true, true => []
    | true, false => [(13 + c, J (.ofNat m)), (21 + c, J (.ofNat m))]
    | false, _ => (match mode, ft with
      | 0, _ => [(21 + c, lin (21 + c) (.ofNat m))]
      | _, false => [(21 + c, lin (21 + c) (.ofNat m))]
      | _, true => [(13 + c, lin (13 + c) (.ofNat m)), (21 + c, lin (21 + c) (.ofNat m))])) ++ ids))
/-- the frame behind the piece that sends -/
def frame4 (c : Nat) (g : Bool) : List (Nat × V) := frame sNext sUsed sI ++ [(14, J (.ofNat c)), (15, sMany), (16, xV g), (17, J 0)]
def frame0 : List (Nat × V) := [(0, inL), (2, inY), (7, sN), (8, rF), (9, sTick), (10, sUsed), (11, rOut)]
def asg0 : Asg := [(0, sN), (17, lenL), (18, lenY), (1, J 0), (2, J 0), (3, J 0), (4, J 0), (5, J 0)]
def G0 : Glo := ⟨fun _ => [], [(20, sShare, J 40, sN)], []⟩
def Gstay : Glo := ⟨fun _ => [], [(7, sI, lenL, .bool true), (7, sI, J 20, .bool true)], []⟩
def Gend1 : Glo := ⟨fun _ => [], [(7, sI, lenL, .bool false)], []⟩
def Gend2 : Glo := ⟨fun _ => [], [(7, sI, lenL, .bool true), (7, sI, J 20, .bool false)], []⟩
def Gin : Glo := ⟨fun _ => [], [(10, sI, lenY, .bool false), (7, sI, lenY, .bool true), (20, sY, J 7, sW), (0, sTick, sW, sNext)], ldY⟩
def Gno : Glo := ⟨fun _ => [], [(10, sI, lenY, .bool true)], []⟩
def Gper (b : Bool) : Glo := ⟨fun _ => [], [(3, sNext, J 10, sQn), (3, sTick, J 10, sQt), (9, sQn, sQt, .bool b)], []⟩
def G5 (over : Bool) : Glo := ⟨fun _ => [], [(0, sUsed, sMany, sSum), (9, sSum, sN, .bool over)], []⟩
def Gfin (z : Bool) : Glo := ⟨fun _ => [], [(7, .lin 2 .i64 10 10 1010, sFt, .bool false), (7, .lin 2 .i64 10 10 1010, sMt, .bool false), (3, .lin 2 .i64 10 10 1010, J 10, sQn), (3, sMt, J 10, sQm), (6, sQn, sQm, .bool true), (7, .lin 0 .i64 0 0 39, J 1, .bool z), (5, sN, J 0, .bool z)], []⟩
end
end Go.Proofs.YtckeidfhhobmcaaGreatDoor
