/-
  What the plans of the twelve texts of rules are, as the evaluator finds them: data, printed by program.
-/
import Derived.Test.YtopicmcaoeameaaGreatDoorEvD
namespace Go.Proofs.YtopicmcaoeameaaGreatDoor
open Go Go.Ev

/-- the numeral of n (less than 4096) -/
def nm (n : Nat) : Pth :=
  Nat.rec (motive := fun _ => Nat → Pth) (fun _ => .e) (fun _ ih n => match Nat.beq n 0 with
    | true => .e
    | false => match Nat.beq (Nat.mod (Nat.sub n 1) 2) 0 with
      | true => .l (ih (Nat.div (Nat.sub n 1) 2))
      | false => .r (ih (Nat.div (Nat.sub n 1) 2))) 12 n
/-- the name of the plans' reader's text -/
def nT : Pth := nm 999
/-- where a reader's names begin -/
def n1 : Pth := nm 1000
/-- a: parsed .int .i64 (0), .int .i64 (0); new .int .i64 (0) -/
def txt0 : List Nat := [97]
def root0 : Nat := 136
def plan0 : List (Pth × List V) :=
  [(nm 136, [.bool false, .sl (nm 227) 0 1 1 1, .sl (nm 229) 0 1 1 10, .sl (nm 231) 0 1 1 1]),
   (nm 227, [.int .i64 (3)]),
   (nm 229, [.int .i64 (1), .sl (nm 142) 0 1 1 2, .nilsl, .int .i64 (0), .int .i64 (0), .int .i64 (0), .int .i64 (0), .bool false, .int .i64 (0), .bool false]),
   (nm 231, [.fn 153 [] [.ptr (nm 225) 0]]),
   (nm 142, [.int .i64 (97), .int .i64 (97)]),
   (nm 225, [.ptr (nm 224) 0]),
   (nm 224, [.sl (nm 221) 0 2 2 5, .int .i64 (0), .int .i64 (2)]),
   (nm 221, [.int .i64 (1), .int .i64 (0), .int .i64 (0), .int .i64 (0), .sl (nm 223) 0 1 1 2, .int .i64 (0), .int .i64 (0), .int .i64 (0), .int .i64 (0), .nilsl]),
   (nm 223, [.int .i64 (97), .int .i64 (97)])]
/-- b: parsed .int .i64 (0), .int .i64 (0); new .int .i64 (0) -/
def txt1 : List Nat := [98]
def root1 : Nat := 136
def plan1 : List (Pth × List V) :=
  [(nm 136, [.bool false, .sl (nm 227) 0 1 1 1, .sl (nm 229) 0 1 1 10, .sl (nm 231) 0 1 1 1]),
   (nm 227, [.int .i64 (3)]),
   (nm 229, [.int .i64 (1), .sl (nm 142) 0 1 1 2, .nilsl, .int .i64 (0), .int .i64 (0), .int .i64 (0), .int .i64 (0), .bool false, .int .i64 (0), .bool false]),
   (nm 231, [.fn 153 [] [.ptr (nm 225) 0]]),
   (nm 142, [.int .i64 (98), .int .i64 (98)]),
   (nm 225, [.ptr (nm 224) 0]),
   (nm 224, [.sl (nm 221) 0 2 2 5, .int .i64 (0), .int .i64 (2)]),
   (nm 221, [.int .i64 (1), .int .i64 (0), .int .i64 (0), .int .i64 (0), .sl (nm 223) 0 1 1 2, .int .i64 (0), .int .i64 (0), .int .i64 (0), .int .i64 (0), .nilsl]),
   (nm 223, [.int .i64 (98), .int .i64 (98)])]
/-- a*b: parsed .int .i64 (0), .int .i64 (0); new .int .i64 (0) -/
def txt2 : List Nat := [97, 42, 98]
def root2 : Nat := 162
def plan2 : List (Pth × List V) :=
  [(nm 162, [.bool false, .sl (nm 347) 0 1 1 1, .sl (nm 349) 0 1 1 10, .sl (nm 351) 0 1 1 1]),
   (nm 347, [.int .i64 (3)]),
   (nm 349, [.int .i64 (2), .nilsl, .sl (nm 168) 0 2 2 8, .int .i64 (0), .int .i64 (0), .int .i64 (0), .int .i64 (0), .bool false, .int .i64 (0), .bool false]),
   (nm 351, [.fn 153 [] [.ptr (nm 345) 0]]),
   (nm 168, [.int .i64 (4), .nilsl, .sl (nm 173) 0 1 1 8, .int .i64 (0), .int .i64 (-1), .int .i64 (0), .int .i64 (0), .bool false, .int .i64 (1), .sl (nm 183) 0 1 1 2, .nilsl, .int .i64 (0), .int .i64 (0), .int .i64 (0), .int .i64 (0), .bool false]),
   (nm 345, [.ptr (nm 344) 0]),
   (nm 173, [.int .i64 (1), .sl (nm 178) 0 1 1 2, .nilsl, .int .i64 (0), .int .i64 (0), .int .i64 (0), .int .i64 (0), .bool false]),
   (nm 183, [.int .i64 (98), .int .i64 (98)]),
   (nm 344, [.sl (nm 339) 0 5 5 5, .int .i64 (0), .int .i64 (3)]),
   (nm 178, [.int .i64 (97), .int .i64 (97)]),
   (nm 339, [.int .i64 (2), .int .i64 (1), .int .i64 (3), .int .i64 (0), .nilsl, .int .i64 (1), .int .i64 (0), .int .i64 (0), .int .i64 (0), .sl (nm 341) 0 1 1 2, .int .i64 (3), .int .i64 (0), .int .i64 (0), .int .i64 (0), .nilsl, .int .i64 (1), .int .i64 (0), .int .i64 (0), .int .i64 (0), .sl (nm 343) 0 1 1 2, .int .i64 (0), .int .i64 (0), .int .i64 (0), .int .i64 (0), .nilsl]),
   (nm 341, [.int .i64 (97), .int .i64 (97)]),
   (nm 343, [.int .i64 (98), .int .i64 (98)])]
/-- (a)\1: parsed .int .i64 (0), .int .i64 (0); new .int .i64 (0) -/
def txt3 : List Nat := [40, 97, 41, 92, 49]
def root3 : Nat := 184
def plan3 : List (Pth × List V) :=
  [(nm 184, [.bool false, .sl (nm 301) 0 1 1 1, .sl (nm 303) 0 1 1 10, .sl (nm 305) 0 1 1 1]),
   (nm 301, [.int .i64 (0)]),
   (nm 303, [.int .i64 (2), .nilsl, .sl (nm 190) 0 2 2 8, .int .i64 (0), .int .i64 (0), .int .i64 (0), .int .i64 (0), .bool false, .int .i64 (1), .bool false]),
   (nm 305, [.fn 145 [] [.ptr (nm 299) 0]]),
   (nm 190, [.int .i64 (5), .nilsl, .sl (nm 195) 0 1 1 8, .int .i64 (0), .int .i64 (0), .int .i64 (0), .int .i64 (1), .bool false, .int .i64 (6), .nilsl, .nilsl, .int .i64 (0), .int .i64 (0), .int .i64 (0), .int .i64 (1), .bool false]),
   (nm 299, [.ptr (nm 298) 0]),
   (nm 195, [.int .i64 (1), .sl (nm 200) 0 1 1 2, .nilsl, .int .i64 (0), .int .i64 (0), .int .i64 (0), .int .i64 (0), .bool false]),
   (nm 298, [.int .i64 (2), .nilsl, .sl (nm 297) 0 2 2 8, .int .i64 (0), .int .i64 (0), .int .i64 (0), .int .i64 (0), .bool false, .int .i64 (1), .bool false, .nilsl, .nilsl, .nilsl, .int .i64 (0), .int .i64 (0), .int .i64 (0), .int .i64 (0), .bool false, .bool false]),
   (nm 200, [.int .i64 (97), .int .i64 (97)]),
   (nm 297, [.int .i64 (5), .nilsl, .sl (nm 290) 0 1 1 8, .int .i64 (0), .int .i64 (0), .int .i64 (0), .int .i64 (1), .bool false, .int .i64 (6), .nilsl, .nilsl, .int .i64 (0), .int .i64 (0), .int .i64 (0), .int .i64 (1), .bool false]),
   (nm 290, [.int .i64 (1), .sl (nm 288) 0 1 1 2, .nilsl, .int .i64 (0), .int .i64 (0), .int .i64 (0), .int .i64 (0), .bool false]),
   (nm 288, [.int .i64 (97), .int .i64 (97)])]
/-- [^c]: parsed .int .i64 (0), .int .i64 (0); new .int .i64 (0) -/
def txt4 : List Nat := [91, 94, 99, 93]
def root4 : Nat := 176
def plan4 : List (Pth × List V) :=
  [(nm 176, [.bool false, .sl (nm 272) 0 1 1 1, .sl (nm 274) 0 1 1 10, .sl (nm 276) 0 1 1 1]),
   (nm 272, [.int .i64 (3)]),
   (nm 274, [.int .i64 (1), .sl (nm 182) 0 2 2 2, .nilsl, .int .i64 (0), .int .i64 (0), .int .i64 (0), .int .i64 (0), .bool false, .int .i64 (0), .bool false]),
   (nm 276, [.fn 153 [] [.ptr (nm 270) 0]]),
   (nm 182, [.int .i64 (0), .int .i64 (98), .int .i64 (100), .int .i64 (255)]),
   (nm 270, [.ptr (nm 269) 0]),
   (nm 269, [.sl (nm 266) 0 2 2 5, .int .i64 (0), .int .i64 (2)]),
   (nm 266, [.int .i64 (1), .int .i64 (0), .int .i64 (0), .int .i64 (0), .sl (nm 268) 0 2 2 2, .int .i64 (0), .int .i64 (0), .int .i64 (0), .int .i64 (0), .nilsl]),
   (nm 268, [.int .i64 (0), .int .i64 (98), .int .i64 (100), .int .i64 (255)])]
/-- ^a$: parsed .int .i64 (0), .int .i64 (0); new .int .i64 (0) -/
def txt5 : List Nat := [94, 97, 36]
def root5 : Nat := 164
def plan5 : List (Pth × List V) :=
  [(nm 164, [.bool false, .sl (nm 317) 0 1 1 1, .sl (nm 319) 0 1 1 10, .sl (nm 321) 0 1 1 1]),
   (nm 317, [.int .i64 (2)]),
   (nm 319, [.int .i64 (2), .nilsl, .sl (nm 170) 0 3 3 8, .int .i64 (0), .int .i64 (0), .int .i64 (0), .int .i64 (0), .bool false, .int .i64 (0), .bool false]),
   (nm 321, [.fn 150 [] [.ptr (nm 315) 0]]),
   (nm 170, [.int .i64 (11), .nilsl, .nilsl, .int .i64 (0), .int .i64 (0), .int .i64 (0), .int .i64 (0), .bool false, .int .i64 (1), .sl (nm 178) 0 1 1 2, .nilsl, .int .i64 (0), .int .i64 (0), .int .i64 (0), .int .i64 (0), .bool false, .int .i64 (11), .nilsl, .nilsl, .int .i64 (0), .int .i64 (0), .int .i64 (0), .int .i64 (1), .bool false]),
   (nm 315, [.sl (nm 314) 0 4 4 5, .int .i64 (0), .bool false]),
   (nm 178, [.int .i64 (97), .int .i64 (97)]),
   (nm 314, [.int .i64 (5), .int .i64 (0), .int .i64 (0), .int .i64 (0), .nilsl, .int .i64 (1), .int .i64 (0), .int .i64 (0), .int .i64 (0), .sl (nm 306) 0 1 1 2, .int .i64 (5), .int .i64 (0), .int .i64 (0), .int .i64 (1), .nilsl, .int .i64 (0), .int .i64 (0), .int .i64 (0), .int .i64 (0), .nilsl]),
   (nm 306, [.int .i64 (97), .int .i64 (97)])]
/-- (?=a)a: parsed .int .i64 (0), .int .i64 (0); new .int .i64 (0) -/
def txt6 : List Nat := [40, 63, 61, 97, 41, 97]
def root6 : Nat := 189
def plan6 : List (Pth × List V) :=
  [(nm 189, [.bool false, .sl (nm 304) 0 1 1 1, .sl (nm 306) 0 1 1 10, .sl (nm 308) 0 1 1 1]),
   (nm 304, [.int .i64 (5)]),
   (nm 306, [.int .i64 (2), .nilsl, .sl (nm 195) 0 2 2 8, .int .i64 (0), .int .i64 (0), .int .i64 (0), .int .i64 (0), .bool false, .int .i64 (0), .bool false]),
   (nm 308, [.fn 158 [] [.ptr (nm 264) 0]]),
   (nm 195, [.int .i64 (7), .nilsl, .sl (nm 200) 0 1 1 8, .int .i64 (0), .int .i64 (0), .int .i64 (0), .int .i64 (0), .bool false, .int .i64 (1), .sl (nm 210) 0 1 1 2, .nilsl, .int .i64 (0), .int .i64 (0), .int .i64 (0), .int .i64 (0), .bool false]),
   (nm 264, [.int .i64 (2), .nilsl, .sl (nm 195) 0 2 2 8, .int .i64 (0), .int .i64 (0), .int .i64 (0), .int .i64 (0), .bool false, .int .i64 (0), .bool false]),
   (nm 200, [.int .i64 (1), .sl (nm 205) 0 1 1 2, .nilsl, .int .i64 (0), .int .i64 (0), .int .i64 (0), .int .i64 (0), .bool false]),
   (nm 210, [.int .i64 (97), .int .i64 (97)]),
   (nm 205, [.int .i64 (97), .int .i64 (97)])]
/-- a|ab: parsed .int .i64 (0), .int .i64 (0); new .int .i64 (0) -/
def txt7 : List Nat := [97, 124, 97, 98]
def root7 : Nat := 182
def plan7 : List (Pth × List V) :=
  [(nm 182, [.bool false, .sl (nm 411) 0 2 2 1, .sl (nm 413) 0 2 2 10, .sl (nm 415) 0 2 2 1]),
   (nm 411, [.int .i64 (3), .int .i64 (3)]),
   (nm 413, [.int .i64 (1), .sl (nm 188) 0 1 1 2, .nilsl, .int .i64 (0), .int .i64 (0), .int .i64 (0), .int .i64 (0), .bool false, .int .i64 (0), .bool false, .int .i64 (2), .nilsl, .sl (nm 282) 0 2 2 8, .int .i64 (0), .int .i64 (0), .int .i64 (0), .int .i64 (0), .bool false, .int .i64 (0), .bool false]),
   (nm 415, [.fn 153 [] [.ptr (nm 271) 0], .fn 153 [] [.ptr (nm 409) 0]]),
   (nm 188, [.int .i64 (97), .int .i64 (97)]),
   (nm 282, [.int .i64 (1), .sl (nm 287) 0 1 1 2, .nilsl, .int .i64 (0), .int .i64 (0), .int .i64 (0), .int .i64 (0), .bool false, .int .i64 (1), .sl (nm 292) 0 1 1 2, .nilsl, .int .i64 (0), .int .i64 (0), .int .i64 (0), .int .i64 (0), .bool false]),
   (nm 271, [.ptr (nm 270) 0]),
   (nm 409, [.ptr (nm 408) 0]),
   (nm 287, [.int .i64 (97), .int .i64 (97)]),
   (nm 292, [.int .i64 (98), .int .i64 (98)]),
   (nm 270, [.sl (nm 267) 0 2 2 5, .int .i64 (0), .int .i64 (2)]),
   (nm 408, [.sl (nm 403) 0 3 3 5, .int .i64 (0), .int .i64 (3)]),
   (nm 267, [.int .i64 (1), .int .i64 (0), .int .i64 (0), .int .i64 (0), .sl (nm 269) 0 1 1 2, .int .i64 (0), .int .i64 (0), .int .i64 (0), .int .i64 (0), .nilsl]),
   (nm 403, [.int .i64 (1), .int .i64 (0), .int .i64 (0), .int .i64 (0), .sl (nm 405) 0 1 1 2, .int .i64 (1), .int .i64 (0), .int .i64 (0), .int .i64 (0), .sl (nm 407) 0 1 1 2, .int .i64 (0), .int .i64 (0), .int .i64 (0), .int .i64 (0), .nilsl]),
   (nm 269, [.int .i64 (97), .int .i64 (97)]),
   (nm 405, [.int .i64 (97), .int .i64 (97)]),
   (nm 407, [.int .i64 (98), .int .i64 (98)])]
/-- a+: parsed .int .i64 (0), .int .i64 (0); new .int .i64 (0) -/
def txt8 : List Nat := [97, 43]
def root8 : Nat := 143
def plan8 : List (Pth × List V) :=
  [(nm 143, [.bool false, .sl (nm 308) 0 1 1 1, .sl (nm 310) 0 1 1 10, .sl (nm 312) 0 1 1 1]),
   (nm 308, [.int .i64 (3)]),
   (nm 310, [.int .i64 (4), .nilsl, .sl (nm 149) 0 1 1 8, .int .i64 (1), .int .i64 (-1), .int .i64 (0), .int .i64 (0), .bool false, .int .i64 (0), .bool false]),
   (nm 312, [.fn 153 [] [.ptr (nm 306) 0]]),
   (nm 149, [.int .i64 (1), .sl (nm 154) 0 1 1 2, .nilsl, .int .i64 (0), .int .i64 (0), .int .i64 (0), .int .i64 (0), .bool false]),
   (nm 306, [.ptr (nm 305) 0]),
   (nm 154, [.int .i64 (97), .int .i64 (97)]),
   (nm 305, [.sl (nm 300) 0 5 5 5, .int .i64 (0), .int .i64 (3)]),
   (nm 300, [.int .i64 (1), .int .i64 (0), .int .i64 (0), .int .i64 (0), .sl (nm 302) 0 1 1 2, .int .i64 (2), .int .i64 (2), .int .i64 (4), .int .i64 (0), .nilsl, .int .i64 (1), .int .i64 (0), .int .i64 (0), .int .i64 (0), .sl (nm 304) 0 1 1 2, .int .i64 (3), .int .i64 (1), .int .i64 (0), .int .i64 (0), .nilsl, .int .i64 (0), .int .i64 (0), .int .i64 (0), .int .i64 (0), .nilsl]),
   (nm 302, [.int .i64 (97), .int .i64 (97)]),
   (nm 304, [.int .i64 (97), .int .i64 (97)])]
/-- : parsed .int .i64 (0), .int .i64 (0); new .int .i64 (0) -/
def txt9 : List Nat := []
def root9 : Nat := 121
def plan9 : List (Pth × List V) :=
  [(nm 121, [.bool false, .sl (nm 178) 0 1 1 1, .sl (nm 180) 0 1 1 10, .sl (nm 182) 0 1 1 1]),
   (nm 178, [.int .i64 (3)]),
   (nm 180, [.int .i64 (0), .nilsl, .nilsl, .int .i64 (0), .int .i64 (0), .int .i64 (0), .int .i64 (0), .bool false, .int .i64 (0), .bool false]),
   (nm 182, [.fn 153 [] [.ptr (nm 176) 0]]),
   (nm 176, [.ptr (nm 175) 0]),
   (nm 175, [.sl (nm 174) 0 1 1 5, .int .i64 (0), .int .i64 (1)]),
   (nm 174, [.int .i64 (0), .int .i64 (0), .int .i64 (0), .int .i64 (0), .nilsl])]
/-- [a-b]: parsed .int .i64 (0), .int .i64 (0); new .int .i64 (0) -/
def txt10 : List Nat := [91, 97, 45, 98, 93]
def root10 : Nat := 160
def plan10 : List (Pth × List V) :=
  [(nm 160, [.bool false, .sl (nm 251) 0 1 1 1, .sl (nm 253) 0 1 1 10, .sl (nm 255) 0 1 1 1]),
   (nm 251, [.int .i64 (3)]),
   (nm 253, [.int .i64 (1), .sl (nm 166) 0 1 1 2, .nilsl, .int .i64 (0), .int .i64 (0), .int .i64 (0), .int .i64 (0), .bool false, .int .i64 (0), .bool false]),
   (nm 255, [.fn 153 [] [.ptr (nm 249) 0]]),
   (nm 166, [.int .i64 (97), .int .i64 (98)]),
   (nm 249, [.ptr (nm 248) 0]),
   (nm 248, [.sl (nm 245) 0 2 2 5, .int .i64 (0), .int .i64 (2)]),
   (nm 245, [.int .i64 (1), .int .i64 (0), .int .i64 (0), .int .i64 (0), .sl (nm 247) 0 1 1 2, .int .i64 (0), .int .i64 (0), .int .i64 (0), .int .i64 (0), .nilsl]),
   (nm 247, [.int .i64 (97), .int .i64 (98)])]
/-- b+: parsed .int .i64 (0), .int .i64 (0); new .int .i64 (0) -/
def txt11 : List Nat := [98, 43]
def root11 : Nat := 143
def plan11 : List (Pth × List V) :=
  [(nm 143, [.bool false, .sl (nm 308) 0 1 1 1, .sl (nm 310) 0 1 1 10, .sl (nm 312) 0 1 1 1]),
   (nm 308, [.int .i64 (3)]),
   (nm 310, [.int .i64 (4), .nilsl, .sl (nm 149) 0 1 1 8, .int .i64 (1), .int .i64 (-1), .int .i64 (0), .int .i64 (0), .bool false, .int .i64 (0), .bool false]),
   (nm 312, [.fn 153 [] [.ptr (nm 306) 0]]),
   (nm 149, [.int .i64 (1), .sl (nm 154) 0 1 1 2, .nilsl, .int .i64 (0), .int .i64 (0), .int .i64 (0), .int .i64 (0), .bool false]),
   (nm 306, [.ptr (nm 305) 0]),
   (nm 154, [.int .i64 (98), .int .i64 (98)]),
   (nm 305, [.sl (nm 300) 0 5 5 5, .int .i64 (0), .int .i64 (3)]),
   (nm 300, [.int .i64 (1), .int .i64 (0), .int .i64 (0), .int .i64 (0), .sl (nm 302) 0 1 1 2, .int .i64 (2), .int .i64 (2), .int .i64 (4), .int .i64 (0), .nilsl, .int .i64 (1), .int .i64 (0), .int .i64 (0), .int .i64 (0), .sl (nm 304) 0 1 1 2, .int .i64 (3), .int .i64 (1), .int .i64 (0), .int .i64 (0), .nilsl, .int .i64 (0), .int .i64 (0), .int .i64 (0), .int .i64 (0), .nilsl]),
   (nm 302, [.int .i64 (98), .int .i64 (98)]),
   (nm 304, [.int .i64 (98), .int .i64 (98)])]

def txt (k : Nat) : List Nat := match k with | 0 => txt0 | 1 => txt1 | 2 => txt2 | 3 => txt3 | 4 => txt4 | 5 => txt5 | 6 => txt6 | 7 => txt7 | 8 => txt8 | 9 => txt9 | 10 => txt10 | _ => txt11
def root (k : Nat) : Pth := nm (match k with | 0 => root0 | 1 => root1 | 2 => root2 | 3 => root3 | 4 => root4 | 5 => root5 | 6 => root6 | 7 => root7 | 8 => root8 | 9 => root9 | 10 => root10 | _ => root11)
def plan (k : Nat) : List (Pth × List V) := match k with | 0 => plan0 | 1 => plan1 | 2 => plan2 | 3 => plan3 | 4 => plan4 | 5 => plan5 | 6 => plan6 | 7 => plan7 | 8 => plan8 | 9 => plan9 | 10 => plan10 | _ => plan11
theorem plan_closed : ∀ k < 12, closedRo (plan k) = true ∧ nameOf (plan k) nT = false ∧ nameOf (plan k) (root k) = true := by decide +kernel
end Go.Proofs.YtopicmcaoeameaaGreatDoor
