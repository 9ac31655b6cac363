/-
  What the plans of the twelve texts of rules are, as the evaluator finds them: data, printed by program.
  The program; what Parse and plan.New make of the twelve texts of rules.
  A plan that holds a machine: what its calls may change, and how it lies in memory.
  (*Set).Rules, walked.
  (*Set).Found, walked: what First says of each rule, one match after the other.
  A map keyed by strings, said as a function: what a look-up gives, what a store leaves. (Of no program.)
  The canary's collect, walked: the matches of a set in a text, by the rules' names.
  slices.Equal of two slices of pairs, walked.
  The canary's compare, walked: the names at which two sets' matches in a text differ.
  A list of rules with different names, turned round: at each name both lists' matches are the same. (Plain.)
  The names that were seen: add, walked, at a name that is well-formed and new.
  The rules' names: Decimal and isName, evaluated.
-/
import Derived.Test.YtopicmcaoeameaaGreatDoorEvD
import Derived.Test.YtopicmcaoeameaaGreatDoorProg
import Derived.KernelRfl
import Derived.WalkKit
import Derived.Tactics
import Derived.Tactics2
import Derived.StillTactics
import Derived.Maps.Own
import Derived.StringKeys
import Derived.Maps.AppendAt
namespace Go.Proofs.YtopicmcaoeameaaGreatDoor
open Go Go.Ev

/-- the numeral of n (less than 4096) -/
def nm (n : Nat) : Pth :=
  Nat.rec (motive := fun _ => Nat → Pth) (fun _ => .e) (fun _ ih n => match Nat.beq n 0 with
    | true => .e
    | false => match Nat.beq (Nat.mod (Nat.sub n 1) 2) 0 with
      | true => .l (ih (Nat.div (Nat.sub n 1) 2))
      | false => .r (ih (Nat.div (Nat.sub n 1) 2))) 12 n
/-- the name of the plans' reader's text -/
def nT : Pth := nm 999
/-- where a reader's names begin -/
def n1 : Pth := nm 1000
/-- a: parsed .int .i64 (0), .int .i64 (0); new .int .i64 (0) -/
def txt0 : List Nat := [97]
def root0 : Nat := 136
def plan0 : List (Pth × List V) :=
  [(nm 136, [.bool false, .sl (nm 227) 0 1 1 1, .sl (nm 229) 0 1 1 10, .sl (nm 231) 0 1 1 1]),
   (nm 227, [.int .i64 (3)]),
   (nm 229, [.int .i64 (1), .sl (nm 142) 0 1 1 2, .nilsl, .int .i64 (0), .int .i64 (0), .int .i64 (0), .int .i64 (0), .bool false, .int .i64 (0), .bool false]),
   (nm 231, [.fn 153 [] [.ptr (nm 225) 0]]),
   (nm 142, [.int .i64 (97), .int .i64 (97)]),
   (nm 225, [.ptr (nm 224) 0]),
   (nm 224, [.sl (nm 221) 0 2 2 5, .int .i64 (0), .int .i64 (2)]),
   (nm 221, [.int .i64 (1), .int .i64 (0), .int .i64 (0), .int .i64 (0), .sl (nm 223) 0 1 1 2, .int .i64 (0), .int .i64 (0), .int .i64 (0), .int .i64 (0), .nilsl]),
   (nm 223, [.int .i64 (97), .int .i64 (97)])]
/-- b: parsed .int .i64 (0), .int .i64 (0); new .int .i64 (0) -/
def txt1 : List Nat := [98]
def root1 : Nat := 136
def plan1 : List (Pth × List V) :=
  [(nm 136, [.bool false, .sl (nm 227) 0 1 1 1, .sl (nm 229) 0 1 1 10, .sl (nm 231) 0 1 1 1]),
   (nm 227, [.int .i64 (3)]),
   (nm 229, [.int .i64 (1), .sl (nm 142) 0 1 1 2, .nilsl, .int .i64 (0), .int .i64 (0), .int .i64 (0), .int .i64 (0), .bool false, .int .i64 (0), .bool false]),
   (nm 231, [.fn 153 [] [.ptr (nm 225) 0]]),
   (nm 142, [.int .i64 (98), .int .i64 (98)]),
   (nm 225, [.ptr (nm 224) 0]),
   (nm 224, [.sl (nm 221) 0 2 2 5, .int .i64 (0), .int .i64 (2)]),
   (nm 221, [.int .i64 (1), .int .i64 (0), .int .i64 (0), .int .i64 (0), .sl (nm 223) 0 1 1 2, .int .i64 (0), .int .i64 (0), .int .i64 (0), .int .i64 (0), .nilsl]),
   (nm 223, [.int .i64 (98), .int .i64 (98)])]
/-- a*b: parsed .int .i64 (0), .int .i64 (0); new .int .i64 (0) -/
def txt2 : List Nat := [97, 42, 98]
def root2 : Nat := 162
def plan2 : List (Pth × List V) :=
  [(nm 162, [.bool false, .sl (nm 347) 0 1 1 1, .sl (nm 349) 0 1 1 10, .sl (nm 351) 0 1 1 1]),
   (nm 347, [.int .i64 (3)]),
   (nm 349, [.int .i64 (2), .nilsl, .sl (nm 168) 0 2 2 8, .int .i64 (0), .int .i64 (0), .int .i64 (0), .int .i64 (0), .bool false, .int .i64 (0), .bool false]),
   (nm 351, [.fn 153 [] [.ptr (nm 345) 0]]),
   (nm 168, [.int .i64 (4), .nilsl, .sl (nm 173) 0 1 1 8, .int .i64 (0), .int .i64 (-1), .int .i64 (0), .int .i64 (0), .bool false, .int .i64 (1), .sl (nm 183) 0 1 1 2, .nilsl, .int .i64 (0), .int .i64 (0), .int .i64 (0), .int .i64 (0), .bool false]),
   (nm 345, [.ptr (nm 344) 0]),
   (nm 173, [.int .i64 (1), .sl (nm 178) 0 1 1 2, .nilsl, .int .i64 (0), .int .i64 (0), .int .i64 (0), .int .i64 (0), .bool false]),
   (nm 183, [.int .i64 (98), .int .i64 (98)]),
   (nm 344, [.sl (nm 339) 0 5 5 5, .int .i64 (0), .int .i64 (3)]),
   (nm 178, [.int .i64 (97), .int .i64 (97)]),
   (nm 339, [.int .i64 (2), .int .i64 (1), .int .i64 (3), .int .i64 (0), .nilsl, .int .i64 (1), .int .i64 (0), .int .i64 (0), .int .i64 (0), .sl (nm 341) 0 1 1 2, .int .i64 (3), .int .i64 (0), .int .i64 (0), .int .i64 (0), .nilsl, .int .i64 (1), .int .i64 (0), .int .i64 (0), .int .i64 (0), .sl (nm 343) 0 1 1 2, .int .i64 (0), .int .i64 (0), .int .i64 (0), .int .i64 (0), .nilsl]),
   (nm 341, [.int .i64 (97), .int .i64 (97)]),
   (nm 343, [.int .i64 (98), .int .i64 (98)])]
/-- (a)\1: parsed .int .i64 (0), .int .i64 (0); new .int .i64 (0) -/
def txt3 : List Nat := [40, 97, 41, 92, 49]
def root3 : Nat := 184
def plan3 : List (Pth × List V) :=
  [(nm 184, [.bool false, .sl (nm 301) 0 1 1 1, .sl (nm 303) 0 1 1 10, .sl (nm 305) 0 1 1 1]),
   (nm 301, [.int .i64 (0)]),
   (nm 303, [.int .i64 (2), .nilsl, .sl (nm 190) 0 2 2 8, .int .i64 (0), .int .i64 (0), .int .i64 (0), .int .i64 (0), .bool false, .int .i64 (1), .bool false]),
   (nm 305, [.fn 145 [] [.ptr (nm 299) 0]]),
   (nm 190, [.int .i64 (5), .nilsl, .sl (nm 195) 0 1 1 8, .int .i64 (0), .int .i64 (0), .int .i64 (0), .int .i64 (1), .bool false, .int .i64 (6), .nilsl, .nilsl, .int .i64 (0), .int .i64 (0), .int .i64 (0), .int .i64 (1), .bool false]),
   (nm 299, [.ptr (nm 298) 0]),
   (nm 195, [.int .i64 (1), .sl (nm 200) 0 1 1 2, .nilsl, .int .i64 (0), .int .i64 (0), .int .i64 (0), .int .i64 (0), .bool false]),
   (nm 298, [.int .i64 (2), .nilsl, .sl (nm 297) 0 2 2 8, .int .i64 (0), .int .i64 (0), .int .i64 (0), .int .i64 (0), .bool false, .int .i64 (1), .bool false, .nilsl, .nilsl, .nilsl, .int .i64 (0), .int .i64 (0), .int .i64 (0), .int .i64 (0), .bool false, .bool false]),
   (nm 200, [.int .i64 (97), .int .i64 (97)]),
   (nm 297, [.int .i64 (5), .nilsl, .sl (nm 290) 0 1 1 8, .int .i64 (0), .int .i64 (0), .int .i64 (0), .int .i64 (1), .bool false, .int .i64 (6), .nilsl, .nilsl, .int .i64 (0), .int .i64 (0), .int .i64 (0), .int .i64 (1), .bool false]),
   (nm 290, [.int .i64 (1), .sl (nm 288) 0 1 1 2, .nilsl, .int .i64 (0), .int .i64 (0), .int .i64 (0), .int .i64 (0), .bool false]),
   (nm 288, [.int .i64 (97), .int .i64 (97)])]
/-- [^c]: parsed .int .i64 (0), .int .i64 (0); new .int .i64 (0) -/
def txt4 : List Nat := [91, 94, 99, 93]
def root4 : Nat := 176
def plan4 : List (Pth × List V) :=
  [(nm 176, [.bool false, .sl (nm 272) 0 1 1 1, .sl (nm 274) 0 1 1 10, .sl (nm 276) 0 1 1 1]),
   (nm 272, [.int .i64 (3)]),
   (nm 274, [.int .i64 (1), .sl (nm 182) 0 2 2 2, .nilsl, .int .i64 (0), .int .i64 (0), .int .i64 (0), .int .i64 (0), .bool false, .int .i64 (0), .bool false]),
   (nm 276, [.fn 153 [] [.ptr (nm 270) 0]]),
   (nm 182, [.int .i64 (0), .int .i64 (98), .int .i64 (100), .int .i64 (255)]),
   (nm 270, [.ptr (nm 269) 0]),
   (nm 269, [.sl (nm 266) 0 2 2 5, .int .i64 (0), .int .i64 (2)]),
   (nm 266, [.int .i64 (1), .int .i64 (0), .int .i64 (0), .int .i64 (0), .sl (nm 268) 0 2 2 2, .int .i64 (0), .int .i64 (0), .int .i64 (0), .int .i64 (0), .nilsl]),
   (nm 268, [.int .i64 (0), .int .i64 (98), .int .i64 (100), .int .i64 (255)])]
/-- ^a$: parsed .int .i64 (0), .int .i64 (0); new .int .i64 (0) -/
def txt5 : List Nat := [94, 97, 36]
def root5 : Nat := 164
def plan5 : List (Pth × List V) :=
  [(nm 164, [.bool false, .sl (nm 317) 0 1 1 1, .sl (nm 319) 0 1 1 10, .sl (nm 321) 0 1 1 1]),
   (nm 317, [.int .i64 (2)]),
   (nm 319, [.int .i64 (2), .nilsl, .sl (nm 170) 0 3 3 8, .int .i64 (0), .int .i64 (0), .int .i64 (0), .int .i64 (0), .bool false, .int .i64 (0), .bool false]),
   (nm 321, [.fn 150 [] [.ptr (nm 315) 0]]),
   (nm 170, [.int .i64 (11), .nilsl, .nilsl, .int .i64 (0), .int .i64 (0), .int .i64 (0), .int .i64 (0), .bool false, .int .i64 (1), .sl (nm 178) 0 1 1 2, .nilsl, .int .i64 (0), .int .i64 (0), .int .i64 (0), .int .i64 (0), .bool false, .int .i64 (11), .nilsl, .nilsl, .int .i64 (0), .int .i64 (0), .int .i64 (0), .int .i64 (1), .bool false]),
   (nm 315, [.sl (nm 314) 0 4 4 5, .int .i64 (0), .bool false]),
   (nm 178, [.int .i64 (97), .int .i64 (97)]),
   (nm 314, [.int .i64 (5), .int .i64 (0), .int .i64 (0), .int .i64 (0), .nilsl, .int .i64 (1), .int .i64 (0), .int .i64 (0), .int .i64 (0), .sl (nm 306) 0 1 1 2, .int .i64 (5), .int .i64 (0), .int .i64 (0), .int .i64 (1), .nilsl, .int .i64 (0), .int .i64 (0), .int .i64 (0), .int .i64 (0), .nilsl]),
   (nm 306, [.int .i64 (97), .int .i64 (97)])]
/-- (?=a)a: parsed .int .i64 (0), .int .i64 (0); new .int .i64 (0) -/
def txt6 : List Nat := [40, 63, 61, 97, 41, 97]
def root6 : Nat := 189
def plan6 : List (Pth × List V) :=
  [(nm 189, [.bool false, .sl (nm 304) 0 1 1 1, .sl (nm 306) 0 1 1 10, .sl (nm 308) 0 1 1 1]),
   (nm 304, [.int .i64 (5)]),
   (nm 306, [.int .i64 (2), .nilsl, .sl (nm 195) 0 2 2 8, .int .i64 (0), .int .i64 (0), .int .i64 (0), .int .i64 (0), .bool false, .int .i64 (0), .bool false]),
   (nm 308, [.fn 158 [] [.ptr (nm 264) 0]]),
   (nm 195, [.int .i64 (7), .nilsl, .sl (nm 200) 0 1 1 8, .int .i64 (0), .int .i64 (0), .int .i64 (0), .int .i64 (0), .bool false, .int .i64 (1), .sl (nm 210) 0 1 1 2, .nilsl, .int .i64 (0), .int .i64 (0), .int .i64 (0), .int .i64 (0), .bool false]),
   (nm 264, [.int .i64 (2), .nilsl, .sl (nm 195) 0 2 2 8, .int .i64 (0), .int .i64 (0), .int .i64 (0), .int .i64 (0), .bool false, .int .i64 (0), .bool false]),
   (nm 200, [.int .i64 (1), .sl (nm 205) 0 1 1 2, .nilsl, .int .i64 (0), .int .i64 (0), .int .i64 (0), .int .i64 (0), .bool false]),
   (nm 210, [.int .i64 (97), .int .i64 (97)]),
   (nm 205, [.int .i64 (97), .int .i64 (97)])]
/-- a|ab: parsed .int .i64 (0), .int .i64 (0); new .int .i64 (0) -/
def txt7 : List Nat := [97, 124, 97, 98]
def root7 : Nat := 182
def plan7 : List (Pth × List V) :=
  [(nm 182, [.bool false, .sl (nm 411) 0 2 2 1, .sl (nm 413) 0 2 2 10, .sl (nm 415) 0 2 2 1]),
   (nm 411, [.int .i64 (3), .int .i64 (3)]),
   (nm 413, [.int .i64 (1), .sl (nm 188) 0 1 1 2, .nilsl, .int .i64 (0), .int .i64 (0), .int .i64 (0), .int .i64 (0), .bool false, .int .i64 (0), .bool false, .int .i64 (2), .nilsl, .sl (nm 282) 0 2 2 8, .int .i64 (0), .int .i64 (0), .int .i64 (0), .int .i64 (0), .bool false, .int .i64 (0), .bool false]),
   (nm 415, [.fn 153 [] [.ptr (nm 271) 0], .fn 153 [] [.ptr (nm 409) 0]]),
   (nm 188, [.int .i64 (97), .int .i64 (97)]),
   (nm 282, [.int .i64 (1), .sl (nm 287) 0 1 1 2, .nilsl, .int .i64 (0), .int .i64 (0), .int .i64 (0), .int .i64 (0), .bool false, .int .i64 (1), .sl (nm 292) 0 1 1 2, .nilsl, .int .i64 (0), .int .i64 (0), .int .i64 (0), .int .i64 (0), .bool false]),
   (nm 271, [.ptr (nm 270) 0]),
   (nm 409, [.ptr (nm 408) 0]),
   (nm 287, [.int .i64 (97), .int .i64 (97)]),
   (nm 292, [.int .i64 (98), .int .i64 (98)]),
   (nm 270, [.sl (nm 267) 0 2 2 5, .int .i64 (0), .int .i64 (2)]),
   (nm 408, [.sl (nm 403) 0 3 3 5, .int .i64 (0), .int .i64 (3)]),
   (nm 267, [.int .i64 (1), .int .i64 (0), .int .i64 (0), .int .i64 (0), .sl (nm 269) 0 1 1 2, .int .i64 (0), .int .i64 (0), .int .i64 (0), .int .i64 (0), .nilsl]),
   (nm 403, [.int .i64 (1), .int .i64 (0), .int .i64 (0), .int .i64 (0), .sl (nm 405) 0 1 1 2, .int .i64 (1), .int .i64 (0), .int .i64 (0), .int .i64 (0), .sl (nm 407) 0 1 1 2, .int .i64 (0), .int .i64 (0), .int .i64 (0), .int .i64 (0), .nilsl]),
   (nm 269, [.int .i64 (97), .int .i64 (97)]),
   (nm 405, [.int .i64 (97), .int .i64 (97)]),
   (nm 407, [.int .i64 (98), .int .i64 (98)])]
/-- a+: parsed .int .i64 (0), .int .i64 (0); new .int .i64 (0) -/
def txt8 : List Nat := [97, 43]
def root8 : Nat := 143
def plan8 : List (Pth × List V) :=
  [(nm 143, [.bool false, .sl (nm 308) 0 1 1 1, .sl (nm 310) 0 1 1 10, .sl (nm 312) 0 1 1 1]),
   (nm 308, [.int .i64 (3)]),
   (nm 310, [.int .i64 (4), .nilsl, .sl (nm 149) 0 1 1 8, .int .i64 (1), .int .i64 (-1), .int .i64 (0), .int .i64 (0), .bool false, .int .i64 (0), .bool false]),
   (nm 312, [.fn 153 [] [.ptr (nm 306) 0]]),
   (nm 149, [.int .i64 (1), .sl (nm 154) 0 1 1 2, .nilsl, .int .i64 (0), .int .i64 (0), .int .i64 (0), .int .i64 (0), .bool false]),
   (nm 306, [.ptr (nm 305) 0]),
   (nm 154, [.int .i64 (97), .int .i64 (97)]),
   (nm 305, [.sl (nm 300) 0 5 5 5, .int .i64 (0), .int .i64 (3)]),
   (nm 300, [.int .i64 (1), .int .i64 (0), .int .i64 (0), .int .i64 (0), .sl (nm 302) 0 1 1 2, .int .i64 (2), .int .i64 (2), .int .i64 (4), .int .i64 (0), .nilsl, .int .i64 (1), .int .i64 (0), .int .i64 (0), .int .i64 (0), .sl (nm 304) 0 1 1 2, .int .i64 (3), .int .i64 (1), .int .i64 (0), .int .i64 (0), .nilsl, .int .i64 (0), .int .i64 (0), .int .i64 (0), .int .i64 (0), .nilsl]),
   (nm 302, [.int .i64 (97), .int .i64 (97)]),
   (nm 304, [.int .i64 (97), .int .i64 (97)])]
/-- : parsed .int .i64 (0), .int .i64 (0); new .int .i64 (0) -/
def txt9 : List Nat := []
def root9 : Nat := 121
def plan9 : List (Pth × List V) :=
  [(nm 121, [.bool false, .sl (nm 178) 0 1 1 1, .sl (nm 180) 0 1 1 10, .sl (nm 182) 0 1 1 1]),
   (nm 178, [.int .i64 (3)]),
   (nm 180, [.int .i64 (0), .nilsl, .nilsl, .int .i64 (0), .int .i64 (0), .int .i64 (0), .int .i64 (0), .bool false, .int .i64 (0), .bool false]),
   (nm 182, [.fn 153 [] [.ptr (nm 176) 0]]),
   (nm 176, [.ptr (nm 175) 0]),
   (nm 175, [.sl (nm 174) 0 1 1 5, .int .i64 (0), .int .i64 (1)]),
   (nm 174, [.int .i64 (0), .int .i64 (0), .int .i64 (0), .int .i64 (0), .nilsl])]
/-- [a-b]: parsed .int .i64 (0), .int .i64 (0); new .int .i64 (0) -/
def txt10 : List Nat := [91, 97, 45, 98, 93]
def root10 : Nat := 160
def plan10 : List (Pth × List V) :=
  [(nm 160, [.bool false, .sl (nm 251) 0 1 1 1, .sl (nm 253) 0 1 1 10, .sl (nm 255) 0 1 1 1]),
   (nm 251, [.int .i64 (3)]),
   (nm 253, [.int .i64 (1), .sl (nm 166) 0 1 1 2, .nilsl, .int .i64 (0), .int .i64 (0), .int .i64 (0), .int .i64 (0), .bool false, .int .i64 (0), .bool false]),
   (nm 255, [.fn 153 [] [.ptr (nm 249) 0]]),
   (nm 166, [.int .i64 (97), .int .i64 (98)]),
   (nm 249, [.ptr (nm 248) 0]),
   (nm 248, [.sl (nm 245) 0 2 2 5, .int .i64 (0), .int .i64 (2)]),
   (nm 245, [.int .i64 (1), .int .i64 (0), .int .i64 (0), .int .i64 (0), .sl (nm 247) 0 1 1 2, .int .i64 (0), .int .i64 (0), .int .i64 (0), .int .i64 (0), .nilsl]),
   (nm 247, [.int .i64 (97), .int .i64 (98)])]
/-- b+: parsed .int .i64 (0), .int .i64 (0); new .int .i64 (0) -/
def txt11 : List Nat := [98, 43]
def root11 : Nat := 143
def plan11 : List (Pth × List V) :=
  [(nm 143, [.bool false, .sl (nm 308) 0 1 1 1, .sl (nm 310) 0 1 1 10, .sl (nm 312) 0 1 1 1]),
   (nm 308, [.int .i64 (3)]),
   (nm 310, [.int .i64 (4), .nilsl, .sl (nm 149) 0 1 1 8, .int .i64 (1), .int .i64 (-1), .int .i64 (0), .int .i64 (0), .bool false, .int .i64 (0), .bool false]),
   (nm 312, [.fn 153 [] [.ptr (nm 306) 0]]),
   (nm 149, [.int .i64 (1), .sl (nm 154) 0 1 1 2, .nilsl, .int .i64 (0), .int .i64 (0), .int .i64 (0), .int .i64 (0), .bool false]),
   (nm 306, [.ptr (nm 305) 0]),
   (nm 154, [.int .i64 (98), .int .i64 (98)]),
   (nm 305, [.sl (nm 300) 0 5 5 5, .int .i64 (0), .int .i64 (3)]),
   (nm 300, [.int .i64 (1), .int .i64 (0), .int .i64 (0), .int .i64 (0), .sl (nm 302) 0 1 1 2, .int .i64 (2), .int .i64 (2), .int .i64 (4), .int .i64 (0), .nilsl, .int .i64 (1), .int .i64 (0), .int .i64 (0), .int .i64 (0), .sl (nm 304) 0 1 1 2, .int .i64 (3), .int .i64 (1), .int .i64 (0), .int .i64 (0), .nilsl, .int .i64 (0), .int .i64 (0), .int .i64 (0), .int .i64 (0), .nilsl]),
   (nm 302, [.int .i64 (98), .int .i64 (98)]),
   (nm 304, [.int .i64 (98), .int .i64 (98)])]

def txt (k : Nat) : List Nat := match k with | 0 => txt0 | 1 => txt1 | 2 => txt2 | 3 => txt3 | 4 => txt4 | 5 => txt5 | 6 => txt6 | 7 => txt7 | 8 => txt8 | 9 => txt9 | 10 => txt10 | _ => txt11
def root (k : Nat) : Pth := nm (match k with | 0 => root0 | 1 => root1 | 2 => root2 | 3 => root3 | 4 => root4 | 5 => root5 | 6 => root6 | 7 => root7 | 8 => root8 | 9 => root9 | 10 => root10 | _ => root11)
def plan (k : Nat) : List (Pth × List V) := match k with | 0 => plan0 | 1 => plan1 | 2 => plan2 | 3 => plan3 | 4 => plan4 | 5 => plan5 | 6 => plan6 | 7 => plan7 | 8 => plan8 | 9 => plan9 | 10 => plan10 | _ => plan11
theorem plan_closed : ∀ k < 12, closedRo (plan k) = true ∧ nameOf (plan k) nT = false ∧ nameOf (plan k) (root k) = true := by decide +kernel
end Go.Proofs.YtopicmcaoeameaaGreatDoor
namespace Go.Proofs.YtopicmcaoeameaaGreatDoor
open Go Go.Ev Go.RowKit

theorem own : ownKnob Tryz.prog.godebug = none := by kernel_rfl
theorem mix : Tryz.prog.follows .mixedOrders = true := by kernel_rfl
theorem noName : Tryz.prog.funcs.all (fun fn => !(fn.name == "runtime.NumGoroutine")) = true := by kernel_rfl
theorem named (f : Nat) (fn : Func) (h : Tryz.prog.funcs[f]? = some fn) : (fn.name == "runtime.NumGoroutine") = false := by
  have h1 := Array.all_eq_true_iff_forall_mem.1 noName fn (Array.mem_of_getElem? h)
  simpa using h1
/-- calls, however deep within bounds that suffice -/
noncomputable def calOf (Γ : Glo) : Cal := evCal (funIR Tryz.prog) Γ 1000000 1000
noncomputable def cal0 : Cal := calOf Γ0
theorem calOf_ok (Γ : Glo) : CalOK Tryz.prog Γ (calOf Γ) := Go.Ev.cal_ok mix named 1000
theorem cal0_ok : CalOK Tryz.prog Γ0 cal0 := calOf_ok Γ0

/-- the flags of Parse: none -/
def noFlags : V := .agg [.bool false, .bool false, .bool false, .bool false]
def isSl : V → Bool | .sl _ _ _ _ _ => true | .nilsl => true | _ => false
/-- is it a parsed pattern's value: ten cells? -/
def shp : V → Bool
  | .agg [.int .i64 _, s1, s2, .int .i64 _, .int .i64 _, .int .i64 _, .int .i64 _, .bool _, .int .i64 _, .bool _] => (match isSl s1 with | true => isSl s2 | false => false)
  | _ => false
/-- does Parse, and then New, make the plan k of the text k? -/
noncomputable def chkNew (k : Nat) : Bool :=
  match cal0.fn 39 [.str (txt k), noFlags] .nil .e with
  | .ok (.tup [p, _, .int .i64 (.ofNat 0)]) H n => (match shp p with
    | true => (match cal0.fn 40 [p, .int .i64 64] H n with
      | .ok (.tup [.ptr r 0, .int .i64 (.ofNat 0)]) H2 _ => (match r.beq (root k) with | true => inH H2 (plan k) | false => false)
      | _ => false)
    | false => false)
  | _ => false
end Go.Proofs.YtopicmcaoeameaaGreatDoor
namespace Go.Proofs.YtopicmcaoeameaaGreatDoor
open Go Go.Ev Go.RowKit

/-- a machine's block, as it was but for the cells that a run leaves behind -/
def SameM (o o' : Option Obj) : Prop := o' = o ∨ ∃ (c c' : Array Value) (t t' : TypeId) (fr fr' : Nat × Nat), o = some (.cells c t fr) ∧ o' = some (.cells c' t' fr') ∧ (fr'.1 = fr'.2 ∨ c'.size ≤ fr'.1) ∧ c'.size = c.size ∧ ∀ i, i < 14 → c'[i]? = c[i]?
theorem SameM.refl (o : Option Obj) : SameM o o := .inl rfl
theorem SameM.trans {a b c : Option Obj} (h : SameM a b) (k : SameM b c) : SameM a c := by
  rcases h with rfl | ⟨x, x', t, t', fr, fr', rfl, rfl, h1, h2, h3⟩
  · exact k
  · rcases k with rfl | ⟨y, y', s, s', gr, gr', e, rfl, k1, k2, k3⟩
    · exact .inr ⟨x, x', t, t', fr, fr', rfl, rfl, h1, h2, h3⟩
    · cases e
      exact .inr ⟨x, y', t, s', fr, gr', rfl, rfl, k1, k2.trans h2, fun i hi => (k3 i hi).trans (h3 i hi)⟩
/-- below B nothing has changed, but for what the machines M hold -/
structure Bel (M : Nat → Prop) (B : Nat) (w w' : World) : Prop where
  os : w'.os = w.os
  tape : w'.tape = w.tape
  output : w'.output = w.output
  size : w.heap.size ≤ w'.heap.size
  block : ∀ k, k < B → ¬ M k → w'.heap[k]? = w.heap[k]?
  mach : ∀ k, k < B → M k → SameM (w.heap[k]?) (w'.heap[k]?)
theorem Bel.of {M : Nat → Prop} {B : Nat} {w w' : World} (h : Below B w w') : Bel M B w w' := ⟨h.os, h.tape, h.output, h.size, fun k hk _ => h.block k hk, fun k hk _ => .inl (h.block k hk)⟩
theorem Bel.refl (M : Nat → Prop) (B : Nat) (w : World) : Bel M B w w := .of (Below.refl _ _)
theorem Bel.trans {M : Nat → Prop} {B : Nat} {a b c : World} (h : Bel M B a b) (k : Bel M B b c) : Bel M B a c :=
  ⟨k.os.trans h.os, k.tape.trans h.tape, k.output.trans h.output, Nat.le_trans h.size k.size, fun i hi hm => (k.block i hi hm).trans (h.block i hi hm), fun i hi hm => (h.mach i hi hm).trans (k.mach i hi hm)⟩
theorem Bel.mono {M : Nat → Prop} {B B' : Nat} {w w' : World} (h : Bel M B w w') (hB : B' ≤ B) : Bel M B' w w' := ⟨h.os, h.tape, h.output, h.size, fun k hk => h.block k (Nat.lt_of_lt_of_le hk hB), fun k hk => h.mach k (Nat.lt_of_lt_of_le hk hB)⟩
theorem Bel.more {M M' : Nat → Prop} {B : Nat} {w w' : World} (h : Bel M B w w') (hM : ∀ k, M k → M' k) : Bel M' B w w' :=
  ⟨h.os, h.tape, h.output, h.size, fun k hk hm => h.block k hk fun e => hm (hM k e), fun k hk _ => (Classical.em (M k)).elim (h.mach k hk) fun hn => .inl (h.block k hk hn)⟩
theorem Bel.drew {M : Nat → Prop} {B : Nat} {a w : World} (h : Bel M B a w) : Bel M B a w.drew := ⟨h.os, h.tape, h.output, h.size, h.block, h.mach⟩
theorem Bel.alloc {M : Nat → Prop} {B : Nat} {a w : World} (h : Bel M B a w) (hB : B ≤ w.heap.size) (o : Obj) : Bel M B a (w.alloc o) := h.trans (.of ((Below.refl B w).alloc hB o))
theorem Bel.setCell {M : Nat → Prop} {B : Nat} {a w : World} (h : Bel M B a w) {p : Addr} (hp : B ≤ p.block) (u : Value) : Bel M B a (w.setCell p u) := h.trans (.of ((Below.refl B w).setCell hp u))
theorem Bel.grown {M : Nat → Prop} {B : Nat} {a w w' : World} {row : Option Nat} (h : Bel M B a w) (hg : w.grownBy w' row) (hB : B ≤ w.heap.size) (hr : ∀ k, row = some k → B ≤ k) : Bel M B a w' := h.trans (.of ((Below.refl B w).grown hg hB hr))
theorem Bel.cell {M : Nat → Prop} {B : Nat} {w w' : World} (h : Bel M B w w') {p : Addr} (hp : p.block < B) (hm : ¬ M p.block) : w'.cell? p = w.cell? p := World.cell?_of_block (w := w) (h.block p.block hp hm)
theorem Bel.frozen {M : Nat → Prop} {B : Nat} {w w' : World} (h : Bel M B w w') {p : Addr} (hp : p.block < B) (hm : ¬ M p.block) : w'.frozen? p = w.frozen? p := World.frozen?_of_block (w := w) (h.block p.block hp hm)
theorem owns_bel {M : Nat → Prop} {w w1 : World} {base : Nat} {e : TypeId} {size : Nat} {v : Value} {n : Nat} {xs : List Value} (h : w.ownsRow base e size v n xs) (hb : Bel M w.heap.size w w1) (hM : ∀ k, M k → k < base) : w1.ownsRow base e size v n xs := by
  refine ⟨h.1, h.2.imp id ?_⟩
  rintro ⟨g, cap, cur, h1, h2, h3, h4⟩
  exact ⟨g, cap, cur, h1, h2, (hb.block g (Array.getElem?_eq_some_iff.1 h3).1 fun e => by have := hM g e; omega).trans h3, h4⟩

/-- the machine's block's name in the plan of the text 3 -/
def nMach : Pth := nm 298
/-- the machine, whatever its last run has left -/
def mach0 : List V := [.int .i64 2, .nilsl, .sl (nm 297) 0 2 2 8, .int .i64 0, .int .i64 0, .int .i64 0, .int .i64 0, .bool false, .int .i64 1, .bool false, .nilsl, .nilsl, .nilsl, .int .i64 0, .unk, .unk, .unk, .unk, .unk]
/-- the machine as New leaves it -/
def mach1 : List V := [.int .i64 2, .nilsl, .sl (nm 297) 0 2 2 8, .int .i64 0, .int .i64 0, .int .i64 0, .int .i64 0, .bool false, .int .i64 1, .bool false, .nilsl, .nilsl, .nilsl, .int .i64 0, .int .i64 0, .int .i64 0, .int .i64 0, .bool false, .bool false]
noncomputable def ro3 : List (Pth × List V) := plan3.filter fun e => !(e.1.beq nMach)
/-- a plan's blocks, whatever runs have left -/
noncomputable def planU (k : Nat) : List (Pth × List V) := match k with | 3 => (nMach, mach0) :: ro3 | k => plan k
theorem planU_ne {k : Nat} (h : k ≠ 3) : planU k = plan k := by
  unfold planU
  split
  · exact absurd rfl h
  · rfl
/-- the plan of the text k lies in blocks from lo on and ahead of hi; mb is its machine's, if it has one -/
def Laid1 (k lo hi : Nat) (w : World) (b mb : Nat) : Prop :=
  ∃ ι : Emb, RoIs ι (planU k) w ∧ ι (root k) = some (b, 0) ∧ (∀ e ∈ planU k, ∀ c s, ι e.1 = some (c, s) → lo ≤ c ∧ c < hi ∧ (c = mb ↔ k = 3 ∧ e.1 = nMach)) ∧
    (k = 3 → ι nMach = some (mb, 0) ∧ ∃ c el fr, w.heap[mb]? = some (.cells c el fr) ∧ (fr.1 = fr.2 ∨ c.size ≤ fr.1) ∧ ι.size mb = c.size)
theorem rels_unk {ι : Emb} : ∀ (n : Nat) (xs ys : List Value), V.rels ι (List.replicate n .unk) xs → ys.length = xs.length → V.rels ι (List.replicate n .unk) ys
  | 0, xs, ys, h, hl => by
    rw [show xs = [] from rels_nil_inv h] at hl
    rw [List.length_eq_zero_iff.1 hl]; exact rels_nil
  | n + 1, xs, ys, h, hl => by
    obtain ⟨x, t, rfl, hx, ht⟩ := rels_cons_inv h
    cases ys with
    | nil => simp at hl
    | cons y u => exact rels_cons trivial (rels_unk n t u ht (by simpa using hl))
theorem rels_swap {ι : Emb} : ∀ (A : List V) (n : Nat) (xs ys : List Value), V.rels ι (A ++ List.replicate n .unk) xs → ys.length = xs.length → (∀ i, i < A.length → ys[i]? = xs[i]?) → V.rels ι (A ++ List.replicate n .unk) ys
  | [], n, xs, ys, h, hl, _ => rels_unk n xs ys h hl
  | a :: A, n, xs, ys, h, hl, he => by
    obtain ⟨x, t, rfl, hx, ht⟩ := rels_cons_inv h
    cases ys with
    | nil => simp at hl
    | cons y u =>
      have h0 : y = x := by simpa using he 0 (by simp)
      subst h0
      exact rels_cons hx (rels_swap A n t u ht (by simpa using hl) fun i hi => by simpa using he (i + 1) (by simp; omega))
theorem Laid1.bel {M : Nat → Prop} {B k lo hi b mb : Nat} {w w' : World} (h : Laid1 k lo hi w b mb) (hb : Bel M B w w') (hB : hi ≤ B) (hM : ∀ c, lo ≤ c → c < hi → M c → k = 3 ∧ c = mb) : Laid1 k lo hi w' b mb := by
  obtain ⟨ι, h1, h2, h3, h4⟩ := h
  refine ⟨ι, fun e he => ?_, h2, h3, fun hk => ?_⟩
  · obtain ⟨c, s, cs, el, fr, e1, e2, e3⟩ := h1 e he
    obtain ⟨l1, l2, l3⟩ := h3 e he c s e1
    by_cases hm : M c
    · obtain ⟨rfl, rfl⟩ := hM c l1 l2 hm
      have hn : e.1 = nMach := (l3.1 rfl).2
      have hcs : e.2 = mach0 := by
        rcases List.mem_cons.1 (show e ∈ (nMach, mach0) :: ro3 from he) with rfl | he'
        · rfl
        · have := (List.mem_filter.1 he').2
          rw [hn, (Pth.beq_iff nMach nMach).2 rfl] at this
          cases this
      rcases hb.mach c (by omega) hm with e4 | ⟨x, x', t, t', gr, gr', k1, k2, k3, k4, k5⟩
      · exact ⟨c, s, cs, el, fr, e1, e4.trans e2, e3⟩
      · rw [e2] at k1
        cases k1
        obtain ⟨e5, cs', el', fr', e7, e8, e9⟩ := h4 rfl
        rw [e2] at e7
        cases e7
        have hs0 : s = 0 := by rw [hn, e5] at e1; cases e1; rfl
        subst hs0
        refine ⟨c, 0, x', t', gr', e1, k2, ?_⟩
        rw [hcs] at e3 ⊢
        refine rels_swap (mach0.take 14) 5 _ _ e3 (by simp [k4]) fun i hi => ?_
        have hi' : i < 14 := by simpa [mach0] using hi
        have hm19 : mach0.length = 19 := rfl
        rw [List.drop_zero, List.drop_zero, List.getElem?_take, List.getElem?_take, hm19, if_pos (by omega), if_pos (by omega), Array.getElem?_toList, Array.getElem?_toList, k5 i hi']
    · exact ⟨c, s, cs, el, fr, e1, (hb.block c (by omega) hm).trans e2, e3⟩
  · obtain ⟨e5, cs, el, fr, e7, e8, e9⟩ := h4 hk
    refine ⟨e5, ?_⟩
    subst hk
    obtain ⟨l1, l2, _⟩ := h3 (nMach, mach0) (List.mem_cons_self ..) mb 0 e5
    by_cases hm : M mb
    · rcases hb.mach mb (by omega) hm with e4 | ⟨x, x', t, t', gr, gr', k1, k2, k3, k4, k5⟩
      · exact ⟨cs, el, fr, e4.trans e7, e8, e9⟩
      · rw [e7] at k1
        cases k1
        exact ⟨x', t', gr', k2, k3, e9.trans k4.symm⟩
    · exact ⟨cs, el, fr, (hb.block mb (by omega) hm).trans e7, e8, e9⟩
theorem Laid1.same {k lo hi b mb : Nat} {w w' : World} (h : Laid1 k lo hi w b mb) (hs : ∀ c, lo ≤ c → c < hi → w'.heap[c]? = w.heap[c]?) : Laid1 k lo hi w' b mb := by
  obtain ⟨ι, h1, h2, h3, h4⟩ := h
  refine ⟨ι, h1.same fun e he c s hc => hs c (h3 e he c s hc).1 (h3 e he c s hc).2.1, h2, h3, fun hk => ?_⟩
  obtain ⟨e5, cs, el, fr, e7, e8, e9⟩ := h4 hk
  subst hk
  obtain ⟨l1, l2, _⟩ := h3 (nMach, mach0) (List.mem_cons_self ..) mb 0 e5
  exact ⟨e5, cs, el, fr, (hs mb l1 l2).trans e7, e8, e9⟩
theorem Laid1.mb {lo hi b mb : Nat} {w : World} (h : Laid1 3 lo hi w b mb) : lo ≤ mb ∧ mb < hi := by
  obtain ⟨ι, h1, h2, h3, h4⟩ := h
  obtain ⟨e5, _⟩ := h4 rfl
  obtain ⟨l1, l2, _⟩ := h3 (nMach, mach0) (List.mem_cons_self ..) mb 0 e5
  exact ⟨l1, l2⟩
theorem Laid1.laid {k lo hi b mb : Nat} {w : World} (h : Laid1 k lo hi w b mb) (hk : k ≠ 3) : Laid (plan k) (root k) lo hi w b := by
  obtain ⟨ι, h1, h2, h3, _⟩ := h
  rw [planU_ne hk] at h1 h3
  exact ⟨ι, h1, h2, fun e he c s hc => ⟨(h3 e he c s hc).1, (h3 e he c s hc).2.1⟩⟩
/-- the plan of the text k, its machine being one of M -/
def LaidM (M : Nat → Prop) (k lo hi : Nat) (w : World) (b : Nat) : Prop := ∃ lo' hi' mb, lo ≤ lo' ∧ hi' ≤ hi ∧ Laid1 k lo' hi' w b mb ∧ ∀ c, lo' ≤ c → c < hi' → (M c ↔ k = 3 ∧ c = mb)
theorem LaidM.bel {M : Nat → Prop} {B k lo hi b : Nat} {w w' : World} (h : LaidM M k lo hi w b) (hb : Bel M B w w') (hB : hi ≤ B) : LaidM M k lo hi w' b := by
  obtain ⟨lo', hi', mb, h1, h2, h3, h4⟩ := h
  exact ⟨lo', hi', mb, h1, h2, h3.bel hb (by omega) fun c c1 c2 hm => (h4 c c1 c2).1 hm, h4⟩
theorem LaidM.wide {M : Nat → Prop} {k lo hi lo' hi' b : Nat} {w : World} (h : LaidM M k lo hi w b) (h1 : lo' ≤ lo) (h2 : hi ≤ hi') : LaidM M k lo' hi' w b := by
  obtain ⟨l, u, mb, k1, k2, k3⟩ := h
  exact ⟨l, u, mb, by omega, by omega, k3⟩
end Go.Proofs.YtopicmcaoeameaaGreatDoor
namespace Go.Proofs.YtopicmcaoeameaaGreatDoor
open Go Go.Ev Go.RowKit

/-- but for block cb all that was there is as it was -/
structure But (cb : Nat) (w w' : World) : Prop where
  os : w'.os = w.os
  tape : w'.tape = w.tape
  output : w'.output = w.output
  size : w.heap.size ≤ w'.heap.size
  block : ∀ k, k < w.heap.size → k ≠ cb → w'.heap[k]? = w.heap[k]?
theorem But.of {cb : Nat} {w w' : World} (h : Below w.heap.size w w') : But cb w w' := ⟨h.os, h.tape, h.output, h.size, fun k hk _ => h.block k hk⟩
theorem But.set {cb : Nat} {w w' : World} (h : But cb w w') (o : Nat) (v : Value) : But cb w (w'.setCell ⟨cb, o, none⟩ v) :=
  ⟨h.os, h.tape, h.output, by simp [World.setCell]; exact h.size, fun k hk hne => (Below.heap_setCell _ _ _ _ hne).trans (h.block k hk hne)⟩
theorem But.drew {cb : Nat} {w w' : World} (h : But cb w w') : But cb w w'.drew := ⟨h.os, h.tape, h.output, h.size, h.block⟩
/-- a rule: its name, its text (and which of the list that is) -/
structure Rl where
  name : ByteArray
  text : ByteArray
  k : Nat
/-- a rule's cells in []Rule -/
def Rl.cells (r : Rl) : List Value := [.string r.name, .string r.text, .bool false]
/-- block b is a set of the rules rs; its blocks lie from lo on and ahead of hi -/
structure SetAt (M : Nat → Prop) (lo hi : Nat) (w : World) (b : Nat) (rs : List Rl) : Prop where
  set : ∃ v : Value, w.cell? ⟨b, 0, none⟩ = some v ∧ lo ≤ b ∧ b < hi ∧ ¬ M b ∧
    ((rs = [] ∧ v = .slice none 0 0) ∨ ∃ ab cap, v = .slice (some ⟨ab, 0, none⟩) rs.length cap ∧ lo ≤ ab ∧ ab < hi ∧ ¬ M ab ∧
      ∀ (i : Nat) (r : Rl), rs[i]? = some r → ∃ pb, w.cell? ⟨ab, i * 4, none⟩ = some (.string r.name) ∧ w.cell? ⟨ab, i * 4 + 1, none⟩ = some (.string r.text) ∧ w.cell? ⟨ab, i * 4 + 2, none⟩ = some (.bool false) ∧
        w.cell? ⟨ab, i * 4 + 3, none⟩ = some (.pointer (some ⟨pb, 0, none⟩)) ∧ LaidM M r.k lo hi w pb)
/-- a new block's cells -/
theorem new_cells (w : World) (cs : Array Value) (t : TypeId) {a : Addr} {news : List Value} (hn : cs.toList = news) (ha : a = ⟨w.heap.size, 0, none⟩) {j : Nat} {u : Value} (hj : news[j]? = some u) : (w.alloc (.cells cs t)).cell? (a.add j) = some u := by
  subst hn; subst ha
  have e : (⟨w.heap.size, 0, none⟩ : Addr).add j = ⟨w.heap.size, j, none⟩ := by
    unfold Addr.add
    cases j <;> simp
  rw [e, World.cell?_alloc_new, ← Array.getElem?_toList]
  exact hj
theorem info62 : (Tryz.prog.info? 62).map (fun i => (i.zero, i.size, i.bytes)) = some (some (.agg #[.string ByteArray.empty, .string ByteArray.empty, .bool false]), 3, 40) := by kernel_rfl
set_option maxRecDepth 1000000 in
theorem rules_walk {M : Nat → Prop} {lo hi b : Nat} {w : World} {rs : List Rl} (hs : SetAt M lo hi w b rs) (hhi : hi ≤ w.heap.size) (hn : rs.length ≤ 100) :
    Calls Tryz.prog 23 #[.pointer (some ⟨b, 0, none⟩)] w fun e w' => ∃ v, e = .returned v ∧ w'.ownsRow w.heap.size 62 3 v rs.length (rs.flatMap Rl.cells) ∧ Below w.heap.size w w' := by
  obtain ⟨v, hv, hb1, hb2, hbm, hrest⟩ := hs.set
  obtain ⟨i0, hinf, hz0, hz1, hz2⟩ := info_parts info62
  rcases hrest with ⟨rfl, rfl⟩ | ⟨ab, cap, rfl, ha1, ha2, ham, hc⟩
  · go_enter Tryz.func23, Tryz.ntmps23
    go_wp2
    refine wp_loop_rounds 1 ?_
    rw [rounds_succ]
    go_wp2
    go_ret
    exact ⟨_, rfl, World.ownsRow_nil _ _ _ _, Below.refl _ _⟩
  · go_enter Tryz.func23, Tryz.ntmps23
    go_wp2
    go_loopw [3, 11] (fun v i wr => ∃ k : Nat, k ≤ rs.length ∧ i = .int .i64 k ∧ wr.ownsRow w.heap.size 62 3 v k ((rs.take k).flatMap Rl.cells) ∧ Below w.heap.size w wr) (fun _ i _ => rs.length - (intOf i).toNat)
    case atStart => exact ⟨0, Nat.zero_le _, rfl, World.ownsRow_nil _ _ _ _, Below.refl _ _⟩
    case round =>
      obtain ⟨k, hk, rfl, hown, hbel⟩ := hrel
      by_cases hkl : k < rs.length
      · obtain ⟨pb, c0, c1, c2, c3, _⟩ := hc k rs[k] (List.getElem?_eq_getElem hkl)
        have hab : ab < w.heap.size := by omega
        have c0' := (hbel.cell (p := ⟨ab, k * 4, none⟩) hab).trans c0
        have c1' := (hbel.cell (p := ⟨ab, k * 4 + 1, none⟩) hab).trans c1
        have c2' := (hbel.cell (p := ⟨ab, k * 4 + 2, none⟩) hab).trans c2
        have c3' := (hbel.cell (p := ⟨ab, k * 4 + 3, none⟩) hab).trans c3
        go_wp2_with (first
          | (at_builtin; refine wpList_append_own _ rfl _ _ 60 rfl w.heap.size 62 i0 _ 3 40 Tryz.underlying60 hinf hz0 hz1 hz2 rfl (by decide) _ _ _ rfl ((hown.alloc _).alloc _) ⟨wr.heap.size + 1, 0, none⟩ 1 1 [.string rs[k].name, .string rs[k].text, .bool false] rfl rfl ?c1 ?c2 ?c3 ?c4 ?c5 ?_)
          | go_in)
        case c1 =>
          intro j u hj
          exact new_cells (wr.alloc _) _ 62 rfl (by simp) hj
        case c2 => intro u hu; simp at hu; rcases hu with rfl | rfl | rfl <;> rfl
        case c3 => unfold maxLen; omega
        case c4 => omega
        case c5 => have := hbel.size; simp; omega
        · intro v' w1 hown' hgrow _
          go_wp2
          go_roundw
          case rel =>
            refine ⟨k + 1, hkl, by go_num, ?_, ?_⟩
            · rw [List.take_succ_eq_append_getElem hkl, List.flatMap_append]
              simpa [Rl.cells] using hown'
            · refine ((hbel.alloc hbel.size _).alloc (by simp; exact Nat.le_succ_of_le hbel.size) _).grown hgrow (by simp; have := hbel.size; omega) ?_
              intro g hg
              exact (World.ownsRow.lt hown g hg).1
          case measure => simp [intOf]; omega
      · have hke : k = rs.length := by omega
        subst hke
        go_wp2
        go_ret
        exact ⟨_, rfl, by simpa using hown, hbel⟩
end Go.Proofs.YtopicmcaoeameaaGreatDoor
namespace Go.Proofs.YtopicmcaoeameaaGreatDoor
open Go Go.Ev Go.RowKit

/-- what First gives -/
structure FR where
  s : Int
  e : Int
  ok : Bool
  err : Int
def pre {α : Type} (A : List α) : Except Int (List α) → Except Int (List α)
  | .error e => .error e
  | .ok l => .ok (A ++ l)
theorem pre_nil {α : Type} (x : Except Int (List α)) : pre [] x = x := by cases x <;> rfl
theorem pre_pre {α : Type} (A B : List α) (x : Except Int (List α)) : pre A (pre B x) = pre (A ++ B) x := by cases x <;> simp [pre]
/-- the matches of one rule from a position on -/
def ms (F : Nat → FR) (n from' : Nat) : Except Int (List (Int × Int)) :=
  if from' ≤ n then
    if (F from').err ≠ 0 then .error (F from').err
    else if (F from').ok = true then pre [((F from').s, (F from').e)] (ms F n (max (from' + 1) ((F from').s.toNat + 1))) else .ok []
  else .ok []
termination_by n + 1 - from'
def tag (i : Nat) (p : Int × Int) : Int × Int × Int := ((i : Int), p.1, p.2)
/-- the matches of the rules, the first one's number being i -/
def fnd (F : Nat → Nat → FR) (n : Nat) : Nat → List Rl → Except Int (List (Int × Int × Int))
  | _, [] => .ok []
  | i, r :: t => match ms (F r.k) n 0 with
    | .error e => .error e
    | .ok l => pre (l.map (tag i)) (fnd F n (i + 1) t)
def fcells (p : Int × Int × Int) : List Value := [.int .i64 p.1, .int .i64 p.2.1, .int .i64 p.2.2]
theorem owns_below {w w1 : World} {base : Nat} {e : TypeId} {size : Nat} {v : Value} {n : Nat} {xs : List Value} (h : w.ownsRow base e size v n xs) (hb : Below w.heap.size w w1) : w1.ownsRow base e size v n xs := by
  refine ⟨h.1, h.2.imp id ?_⟩
  rintro ⟨g, cap, cur, h1, h2, h3, h4⟩
  exact ⟨g, cap, cur, h1, h2, (hb.block g (Array.getElem?_eq_some_iff.1 h3).1).trans h3, h4⟩
theorem not_row {w : World} {base : Nat} {e : TypeId} {size : Nat} {v : Value} {n : Nat} {xs : List Value} (h : w.ownsRow base e size v n xs) {B : Nat} {cs : Array Value} {t : TypeId} {fr : Nat × Nat} (hB : w.heap[B]? = some (.cells cs t fr)) (ht : t ≠ e) : some B ≠ v.ownBlock := by
  rcases h.2 with ⟨rfl, _⟩ | ⟨g, cap, cur, rfl, _, h3, _⟩
  · intro h; cases h
  · intro hg
    cases hg
    rw [hB] at h3
    cases h3
    exact ht rfl
/-- a position that Found asks from: the first one, or the one behind a match's start -/
def Rch (G : Nat → FR) (f : Nat) : Prop := f = 0 ∨ ∃ g, (G g).ok = true ∧ (G g).s + 1 = f
/-- what First is known to do, in every later world -/
def FirstOf (M : Nat → Prop) (lo hi : Nat) (w : World) (t : Value) (n : Nat) (fuel : Int) (F : Nat → Nat → FR) (rs : List Rl) : Prop :=
  ∀ w1, Bel M w.heap.size w w1 → ∀ r ∈ rs, ∀ pb, LaidM M r.k lo hi w1 pb → ∀ from' : Nat, from' ≤ n → Rch (F r.k) from' → ((F r.k from').err = 0 → (F r.k from').ok = true → (from' : Int) ≤ (F r.k from').s ∧ (F r.k from').s ≤ n) ∧
    Calls Tryz.prog 30 #[.pointer (some ⟨pb, 0, none⟩), t, .int .i64 from', .int .i64 fuel] w1 fun e w2 =>
      ∃ ca cm cc, e = .returned (.tuple #[.agg #[.int .i64 (F r.k from').s, .int .i64 (F r.k from').e, .slice ca cm cc], .bool (F r.k from').ok, .int .i64 (F r.k from').err]) ∧ Bel M w1.heap.size w1 w2
theorem FirstOf.later {M : Nat → Prop} {lo hi : Nat} {w w1 : World} {t : Value} {n : Nat} {fuel : Int} {F : Nat → Nat → FR} {rs : List Rl} (h : FirstOf M lo hi w t n fuel F rs) (hb : Bel M w.heap.size w w1) : FirstOf M lo hi w1 t n fuel F rs :=
  fun w2 hw2 => h w2 (hb.trans (hw2.mono hb.size))
theorem info88 : (Tryz.prog.info? 88).map (fun i => (i.zero, i.size, i.bytes)) = some (some (.agg #[.int .i64 0, .int .i64 0, .int .i64 0]), 3, 24) := by kernel_rfl
theorem fnd_next {F : Nat → Nat → FR} {n k : Nat} {rs : List Rl} {D : List (Int × Int × Int)} {A : List (Int × Int)} {X : Except Int (List (Int × Int × Int))} (hkl : k < rs.length) (h : X = pre D (fnd F n k (rs.drop k)))
    (hm : ms (F rs[k].k) n 0 = .ok A) : X = pre (D ++ A.map (tag k)) (fnd F n (k + 1) (rs.drop (k + 1))) := by
  rw [h, List.drop_eq_getElem_cons hkl]
  show pre D (match ms (F rs[k].k) n 0 with | .error e => .error e | .ok l => pre (l.map (tag k)) (fnd F n (k + 1) (rs.drop (k + 1)))) = _
  rw [hm]
  exact pre_pre _ _ _
theorem ms_end {F : Nat → FR} {n f : Nat} {A : List (Int × Int)} (h : ms F n 0 = pre A (ms F n f)) (hf : ¬ f ≤ n) : ms F n 0 = .ok A := by
  rw [h, ms, if_neg hf]; simp [pre]
theorem ms_stop {F : Nat → FR} {n f : Nat} {A : List (Int × Int)} (h : ms F n 0 = pre A (ms F n f)) (hf : f ≤ n) (h1 : (F f).err = 0) (h2 : (F f).ok = false) : ms F n 0 = .ok A := by
  rw [h, ms, if_pos hf, if_neg (by simp [h1]), if_neg (by simp [h2])]; simp [pre]
theorem ms_more {F : Nat → FR} {n f m : Nat} {e : Int} {A : List (Int × Int)} (h : ms F n 0 = pre A (ms F n f)) (hf : f ≤ n) (h1 : F f = ⟨(m : Int), e, true, 0⟩) (hm : f ≤ m) : ms F n 0 = pre (A ++ [((m : Int), e)]) (ms F n (m + 1)) := by
  rw [h, ms, if_pos hf, if_neg (by simp [h1]), if_pos (by simp [h1]), pre_pre, h1]
  have : max (f + 1) ((m : Int).toNat + 1) = m + 1 := by simp; omega
  rw [this]
theorem ms_fail {F : Nat → FR} {n f : Nat} {A : List (Int × Int)} (h : ms F n 0 = pre A (ms F n f)) (hf : f ≤ n) (h1 : (F f).err ≠ 0) : ms F n 0 = .error (F f).err := by
  rw [h, ms, if_pos hf, if_pos h1]; rfl
/-- what Found leaves: an error, or the matches in new memory -/
def foundPost (w w' : World) (e : Ending) : Except Int (List (Int × Int × Int)) → Prop
  | .error er => e = .returned (.tuple #[.slice none 0 0, .int .i64 er])
  | .ok l => ∃ v, e = .returned (.tuple #[v, .int .i64 0]) ∧ w'.ownsRow w.heap.size 88 3 v l.length (l.flatMap fcells)
set_option maxRecDepth 1000000 in
theorem found_walk {M : Nat → Prop} {lo hi b : Nat} {w : World} {rs : List Rl} (hMw : ∀ k, M k → k < w.heap.size) (hs : SetAt M lo hi w b rs) (hhi : hi ≤ w.heap.size) (hn : rs.length ≤ 100) {ta : Option Addr} {n tc : Nat} (hn2 : n ≤ 1000) {fuel : Int} {F : Nat → Nat → FR}
    (hF : FirstOf M lo hi w (.slice ta n tc) n fuel F rs) :
    Calls Tryz.prog 16 #[.pointer (some ⟨b, 0, none⟩), .slice ta n tc, .int .i64 fuel] w fun e w' => Bel M w.heap.size w w' ∧ foundPost w w' e (fnd F n 0 rs) := by
  obtain ⟨X, hX⟩ : ∃ X, fnd F n 0 rs = X := ⟨_, rfl⟩
  rw [hX]
  have hX' : Hid (fnd F n 0 rs = X) := hX
  clear hX
  obtain ⟨v, hv, hb1, hb2, hbm, hrest⟩ := hs.set
  obtain ⟨i0, hinf, hz0, hz1, hz2⟩ := info_parts info88
  rcases hrest with ⟨rfl, rfl⟩ | ⟨ab, cap, rfl, ha1, ha2, ham, hc⟩
  · go_enter Tryz.func16, Tryz.ntmps16
    go_wp2
    refine wp_loop_rounds 1 ?_
    rw [rounds_succ]
    go_wp2
    go_ret2
    have hx : X = .ok [] := hX'.out.symm.trans rfl
    rw [hx]
    exact ⟨Bel.refl _ _ _, _, rfl, World.ownsRow_nil _ _ _ _⟩
  · go_enter Tryz.func16, Tryz.ntmps16
    go_wp2
    go_loopw [8, 20] (fun v i wr => ∃ (k : Nat) (D : List (Int × Int × Int)), k ≤ rs.length ∧ i = .int .i64 k ∧ wr.ownsRow w.heap.size 88 3 v D.length (D.flatMap fcells) ∧ Bel M w.heap.size w wr ∧ D.length ≤ k * (n + 1) ∧ Hid (X = pre D (fnd F n k (rs.drop k)))) (fun _ i _ => rs.length - (intOf i).toNat)
    case atStart => exact ⟨0, [], Nat.zero_le _, rfl, World.ownsRow_nil _ _ _ _, Bel.refl _ _ _, by simp, by rw [pre_nil]; exact hX'.out.symm⟩
    case round =>
      obtain ⟨k, D, hk, rfl, hown, hbel, hD, hfnd⟩ := hrel
      rename World => wo
      by_cases hkl : k < rs.length
      · obtain ⟨pb, c0, c1, c2, c3, hlaid⟩ := hc k rs[k] (List.getElem?_eq_getElem hkl)
        have hab : ab < w.heap.size := by omega
        have c0' := (hbel.cell (p := ⟨ab, k * 4, none⟩) hab ham).trans c0
        have c1' := (hbel.cell (p := ⟨ab, k * 4 + 1, none⟩) hab ham).trans c1
        have c2' := (hbel.cell (p := ⟨ab, k * 4 + 2, none⟩) hab ham).trans c2
        have c3' := (hbel.cell (p := ⟨ab, k * 4 + 3, none⟩) hab ham).trans c3
        go_wp2_with fail
        go_loopw [8, 11] (fun v i wi => ∃ (f : Nat) (A : List (Int × Int)), f ≤ n + 1 ∧ i = .int .i64 f ∧ wi.ownsRow w.heap.size 88 3 v (D.length + A.length) ((D ++ A.map (tag k)).flatMap fcells) ∧ Bel M w.heap.size w wi ∧
          wi.heap[wo.heap.size]? = some (.cells #[.string rs[k].name, .string rs[k].text, .bool false, .pointer (some ⟨pb, 0, none⟩)] 81 (0, 0)) ∧ A.length ≤ f ∧ Hid (ms (F rs[k].k) n 0 = pre A (ms (F rs[k].k) n f)) ∧ Hid (Rch (F rs[k].k) f)) (fun _ i _ => n + 1 - (intOf i).toNat)
        case atStart => exact ⟨0, [], by omega, rfl, by simpa using hown.alloc _, hbel.alloc hbel.size _, heap_alloc_new _ _, by simp, by rw [pre_nil]; rfl, .inl rfl⟩
        case round =>
          obtain ⟨f, A, hfn, rfl, hown', hbel', hblk, hA, hms, hrch⟩ := hrel
          have q3 : wr.cell? ⟨wo.heap.size, 3, none⟩ = some (.pointer (some ⟨pb, 0, none⟩)) := by simp [World.cell?, hblk]
          by_cases hfl : f ≤ n
          · have hr := hF wr hbel' rs[k] (List.getElem_mem hkl) pb (hlaid.bel hbel' hhi) f hfl hrch.out
            obtain ⟨R, hR⟩ : ∃ R, F rs[k].k f = R := ⟨_, rfl⟩
            rw [hR] at hr
            obtain ⟨hbd, hcall⟩ := hr
            obtain ⟨s, e, ok, er⟩ := R
            simp only at hbd hcall
            by_cases her : er = 0
            · subst her
              cases ok with
              | false =>
                have hm2 : Hid (ms (F rs[k].k) n 0 = .ok A) := ms_stop hms.out hfl (by rw [hR]) (by rw [hR])
                clear hR hbd
                go_wp2_with (first | (go_at_call 30; refine hcall.mono ?_; rintro _ w1 ⟨ca, cm, cc, rfl, hb1⟩) | go_in)
                go_roundw
                case rel =>
                  refine ⟨k + 1, D ++ A.map (tag k), hkl, by go_num, by simpa using (owns_bel hown' hb1 hMw).alloc _, hbel'.trans ((hb1.mono hbel'.size).alloc (Nat.le_trans hbel'.size hb1.size) _), ?_, fnd_next hkl hfnd.out hm2.out⟩
                  simp only [List.length_append, List.length_map, Nat.succ_mul, Nat.add_mul] at *
                  omega
                case measure => simp [intOf]; omega
              | true =>
                obtain ⟨m, rfl⟩ : ∃ m : Nat, s = m := Int.eq_ofNat_of_zero_le (by have := (hbd rfl rfl).1; omega)
                have hm1 : f ≤ m := by have := (hbd rfl rfl).1; omega
                have hm3 : m ≤ n := by have := (hbd rfl rfl).2; omega
                have hm2 : Hid (ms (F rs[k].k) n 0 = pre (A ++ [((m : Int), e)]) (ms (F rs[k].k) n (m + 1))) := ms_more hms.out hfl hR hm1
                have hrch2 : Hid (Rch (F rs[k].k) (m + 1)) := .inr ⟨f, by rw [hR], by rw [hR]; push_cast; rfl⟩
                clear hR hbd
                have hDA : D.length + A.length ≤ 102 * 1001 := by
                  have : k * (n + 1) ≤ 100 * 1001 := Nat.mul_le_mul (by omega) (by omega)
                  omega
                go_wp2_with (first
                  | (go_at_call 30; refine hcall.mono ?_; rintro _ w1 ⟨ca, cm, cc, rfl, hb1⟩)
                  | (at_builtin; refine wpList_append_own _ rfl _ _ 43 rfl w.heap.size 88 i0 _ 3 24 Tryz.underlying43 hinf hz0 hz1 hz2 rfl (by decide) _ _ _ rfl (((owns_bel hown' hb1 hMw).alloc _).alloc _) ⟨w1.heap.size + 1, 0, none⟩ 1 1 [.int .i64 k, .int .i64 m, .int .i64 e] rfl rfl ?c1 ?c2 ?c3 ?c4 ?c5 ?_)
                  | go_in)
                case c1 =>
                  intro j u hj
                  exact new_cells (w1.alloc _) _ 88 rfl (by simp) hj
                case c2 => intro u hu; simp at hu; rcases hu with rfl | rfl | rfl <;> rfl
                case c3 => unfold maxLen; omega
                case c4 => omega
                case c5 => have := hbel'.size; have := hb1.size; simp; omega
                · intro v' w2 hown2 hgrow _
                  have hlt8 := World.ownsRow.lt hown'
                  have hsz1 := hb1.size
                  have hM : w2.heap[w1.heap.size]? = some (.cells #[.int .i64 m, .int .i64 e, .slice ca cm cc] 84 (0, 0)) :=
                    (hgrow.block _ (by simp; omega) (fun e' => by have := (hlt8 _ e'.symm).2; omega)).trans ((heap_alloc_old _ _ (by simp)).trans (heap_alloc_new _ _))
                  have hwo : wo.heap.size < wr.heap.size := (Array.getElem?_eq_some_iff.1 hblk).1
                  have hblk2 : w2.heap[wo.heap.size]? = some (.cells #[.string rs[k].name, .string rs[k].text, .bool false, .pointer (some ⟨pb, 0, none⟩)] 81 (0, 0)) :=
                    (hgrow.block _ (by simp; omega) (not_row hown' hblk (by decide))).trans ((heap_alloc_old _ _ (by simp; omega)).trans ((heap_alloc_old _ _ (by omega)).trans ((hb1.block _ hwo (fun e => by have := hMw _ e; have := hbel.size; omega)).trans hblk)))
                  have q4 : w2.cell? ⟨w1.heap.size, 0, none⟩ = some (.int .i64 m) := by simp [World.cell?, hM]
                  have hbel2 : Bel M w.heap.size w w2 :=
                    ((((hbel'.trans (hb1.mono hbel'.size)).alloc (Nat.le_trans hbel'.size hb1.size) _).alloc (by simp; exact Nat.le_succ_of_le (Nat.le_trans hbel'.size hb1.size)) _)).grown hgrow (by simp; have := hbel'.size; omega) (fun g hg => (hlt8 g hg).1)
                  have e1 : D.length + (A ++ [((m : Int), e)]).length = D.length + A.length + 1 := by simp; omega
                  have e2 : (D ++ (A ++ [((m : Int), e)]).map (tag k)).flatMap fcells = D.flatMap fcells ++ ((A.map (tag k)).flatMap fcells ++ [.int .i64 k, .int .i64 m, .int .i64 e]) := by simp [tag, fcells]
                  rw [← e1, ← e2] at hown2
                  clear hgrow hM e1 e2 hown' hlt8
                  go_wp2
                  go_roundw
                  case rel => exact ⟨m + 1, A ++ [((m : Int), e)], by omega, by go_num, hown2, hbel2, hblk2, by simp; omega, hm2, hrch2⟩
                  case measure => simp [intOf]; omega
            · have hm2 : Hid (ms (F rs[k].k) n 0 = .error er) := by have := ms_fail hms.out hfl (by rw [hR]; exact her); rw [hR] at this; exact this
              clear hR hbd
              go_wp2_with (first | (go_at_call 30; refine hcall.mono ?_; rintro _ w1 ⟨ca, cm, cc, rfl, hb1⟩) | go_in)
              go_ret2
              have hx : X = .error er := by
                rw [hfnd.out, List.drop_eq_getElem_cons hkl]
                show pre D (match ms (F rs[k].k) n 0 with | .error e => .error e | .ok l => pre (l.map (tag k)) (fnd F n (k + 1) (rs.drop (k + 1)))) = _
                rw [hm2.out]
                rfl
              rw [hx]
              exact ⟨hbel'.trans ((hb1.mono hbel'.size).alloc (Nat.le_trans hbel'.size hb1.size) _), rfl⟩
          · have hm2 : Hid (ms (F rs[k].k) n 0 = .ok A) := ms_end hms.out hfl
            go_wp2_with fail
            go_roundw
            case rel =>
              refine ⟨k + 1, D ++ A.map (tag k), hkl, by go_num, by simpa using hown', hbel', ?_, fnd_next hkl hfnd.out hm2.out⟩
              simp only [List.length_append, List.length_map, Nat.succ_mul, Nat.add_mul] at *
              omega
            case measure => simp [intOf]; omega
      · have hke : k = rs.length := by omega
        subst hke
        go_wp2
        go_ret2
        have hx : X = .ok D := by rw [hfnd.out]; simp [fnd, pre]
        rw [hx]
        exact ⟨hbel, _, rfl, hown⟩
end Go.Proofs.YtopicmcaoeameaaGreatDoor
namespace Go.Smap
open Go Go.Maps Go.RowKit Go.WideMaps

/-- block B is a map of at most n entries, keyed by strings, that holds what f says -/
def IsMap (w : World) (B n : Nat) (f : ByteArray → Option Value) : Prop :=
  ∃ ms cl, w.heap[B]? = some (.map ms cl) ∧ ms.size ≤ n ∧ (∀ x ∈ ms.toList, x.born < cl) ∧ (ms.toList.map (·.born)).Nodup ∧ (ms.toList.map (·.key)).Nodup ∧
    (∀ x ∈ ms.toList, ∃ s : ByteArray, s.size ≤ maxLen ∧ x.key = .string s ∧ f s = some x.val) ∧ ∀ s v, f s = some v → ∃ x ∈ ms.toList, x.key = .string s
theorem IsMap.same {w w' : World} {B n : Nat} {f : ByteArray → Option Value} (h : IsMap w B n f) (hb : w'.heap[B]? = w.heap[B]?) : IsMap w' B n f := by
  obtain ⟨ms, cl, h0, h1⟩ := h
  exact ⟨ms, cl, hb.trans h0, h1⟩
theorem IsMap.lt {w : World} {B n : Nat} {f : ByteArray → Option Value} (h : IsMap w B n f) : B < w.heap.size := by
  obtain ⟨ms, cl, h0, _⟩ := h
  exact (Array.getElem?_eq_some_iff.1 h0).1
theorem IsMap.alloc {w : World} {B n : Nat} {f : ByteArray → Option Value} (h : IsMap w B n f) (o : Obj) : IsMap (w.alloc o) B n f := h.same (Below.heap_alloc _ _ _ h.lt)
theorem isMap_made (w : World) : IsMap (w.alloc (.map #[] 0)) w.heap.size 0 fun _ => none :=
  ⟨#[], 0, heap_alloc_new _ _, by simp, by simp, by simp, by simp, by simp, by simp⟩
section
variable {P : Program} {t k e : TypeId} {w : World} {B n : Nat} {f : ByteArray → Option Value}
theorem IsMap.keys (hk : P.underlying k = some .string) {ms : Array MapEntry} (h : ∀ x ∈ ms.toList, ∃ s : ByteArray, s.size ≤ maxLen ∧ x.key = .string s ∧ f s = some x.val) : ∀ x ∈ ms.toList, ∃ l, keyOf P k x.key = some l := fun x hx => by
  obtain ⟨s, hs, hkey, _⟩ := h x hx
  exact ⟨_, by rw [hkey]; exact keyOf_string_mk hk hs⟩
theorem IsMap.lookup (h : IsMap w B n f) (ht : P.underlying t = some (.map k e)) (hk : P.underlying k = some .string) {z : Value} (hz : (zeroValue e).run P w = .ok z w) {s : ByteArray} (hs : s.size ≤ maxLen) :
    (Instr.lookup t (.map (some B)) (.string s) false).run P w = .ok ((f s).getD z) w := by
  obtain ⟨ms, cl, hb, _, _, _, hnd, h1, h2⟩ := h
  have K := string_keyed hk
  have hkey := keyOf_string_mk hk hs
  rcases K.find w hkey ms.toList (IsMap.keys hk h1) with ⟨hf, hn⟩ | ⟨j, e0, hf, hj, he⟩
  · have : f s = none := by
      cases hfs : f s with
      | none => rfl
      | some v => obtain ⟨x, hx, hxk⟩ := h2 s v hfs; exact absurd hxk (hn x hx)
    rw [this]
    simp [Instr.lookup, run_underlying ht, MapKept.run_getObj_map hb, K.check w _ hkey, hf, hz, Result.andThen]
  · obtain ⟨s', _, hk', hv⟩ := h1 e0 (List.mem_of_getElem? hj)
    rw [he] at hk'
    cases hk'
    rw [hv]
    simp [Instr.lookup, run_underlying ht, MapKept.run_getObj_map hb, K.check w _ hkey, hf, Result.andThen]
theorem IsMap.update (h : IsMap w B n f) (hn : n < maxLen) (ht : P.underlying t = some (.map k e)) (hk : P.underlying k = some .string) {s : ByteArray} (hs : s.size ≤ maxLen) (v : Value) :
    ∃ o, (Instr.mapUpdate t (.map (some B)) (.string s) v).run P w = .ok () (ChangeMaps.setBlock w B o) ∧ IsMap (ChangeMaps.setBlock w B o) B (n + 1) fun u => if u = s then some v else f u := by
  obtain ⟨ms, cl, hb, hsz, hb1, hb2, hnd, h1, h2⟩ := h
  have K := string_keyed hk
  have hkey := keyOf_string_mk hk hs
  have hlt : B < w.heap.size := (Array.getElem?_eq_some_iff.1 hb).1
  have hnew : ∀ o, (ChangeMaps.setBlock w B o).heap[B]? = some o := fun o => by simp [ChangeMaps.setBlock, hlt]
  rcases K.find w hkey ms.toList (IsMap.keys hk h1) with ⟨hf, hno⟩ | ⟨j, e0, hf, hj, he⟩
  · refine ⟨.map (ms.push ⟨.string s, v, cl⟩) (cl + 1), ?_, ms.push ⟨.string s, v, cl⟩, cl + 1, hnew _, by simp; omega, ?_, ?_, ?_, ?_, ?_⟩
    · simp [Instr.mapUpdate, run_underlying ht, MapKept.run_getObj_map hb, K.check w false hkey, hf, MapKept.run_setObj_map _ hb, Result.andThen, ChangeMaps.setBlock]
    · intro x hx
      simp only [Array.toList_push, List.mem_append, List.mem_singleton] at hx
      rcases hx with hx | rfl
      · have := hb1 x hx; omega
      · simp
    · simp only [Array.toList_push, List.map_append, List.map_singleton]
      refine List.nodup_append.2 ⟨hb2, by simp, fun a ha b hb' => ?_⟩
      simp only [List.mem_singleton] at hb'
      subst hb'
      obtain ⟨x, hx, rfl⟩ := List.mem_map.1 ha
      have := hb1 x hx
      simp; omega
    · simp only [Array.toList_push, List.map_append, List.map_singleton]
      refine List.nodup_append.2 ⟨hnd, by simp, fun a ha b hb' => ?_⟩
      simp only [List.mem_singleton] at hb'
      subst hb'
      obtain ⟨x, hx, rfl⟩ := List.mem_map.1 ha
      exact hno x hx
    · intro x hx
      simp only [Array.toList_push, List.mem_append, List.mem_singleton] at hx
      rcases hx with hx | rfl
      · obtain ⟨u, hu, hxk, hv⟩ := h1 x hx
        refine ⟨u, hu, hxk, ?_⟩
        show (if u = s then some v else f u) = _
        rw [if_neg (fun e' => hno x hx (by rw [hxk, e']))]
        exact hv
      · exact ⟨s, hs, rfl, by simp⟩
    · intro u y hu
      simp only [Array.toList_push, List.mem_append, List.mem_singleton]
      by_cases e : u = s
      · subst e
        exact ⟨_, .inr rfl, rfl⟩
      · have hu' : (if u = s then some v else f u) = some y := hu
        rw [if_neg e] at hu'
        obtain ⟨x, hx, hxk⟩ := h2 u y hu'
        exact ⟨x, .inl hx, hxk⟩
  · have hj' : ms[j]? = some e0 := by simpa using hj
    have hlist : (ms.modify j (fun e' => { e' with key := .string s, val := v })).toList = ms.toList.set j { e0 with key := .string s, val := v } := by rw [Array.toList_modify, ChangeMaps.modify_eq_set _ _ _ _ hj]
    have hkj : (ms.toList.map (·.key))[j]? = some (.string s) := by rw [List.getElem?_map, hj]; simp [he]
    have hbj : (ms.toList.map (·.born))[j]? = some e0.born := by rw [List.getElem?_map, hj]; rfl
    have hself : ∀ {α : Type} (l : List α) (i : Nat) (a : α), l[i]? = some a → l.set i a = l := fun l i a h => by
      refine List.ext_getElem? fun m => ?_
      rw [List.getElem?_set]
      split
      · rename_i e1; subst e1; split
        · exact h.symm
        · rename_i h2; rw [List.getElem?_eq_none (by omega)] at h; cases h
      · rfl
    have hkeys : (ms.toList.set j { e0 with key := .string s, val := v }).map (·.key) = ms.toList.map (·.key) := by rw [List.map_set]; exact hself _ _ _ hkj
    have hborn : (ms.toList.set j { e0 with key := .string s, val := v }).map (·.born) = ms.toList.map (·.born) := by rw [List.map_set]; exact hself _ _ _ hbj
    have hjl : j < ms.toList.length := (List.getElem?_eq_some_iff.1 hj).1
    have who : ∀ x ∈ ms.toList.set j { e0 with key := .string s, val := v }, x = { e0 with key := .string s, val := v } ∨ (x ∈ ms.toList ∧ x.key ≠ .string s) := by
      intro x hx
      obtain ⟨i, hi, ex⟩ := List.getElem_of_mem hx
      rw [List.getElem_set] at ex
      split at ex
      · exact .inl ex.symm
      · rename_i hne
        have hi' : i < ms.toList.length := by simpa using hi
        refine .inr ⟨ex ▸ List.getElem_mem hi', fun e1 => hne ?_⟩
        have hl : (ms.toList.map (·.key))[i]? = some (.string s) := by rw [List.getElem?_map, List.getElem?_eq_getElem hi', ex]; simp [e1]
        have hij := (List.getElem?_inj (i := j) (j := i) (by simpa using hjl) hnd).1 (hkj.trans hl.symm)
        exact hij
    refine ⟨.map (ms.modify j (fun e' => { e' with key := .string s, val := v })) cl, ?_, ms.modify j (fun e' => { e' with key := .string s, val := v }), cl, hnew _, by simp; omega, ?_, by rw [hlist, hborn]; exact hb2, by rw [hlist, hkeys]; exact hnd, ?_, ?_⟩
    · simp [Instr.mapUpdate, run_underlying ht, MapKept.run_getObj_map hb, K.check w false hkey, hf, hj', he, K.stays w hkey, MapKept.run_setObj_map _ hb, Result.andThen, ChangeMaps.setBlock]
    · intro x hx
      rw [hlist] at hx
      rcases who x hx with rfl | ⟨hx', _⟩
      · exact hb1 e0 (List.mem_of_getElem? hj)
      · exact hb1 x hx'
    · intro x hx
      rw [hlist] at hx
      rcases who x hx with rfl | ⟨hx', hne⟩
      · exact ⟨s, hs, rfl, by simp⟩
      · obtain ⟨u, hu, hxk, hv⟩ := h1 x hx'
        exact ⟨u, hu, hxk, by show (if u = s then some v else f u) = _; rw [if_neg (fun e' => hne (by rw [hxk, e']))]; exact hv⟩
    · intro u y hu
      rw [hlist]
      have hex : ∃ x ∈ ms.toList, x.key = .string u := by
        by_cases e : u = s
        · subst e; exact ⟨e0, List.mem_of_getElem? hj, he⟩
        · have hu' : (if u = s then some v else f u) = some y := hu
          rw [if_neg e] at hu'; exact h2 u y hu'
      obtain ⟨x, hx, hxk⟩ := hex
      have : Value.string u ∈ (ms.toList.set j { e0 with key := .string s, val := v }).map (·.key) := by rw [hkeys]; exact List.mem_map.2 ⟨x, hx, hxk⟩
      obtain ⟨x', hx', hxk'⟩ := List.mem_map.1 this
      exact ⟨x', hx', hxk'⟩
end
end Go.Smap
namespace Go.Proofs.YtopicmcaoeameaaGreatDoor
open Go Go.Ev Go.RowKit Go.Smap

theorem ms_len (F : Nat → FR) (n : Nat) : ∀ (d f : Nat), n + 1 - f ≤ d → ∀ l, ms F n f = .ok l → l.length ≤ d
  | d, f, hd, l, h => by
    rw [ms] at h
    split at h
    · rename_i hf
      split at h
      · cases h
      · split at h
        · cases d with
          | zero => omega
          | succ d =>
            cases hm : ms F n (max (f + 1) ((F f).s.toNat + 1)) with
            | error e => rw [hm] at h; cases h
            | ok l' =>
              rw [hm] at h
              cases h
              have := ms_len F n d _ (by omega) l' hm
              simpa using this
        · cases h; simp
    · cases h; simp
theorem fnd_facts (F : Nat → Nat → FR) (n : Nat) : ∀ (rs : List Rl) (i : Nat) (D : List (Int × Int × Int)), fnd F n i rs = .ok D → D.length ≤ rs.length * (n + 1) ∧ ∀ p ∈ D, ∃ j : Nat, p.1 = ((i + j : Nat) : Int) ∧ j < rs.length
  | [], i, D, h => by cases h; simp
  | r :: t, i, D, h => by
    have h' : (match ms (F r.k) n 0 with | .error e => .error e | .ok l => pre (l.map (tag i)) (fnd F n (i + 1) t)) = Except.ok D := h
    cases hm : ms (F r.k) n 0 with
    | error e => rw [hm] at h'; cases h'
    | ok l =>
      rw [hm] at h'
      cases ht : fnd F n (i + 1) t with
      | error e => rw [ht] at h'; cases h'
      | ok D' =>
        rw [ht] at h'
        cases h'
        obtain ⟨h1, h2⟩ := fnd_facts F n t (i + 1) D' ht
        have h3 := ms_len (F r.k) n (n + 1) 0 (by omega) l hm
        refine ⟨by simp only [List.length_append, List.length_map, List.length_cons, Nat.succ_mul]; omega, fun p hp => ?_⟩
        rcases List.mem_append.1 hp with hp | hp
        · obtain ⟨q, _, rfl⟩ := List.mem_map.1 hp
          exact ⟨0, by simp [tag], by simp⟩
        · obtain ⟨j, hj, hjl⟩ := h2 p hp
          exact ⟨j + 1, by rw [hj]; congr 1; omega, by simp; omega⟩
theorem ms_err (F : Nat → FR) (n : Nat) : ∀ (d f : Nat), n + 1 - f ≤ d → ∀ er, ms F n f = .error er → er ≠ 0
  | d, f, hd, er, h => by
    rw [ms] at h
    split at h
    · rename_i hf
      split at h
      · rename_i h0; cases h; exact h0
      · split at h
        · cases d with
          | zero => omega
          | succ d =>
            cases hm : ms F n (max (f + 1) ((F f).s.toNat + 1)) with
            | error e =>
              rw [hm] at h; cases h
              exact ms_err F n d _ (by omega) _ hm
            | ok l' => rw [hm] at h; cases h
        · cases h
    · cases h
theorem fnd_err (F : Nat → Nat → FR) (n : Nat) : ∀ (rs : List Rl) (i : Nat) (er : Int), fnd F n i rs = .error er → er ≠ 0
  | [], i, er, h => by cases h
  | r :: t, i, er, h => by
    have h' : (match ms (F r.k) n 0 with | .error e => .error e | .ok l => pre (l.map (tag i)) (fnd F n (i + 1) t)) = Except.error er := h
    cases hm : ms (F r.k) n 0 with
    | error e => rw [hm] at h'; cases h'; exact ms_err _ n (n + 1) 0 (by omega) _ hm
    | ok l =>
      rw [hm] at h'
      cases ht : fnd F n (i + 1) t with
      | error e => rw [ht] at h'; cases h'; exact fnd_err F n t (i + 1) _ ht
      | ok D' => rw [ht] at h'; cases h'
theorem SetAt.bel {M : Nat → Prop} {B lo hi b : Nat} {w w' : World} {rs : List Rl} (h : SetAt M lo hi w b rs) (hb : Bel M B w w') (hB : hi ≤ B) : SetAt M lo hi w' b rs := by
  obtain ⟨v, hv, h1, h2, hm, h3⟩ := h.set
  refine ⟨v, (hb.cell (p := ⟨b, 0, none⟩) (by show b < B; omega) hm).trans hv, h1, h2, hm, h3.imp id ?_⟩
  rintro ⟨ab, cap, rfl, a1, a2, am, hc⟩
  refine ⟨ab, cap, rfl, a1, a2, am, fun i r hr => ?_⟩
  obtain ⟨pb, k0, k1, k2, k3, hl⟩ := hc i r hr
  have hc' : ∀ o, w'.cell? ⟨ab, o, none⟩ = w.cell? ⟨ab, o, none⟩ := fun o => hb.cell (p := ⟨ab, o, none⟩) (by show ab < B; omega) am
  exact ⟨pb, (hc' _).trans k0, (hc' _).trans k1, (hc' _).trans k2, (hc' _).trans k3, hl.bel hb hB⟩
/-- the name of the rule i -/
def nameAt (rs : List Rl) (i : Int) : ByteArray := (rs[i.toNat]?.map Rl.name).getD ByteArray.empty
/-- what was found for a name -/
def grp (rs : List Rl) (D : List (Int × Int × Int)) (s : ByteArray) : List (Int × Int) := (D.filter fun p => decide (nameAt rs p.1 = s)).map (·.2)
def pcells (p : Int × Int) : List Value := [.int .i64 p.1, .int .i64 p.2]
abbrev nilS : Value := .slice none 0 0
/-- block B is a map that holds for each name a slice of its own of what was found for it -/
structure Groups (w : World) (B base n : Nat) (f : ByteArray → Option Value) (g : ByteArray → List (Int × Int)) : Prop where
  map : IsMap w B n f
  row : ∀ s, w.ownsRow base 112 2 ((f s).getD nilS) (g s).length ((g s).flatMap pcells)
  apart : ∀ s t, s ≠ t → ∀ q, ((f s).getD nilS).ownBlock = some q → ((f t).getD nilS).ownBlock ≠ some q
theorem groups_made (w : World) : Groups (w.alloc (.map #[] 0)) w.heap.size (w.heap.size + 1) 0 (fun _ => none) (fun _ => []) :=
  ⟨isMap_made w, fun _ => World.ownsRow_nil _ _ _ _, fun _ _ _ _ h => by cases h⟩
theorem Groups.alloc {w : World} {B base n : Nat} {f : ByteArray → Option Value} {g : ByteArray → List (Int × Int)} (h : Groups w B base n f g) (o : Obj) : Groups (w.alloc o) B base n f g :=
  ⟨h.map.alloc o, fun s => (h.row s).alloc o, h.apart⟩
theorem setBlock_other {w : World} {B : Nat} {o : Obj} {c : Nat} (h : c ≠ B) : (ChangeMaps.setBlock w B o).heap[c]? = w.heap[c]? := by
  simp only [ChangeMaps.setBlock, Array.getElem?_setIfInBounds]
  rw [if_neg (fun e => h e.symm)]
theorem owns_setBlock {w : World} {base : Nat} {e : TypeId} {size : Nat} {v : Value} {n : Nat} {xs : List Value} (h : w.ownsRow base e size v n xs) {B : Nat} (hne : v.ownBlock ≠ some B) (o : Obj) : (ChangeMaps.setBlock w B o).ownsRow base e size v n xs := by
  refine ⟨h.1, h.2.imp id ?_⟩
  rintro ⟨q, cap, cur, rfl, h2, h3, h4⟩
  exact ⟨q, cap, cur, rfl, h2, (setBlock_other (fun e' => hne (by rw [← e']; rfl))).trans h3, h4⟩
theorem below_setBlock {B c : Nat} {a w : World} (h : Below B a w) (hc : B ≤ c) (o : Obj) : Below B a (ChangeMaps.setBlock w c o) :=
  h.trans ⟨rfl, rfl, rfl, by simp [ChangeMaps.setBlock], fun k hk => setBlock_other (by omega)⟩
/-- one more match at a name: its slice appended to, and stored -/
theorem Groups.step {w w2 : World} {B base n : Nat} {f : ByteArray → Option Value} {g : ByteArray → List (Int × Int)} (h : Groups w B base n f g) (hB : B < base) {s : ByteArray} {v' : Value} {p : Int × Int} (hn : n < maxLen) (hs : s.size ≤ maxLen)
    (hown : w2.ownsRow base 112 2 v' ((g s).length + 1) ((g s).flatMap pcells ++ pcells p)) (hg : w.grownBy w2 ((f s).getD nilS).ownBlock) (hloc : v'.ownBlock = ((f s).getD nilS).ownBlock ∨ ∃ q, v'.ownBlock = some q ∧ w.heap.size ≤ q)
    {T K E : TypeId} {P : Program} (ht : P.underlying T = some (.map K E)) (hk : P.underlying K = some .string) :
    ∃ o, (Instr.mapUpdate T (.map (some B)) (.string s) v').run P w2 = .ok () (ChangeMaps.setBlock w2 B o) ∧
      Groups (ChangeMaps.setBlock w2 B o) B base (n + 1) (fun u => if u = s then some v' else f u) (fun u => if u = s then g s ++ [p] else g u) := by
  have hrowB : ∀ u q, ((f u).getD nilS).ownBlock = some q → base ≤ q ∧ q < w.heap.size := fun u q hq => World.ownsRow.lt (h.row u) q hq
  have hm2 : IsMap w2 B n f := h.map.same (hg.block B h.map.lt (fun e => by have := (hrowB s B e.symm).1; omega))
  obtain ⟨o, hrun, hmap⟩ := hm2.update hn ht hk hs v'
  have hvB : v'.ownBlock ≠ some B := fun e => by have := (World.ownsRow.lt hown B e).1; omega
  refine ⟨o, hrun, hmap, fun u => ?_, fun u t hut q hq hq' => ?_⟩
  · by_cases e : u = s
    · simp only [if_pos e, Option.getD_some, List.length_append, List.length_singleton, List.flatMap_append, List.flatMap_singleton]
      exact owns_setBlock hown hvB o
    · simp only [if_neg e]
      have hne : ((f u).getD nilS).ownBlock = none ∨ ((f u).getD nilS).ownBlock ≠ ((f s).getD nilS).ownBlock := by
        cases hq : ((f u).getD nilS).ownBlock with
        | none => exact .inl rfl
        | some q => exact .inr (fun e' => h.apart u s e q hq e'.symm)
      exact owns_setBlock ((h.row u).kept hg hne) (fun e' => by have := (hrowB u B e').1; omega) o
  · by_cases e : u = s
    · have et : t ≠ s := fun e' => hut (e.trans e'.symm)
      simp only [if_pos e, if_neg et, Option.getD_some] at hq hq'
      rcases hloc with hl | ⟨q', hl, hge⟩
      · exact h.apart s t (fun e' => et e'.symm) q (hl.symm.trans hq) hq'
      · rw [hl] at hq
        cases hq
        have := (hrowB t _ hq').2
        omega
    · by_cases et : t = s
      · simp only [if_neg e, if_pos et, Option.getD_some] at hq hq'
        rcases hloc with hl | ⟨q', hl, hge⟩
        · exact h.apart u s e q hq (hl.symm.trans hq')
        · rw [hl] at hq'
          cases hq'
          have := (hrowB u _ hq).2
          omega
      · simp only [if_neg e, if_neg et] at hq hq'
        exact h.apart u t hut q hq hq'
theorem flat_at {α : Type} (c : α → List Value) (m : Nat) (hm : ∀ a, (c a).length = m) : ∀ (D : List α) (j : Nat) (h : j < D.length) (i : Nat), i < m → (D.flatMap c)[j * m + i]? = (c D[j])[i]?
  | a :: t, 0, _, i, hi => by
    rw [List.flatMap_cons, List.getElem?_append_left (by rw [hm]; omega)]
    simp
  | a :: t, j + 1, h, i, hi => by
    have e : (j + 1) * m + i = (c a).length + (j * m + i) := by rw [hm, Nat.succ_mul]; omega
    rw [List.flatMap_cons, e, List.getElem?_append_right (by omega), Nat.add_sub_cancel_left]
    exact flat_at c m hm t j (by simpa using h) i hi
theorem grp_step (rs : List Rl) (D : List (Int × Int × Int)) {j q : Nat} (hj : j < D.length) {a b : Int} (hp : D[j] = ((q : Int), a, b)) (hq : q < rs.length) :
    grp rs (D.take (j + 1)) = fun u => if u = rs[q].name then grp rs (D.take j) rs[q].name ++ [(a, b)] else grp rs (D.take j) u := by
  funext u
  have hn : nameAt rs (q : Int) = rs[q].name := by simp [nameAt, hq]
  simp only [grp, List.take_succ_eq_append_getElem hj, List.filter_append, List.map_append, hp]
  by_cases e : u = rs[q].name
  · subst e; simp [hn]
  · rw [if_neg e]
    have : ¬ rs[q].name = u := fun e' => e e'.symm
    simp [hn, this]
theorem info112 : (Tryz.prog.info? 112).map (fun i => (i.zero, i.size, i.bytes)) = some (some (.agg #[.int .i64 0, .int .i64 0]), 2, 16) := by kernel_rfl
theorem zero82 (w : World) : (zeroValue 82).run Tryz.prog w = .ok (.slice none 0 0) w := by kernel_rfl
/-- what collect leaves -/
def collectPost (w w' : World) (e : Ending) (rs : List Rl) : Except Int (List (Int × Int × Int)) → Prop
  | .error er => e = .returned (.tuple #[.map none, .int .i64 er])
  | .ok D => ∃ B f, e = .returned (.tuple #[.map (some B), .int .i64 0]) ∧ w.heap.size ≤ B ∧ Groups w' B (B + 1) D.length f (grp rs D)
theorem owns_shape {w : World} {base : Nat} {e : TypeId} {size : Nat} {v : Value} {n : Nat} {xs : List Value} (h : w.ownsRow base e size v n xs) : ∃ a c, v = .slice a n c ∧ (n ≠ 0 → ∃ g, a = some ⟨g, 0, none⟩) := by
  rcases h.2 with ⟨rfl, rfl⟩ | ⟨g, cap, cur, rfl, _⟩
  · exact ⟨none, 0, rfl, fun h => absurd rfl h⟩
  · exact ⟨_, _, rfl, fun _ => ⟨g, rfl⟩⟩
set_option maxRecDepth 1000000 in
theorem collect_walk {M : Nat → Prop} {lo hi b bt bf : Nat} {w : World} {rs : List Rl} (hMw : ∀ k, M k → k < w.heap.size) (hs : SetAt M lo hi w b rs) (hhi : hi ≤ w.heap.size) (hn : rs.length ≤ 100) (hnm : ∀ r ∈ rs, r.name.size ≤ maxLen) {ta : Option Addr} {n tc : Nat} (hn2 : n ≤ 1000) {fuel : Int} {F : Nat → Nat → FR}
    (hF : FirstOf M lo hi w (.slice ta n tc) n fuel F rs) (ht : w.cell? ⟨bt, 0, none⟩ = some (.slice ta n tc)) (hf : w.cell? ⟨bf, 0, none⟩ = some (.int .i64 fuel)) :
    Calls Tryz.prog 42 #[.pointer (some ⟨b, 0, none⟩), .pointer (some ⟨bt, 0, none⟩), .pointer (some ⟨bf, 0, none⟩)] w fun e w' => Bel M w.heap.size w w' ∧ collectPost w w' e rs (fnd F n 0 rs) := by
  have hmm := @run_makeMap Tryz.prog
  obtain ⟨X, hX⟩ : ∃ X, fnd F n 0 rs = X := ⟨_, rfl⟩
  have hfw := found_walk hMw hs hhi hn hn2 hF
  rw [hX] at hfw ⊢
  have hX' : Hid (fnd F n 0 rs = X) := hX
  clear hX
  go_enter Tryz.func42, Tryz.ntmps42
  cases X with
  | error er =>
    have her : er ≠ 0 := fnd_err _ _ _ _ _ hX'.out
    go_wp2_with (first
      | (go_at_call 16; refine hfw.mono ?_; rintro _ w1 ⟨hb1, rfl⟩)
      | go_in)
    go_ret2
    exact ⟨hb1, rfl⟩
  | ok D =>
    go_wp2_with (first
      | (go_at_call 16; refine hfw.mono ?_; rintro _ w1 ⟨hb1, v, rfl, hown⟩; obtain ⟨fa, fc, rfl, hfa⟩ := owns_shape hown; have hs1 : SetAt M lo hi w1 b rs := hs.bel hb1 hhi)
      | (go_at_call 23; refine (rules_walk hs1 (Nat.le_trans hhi hb1.size) hn).mono ?_; rintro _ w2 ⟨u, rfl, hownr, hb2⟩; obtain ⟨ra, rc, rfl, hra⟩ := owns_shape hownr)
      | go_in)
    obtain ⟨hDl, hDm⟩ := fnd_facts F n rs 0 D hX'.out
    have hDb : D.length ≤ 100 * 1001 := Nat.le_trans hDl (Nat.mul_le_mul hn (by omega))
    obtain ⟨i0, hinf, hz0, hz1, hz2⟩ := info_parts info112
    have hsz1 := hb1.size
    have hsz2 := hb2.size
    have hlt1 := World.ownsRow.lt hown
    have hlt2 := World.ownsRow.lt hownr
    go_loopw [28] (fun i wr => ∃ (j : Nat) (f : ByteArray → Option Value), j ≤ D.length ∧ i = .int .i64 j ∧ Groups wr w2.heap.size (w2.heap.size + 1) j f (grp rs (D.take j)) ∧ wr.ownsRow w.heap.size 88 3 (.slice fa D.length fc) D.length (D.flatMap fcells) ∧
      wr.ownsRow w1.heap.size 62 3 (.slice ra rs.length rc) rs.length (rs.flatMap Rl.cells) ∧ Below w2.heap.size w2 wr ∧ w2.heap.size + 1 ≤ wr.heap.size) (fun i _ => D.length - (intOf i).toNat)
    case atStart => exact ⟨0, fun _ => none, Nat.zero_le _, rfl, groups_made w2, (owns_below hown hb2).alloc _, hownr.alloc _, (Below.refl _ _).alloc (Nat.le_refl _) _, by simp⟩
    case round =>
      obtain ⟨j, f, hj, rfl, hG, ho1, ho2, hbel, hws⟩ := hrel
      by_cases hjl : j < D.length
      · obtain ⟨q, hpq, hq⟩ := hDm _ (List.getElem_mem hjl)
        obtain ⟨g, rfl⟩ := hfa (by omega)
        obtain ⟨g', rfl⟩ := hra (by omega)
        obtain ⟨ps, pe, hp⟩ : ∃ ps pe, D[j] = ((q : Int), ps, pe) := ⟨D[j].2.1, D[j].2.2, by rw [← (show D[j].1 = (q : Int) by simpa using hpq)]⟩
        clear hpq
        have hcell : ∀ i, i < 3 → wr.cell? ⟨g, j * 3 + i, none⟩ = (fcells D[j])[i]? := fun i hi => by
          rw [ho1.cellAt _ (by have := Nat.mul_le_mul_right 3 (Nat.succ_le_of_lt hjl); omega), flat_at fcells 3 (fun _ => rfl) D j hjl i hi]
        have c0 : wr.cell? ⟨g, j * 3, none⟩ = some (.int .i64 q) := by have := hcell 0 (by omega); rw [hp] at this; exact this
        have c1 : wr.cell? ⟨g, j * 3 + 1, none⟩ = some (.int .i64 ps) := by have := hcell 1 (by omega); rw [hp] at this; exact this
        have c2 : wr.cell? ⟨g, j * 3 + 2, none⟩ = some (.int .i64 pe) := by have := hcell 2 (by omega); rw [hp] at this; exact this
        clear hcell
        have hgs := grp_step rs D hjl hp hq
        have HP : Hid (D[j] = ((q : Int), ps, pe)) := hp
        clear hp
        have d0 : wr.cell? ⟨g', q * 3, none⟩ = some (.string rs[q].name) := by
          rw [ho2.cellAt _ (by have := Nat.mul_le_mul_right 3 (Nat.succ_le_of_lt hq); omega)]
          have := flat_at Rl.cells 3 (fun _ => rfl) rs q hq 0 (by omega)
          simpa [Rl.cells] using this
        have hnml := hnm rs[q] (List.getElem_mem hq)
        obtain ⟨nm, hnme⟩ : ∃ s, rs[q].name = s := ⟨_, rfl⟩
        rw [hnme] at d0 hgs hnml
        have HN : Hid (rs[q].name = nm) := hnme
        clear hnme
        have HGS : Hid (grp rs (D.take (j + 1)) = fun u => if u = nm then grp rs (D.take j) nm ++ [(ps, pe)] else grp rs (D.take j) u) := hgs
        clear hgs
        have d1 : ∀ o, (wr.alloc o).cell? ⟨g', q * 3, none⟩ = some (.string nm) := fun o => (World.cell?_alloc_lt wr o ⟨g', q * 3, none⟩ (World.ownsRow.lt ho2 g' rfl).2).trans d0
        obtain ⟨v0, hv0⟩ : ∃ v0, (f nm).getD nilS = v0 := ⟨_, rfl⟩
        have hlk : ∀ o, (Instr.lookup 111 (.map (some w2.heap.size)) (.string nm) false).run Tryz.prog (wr.alloc o) = .ok v0 (wr.alloc o) := fun o => by
          rw [(hG.map.alloc o).lookup Tryz.underlying111 Tryz.underlying9 (zero82 _) hnml, hv0]
        have hrow : wr.ownsRow (w2.heap.size + 1) 112 2 v0 (grp rs (D.take j) nm).length ((grp rs (D.take j) nm).flatMap pcells) := by rw [← hv0]; exact hG.row nm
        have hgl : (grp rs (D.take j) nm).length ≤ j := by
          refine Nat.le_trans (Nat.le_of_eq (List.length_map ..)) (Nat.le_trans (List.length_filter_le _ _) ?_)
          rw [List.length_take]; omega
        obtain ⟨va, vc, rfl, _⟩ := owns_shape hrow
        have HV : Hid ((f nm).getD nilS = .slice va (grp rs (D.take j) nm).length vc) := hv0
        clear hv0
        go_wp2_with (first
          | (at_builtin; refine wpList_append_own_at _ rfl _ _ 82 rfl (w2.heap.size + 1) 112 i0 _ 2 16 Tryz.underlying82 hinf hz0 hz1 hz2 rfl (by decide) _ _ _ rfl ((hrow.alloc _).alloc _) ⟨wr.heap.size + 1, 0, none⟩ 1 1 [.int .i64 ps, .int .i64 pe] rfl rfl ?c1 ?c2 ?c3 ?c4 ?c5 ?_)
          | go_in)
        case c1 =>
          intro l u hl
          exact new_cells (wr.alloc _) _ 112 rfl (by simp) hl
        case c2 => intro u hu; simp at hu; rcases hu with rfl | rfl <;> rfl
        case c3 => unfold maxLen; omega
        case c4 => omega
        case c5 => simp; omega
        · intro v' w3 hown3 hgrow _ hloc
          have hb3 := World.ownsRow.lt hrow
          obtain ⟨o, hrun, hG'⟩ := Groups.step (p := (ps, pe)) ((hG.alloc _).alloc _) (by omega) (by unfold maxLen; omega) hnml hown3 (by rw [HV.out]; exact hgrow) (by rw [HV.out]; exact hloc.imp id fun h => ⟨_, h, by simp⟩) Tryz.underlying111 Tryz.underlying9
          rw [← HGS.out] at hG'
          have hg1 := (hlt1 g rfl).2
          have hg2 := (hlt2 g' rfl).2
          have k1 := owns_setBlock (((ho1.alloc _).alloc _).kept hgrow (.inr (fun e => by have := (hb3 g e.symm).1; omega))) (B := w2.heap.size) (fun e => by have e' : g = w2.heap.size := Option.some.inj e; omega) o
          have k2 := owns_setBlock (((ho2.alloc _).alloc _).kept hgrow (.inr (fun e => by have := (hb3 g' e.symm).1; omega))) (B := w2.heap.size) (fun e => by have e' : g' = w2.heap.size := Option.some.inj e; omega) o
          have k3 : Below w2.heap.size w2 (ChangeMaps.setBlock w3 w2.heap.size o) :=
            below_setBlock ((((hbel.alloc (by omega) _).alloc (by simp; omega) _)).grown hgrow (by simp; omega) (fun x hx => by have := (hb3 x hx).1; omega)) (Nat.le_refl _) o
          have k4 : w2.heap.size + 1 ≤ (ChangeMaps.setBlock w3 w2.heap.size o).heap.size := by
            have := hgrow.size
            simp [ChangeMaps.setBlock] at this ⊢
            omega
          clear hgrow hown3 hloc hG hrow ho1 ho2
          go_wp2
          go_roundw
          case rel => exact ⟨j + 1, _, hjl, by go_num, hG', k1, k2, k3, k4⟩
          case measure => simp [intOf]; omega
      · have hje : j = D.length := by omega
        subst hje
        go_wp2_with fail
        go_ret2
        refine ⟨hb1.trans (.of ((hb2.mono hsz1).trans (hbel.mono (by omega)))), w2.heap.size, f, rfl, by omega, ?_⟩
        simpa using hG
end Go.Proofs.YtopicmcaoeameaaGreatDoor
namespace Go.Proofs.YtopicmcaoeameaaGreatDoor
open Go Go.Ev Go.RowKit Go.Smap

theorem eq112 (x1 y1 x2 y2 : Int) (w : World) : (Op.equalIn 10000 112 (.agg #[.int .i64 x1, .int .i64 y1]) (.agg #[.int .i64 x2, .int .i64 y2])).run Tryz.prog w = .ok (x1 == x2 && y1 == y2) w := by
  have h3 : ∀ d (a b : Int), (Op.equalIn (d + 1) 3 (.int .i64 a) (.int .i64 b)).run Tryz.prog w = .ok (a == b) w := fun d a b => by
    unfold Op.equalIn
    simp [run_underlying Tryz.underlying3, Result.andThen]
  unfold Op.equalIn
  simp [run_underlying Tryz.underlying112, Result.andThen]
  have hp : ∀ (a b : Int), (part 3 #[Value.int .i64 a, Value.int .i64 b] 0).run Tryz.prog w = .ok (.int .i64 a) w := fun a b => by kernel_rfl
  have hq : ∀ (a b : Int), (part 3 #[Value.int .i64 a, Value.int .i64 b] 1).run Tryz.prog w = .ok (.int .i64 b) w := fun a b => by kernel_rfl
  have e : List.range' 0 2 = [0, 1] := rfl
  rw [e]
  simp only [List.forIn_cons, List.forIn_nil, Sem.run_bind, hp, Result.andThen, h3 9998]
  by_cases hx : x1 = x2
  · by_cases hy : y1 = y2
    · simp [hx, hy, Sem.run_bind, hq, h3 9998, Result.andThen]
    · simp [hx, hy, Sem.run_bind, hq, h3 9998, Result.andThen]
  · simp [hx]
set_option maxRecDepth 1000000 in
theorem equal_walk {w : World} {b1 b2 : Nat} {v1 v2 : Value} {l1 l2 : List (Int × Int)} (h1 : w.ownsRow b1 112 2 v1 l1.length (l1.flatMap pcells)) (h2 : w.ownsRow b2 112 2 v2 l2.length (l2.flatMap pcells)) (hl1 : l1.length ≤ 1000000) (hl2 : l2.length ≤ 1000000) :
    Calls Tryz.prog 43 #[v1, v2] w fun e w' => e = .returned (.bool (decide (l1 = l2))) ∧ Below w.heap.size w w' := by
  obtain ⟨a1, c1, rfl, ha1⟩ := owns_shape h1
  obtain ⟨a2, c2, rfl, ha2⟩ := owns_shape h2
  obtain ⟨X, hX⟩ : ∃ X, decide (l1 = l2) = X := ⟨_, rfl⟩
  rw [hX]
  have HX : Hid (decide (l1 = l2) = X) := hX
  clear hX
  by_cases hne : l1.length = l2.length
  · go_enter Tryz.func43, Tryz.ntmps43
    go_wp2_with fail
    go_loopw [13] (fun i wr => ∃ j : Nat, j ≤ l1.length ∧ i = .int .i64 j ∧ Below w.heap.size w wr ∧ Hid (l1.take j = l2.take j)) (fun i _ => l1.length - (intOf i).toNat)
    case atStart => exact ⟨0, Nat.zero_le _, rfl, Below.refl _ _, rfl⟩
    case round =>
      obtain ⟨j, hj, rfl, hbel, htk⟩ := hrel
      by_cases hjl : j < l1.length
      · have hjl2 : j < l2.length := by omega
        obtain ⟨g1, rfl⟩ := ha1 (by omega)
        obtain ⟨g2, rfl⟩ := ha2 (by omega)
        have e1 : ∀ i, i < 2 → wr.cell? ⟨g1, j * 2 + i, none⟩ = (pcells l1[j])[i]? := fun i hi => by
          rw [(owns_below h1 hbel).cellAt _ (by have := Nat.mul_le_mul_right 2 (Nat.succ_le_of_lt hjl); omega), flat_at pcells 2 (fun _ => rfl) l1 j hjl i hi]
        have e2 : ∀ i, i < 2 → wr.cell? ⟨g2, j * 2 + i, none⟩ = (pcells l2[j])[i]? := fun i hi => by
          rw [(owns_below h2 hbel).cellAt _ (by have := Nat.mul_le_mul_right 2 (Nat.succ_le_of_lt hjl2); omega), flat_at pcells 2 (fun _ => rfl) l2 j hjl2 i hi]
        obtain ⟨p1, hp1⟩ : ∃ p, l1[j] = p := ⟨_, rfl⟩
        obtain ⟨p2, hp2⟩ : ∃ p, l2[j] = p := ⟨_, rfl⟩
        rw [hp1] at e1
        rw [hp2] at e2
        obtain ⟨x1, y1⟩ := p1
        obtain ⟨x2, y2⟩ := p2
        have c0 : wr.cell? ⟨g1, j * 2, none⟩ = some (.int .i64 x1) := e1 0 (by omega)
        have c1 : wr.cell? ⟨g1, j * 2 + 1, none⟩ = some (.int .i64 y1) := e1 1 (by omega)
        have d0 : wr.cell? ⟨g2, j * 2, none⟩ = some (.int .i64 x2) := e2 0 (by omega)
        have d1 : wr.cell? ⟨g2, j * 2 + 1, none⟩ = some (.int .i64 y2) := e2 1 (by omega)
        have HP1 : Hid (l1[j] = (x1, y1)) := hp1
        have HP2 : Hid (l2[j] = (x2, y2)) := hp2
        clear hp1 hp2 e1 e2
        by_cases hpp : x1 = x2 ∧ y1 = y2
        · obtain ⟨rfl, rfl⟩ := hpp
          have heq : ∀ w : World, (Op.equalIn 10000 112 (.agg #[.int .i64 x1, .int .i64 y1]) (.agg #[.int .i64 x1, .int .i64 y1])).run Tryz.prog w = .ok true w := fun w => by rw [eq112]; simp
          go_wp2_with fail
          go_region
          all_goals (try go_wp2)
          go_roundw
          case rel =>
            refine ⟨j + 1, hjl, by go_num, hbel.drew, ?_⟩
            show l1.take (j + 1) = l2.take (j + 1)
            rw [List.take_succ_eq_append_getElem hjl, List.take_succ_eq_append_getElem hjl2, htk.out, HP1.out, HP2.out]
          case measure => simp [intOf]; omega
        · have heq : ∀ w : World, (Op.equalIn 10000 112 (.agg #[.int .i64 x1, .int .i64 y1]) (.agg #[.int .i64 x2, .int .i64 y2])).run Tryz.prog w = .ok false w := fun w => by
            rw [eq112]
            congr 1
            simpa using hpp
          have hx : X = false := by
            rw [← HX.out]
            simp only [decide_eq_false_iff_not]
            intro e
            subst e
            have := HP1.out.symm.trans HP2.out
            exact hpp ⟨congrArg Prod.fst this, congrArg Prod.snd this⟩
          subst hx
          clear hpp
          go_wp2_with fail
          go_region
          all_goals (try go_wp2)
          go_ret
          exact ⟨rfl, hbel.drew⟩
      · have hje : j = l1.length := by omega
        have hx : X = true := by
          rw [← HX.out]
          have := htk.out
          rw [hje, List.take_length, hne, List.take_length] at this
          simpa using this
        subst hje
        subst hx
        go_wp2_with fail
        go_ret
        exact ⟨rfl, hbel⟩
  · have hx : X = false := by rw [← HX.out]; simp; intro e; exact hne (by rw [e])
    subst hx
    have hne' : ¬ ((l1.length : Int) = (l2.length : Int)) := by omega
    go_enter Tryz.func43, Tryz.ntmps43
    go_wp2_with fail
    go_ret
    exact ⟨rfl, Below.refl _ _⟩
end Go.Proofs.YtopicmcaoeameaaGreatDoor
namespace Go.Proofs.YtopicmcaoeameaaGreatDoor
open Go Go.Ev Go.RowKit Go.Smap

theorem Groups.later {w w1 : World} {B base n : Nat} {f : ByteArray → Option Value} {g : ByteArray → List (Int × Int)} (h : Groups w B base n f g) (hb : Below w.heap.size w w1) : Groups w1 B base n f g :=
  ⟨h.map.same (hb.block B h.map.lt), fun s => owns_below (h.row s) hb, h.apart⟩
theorem Groups.bel {M : Nat → Prop} {w w1 : World} {B base n : Nat} {f : ByteArray → Option Value} {g : ByteArray → List (Int × Int)} (h : Groups w B base n f g) (hb : Bel M w.heap.size w w1) (hM : ∀ k, M k → k < B ∧ k < base) : Groups w1 B base n f g :=
  ⟨h.map.same (hb.block B h.map.lt fun e => Nat.lt_irrefl _ (hM _ e).1), fun s => owns_bel (h.row s) hb fun k hk => (hM k hk).2, h.apart⟩
/-- the names at which two sets' matches differ -/
def differ (rs1 rs2 : List Rl) (D1 D2 : List (Int × Int × Int)) (names : List ByteArray) : List ByteArray := names.filter fun s => !decide (grp rs1 D1 s = grp rs2 D2 s)
theorem grp_len (rs : List Rl) (D : List (Int × Int × Int)) (s : ByteArray) : (grp rs D s).length ≤ D.length := Nat.le_trans (Nat.le_of_eq (List.length_map ..)) (List.length_filter_le _ _)
theorem owns_base {w : World} {base base' : Nat} {e : TypeId} {size : Nat} {v : Value} {n : Nat} {xs : List Value} (h : w.ownsRow base e size v n xs) (hb : base' ≤ base) : w.ownsRow base' e size v n xs := by
  refine ⟨h.1, h.2.imp id ?_⟩
  rintro ⟨g, cap, cur, h1, h2, h3⟩
  exact ⟨g, cap, cur, h1, Nat.le_trans hb h2, h3⟩
/-- what compare leaves -/
def comparePost (w w' : World) (e : Ending) (rs1 rs2 : List Rl) (names : List ByteArray) : Except Int (List (Int × Int × Int)) → Except Int (List (Int × Int × Int)) → Prop
  | .error er, _ => e = .returned (.tuple #[.slice none 0 0, .int .i64 er])
  | .ok _, .error er => e = .returned (.tuple #[.slice none 0 0, .int .i64 er])
  | .ok D1, .ok D2 => ∃ v, e = .returned (.tuple #[v, .int .i64 0]) ∧ w'.ownsRow w.heap.size 9 1 v (differ rs1 rs2 D1 D2 names).length ((differ rs1 rs2 D1 D2 names).map Value.string)
theorem info9 : (Tryz.prog.info? 9).map (fun i => (i.zero, i.size, i.bytes)) = some (some (.string ByteArray.empty), 1, 16) := by kernel_rfl
theorem zero4 (w : World) : (zeroValue 4).run Tryz.prog w = .ok (.bool false) w := by kernel_rfl
set_option maxHeartbeats 8000000 in
set_option maxRecDepth 1000000 in
theorem compare_walk {M : Nat → Prop} {lo1 hi1 lo2 hi2 b1 b2 cb bm ng nc : Nat} {na : Option Addr} {w : World} {rs1 rs2 : List Rl} {names : List ByteArray} (hMw : ∀ k, M k → k < w.heap.size) (hs1 : SetAt M lo1 hi1 w b1 rs1) (hs2 : SetAt M lo2 hi2 w b2 rs2) (hhi1 : hi1 ≤ w.heap.size) (hhi2 : hi2 ≤ w.heap.size)
    (hn1 : rs1.length ≤ 100) (hn2 : rs2.length ≤ 100) (hm1 : ∀ r ∈ rs1, r.name.size ≤ maxLen) (hm2 : ∀ r ∈ rs2, r.name.size ≤ maxLen) {ta : Option Addr} {n tc : Nat} (hn : n ≤ 1000) {fuel : Int} {F : Nat → Nat → FR}
    (hF1 : FirstOf M lo1 hi1 w (.slice ta n tc) n fuel F rs1) (hF2 : FirstOf M lo2 hi2 w (.slice ta n tc) n fuel F rs2)
    (hcb : cb < w.heap.size) (hcm : ¬ M cb) (hbmm : ¬ M bm) (hngm : ¬ M ng) (k0 : w.cell? ⟨cb, 0, none⟩ = some (.pointer (some ⟨b1, 0, none⟩))) (k1 : w.cell? ⟨cb, 1, none⟩ = some (.pointer (some ⟨b2, 0, none⟩))) (k8 : w.cell? ⟨cb, 8, none⟩ = some (.slice na names.length nc))
    (k9 : w.cell? ⟨cb, 9, none⟩ = some (.map (some bm))) (hbm : IsMap w bm 0 fun _ => none) (hna : names ≠ [] → na = some ⟨ng, 0, none⟩) (hng : ng < w.heap.size) (hnames : ∀ (i : Nat) (s : ByteArray), names[i]? = some s → s.size ≤ maxLen ∧ w.cell? ⟨ng, i, none⟩ = some (.string s)) (hnl : names.length ≤ 1000) :
    Calls Tryz.prog 28 #[.pointer (some ⟨cb, 0, none⟩), .slice ta n tc, .int .i64 fuel] w fun e w' => Bel M w.heap.size w w' ∧ comparePost w w' e rs1 rs2 names (fnd F n 0 rs1) (fnd F n 0 rs2) := by
  have hcol1 := fun (w1 : World) (hb : Bel M w.heap.size w w1) (bt bf : Nat) (ht : w1.cell? ⟨bt, 0, none⟩ = some (.slice ta n tc)) (hf : w1.cell? ⟨bf, 0, none⟩ = some (.int .i64 fuel)) =>
    collect_walk (fun k hk => Nat.lt_of_lt_of_le (hMw k hk) hb.size) (hs1.bel hb hhi1) (Nat.le_trans hhi1 hb.size) hn1 hm1 hn (hF1.later hb) ht hf
  have hcol2 := fun (w1 : World) (hb : Bel M w.heap.size w w1) (bt bf : Nat) (ht : w1.cell? ⟨bt, 0, none⟩ = some (.slice ta n tc)) (hf : w1.cell? ⟨bf, 0, none⟩ = some (.int .i64 fuel)) =>
    collect_walk (fun k hk => Nat.lt_of_lt_of_le (hMw k hk) hb.size) (hs2.bel hb hhi2) (Nat.le_trans hhi2 hb.size) hn2 hm2 hn (hF2.later hb) ht hf
  obtain ⟨X, hX⟩ : ∃ X, fnd F n 0 rs1 = X := ⟨_, rfl⟩
  obtain ⟨Y, hY⟩ : ∃ Y, fnd F n 0 rs2 = Y := ⟨_, rfl⟩
  rw [hX] at hcol1 ⊢
  rw [hY] at hcol2 ⊢
  have HX : Hid (fnd F n 0 rs1 = X) := hX
  have HY : Hid (fnd F n 0 rs2 = Y) := hY
  have HN : Hid (∀ (i : Nat) (s : ByteArray), names[i]? = some s → s.size ≤ maxLen ∧ w.cell? ⟨ng, i, none⟩ = some (.string s)) := hnames
  have HA : Hid (names ≠ [] → na = some ⟨ng, 0, none⟩) := hna
  clear hX hY hF1 hF2 hs1 hs2 hnames hna
  go_enter Tryz.func28, Tryz.ntmps28
  have hW0 : ∀ o1 o2, Bel M w.heap.size w ((w.alloc o1).alloc o2) := fun o1 o2 => ((Bel.refl _ _ _).alloc (Nat.le_refl _) _).alloc (by simp) _
  have hM0 : ¬ M w.heap.size := fun e => Nat.lt_irrefl _ (hMw _ e)
  have hM1 : ¬ M (w.heap.size + 1) := fun e => by have := hMw _ e; omega
  cases X with
  | error er =>
    have her : er ≠ 0 := fnd_err _ _ _ _ _ HX.out
    go_wp2_with (first
      | (go_at_call 42; refine (hcol1 _ (hW0 _ _) w.heap.size (w.heap.size + 1) (by simp) (by simp)).mono ?_; rintro _ w1 ⟨hb1, rfl⟩)
      | go_in)
    go_ret2
    exact ⟨(hW0 _ _).trans (hb1.mono (by simp; omega)), rfl⟩
  | ok D1 =>
    have M1 : Hid True := trivial
    cases Y with
    | error er =>
      have her : er ≠ 0 := fnd_err _ _ _ _ _ HY.out
      go_wp2_with (first
        | (go_at_call 42; clear M1; refine (hcol1 _ (hW0 _ _) w.heap.size (w.heap.size + 1) (by simp) (by simp)).mono ?_; rintro _ w1 ⟨hb1, B1, f1, rfl, hB1, hG1⟩; have hW1 : Bel M w.heap.size w w1 := (hW0 _ _).trans (hb1.mono (by simp; omega)); have k1' := (hW1.cell (p := ⟨cb, 1, none⟩) hcb hcm).trans k1; have t1' : w1.cell? ⟨w.heap.size, 0, none⟩ = some (.slice ta n tc) := (hb1.cell (p := ⟨w.heap.size, 0, none⟩) (by simp; omega) hM0).trans (by simp); have t2' : w1.cell? ⟨w.heap.size + 1, 0, none⟩ = some (.int .i64 fuel) := (hb1.cell (p := ⟨w.heap.size + 1, 0, none⟩) (by simp) hM1).trans (by simp))
        | (go_at_call 42; refine (hcol2 _ hW1 w.heap.size (w.heap.size + 1) t1' t2').mono ?_; rintro _ w2 ⟨hb2, rfl⟩)
        | go_in)
      go_ret2
      exact ⟨hW1.trans (hb2.mono hW1.size), rfl⟩
    | ok D2 =>
      go_wp2_with (first
        | (go_at_call 42; clear M1; refine (hcol1 _ (hW0 _ _) w.heap.size (w.heap.size + 1) (by simp) (by simp)).mono ?_; rintro _ w1 ⟨hb1, B1, f1, rfl, hB1, hG1⟩; have hW1 : Bel M w.heap.size w w1 := (hW0 _ _).trans (hb1.mono (by simp; omega)); have k1' := (hW1.cell (p := ⟨cb, 1, none⟩) hcb hcm).trans k1; have t1' : w1.cell? ⟨w.heap.size, 0, none⟩ = some (.slice ta n tc) := (hb1.cell (p := ⟨w.heap.size, 0, none⟩) (by simp; omega) hM0).trans (by simp); have t2' : w1.cell? ⟨w.heap.size + 1, 0, none⟩ = some (.int .i64 fuel) := (hb1.cell (p := ⟨w.heap.size + 1, 0, none⟩) (by simp) hM1).trans (by simp))
        | (go_at_call 42; refine (hcol2 _ hW1 w.heap.size (w.heap.size + 1) t1' t2').mono ?_; rintro _ w2 ⟨hb2, B2, f2, rfl, hB2, hG2⟩; have hW2 : Bel M w.heap.size w w2 := hW1.trans (hb2.mono hW1.size); have k8' := (hW2.cell (p := ⟨cb, 8, none⟩) hcb hcm).trans k8)
        | go_in)
      have hD1 := (fnd_facts F n rs1 0 D1 HX.out).1
      have hD2 := (fnd_facts F n rs2 0 D2 HY.out).1
      have hD1' : D1.length ≤ 100 * 1001 := Nat.le_trans hD1 (Nat.mul_le_mul hn1 (by omega))
      have hD2' : D2.length ≤ 100 * 1001 := Nat.le_trans hD2 (Nat.mul_le_mul hn2 (by omega))
      have hsW := hW2.size
      have hG1' := hG1.bel hb2 (fun k hk => by have h1 := hMw k hk; have h2 := hB1; simp at h2; omega)
      obtain ⟨i0, hinf, hz0, hz1, hz2⟩ := info_parts info9
      go_loopw [12, 45] (fun v i wr => ∃ j : Nat, j ≤ names.length ∧ i = .int .i64 j ∧ wr.ownsRow w2.heap.size 9 1 v (differ rs1 rs2 D1 D2 (names.take j)).length ((differ rs1 rs2 D1 D2 (names.take j)).map Value.string) ∧ Below w2.heap.size w2 wr) (fun _ i _ => names.length - (intOf i).toNat)
      case atStart => exact ⟨0, Nat.zero_le _, rfl, World.ownsRow_nil _ _ _ _, Below.refl _ _⟩
      case round =>
        obtain ⟨j, hj, rfl, hown, hbel⟩ := hrel
        by_cases hjl : j < names.length
        · obtain ⟨hsm, hcell⟩ := HN.out j names[j] (List.getElem?_eq_getElem hjl)
          obtain rfl := HA.out (by intro e; rw [e] at hjl; simp at hjl)
          have hwr := hbel.size
          have hdl : (differ rs1 rs2 D1 D2 (names.take j)).length ≤ j := Nat.le_trans (List.length_filter_le _ _) (by rw [List.length_take]; omega)
          have hdn : Hid (differ rs1 rs2 D1 D2 (names.take (j + 1)) = differ rs1 rs2 D1 D2 (names.take j) ++ if grp rs1 D1 names[j] = grp rs2 D2 names[j] then [] else [names[j]]) := by
            show _ = _
            simp only [differ, List.take_succ_eq_append_getElem hjl, List.filter_append, List.filter_cons, List.filter_nil]
            by_cases e : grp rs1 D1 names[j] = grp rs2 D2 names[j] <;> simp [e]
          have r1 := (hG1'.later hbel).row names[j]
          have r2 := (hG2.later hbel).row names[j]
          have l1 := (hG1'.later hbel).map.lookup Tryz.underlying111 Tryz.underlying9 (zero82 _) hsm
          have l2 := (hG2.later hbel).map.lookup Tryz.underlying111 Tryz.underlying9 (zero82 _) hsm
          have l0 := (hbm.same ((hbel.block bm (by have := hbm.lt; omega)).trans (hW2.block bm hbm.lt hbmm))).lookup Tryz.underlying59 Tryz.underlying9 (zero4 _) hsm
          obtain ⟨v1, hv1⟩ : ∃ v1, (f1 names[j]).getD nilS = v1 := ⟨_, rfl⟩
          obtain ⟨v2, hv2⟩ : ∃ v2, (f2 names[j]).getD nilS = v2 := ⟨_, rfl⟩
          rw [hv1] at r1 l1
          rw [hv2] at r2 l2
          have heq := equal_walk r1 r2 (Nat.le_trans (grp_len _ _ _) (by omega)) (Nat.le_trans (grp_len _ _ _) (by omega))
          obtain ⟨q, hq⟩ : ∃ q, decide (grp rs1 D1 names[j] = grp rs2 D2 names[j]) = q := ⟨_, rfl⟩
          rw [hq] at heq
          have HQ : Hid (decide (grp rs1 D1 names[j] = grp rs2 D2 names[j]) = q) := hq
          clear hq hv1 hv2 r1 r2
          obtain ⟨nm, hnm⟩ : ∃ s, names[j] = s := ⟨_, rfl⟩
          rw [hnm] at hcell l0 l1 l2 hdn HQ hsm
          clear hnm
          have cn : wr.cell? ⟨ng, j, none⟩ = some (.string nm) := (hbel.cell (p := ⟨ng, j, none⟩) (by show ng < _; omega)).trans ((hW2.cell (p := ⟨ng, j, none⟩) hng hngm).trans hcell)
          have c9 : wr.cell? ⟨cb, 9, none⟩ = some (.map (some bm)) := (hbel.cell (p := ⟨cb, 9, none⟩) (by show cb < _; omega)).trans ((hW2.cell (p := ⟨cb, 9, none⟩) hcb hcm).trans k9)
          have l0' : (Instr.lookup 59 (.map (some bm)) (.string nm) false).run Tryz.prog wr = .ok (.bool false) wr := l0
          clear l0
          cases q with
          | true =>
            rw [if_pos (by simpa using HQ.out)] at hdn
            go_wp2_with (first
              | (go_at_call 43; refine heq.mono ?_; rintro _ w3 ⟨rfl, hb3⟩)
              | go_in)
            go_roundw
            case rel => exact ⟨j + 1, hjl, by go_num, by rw [hdn.out, List.append_nil]; exact owns_below hown hb3, hbel.trans (hb3.mono hwr)⟩
            case measure => simp [intOf]; omega
          | false =>
            rw [if_neg (by simpa using HQ.out)] at hdn
            go_wp2_with (first
              | (go_at_call 43; refine heq.mono ?_; rintro _ w3 ⟨rfl, hb3⟩)
              | (at_builtin; refine wpList_append_own _ rfl _ _ 58 rfl w2.heap.size 9 i0 _ 1 16 Tryz.underlying58 hinf hz0 hz1 hz2 rfl (by decide) _ _ _ rfl ((owns_below hown hb3).alloc _) ⟨w3.heap.size, 0, none⟩ 1 1 [.string nm] rfl rfl ?c1 ?c2 ?c3 ?c4 ?c5 ?_)
              | go_in)
            case c1 =>
              intro l u hl
              exact new_cells w3 _ 9 rfl rfl hl
            case c2 => intro u hu; simp at hu; subst hu; rfl
            case c3 => unfold maxLen; omega
            case c4 => omega
            case c5 => have := hb3.size; have := hbel.size; simp; omega
            · intro v' w4 hown4 hgrow _
              have hlt := World.ownsRow.lt hown
              have hb3s := hb3.size
              have hb4 : Below w2.heap.size w2 w4 := ((hbel.trans (hb3.mono hwr)).alloc (by omega) _).grown hgrow (by simp; omega) (fun x hx => (hlt x hx).1)
              have hown5 : w4.ownsRow w2.heap.size 9 1 v' (differ rs1 rs2 D1 D2 (names.take (j + 1))).length ((differ rs1 rs2 D1 D2 (names.take (j + 1))).map Value.string) := by
                rw [hdn.out]
                simpa using hown4
              clear hgrow hown4 hown hlt
              go_wp2
              go_roundw
              case rel => exact ⟨j + 1, hjl, by go_num, hown5, hb4⟩
              case measure => simp [intOf]; omega
        · have hje : j = names.length := by omega
          subst hje
          go_wp2_with fail
          go_ret2
          rw [List.take_length] at hown
          exact ⟨hW2.trans (.of (hbel.mono hsW)), _, rfl, owns_base hown hsW⟩
end Go.Proofs.YtopicmcaoeameaaGreatDoor
namespace Go.Proofs.YtopicmcaoeameaaGreatDoor
open Go Go.Ev Go.RowKit Go.Smap

/-- the matches of the rules, each with its rule -/
def fnr (F : Nat → Nat → FR) (n : Nat) : List Rl → Except Int (List (Rl × Int × Int))
  | [] => .ok []
  | r :: t => match ms (F r.k) n 0 with
    | .error e => .error e
    | .ok l => pre (l.map fun p => (r, p)) (fnr F n t)
theorem fnd_fnr (F : Nat → Nat → FR) (n : Nat) (all : List Rl) : ∀ (i : Nat) (rs : List Rl), all.drop i = rs → ∀ D, fnd F n i rs = .ok D → ∃ E, fnr F n rs = .ok E ∧ D.map (fun p => (nameAt all p.1, p.2)) = E.map fun p => (p.1.name, p.2)
  | i, [], _, D, h => by
    cases h
    exact ⟨[], rfl, rfl⟩
  | i, r :: t, hd, D, h => by
    have hi : i < all.length := by
      rcases Nat.lt_or_ge i all.length with h | h
      · exact h
      · rw [List.drop_eq_nil_of_le h] at hd; cases hd
    have hr : all[i] = r := by
      rw [List.drop_eq_getElem_cons hi] at hd
      exact (List.cons.inj hd).1
    have ht : all.drop (i + 1) = t := by
      rw [List.drop_eq_getElem_cons hi] at hd
      exact (List.cons.inj hd).2
    have h' : (match ms (F r.k) n 0 with | .error e => Except.error e | .ok l => pre (l.map (tag i)) (fnd F n (i + 1) t)) = .ok D := h
    show ∃ E, (match ms (F r.k) n 0 with | .error e => Except.error e | .ok l => pre (l.map fun p => (r, p)) (fnr F n t)) = .ok E ∧ _
    cases hm : ms (F r.k) n 0 with
    | error e => rw [hm] at h'; cases h'
    | ok l =>
      rw [hm] at h'
      simp only at h'
      cases hf : fnd F n (i + 1) t with
      | error e => rw [hf] at h'; cases h'
      | ok D2 =>
        rw [hf] at h'
        cases h'
        obtain ⟨E, hE, hDE⟩ := fnd_fnr F n all (i + 1) t ht D2 hf
        refine ⟨l.map (fun p => (r, p)) ++ E, by simp only [hE, pre], ?_⟩
        simp only [List.map_append, List.map_map, hDE]
        congr 1
        refine List.map_congr_left fun p _ => ?_
        have : nameAt all ((i : Int)) = r.name := by simp [nameAt, List.getElem?_eq_getElem hi, hr]
        simp [tag, this]
theorem fnr_app (F : Nat → Nat → FR) (n : Nat) : ∀ (a b : List Rl) (E : List (Rl × Int × Int)), fnr F n (a ++ b) = .ok E → ∃ A B, fnr F n a = .ok A ∧ fnr F n b = .ok B ∧ E = A ++ B
  | [], b, E, h => ⟨[], E, rfl, h, rfl⟩
  | r :: t, b, E, h => by
    have h' : (match ms (F r.k) n 0 with | .error e => Except.error e | .ok l => pre (l.map fun p => (r, p)) (fnr F n (t ++ b))) = .ok E := h
    show ∃ A B, (match ms (F r.k) n 0 with | .error e => Except.error e | .ok l => pre (l.map fun p => (r, p)) (fnr F n t)) = .ok A ∧ _
    cases hm : ms (F r.k) n 0 with
    | error e => rw [hm] at h'; cases h'
    | ok l =>
      rw [hm] at h'
      simp only at h'
      cases hf : fnr F n (t ++ b) with
      | error e => rw [hf] at h'; cases h'
      | ok E2 =>
        rw [hf] at h'
        cases h'
        obtain ⟨A, B, hA, hB, rfl⟩ := fnr_app F n t b E2 hf
        exact ⟨l.map (fun p => (r, p)) ++ A, B, by simp only [hA, pre], hB, by simp⟩
theorem fnr_names (F : Nat → Nat → FR) (n : Nat) : ∀ (rs : List Rl) (E : List (Rl × Int × Int)), fnr F n rs = .ok E → ∀ p ∈ E, p.1 ∈ rs
  | [], E, h => by cases h; simp
  | r :: t, E, h => by
    have h' : (match ms (F r.k) n 0 with | .error e => Except.error e | .ok l => pre (l.map fun p => (r, p)) (fnr F n t)) = .ok E := h
    cases hm : ms (F r.k) n 0 with
    | error e => rw [hm] at h'; cases h'
    | ok l =>
      rw [hm] at h'
      simp only at h'
      cases hf : fnr F n t with
      | error e => rw [hf] at h'; cases h'
      | ok E2 =>
        rw [hf] at h'
        cases h'
        intro p hp
        rcases List.mem_append.1 hp with hp | hp
        · obtain ⟨q, _, rfl⟩ := List.mem_map.1 hp
          exact List.mem_cons_self ..
        · exact List.mem_cons_of_mem _ (fnr_names F n t E2 hf p hp)
theorem grp_fnr {F : Nat → Nat → FR} {n : Nat} {rs : List Rl} {D : List (Int × Int × Int)} (h : fnd F n 0 rs = .ok D) (s : ByteArray) : ∃ E, fnr F n rs = .ok E ∧ grp rs D s = (E.filter fun p => decide (p.1.name = s)).map (·.2) := by
  obtain ⟨E, hE, hDE⟩ := fnd_fnr F n rs 0 rs rfl D h
  refine ⟨E, hE, ?_⟩
  have h1 : grp rs D s = ((D.map fun p => (nameAt rs p.1, p.2)).filter fun p => decide (p.1 = s)).map (·.2) := by
    rw [List.filter_map, List.map_map]
    rfl
  have h2 : (E.filter fun p => decide (p.1.name = s)).map (·.2) = ((E.map fun p => (p.1.name, p.2)).filter fun p => decide (p.1 = s)).map (·.2) := by
    rw [List.filter_map, List.map_map]
    rfl
  rw [h1, h2, hDE]
/-- turned round, each name's matches are the same -/
theorem grp_turn {F : Nat → Nat → FR} {n : Nat} {a b : List Rl} {D1 D2 : List (Int × Int × Int)} (hnd : ((a ++ b).map Rl.name).Nodup) (h1 : fnd F n 0 (a ++ b) = .ok D1) (h2 : fnd F n 0 (b ++ a) = .ok D2) (s : ByteArray) : grp (a ++ b) D1 s = grp (b ++ a) D2 s := by
  obtain ⟨E1, hE1, g1⟩ := grp_fnr h1 s
  obtain ⟨E2, hE2, g2⟩ := grp_fnr h2 s
  obtain ⟨A, B, hA, hB, rfl⟩ := fnr_app F n a b E1 hE1
  obtain ⟨B', A', hB', hA', rfl⟩ := fnr_app F n b a E2 hE2
  rw [hA] at hA'
  rw [hB] at hB'
  cases hA'
  cases hB'
  rw [g1, g2, List.filter_append, List.filter_append]
  have key : ∀ (X : List Rl) (E : List (Rl × Int × Int)), fnr F n X = .ok E → (∀ r ∈ X, r.name ≠ s) → E.filter (fun p => decide (p.1.name = s)) = [] := fun X E hE hX => by
    rw [List.filter_eq_nil_iff]
    intro p hp
    simpa using hX p.1 (fnr_names F n X E hE p hp)
  by_cases ha : ∃ r ∈ a, r.name = s
  · obtain ⟨r, hr, rfl⟩ := ha
    have hb : ∀ q ∈ b, q.name ≠ r.name := fun q hq e => by
      rw [List.map_append] at hnd
      exact (List.nodup_append.1 hnd).2.2 r.name (List.mem_map.2 ⟨r, hr, rfl⟩) q.name (List.mem_map.2 ⟨q, hq, rfl⟩) e.symm
    rw [key b B hB hb]
    simp
  · have ha' : ∀ r ∈ a, r.name ≠ s := fun r hr e => ha ⟨r, hr, e⟩
    rw [key a A hA ha']
    simp
theorem differ_turn {F : Nat → Nat → FR} {n : Nat} {a b : List Rl} {D1 D2 : List (Int × Int × Int)} (hnd : ((a ++ b).map Rl.name).Nodup) (h1 : fnd F n 0 (a ++ b) = .ok D1) (h2 : fnd F n 0 (b ++ a) = .ok D2) (ns : List ByteArray) : differ (a ++ b) (b ++ a) D1 D2 ns = [] := by
  unfold differ
  rw [List.filter_eq_nil_iff]
  intro s _
  simp [grp_turn hnd h1 h2 s]
end Go.Proofs.YtopicmcaoeameaaGreatDoor
namespace Go.Proofs.YtopicmcaoeameaaGreatDoor
open Go Go.Ev Go.RowKit Go.Smap

/-- isName says yes -/
def IsName (s : ByteArray) : Prop := ∀ w : World, Calls Tryz.prog 53 #[.string s] w fun e w' => e = .returned (.bool true) ∧ Below w.heap.size w w'
theorem zero4' (w : World) : (zeroValue 4).run Tryz.prog w = .ok (.bool false) w := by kernel_rfl
set_option maxRecDepth 1000000 in
theorem add_walk {w : World} {B n : Nat} {f : ByteArray → Option Value} (h : IsMap w B n f) (hn : n ≤ 1000) {s : ByteArray} (hs : s.size ≤ maxLen) (hname : IsName s) (hnew : f s = none) :
    Calls Tryz.prog 38 #[.map (some B), .string s] w fun e w' => e = .returned (.int .i64 0) ∧ But B w w' ∧ IsMap w' B (n + 1) (fun u => if u = s then some (.bool true) else f u) := by
  have hnm := hname w
  go_enter Tryz.func38, Tryz.ntmps38
  go_wp2_with (first
    | (go_at_call 53; refine hnm.mono ?_; rintro _ w1 ⟨rfl, hb1⟩; have hm1 := h.same (hb1.block B h.lt); have hl : (Instr.lookup 96 (.map (some B)) (.string s) false).run Tryz.prog w1 = .ok (.bool false) w1 := by { have := hm1.lookup Tryz.underlying96 Tryz.underlying9 (zero4' w1) hs; rw [hnew] at this; exact this }; obtain ⟨o, hrun, hmap⟩ := hm1.update (by unfold maxLen; omega) Tryz.underlying96 Tryz.underlying9 hs (.bool true))
    | go_in)
  go_ret
  exact ⟨rfl, ⟨hb1.os, hb1.tape, hb1.output, by simp [ChangeMaps.setBlock]; exact hb1.size, fun k hk hne => (setBlock_other hne).trans (hb1.block k hk)⟩, hmap⟩
end Go.Proofs.YtopicmcaoeameaaGreatDoor
namespace Go.Proofs.YtopicmcaoeameaaGreatDoor
open Go Go.Ev Go.RowKit

noncomputable def chkDec (j : Nat) : Bool := match cal0.fn 44 [.int .i64 j] .nil .e with | .ok (.str s) _ _ => decide (s = [48 + j]) | _ => false
noncomputable def chkName (j : Nat) : Bool := match cal0.fn 53 [.str [110, 48 + j]] .nil .e with | .ok (.bool true) _ _ => true | _ => false
noncomputable def chkW (j : Nat) : Bool := chkDec j && chkName j
set_option maxRecDepth 1000000 in
theorem words : (chkW 0 && (chkW 1 && (chkW 2 && (chkW 3 && (chkW 4 && (chkW 5 && (chkW 6 && (chkW 7 && chkW 8)))))))) = true := by decide +kernel
theorem word_all : ∀ j, j < 9 → chkW j = true := by
  have h := words
  simp only [Bool.and_eq_true] at h
  obtain ⟨h0, h1, h2, h3, h4, h5, h6, h7, h8⟩ := h
  intro j hj
  match j, hj with
  | 0, _ => exact h0
  | 1, _ => exact h1
  | 2, _ => exact h2
  | 3, _ => exact h3
  | 4, _ => exact h4
  | 5, _ => exact h5
  | 6, _ => exact h6
  | 7, _ => exact h7
  | 8, _ => exact h8
  | n + 9, h => exact absurd h (by omega)
/-- the bytes of s -/
def Bytes (s : ByteArray) (l : List Nat) : Prop := s.data.toList.map UInt8.toNat = l
theorem dec_walk {j : Nat} (hj : j < 9) (w : World) : Calls Tryz.prog 44 #[.int .i64 (j : Int)] w fun e w' => ∃ s, e = .returned (.string s) ∧ Bytes s [48 + j] ∧ Below w.heap.size w w' := by
  have h := word_all j hj
  simp only [chkW, Bool.and_eq_true] at h
  obtain ⟨h, _⟩ := h
  unfold chkDec at h
  split at h
  · rename_i s H n h1
    have hs : s = [48 + j] := of_decide_eq_true h
    subst hs
    refine (call1 cal0_ok h1 (fun _ => 0) w _ (rels_one rfl)).mono fun e w1 he => ?_
    obtain ⟨x, ι, rfl, ⟨b, rfl, hb⟩, _, hbel, _⟩ := he
    exact ⟨b, rfl, hb, hbel⟩
  · cases h
theorem isName_of {j : Nat} (hj : j < 9) {s : ByteArray} (hs : Bytes s [110, 48 + j]) : IsName s := fun w => by
  have h := word_all j hj
  simp only [chkW, Bool.and_eq_true] at h
  obtain ⟨_, h⟩ := h
  unfold chkName at h
  split at h
  · rename_i H n h1
    refine (call1 cal0_ok h1 (fun _ => 0) w _ (rels_one ⟨s, rfl, hs⟩)).mono fun e w1 he => ?_
    obtain ⟨x, ι, rfl, hx, _, hbel, _⟩ := he
    have hx' : x = .bool true := hx
    subst hx'
    exact ⟨rfl, hbel⟩
  · cases h
theorem bytes_inj {s t : ByteArray} {l : List Nat} (h1 : Bytes s l) (h2 : Bytes t l) : s = t := by
  unfold Bytes at h1 h2
  rw [← h2] at h1
  have : s.data.toList = t.data.toList := (List.map_inj_right (fun a b h => UInt8.toNat_inj.1 h)).1 h1
  exact ByteArray.ext (Array.toList_inj.1 this)
theorem bytes_size {s : ByteArray} {l : List Nat} (h : Bytes s l) : s.size = l.length := by
  rw [← h, List.length_map, Array.length_toList]; rfl
end Go.Proofs.YtopicmcaoeameaaGreatDoor
