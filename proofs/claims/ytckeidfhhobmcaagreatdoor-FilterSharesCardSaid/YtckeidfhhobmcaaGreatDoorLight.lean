/-
  The light pieces of the law, evaluated by the kernel at all states of both connections.
-/
import Derived.Test.YtckeidfhhobmcaaGreatDoorLives
namespace Go.Proofs.YtckeidfhhobmcaaGreatDoor
open Go Go.Ev

noncomputable section
def each (f : Nat → Bool) : Bool := match f 0, f 1, f 2, f 3, f 4 with | true, true, true, true, true => true | _, _, _, _, _ => false
def each2 (f : Nat → Nat → Bool) : Bool := each fun a => each fun b => f a b
end
theorem each_ok {f : Nat → Bool} (h : each f = true) {a : Nat} (ha : a < 5) : f a = true := by
  unfold each at h
  split at h <;> try (cases h; done)
  rename_i h0 h1 h2 h3 h4
  match a, ha with
  | 0, _ => exact h0
  | 1, _ => exact h1
  | 2, _ => exact h2
  | 3, _ => exact h3
  | 4, _ => exact h4
theorem each2_ok {f : Nat → Nat → Bool} (h : each2 f = true) {a b : Nat} (ha : a < 5) (hb : b < 5) : f a b = true := each_ok (each_ok h ha) hb

noncomputable section
def frL : List (Nat × V) := frame sTick sUsed sI
def frN : List (Nat × V) := frame sNext sUsed sI
def fr13 : List (Nat × V) := frL ++ [(13, sNext)]
/-- the numbers that the next round begins with, each as it is, but for the next tick and the length of the piece -/
def idsC : Asg := [(0, sN), (1, sU), (2, sTick), (3, sMt), (4, sFt), (5, sUsed), (13, symI 13 0 1000), (14, symI 14 0 1000), (16, sI), (17, lenL), (18, lenY), (21, symI 21 0 1000), (22, symI 22 0 1000)]
/-- was the rule of the connection i out before a piece for c, with which it goes out (g) or not -/
def was5 (c i s : Nat) (g : Bool) : Bool := match Nat.beq c i, g with | true, true => false | _, _ => isOut s
def own5 (c s1 s2 : Nat) (g : Bool) : Bool := match c with | 0 => was5 0 0 s1 g | _ => was5 1 1 s2 g
def asg5 (c s1 s2 : Nat) (g : Bool) : Asg := (match own5 c s1 s2 g, g with | false, false => [(5, sSum)] | _, _ => []) ++ ids
def run5 (c s1 s2 : Nat) (g over : Bool) : Bool :=
  chk .nrm (G5 over) (asg5 c s1 s2 g) [k5] (frame4 c g) frN (outB (was5 c 0 s1 g) (was5 c 1 s2 g) ++ xB g) (outB (isOut s1) (isOut s2)) (cmn ++ (conn 0 s1 ++ conn 1 s2)) (cmn ++ (conn 0 s1 ++ conn 1 s2))
end
set_option maxRecDepth 10000000 in
theorem run_set : chk .nrm Γ0 ((16, J 0) :: ids) [setI] frame0 frL [] [] (fullS 0 0) (fullS 0 0) = true := by decide +kernel
set_option maxRecDepth 10000000 in
theorem run_choose : each2 (fun a b => chk .nrm Γ0 idsC [] frL frL [] [] (fullS a b) (fullS a b)) = true := by decide +kernel
set_option maxRecDepth 10000000 in
theorem run_stay : each2 (fun a b => chk .nrm Gstay ids [hd] frL frL [] [] (fullS a b) (fullS a b)) = true := by decide +kernel
set_option maxRecDepth 10000000 in
theorem run_end1 : each2 (fun a b => chk (.brk 0) Gend1 ids [hd] frL frL [] [] (fullS a b) (fullS a b)) = true := by decide +kernel
set_option maxRecDepth 10000000 in
theorem run_end2 : each2 (fun a b => chk (.brk 0) Gend2 ids [hd] frL frL [] [] (fullS a b) (fullS a b)) = true := by decide +kernel
set_option maxRecDepth 10000000 in
theorem piece_in : each2 (fun a b => chk .nrm Gin ids [k2] frL fr13 [] [] (fullS a b) (fullS a b)) = true := by decide +kernel
set_option maxRecDepth 10000000 in
theorem run_no : each2 (fun a b => chk .nrm Gno ((10, lin 2 0) :: ids) [k2] frL fr13 [] [] (fullS a b) (fullS a b)) = true := by decide +kernel
set_option maxRecDepth 10000000 in
theorem run_per1 : each2 (fun a b => chk .nrm (Gper true) ((5, J 0) :: ids) k3 fr13 frN [] [] (fullS a b) (fullS a b)) = true := by decide +kernel
set_option maxRecDepth 10000000 in
theorem run_per0 : each2 (fun a b => chk .nrm (Gper false) ids k3 fr13 frN [] [] (fullS a b) (fullS a b)) = true := by decide +kernel
set_option maxRecDepth 10000000 in
theorem run_inc : each2 (fun a b => chk .nrm Γ0 ((2, sNext) :: (16, lin 16 1) :: ids) [incI] frN frL [] [] (fullS a b) (fullS a b)) = true := by decide +kernel
set_option maxRecDepth 10000000 in
theorem run5_stays : each2 (fun a b => match isOut a, isOut b with
    | false, false => (match run5 0 a b false false with | true => run5 1 a b false false | false => false)
    | true, false => (match run5 0 a b false false, run5 0 a b false true with | true, true => run5 1 a b false false | _, _ => false)
    | false, true => (match run5 0 a b false false, run5 1 a b false true with | true, true => run5 1 a b false false | _, _ => false)
    | true, true => (match run5 0 a b false false, run5 0 a b false true, run5 1 a b false true with | true, true, true => run5 1 a b false false | _, _, _ => false)) = true := by decide +kernel
set_option maxRecDepth 10000000 in
theorem run5_goes : each (fun b => match run5 0 4 b true true with | true => run5 1 b 4 true true | false => false) = true := by decide +kernel
set_option maxRecDepth 10000000 in
theorem nodups : each2 (fun a b => match nodupP (names (fullS a b)) with
    | true => nodupP (names (full (isOut a) (isOut b) a b ++ xB true))
    | false => false) = true := by decide +kernel
end Go.Proofs.YtckeidfhhobmcaaGreatDoor
