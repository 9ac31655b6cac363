/-
  The piece that sends, as the kernel is to evaluate it.
-/
import Derived.Test.YtckeidfhhobmcaaGreatDoorLight
namespace Go.Proofs.YtckeidfhhobmcaaGreatDoor
open Go Go.Ev

noncomputable section
def outF (c s s' : Nat) : List (Pth × O) := match c with | 0 => outB (isOut s) (isOut s') | _ => outB (isOut s') (isOut s)
/-- the other connection -/
def oth (c : Nat) : Nat := match c with | 0 => 1 | _ => 0
def rest4 (c s s' : Nat) : List (Pth × O) := outF c s s' ++ conn (oth c) s'
def ev4 (c s m mode : Nat) (ft : Bool) : Out := evChain (calG (G4 c m mode ft)) (G4 c m mode ft) 1000000 (irs Tryz.prog lawU lawN k4) (regsOf frN) (hp (cmn ++ conn c s)) n0
def fit4 (c s m mode : Nat) (ft : Bool) (s' : Nat) (o : Out) : Bool :=
  kfits .nrm ps (asg4 c s m mode ft) spec (frame4 c (goesS s ft)) (cmn ++ (conn c (newS s m ft) ++ xB (goesS s ft))) (rest4 c s s') (rest4 c s s') (cmn ++ conn c s) o
def run4 (c s m mode : Nat) (ft : Bool) : Bool := each fun s' => fit4 c s m mode ft s' (ev4 c s m mode ft)
def both4 (c s m mode : Nat) : Bool := match run4 c s m mode true, m with | true, 0 => true | true, _ => run4 c s m mode false | false, _ => false
def nine (f : Nat → Bool) : Bool := match f 0, f 1, f 2, f 3, f 4, f 5, f 6, f 7, f 8 with | true, true, true, true, true, true, true, true, true => true | _, _, _, _, _, _, _, _, _ => false
end
theorem nine_ok {f : Nat → Bool} (h : nine f = true) {a : Nat} (ha : a < 9) : f a = true := by
  unfold nine at h
  split at h <;> try (cases h; done)
  rename_i h0 h1 h2 h3 h4 h5 h6 h7 h8
  match a, ha with
  | 0, _ => exact h0
  | 1, _ => exact h1
  | 2, _ => exact h2
  | 3, _ => exact h3
  | 4, _ => exact h4
  | 5, _ => exact h5
  | 6, _ => exact h6
  | 7, _ => exact h7
  | 8, _ => exact h8
end Go.Proofs.YtckeidfhhobmcaaGreatDoor
