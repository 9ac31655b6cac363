/-
  First at a plan of the list and the text [97, x], evaluated: by classes of x.
-/
import Derived.Test.YtopicmcaoeameaaGreatDoorFound
namespace Go.Proofs.YtopicmcaoeameaaGreatDoor
open Go Go.Ev Go.RowKit

/-- a text's cell: a number between two bounds -/
def cellV (i : Nat) (c : Int × Int) : V := match ieq c.1 c.2 with | true => .int .i64 c.1 | false => .sym i .i64 c.1 c.2
/-- the classes of numbers that First tells apart here -/
def bnd (c : Nat) : Int × Int := match c with | 0 => (-9223372036854775808, -1) | 1 => (0, 96) | 2 => (97, 97) | 3 => (98, 98) | 4 => (99, 99) | 5 => (100, 255) | _ => (256, 9223372036854775807)
def cls (x : Int) : Nat := if x < 0 then 0 else if x < 97 then 1 else if x = 97 then 2 else if x = 98 then 3 else if x = 99 then 4 else if x < 256 then 5 else 6
theorem cls_lt (x : Int) : cls x < 7 := by
  unfold cls
  repeat' split
  all_goals omega
noncomputable def cellsX (c : Nat) : List V := [.int .i64 97, cellV 1 (bnd c)]
noncomputable def gloF (k c : Nat) : Glo := ⟨fun _ => [], [], [], plan k ++ [(nT, cellsX c)]⟩
/-- what First gives: start, end, found, error -/
noncomputable def firstV (k c f : Nat) : Option (Int × Int × Bool × Int) :=
  match (calOf (gloF k c)).fn 30 [.ptr (root k) 0, .sl nT 0 2 2 1, .int .i64 f, .int .i64 2000] .nil n1 with
  | .ok (.tup [.agg [.int .i64 s, .int .i64 e, v], .bool ok, .int .i64 err]) H _ => (match freeH H (nT :: (plan k).map (·.1)) with | true => (match isSl v with | true => some (s, e, ok, err) | false => none) | false => none)
  | _ => none
/-- is the machine as it was, but for what a run leaves? -/
noncomputable def machOK (H : Heap) : Bool := match H.get nMach with
  | some (.cells l) => (match veq 1000 (.agg (l.take 14)) (.agg (mach0.take 14)) with | true => Nat.beq l.length 19 | false => false)
  | _ => false
noncomputable def gloM (c : Nat) : Glo := ⟨fun _ => [], [], [], ro3 ++ [(nT, cellsX c)]⟩
noncomputable def HM : Heap := (Tr.nil : Heap).set nMach (O.cells mach0)
/-- what First gives at the text of rules 3, whose plan holds a machine -/
noncomputable def firstM (c f : Nat) : Option (Int × Int × Bool × Int) :=
  match (calOf (gloM c)).fn 30 [.ptr (root 3) 0, .sl nT 0 2 2 1, .int .i64 f, .int .i64 2000] HM n1 with
  | .ok (.tup [.agg [.int .i64 s, .int .i64 e, v], .bool ok, .int .i64 err]) H _ => (match freeH H (nT :: ro3.map (·.1)) with | true => (match isSl v with | true => (match machOK H with | true => some (s, e, ok, err) | false => none) | false => none) | false => none)
  | _ => none
noncomputable def firstR (k c f : Nat) : Option (Int × Int × Bool × Int) := match Nat.beq k 3 with | true => firstM c f | false => firstV k c f
/-- First gives something, within the text if it finds -/
noncomputable def chkF (k c f : Nat) : Bool := match firstR k c f with
  | some (s, _, ok, err) => (match ieq err 0 with | true => (match ok with | true => decide ((f : Int) ≤ s) && decide (s ≤ 2) | false => true) | false => true)
  | none => false
noncomputable def chkFs (k f : Nat) : Bool := chkF k 0 f && (chkF k 1 f && (chkF k 2 f && (chkF k 3 f && (chkF k 4 f && (chkF k 5 f && chkF k 6 f)))))
theorem chkFs_at {k f : Nat} (h : chkFs k f = true) : ∀ c, c < 7 → chkF k c f = true := by
  unfold chkFs at h
  simp only [Bool.and_eq_true] at h
  obtain ⟨h0, h1, h2, h3, h4, h5, h6⟩ := h
  intro c hc
  match c, hc with
  | 0, _ => exact h0
  | 1, _ => exact h1
  | 2, _ => exact h2
  | 3, _ => exact h3
  | 4, _ => exact h4
  | 5, _ => exact h5
  | 6, _ => exact h6
  | n + 7, h => exact absurd h (by omega)
end Go.Proofs.YtopicmcaoeameaaGreatDoor
