/-
  The check of a node, walked at nodes that a generator makes.
-/
import Derived.Test.YtdacamjpcdbphaaGreatDoorBytG0b
namespace Go.Proofs.YtdacamjpcdbphaaGreatDoor
open Go Go.RowKit

/-- the answer of a call that only makes new blocks -/
def SomeBool (w : World) (e : Ending) (w' : World) : Prop := ∃ b : Bool, e = .returned (.bool b) ∧ Below w.heap.size w w'
theorem SomeBool.after {w : World} {o : Obj} {w1 : World} (h : Below (w.alloc o).heap.size (w.alloc o) w1) : Below w.heap.size w w1 :=
  ((Below.refl _ w).alloc (Nat.le_refl _) o).trans (h.mono (by simp))
set_option maxHeartbeats 8000000 in
set_option maxRecDepth 1000000 in
theorem node_walk {w : World} {B : Nat → Prop} {t : VT} (hT : TreeAt w B t) (caps top : Int) (ht : 255 ≤ top) :
    Calls Tryz.prog 84 #[t.val, .int .i64 caps, .int .i64 top] w (SomeBool w) := by
  have hN := hT.node
  obtain ⟨op, set, kidv, mn, mx, mo, n, neg, spans, kids⟩ := t
  have hK : SeesT w kidv kids := hT.kids
  have hS : SeesP w set spans := hT.set
  obtain ⟨A, cp, rfl, -, -⟩ := hK.shape
  obtain ⟨A2, cp2, rfl, -, -⟩ := hS.shape
  have hN' : Shape op mn mx mo n neg spans kids.length := hN
  have hsp := fun (o : Obj) (hl : spans ∈ sets8) => spans_walk (hS.bel ((Below.refl _ w).alloc (Nat.le_refl _) o)) hl top ht
  have hval : VT.val (.mk op (.slice A2 spans.length cp2) (.slice A kids.length cp) mn mx mo n neg spans kids) = .agg #[.int .i64 op, .slice A2 spans.length cp2, .slice A kids.length cp, .int .i64 mn, .int .i64 mx, .int .i64 mo, .int .i64 n, .bool neg] := rfl
  rw [hval]
  clear hN hK hS hT hval
  obtain ⟨m, hm⟩ : ∃ m, kids.length = m := ⟨_, rfl⟩
  rw [hm] at hN' ⊢
  clear hm
  cases hN'
  case set hl =>
    have hsp' := fun o => hsp o hl
    clear hsp
    go_enter Tryz.func84, Tryz.ntmps84
    go_wp2_with (first
      | (go_at_call 104; refine (hsp' _).mono ?_; rintro _ w1 ⟨rfl, hB1⟩; have hb0 := (Blk.made w 51 #[.int .i64 1, .slice A2 spans.length cp2, .slice A 0 cp, .int .i64 0, .int .i64 0, .int .i64 0, .int .i64 0, .bool false]).bel hB1 (by simp); have r0 := hb0.at' 0; have r1 := hb0.at' 1; have r2 := hb0.at' 2; have r3 := hb0.at' 3; have r4 := hb0.at' 4; have r5 := hb0.at' 5; have r6 := hb0.at' 6; have r7 := hb0.at' 7; simp at r0 r1 r2 r3 r4 r5 r6 r7)
      | go_in)
    all_goals
      go_ret
      exact ⟨_, rfl, SomeBool.after hB1⟩
  all_goals
    clear hsp
    go_enter Tryz.func84, Tryz.ntmps84
    go_wp2
    all_goals
      go_ret
      exact ⟨_, rfl, (Below.refl _ _).alloc (Nat.le_refl _) _⟩
end Go.Proofs.YtdacamjpcdbphaaGreatDoor
