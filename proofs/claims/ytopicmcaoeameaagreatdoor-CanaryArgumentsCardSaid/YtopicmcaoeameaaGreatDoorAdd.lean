/-
  The names that were seen: add, walked, at a name that is well-formed and new.
-/
import Derived.Test.YtopicmcaoeameaaGreatDoorCollect
namespace Go.Proofs.YtopicmcaoeameaaGreatDoor
open Go Go.Ev Go.RowKit Go.Smap

/-- isName says yes -/
def IsName (s : ByteArray) : Prop := ∀ w : World, Calls Tryz.prog 53 #[.string s] w fun e w' => e = .returned (.bool true) ∧ Below w.heap.size w w'
theorem zero4' (w : World) : (zeroValue 4).run Tryz.prog w = .ok (.bool false) w := by kernel_rfl
set_option maxRecDepth 1000000 in
theorem add_walk {w : World} {B n : Nat} {f : ByteArray → Option Value} (h : IsMap w B n f) (hn : n ≤ 1000) {s : ByteArray} (hs : s.size ≤ maxLen) (hname : IsName s) (hnew : f s = none) :
    Calls Tryz.prog 38 #[.map (some B), .string s] w fun e w' => e = .returned (.int .i64 0) ∧ But B w w' ∧ IsMap w' B (n + 1) (fun u => if u = s then some (.bool true) else f u) := by
  have hnm := hname w
  go_enter Tryz.func38, Tryz.ntmps38
  go_wp2_with (first
    | (go_at_call 53; refine hnm.mono ?_; rintro _ w1 ⟨rfl, hb1⟩; have hm1 := h.same (hb1.block B h.lt); have hl : (Instr.lookup 96 (.map (some B)) (.string s) false).run Tryz.prog w1 = .ok (.bool false) w1 := by { have := hm1.lookup Tryz.underlying96 Tryz.underlying9 (zero4' w1) hs; rw [hnew] at this; exact this }; obtain ⟨o, hrun, hmap⟩ := hm1.update (by unfold maxLen; omega) Tryz.underlying96 Tryz.underlying9 hs (.bool true))
    | go_in)
  go_ret
  exact ⟨rfl, ⟨hb1.os, hb1.tape, hb1.output, by simp [ChangeMaps.setBlock]; exact hb1.size, fun k hk hne => (setBlock_other hne).trans (hb1.block k hk)⟩, hmap⟩
end Go.Proofs.YtopicmcaoeameaaGreatDoor
