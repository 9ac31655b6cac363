/-
  (*Set).Rules, walked.
-/
import Derived.Test.YtopicmcaoeameaaGreatDoorMach
import Derived.Tactics
import Derived.Tactics2
import Derived.StillTactics
import Derived.WalkKit
namespace Go.Proofs.YtopicmcaoeameaaGreatDoor
open Go Go.Ev Go.RowKit

/-- but for block cb all that was there is as it was -/
structure But (cb : Nat) (w w' : World) : Prop where
  os : w'.os = w.os
  tape : w'.tape = w.tape
  output : w'.output = w.output
  size : w.heap.size ≤ w'.heap.size
  block : ∀ k, k < w.heap.size → k ≠ cb → w'.heap[k]? = w.heap[k]?
theorem But.of {cb : Nat} {w w' : World} (h : Below w.heap.size w w') : But cb w w' := ⟨h.os, h.tape, h.output, h.size, fun k hk _ => h.block k hk⟩
theorem But.set {cb : Nat} {w w' : World} (h : But cb w w') (o : Nat) (v : Value) : But cb w (w'.setCell ⟨cb, o, none⟩ v) :=
  ⟨h.os, h.tape, h.output, by simp [World.setCell]; exact h.size, fun k hk hne => (Below.heap_setCell _ _ _ _ hne).trans (h.block k hk hne)⟩
theorem But.drew {cb : Nat} {w w' : World} (h : But cb w w') : But cb w w'.drew := ⟨h.os, h.tape, h.output, h.size, h.block⟩
/-- a rule: its name, its text (and which of the list that is) -/
structure Rl where
  name : ByteArray
  text : ByteArray
  k : Nat
/-- a rule's cells in []Rule -/
def Rl.cells (r : Rl) : List Value := [.string r.name, .string r.text, .bool false]
/-- block b is a set of the rules rs; its blocks lie from lo on and ahead of hi -/
structure SetAt (M : Nat → Prop) (lo hi : Nat) (w : World) (b : Nat) (rs : List Rl) : Prop where
  set : ∃ v : Value, w.cell? ⟨b, 0, none⟩ = some v ∧ lo ≤ b ∧ b < hi ∧ ¬ M b ∧
    ((rs = [] ∧ v = .slice none 0 0) ∨ ∃ ab cap, v = .slice (some ⟨ab, 0, none⟩) rs.length cap ∧ lo ≤ ab ∧ ab < hi ∧ ¬ M ab ∧
      ∀ (i : Nat) (r : Rl), rs[i]? = some r → ∃ pb, w.cell? ⟨ab, i * 4, none⟩ = some (.string r.name) ∧ w.cell? ⟨ab, i * 4 + 1, none⟩ = some (.string r.text) ∧ w.cell? ⟨ab, i * 4 + 2, none⟩ = some (.bool false) ∧
        w.cell? ⟨ab, i * 4 + 3, none⟩ = some (.pointer (some ⟨pb, 0, none⟩)) ∧ LaidM M r.k lo hi w pb)
/-- a new block's cells -/
theorem new_cells (w : World) (cs : Array Value) (t : TypeId) {a : Addr} {news : List Value} (hn : cs.toList = news) (ha : a = ⟨w.heap.size, 0, none⟩) {j : Nat} {u : Value} (hj : news[j]? = some u) : (w.alloc (.cells cs t)).cell? (a.add j) = some u := by
  subst hn; subst ha
  have e : (⟨w.heap.size, 0, none⟩ : Addr).add j = ⟨w.heap.size, j, none⟩ := by
    unfold Addr.add
    cases j <;> simp
  rw [e, World.cell?_alloc_new, ← Array.getElem?_toList]
  exact hj
theorem info62 : (Tryz.prog.info? 62).map (fun i => (i.zero, i.size, i.bytes)) = some (some (.agg #[.string ByteArray.empty, .string ByteArray.empty, .bool false]), 3, 40) := by kernel_rfl
set_option maxRecDepth 1000000 in
theorem rules_walk {M : Nat → Prop} {lo hi b : Nat} {w : World} {rs : List Rl} (hs : SetAt M lo hi w b rs) (hhi : hi ≤ w.heap.size) (hn : rs.length ≤ 100) :
    Calls Tryz.prog 23 #[.pointer (some ⟨b, 0, none⟩)] w fun e w' => ∃ v, e = .returned v ∧ w'.ownsRow w.heap.size 62 3 v rs.length (rs.flatMap Rl.cells) ∧ Below w.heap.size w w' := by
  obtain ⟨v, hv, hb1, hb2, hbm, hrest⟩ := hs.set
  obtain ⟨i0, hinf, hz0, hz1, hz2⟩ := info_parts info62
  rcases hrest with ⟨rfl, rfl⟩ | ⟨ab, cap, rfl, ha1, ha2, ham, hc⟩
  · go_enter Tryz.func23, Tryz.ntmps23
    go_wp2
    refine wp_loop_rounds 1 ?_
    rw [rounds_succ]
    go_wp2
    go_ret
    exact ⟨_, rfl, World.ownsRow_nil _ _ _ _, Below.refl _ _⟩
  · go_enter Tryz.func23, Tryz.ntmps23
    go_wp2
    go_loopw [3, 11] (fun v i wr => ∃ k : Nat, k ≤ rs.length ∧ i = .int .i64 k ∧ wr.ownsRow w.heap.size 62 3 v k ((rs.take k).flatMap Rl.cells) ∧ Below w.heap.size w wr) (fun _ i _ => rs.length - (intOf i).toNat)
    case atStart => exact ⟨0, Nat.zero_le _, rfl, World.ownsRow_nil _ _ _ _, Below.refl _ _⟩
    case round =>
      obtain ⟨k, hk, rfl, hown, hbel⟩ := hrel
      by_cases hkl : k < rs.length
      · obtain ⟨pb, c0, c1, c2, c3, _⟩ := hc k rs[k] (List.getElem?_eq_getElem hkl)
        have hab : ab < w.heap.size := by omega
        have c0' := (hbel.cell (p := ⟨ab, k * 4, none⟩) hab).trans c0
        have c1' := (hbel.cell (p := ⟨ab, k * 4 + 1, none⟩) hab).trans c1
        have c2' := (hbel.cell (p := ⟨ab, k * 4 + 2, none⟩) hab).trans c2
        have c3' := (hbel.cell (p := ⟨ab, k * 4 + 3, none⟩) hab).trans c3
        go_wp2_with (first
          | (at_builtin; refine wpList_append_own _ rfl _ _ 60 rfl w.heap.size 62 i0 _ 3 40 Tryz.underlying60 hinf hz0 hz1 hz2 rfl (by decide) _ _ _ rfl ((hown.alloc _).alloc _) ⟨wr.heap.size + 1, 0, none⟩ 1 1 [.string rs[k].name, .string rs[k].text, .bool false] rfl rfl ?c1 ?c2 ?c3 ?c4 ?c5 ?_)
          | go_in)
        case c1 =>
          intro j u hj
          exact new_cells (wr.alloc _) _ 62 rfl (by simp) hj
        case c2 => intro u hu; simp at hu; rcases hu with rfl | rfl | rfl <;> rfl
        case c3 => unfold maxLen; omega
        case c4 => omega
        case c5 => have := hbel.size; simp; omega
        · intro v' w1 hown' hgrow _
          go_wp2
          go_roundw
          case rel =>
            refine ⟨k + 1, hkl, by go_num, ?_, ?_⟩
            · rw [List.take_succ_eq_append_getElem hkl, List.flatMap_append]
              simpa [Rl.cells] using hown'
            · refine ((hbel.alloc hbel.size _).alloc (by simp; exact Nat.le_succ_of_le hbel.size) _).grown hgrow (by simp; have := hbel.size; omega) ?_
              intro g hg
              exact (World.ownsRow.lt hown g hg).1
          case measure => simp [intOf]; omega
      · have hke : k = rs.length := by omega
        subst hke
        go_wp2
        go_ret
        exact ⟨_, rfl, by simpa using hown, hbel⟩
end Go.Proofs.YtopicmcaoeameaaGreatDoor
