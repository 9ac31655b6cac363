/-
  The rules that are made from numbers: Pick, Few and rules, walked.
-/
import Derived.Test.YtopicmcaoeameaaGreatDoorWords
namespace Go.Proofs.YtopicmcaoeameaaGreatDoor
open Go Go.Ev Go.RowKit

/-- an argument that is a slice of numbers -/
structure SlArg (w : World) (x : Value) (l : List Int) : Prop where
  val : ∃ a c, x = .slice a l.length c ∧ (l ≠ [] → ∃ b off, a = some ⟨b, off, none⟩ ∧ b < w.heap.size ∧ ∀ (i : Nat) (z : Int), l[i]? = some z → w.cell? ⟨b, off + i, none⟩ = some (.int .i64 z))
  len : l.length ≤ 9223372036854775807
  bd : ∀ z ∈ l, -9223372036854775808 ≤ z ∧ z ≤ 9223372036854775807
theorem SlArg.below {w w' : World} {x : Value} {l : List Int} (h : SlArg w x l) (hb : Below w.heap.size w w') : SlArg w' x l := by
  obtain ⟨a, c, hx, h1⟩ := h.val
  refine ⟨⟨a, c, hx, fun hl => ?_⟩, h.len, h.bd⟩
  obtain ⟨b, off, ha, hb1, h2⟩ := h1 hl
  exact ⟨b, off, ha, Nat.lt_of_lt_of_le hb1 hb.size, fun i z hz => (hb.cell (p := ⟨b, off + i, none⟩) hb1).trans (h2 i z hz)⟩
set_option maxRecDepth 1000000 in
theorem around_walk (z : Int) (m : Nat) (w : World) (hm : 0 < m) (h1 : -9223372036854775808 ≤ z) (h2 : z ≤ 9223372036854775807) (h3 : (m : Int) ≤ 1000000) :
    Calls Tryz.prog 18 #[.int .i64 z, .int .i64 (m : Int)] w fun e w' => e = .returned (.int .i64 (arnd z m)) ∧ w' = w := by
  go_enter Tryz.func18, Tryz.ntmps18
  go_wp2
  · rename_i hn
    go_ret
    refine ⟨?_, rfl⟩
    unfold arnd
    rw [if_pos hn, ← Int.neg_tmod, Int.tmod_eq_emod_of_nonneg (by omega)]; rfl
  · rename_i hn
    go_ret
    refine ⟨?_, rfl⟩
    unfold arnd
    rw [if_neg (by omega)]; rfl
def pickZ (l : List Int) (i m : Nat) : Int := match l[i]? with | some z => arnd z m | none => 0
theorem pickZ_bd (l : List Int) (i : Nat) {m : Nat} (hm : 0 < m) : 0 ≤ pickZ l i m ∧ pickZ l i m < m := by
  unfold pickZ
  split
  · unfold arnd
    exact ⟨Int.emod_nonneg _ (by omega), Int.emod_lt_of_pos _ (by omega)⟩
  · omega
set_option maxRecDepth 1000000 in
theorem pick_walk {w : World} {x : Value} {l : List Int} (h : SlArg w x l) (i m : Nat) (hi : i ≤ 1000) (hm : 0 < m) (hm2 : (m : Int) ≤ 1000000) :
    Calls Tryz.prog 41 #[x, .int .i64 (i : Int), .int .i64 (m : Int)] w fun e w' => e = .returned (.int .i64 (pickZ l i m)) ∧ Below w.heap.size w w' := by
  obtain ⟨a, c, rfl, h1⟩ := h.val
  have hlen := h.len
  obtain ⟨X, hX⟩ : ∃ X, pickZ l i m = X := ⟨_, rfl⟩
  rw [hX]
  by_cases hil : i < l.length
  · obtain ⟨b, off, rfl, hb, h2⟩ := h1 (by intro e; rw [e] at hil; simp at hil)
    have hc := h2 i l[i] (List.getElem?_eq_getElem hil)
    have hbd := h.bd l[i] (List.getElem_mem hil)
    have hx : X = arnd l[i] m := by rw [← hX, pickZ, List.getElem?_eq_getElem hil]
    subst hx
    clear hX
    obtain ⟨z, hz⟩ : ∃ z, l[i] = z := ⟨_, rfl⟩
    rw [hz] at hc hbd ⊢
    clear hz h1 h2
    have ha := fun w' => around_walk z m w' hm hbd.1 hbd.2 hm2
    go_enter Tryz.func41, Tryz.ntmps41
    go_wp2_with (first
      | (go_at_call 18; refine (ha _).mono ?_; rintro _ w1 ⟨rfl, rfl⟩)
      | go_in)
    go_ret
    exact ⟨rfl, Below.refl _ _⟩
  · have hx : X = 0 := by rw [← hX, pickZ, List.getElem?_eq_none (by omega)]
    subst hx
    clear hX
    go_enter Tryz.func41, Tryz.ntmps41
    go_wp2_with fail
    go_ret
    exact ⟨rfl, Below.refl _ _⟩
end Go.Proofs.YtopicmcaoeameaaGreatDoor
