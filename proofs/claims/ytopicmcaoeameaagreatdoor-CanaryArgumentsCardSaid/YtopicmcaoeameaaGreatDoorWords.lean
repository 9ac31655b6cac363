/-
  The rules' names: Decimal and isName, evaluated.
-/
import Derived.Test.YtopicmcaoeameaaGreatDoorAdd
namespace Go.Proofs.YtopicmcaoeameaaGreatDoor
open Go Go.Ev Go.RowKit

noncomputable def chkDec (j : Nat) : Bool := match cal0.fn 44 [.int .i64 j] .nil .e with | .ok (.str s) _ _ => decide (s = [48 + j]) | _ => false
noncomputable def chkName (j : Nat) : Bool := match cal0.fn 53 [.str [110, 48 + j]] .nil .e with | .ok (.bool true) _ _ => true | _ => false
noncomputable def chkW (j : Nat) : Bool := chkDec j && chkName j
set_option maxRecDepth 1000000 in
theorem words : (chkW 0 && (chkW 1 && (chkW 2 && (chkW 3 && (chkW 4 && (chkW 5 && (chkW 6 && (chkW 7 && chkW 8)))))))) = true := by decide +kernel
theorem word_all : ∀ j, j < 9 → chkW j = true := by
  have h := words
  simp only [Bool.and_eq_true] at h
  obtain ⟨h0, h1, h2, h3, h4, h5, h6, h7, h8⟩ := h
  intro j hj
  match j, hj with
  | 0, _ => exact h0
  | 1, _ => exact h1
  | 2, _ => exact h2
  | 3, _ => exact h3
  | 4, _ => exact h4
  | 5, _ => exact h5
  | 6, _ => exact h6
  | 7, _ => exact h7
  | 8, _ => exact h8
  | n + 9, h => exact absurd h (by omega)
/-- the bytes of s -/
def Bytes (s : ByteArray) (l : List Nat) : Prop := s.data.toList.map UInt8.toNat = l
theorem dec_walk {j : Nat} (hj : j < 9) (w : World) : Calls Tryz.prog 44 #[.int .i64 (j : Int)] w fun e w' => ∃ s, e = .returned (.string s) ∧ Bytes s [48 + j] ∧ Below w.heap.size w w' := by
  have h := word_all j hj
  simp only [chkW, Bool.and_eq_true] at h
  obtain ⟨h, _⟩ := h
  unfold chkDec at h
  split at h
  · rename_i s H n h1
    have hs : s = [48 + j] := of_decide_eq_true h
    subst hs
    refine (call1 cal0_ok h1 (fun _ => 0) w _ (rels_one rfl)).mono fun e w1 he => ?_
    obtain ⟨x, ι, rfl, ⟨b, rfl, hb⟩, _, hbel, _⟩ := he
    exact ⟨b, rfl, hb, hbel⟩
  · cases h
theorem isName_of {j : Nat} (hj : j < 9) {s : ByteArray} (hs : Bytes s [110, 48 + j]) : IsName s := fun w => by
  have h := word_all j hj
  simp only [chkW, Bool.and_eq_true] at h
  obtain ⟨_, h⟩ := h
  unfold chkName at h
  split at h
  · rename_i H n h1
    refine (call1 cal0_ok h1 (fun _ => 0) w _ (rels_one ⟨s, rfl, hs⟩)).mono fun e w1 he => ?_
    obtain ⟨x, ι, rfl, hx, _, hbel, _⟩ := he
    have hx' : x = .bool true := hx
    subst hx'
    exact ⟨rfl, hbel⟩
  · cases h
theorem bytes_inj {s t : ByteArray} {l : List Nat} (h1 : Bytes s l) (h2 : Bytes t l) : s = t := by
  unfold Bytes at h1 h2
  rw [← h2] at h1
  have : s.data.toList = t.data.toList := (List.map_inj_right (fun a b h => UInt8.toNat_inj.1 h)).1 h1
  exact ByteArray.ext (Array.toList_inj.1 this)
theorem bytes_size {s : ByteArray} {l : List Nat} (h : Bytes s l) : s.size = l.length := by
  rw [← h, List.length_map, Array.length_toList]; rfl
end Go.Proofs.YtopicmcaoeameaaGreatDoor
