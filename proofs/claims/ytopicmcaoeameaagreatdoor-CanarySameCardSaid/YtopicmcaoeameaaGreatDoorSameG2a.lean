/-
  First's contract at every text of the law's symbols.
-/
import Derived.Test.YtopicmcaoeameaaGreatDoorSameG1a
import Derived.Test.YtopicmcaoeameaaGreatDoorSameG1c
import Derived.Test.YtopicmcaoeameaaGreatDoorTree0Z
import Derived.Test.YtopicmcaoeameaaGreatDoorTree1Z
import Derived.Test.YtopicmcaoeameaaGreatDoorTree2aZ
import Derived.Test.YtopicmcaoeameaaGreatDoorTree2bZ
import Derived.Test.YtopicmcaoeameaaGreatDoorTree2cZ
import Derived.Test.YtopicmcaoeameaaGreatDoorTree3aZ
import Derived.Test.YtopicmcaoeameaaGreatDoorTree3bZ
import Derived.Test.YtopicmcaoeameaaGreatDoorTree3cZ
import Derived.Test.YtopicmcaoeameaaGreatDoorTree3dZ
import Derived.Test.YtopicmcaoeameaaGreatDoorTree4Z
import Derived.Test.YtopicmcaoeameaaGreatDoorTree5Z
import Derived.Test.YtopicmcaoeameaaGreatDoorTree7aZ
import Derived.Test.YtopicmcaoeameaaGreatDoorTree7bZ
import Derived.Test.YtopicmcaoeameaaGreatDoorTree7cZ
import Derived.Test.YtopicmcaoeameaaGreatDoorTree6aZ
import Derived.Test.YtopicmcaoeameaaGreatDoorTree6bZ
import Derived.Test.YtopicmcaoeameaaGreatDoorTree6cZ
import Derived.Test.YtopicmcaoeameaaGreatDoorTree6dZ
import Derived.Test.YtopicmcaoeameaaGreatDoorTree6eZ
import Derived.Test.YtopicmcaoeameaaGreatDoorTree6fZ
import Derived.Test.YtopicmcaoeameaaGreatDoorTree6gZ
import Derived.Test.YtopicmcaoeameaaGreatDoorTree6hZ
namespace Go.Proofs.YtopicmcaoeameaaGreatDoor
open Go Go.Ev Go.RowKit

theorem syms_bd : ∀ x ∈ syms, 0 ≤ x ∧ x ≤ 255 := by decide
theorem all_at {p : Nat → Bool} {n : Nat} (h : (List.range (n + 1)).all p = true) : ∀ a ≤ n, p a = true := fun a ha => List.all_eq_true.1 h a (List.mem_range.2 (by omega))
theorem five {p : Nat → Prop} (h1 : p 1) (h2 : p 2) (h3 : p 3) (h4 : p 4) (h5 : p 5) {n : Nat} (ha : 1 ≤ n) (hb : n ≤ 5) : p n := by
  obtain rfl | rfl | rfl | rfl | rfl : n = 1 ∨ n = 2 ∨ n = 3 ∨ n = 4 ∨ n = 5 := by omega
  · exact h1
  · exact h2
  · exact h3
  · exact h4
  · exact h5
theorem at_ro {k : Nat} (hk : k < 12) (h3 : k ≠ 3) (h6 : k ≠ 6) (htr : ∀ n, 1 ≤ n → n ≤ 5 → ∀ a ≤ n, tree k n a = true) {t : List Int} (h1 : 1 ≤ t.length) (h5 : t.length ≤ 5) (hb : ∀ x ∈ t, 0 ≤ x ∧ x ≤ 255) : ∃ G, FirstAt k t.length t G := by
  obtain ⟨R, hR⟩ := first_ro hk h3 h6 (htr t.length h1 h5) h1 h5 rfl hb
  exact ⟨goR R t.length, fun f => goR_err R t.length _ f (Nat.le_refl _), fun M lo hi w pb tb tc base from' a1 a2 a3 a4 a5 a6 a7 _ => hR M lo hi w pb tb tc base from' a1 a2 a3 a4 a5 a6 a7⟩
theorem at_m (htr : ∀ n, 1 ≤ n → n ≤ 5 → ∀ a ≤ n, treeM n a = true) {t : List Int} (h1 : 1 ≤ t.length) (h5 : t.length ≤ 5) (hb : ∀ x ∈ t, 0 ≤ x ∧ x ≤ 255) : ∃ G, FirstAt 3 t.length t G := by
  obtain ⟨R, hR⟩ := first_m (htr t.length h1 h5) h1 h5 rfl hb
  exact ⟨goR R t.length, fun f => goR_err R t.length _ f (Nat.le_refl _), fun M lo hi w pb tb tc base from' a1 a2 a3 a4 a5 a6 a7 _ => hR M lo hi w pb tb tc base from' a1 a2 a3 a4 a5 a6 a7⟩
theorem tree0 : ∀ n, 1 ≤ n → n ≤ 5 → ∀ a ≤ n, tree 0 n a = true := fun n ha hb => five (p := fun n => ∀ a ≤ n, tree 0 n a = true) (all_at tree_0_1) (all_at tree_0_2) (all_at tree_0_3) (all_at tree_0_4) (all_at tree_0_5) ha hb
theorem tree1 : ∀ n, 1 ≤ n → n ≤ 5 → ∀ a ≤ n, tree 1 n a = true := fun n ha hb => five (p := fun n => ∀ a ≤ n, tree 1 n a = true) (all_at tree_1_1) (all_at tree_1_2) (all_at tree_1_3) (all_at tree_1_4) (all_at tree_1_5) ha hb
theorem tree2 : ∀ n, 1 ≤ n → n ≤ 5 → ∀ a ≤ n, tree 2 n a = true := fun n ha hb => five (p := fun n => ∀ a ≤ n, tree 2 n a = true) (all_at tree_2_1) (all_at tree_2_2) (all_at tree_2_3) (all_at tree_2_4) (all_at tree_2_5) ha hb
theorem tree3 : ∀ n, 1 ≤ n → n ≤ 5 → ∀ a ≤ n, treeM n a = true := fun n ha hb => five (p := fun n => ∀ a ≤ n, treeM n a = true) (all_at tree_3_1) (all_at tree_3_2) (all_at tree_3_3) (all_at tree_3_4) (all_at tree_3_5) ha hb
theorem tree4 : ∀ n, 1 ≤ n → n ≤ 5 → ∀ a ≤ n, tree 4 n a = true := fun n ha hb => five (p := fun n => ∀ a ≤ n, tree 4 n a = true) (all_at tree_4_1) (all_at tree_4_2) (all_at tree_4_3) (all_at tree_4_4) (all_at tree_4_5) ha hb
theorem tree5 : ∀ n, 1 ≤ n → n ≤ 5 → ∀ a ≤ n, tree 5 n a = true := fun n ha hb => five (p := fun n => ∀ a ≤ n, tree 5 n a = true) (all_at tree_5_1) (all_at tree_5_2) (all_at tree_5_3) (all_at tree_5_4) (all_at tree_5_5) ha hb
theorem tree7 : ∀ n, 1 ≤ n → n ≤ 5 → ∀ a ≤ n, tree 7 n a = true := fun n ha hb => five (p := fun n => ∀ a ≤ n, tree 7 n a = true) (all_at tree_7_1) (all_at tree_7_2) (all_at tree_7_3) (all_at tree_7_4) (all_at tree_7_5) ha hb
theorem treeB_50 : treeB 5 0 = true := by
  refine List.all_eq_true.2 fun b hb => ?_
  obtain ⟨l, hl, hm⟩ := List.mem_flatMap.1 (show b ∈ (bitsAll 4).flatMap fun l => [true :: l, false :: l] from hb)
  simp only [List.mem_cons, List.not_mem_nil, or_false] at hm
  show chkB 5 0 b = true
  rcases hm with rfl | rfl
  · exact List.all_eq_true.1 treeB_50t l hl
  · exact List.all_eq_true.1 treeB_50f l hl
theorem treeB_all : ∀ n, 1 ≤ n → n ≤ 5 → ∀ f ≤ n, treeB n f = true := fun n ha hb => five (p := fun n => ∀ f ≤ n, treeB n f = true)
  (all_at treeB_1) (all_at treeB_2) (all_at treeB_3)
  (fun f hf => by
    obtain rfl | rfl | rfl | rfl | rfl : f = 0 ∨ f = 1 ∨ f = 2 ∨ f = 3 ∨ f = 4 := by omega
    · exact treeB_40
    · exact treeB_41
    · exact treeB_42
    · exact treeB_43
    · exact treeB_44)
  (fun f hf => by
    obtain rfl | rfl | rfl | rfl | rfl | rfl : f = 0 ∨ f = 1 ∨ f = 2 ∨ f = 3 ∨ f = 4 ∨ f = 5 := by omega
    · exact treeB_50
    · exact treeB_51
    · exact treeB_52
    · exact treeB_53
    · exact treeB_54
    · exact treeB_55) ha hb
theorem at_k (k : Nat) (hk : k < 8) {t : List Int} (h1 : 1 ≤ t.length) (h5 : t.length ≤ 5) (hb : ∀ x ∈ t, 0 ≤ x ∧ x ≤ 255) : ∃ G, FirstAt k t.length t G := by
  obtain rfl | rfl | rfl | rfl | rfl | rfl | rfl | rfl : k = 0 ∨ k = 1 ∨ k = 2 ∨ k = 3 ∨ k = 4 ∨ k = 5 ∨ k = 6 ∨ k = 7 := by omega
  · exact at_ro (by decide) (by decide) (by decide) tree0 h1 h5 hb
  · exact at_ro (by decide) (by decide) (by decide) tree1 h1 h5 hb
  · exact at_ro (by decide) (by decide) (by decide) tree2 h1 h5 hb
  · exact at_m tree3 h1 h5 hb
  · exact at_ro (by decide) (by decide) (by decide) tree4 h1 h5 hb
  · exact at_ro (by decide) (by decide) (by decide) tree5 h1 h5 hb
  · exact first_o treeB_all h1 h5 hb
  · exact at_ro (by decide) (by decide) (by decide) tree7 h1 h5 hb
theorem firstLaw : FirstLaw := fun t h1 h5 hs => by
  have hb : ∀ x ∈ t, 0 ≤ x ∧ x ≤ 255 := fun x hx => syms_bd x (hs x hx)
  have hk : ∀ k, ∃ G : Nat → FR, (∀ f, (G f).err = 0) ∧ (k < 8 → FirstAt k t.length t G) := fun k => by
    by_cases h8 : k < 8
    · obtain ⟨G, hG⟩ := at_k k h8 h1 h5 hb
      exact ⟨G, fun f => (hG.1 f).1, fun _ => hG⟩
    · exact ⟨fun _ => ⟨0, 0, false, 0⟩, fun _ => rfl, fun h => absurd h h8⟩
  obtain ⟨F, hF⟩ := Classical.axiomOfChoice hk
  refine ⟨F, fun k f => (hF k).1 f, fun M lo hi w rs tb tc base hMw hhi hk8 htb htm htx w1 hb1 r hr pb hl from' hfr hrch => ?_⟩
  obtain ⟨a1, a2⟩ := (hF r.k).2 (hk8 r hr)
  exact ⟨fun _ hok => (a1 from').2 hok, a2 M lo hi w1 pb tb tc base from' (fun c hc => Nat.lt_of_lt_of_le (hMw c hc) hb1.size) hl (Nat.le_trans hhi hb1.size) htb htm (owns_bel1 htx hb1 (fun g hg => by cases hg; exact htm)) hfr hrch⟩
end Go.Proofs.YtopicmcaoeameaaGreatDoor
