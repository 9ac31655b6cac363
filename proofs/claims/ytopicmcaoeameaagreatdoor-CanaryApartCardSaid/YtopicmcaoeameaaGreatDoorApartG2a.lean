/-
  First's contract at every text of the law's symbols.
  First's contract at every text of the law's symbols, for all twelve texts of rules.
  What a law over canaries keeps: sets, texts and canaries, while one canary sees a text.
  A second canary, made of the lists with a rule more: what stands, and what See of it does.
  The law CanaryApart, walked.
-/
import Derived.Test.YtopicmcaoeameaaGreatDoorApartG1a
import Derived.Test.YtopicmcaoeameaaGreatDoorApartG1c
import Derived.Test.YtopicmcaoeameaaGreatDoorTree0X
import Derived.Test.YtopicmcaoeameaaGreatDoorTree1X
import Derived.Test.YtopicmcaoeameaaGreatDoorTree2aX
import Derived.Test.YtopicmcaoeameaaGreatDoorTree2bX
import Derived.Test.YtopicmcaoeameaaGreatDoorTree2cX
import Derived.Test.YtopicmcaoeameaaGreatDoorTree3aX
import Derived.Test.YtopicmcaoeameaaGreatDoorTree3bX
import Derived.Test.YtopicmcaoeameaaGreatDoorTree3cX
import Derived.Test.YtopicmcaoeameaaGreatDoorTree3dX
import Derived.Test.YtopicmcaoeameaaGreatDoorTree4X
import Derived.Test.YtopicmcaoeameaaGreatDoorTree5X
import Derived.Test.YtopicmcaoeameaaGreatDoorTree7aX
import Derived.Test.YtopicmcaoeameaaGreatDoorTree7bX
import Derived.Test.YtopicmcaoeameaaGreatDoorTree7cX
import Derived.Test.YtopicmcaoeameaaGreatDoorTree6aX
import Derived.Test.YtopicmcaoeameaaGreatDoorTree6bX
import Derived.Test.YtopicmcaoeameaaGreatDoorTree6cX
import Derived.Test.YtopicmcaoeameaaGreatDoorTree6dX
import Derived.Test.YtopicmcaoeameaaGreatDoorTree6eX
import Derived.Test.YtopicmcaoeameaaGreatDoorTree6fX
import Derived.Test.YtopicmcaoeameaaGreatDoorTree6gX
import Derived.Test.YtopicmcaoeameaaGreatDoorTree6hX
import Derived.Test.YtopicmcaoeameaaGreatDoorTree8X
import Derived.Test.YtopicmcaoeameaaGreatDoorTree9X
import Derived.Test.YtopicmcaoeameaaGreatDoorTree10X
import Derived.Test.YtopicmcaoeameaaGreatDoorTree11X
import Derived.Test.YtopicmcaoeameaaGreatDoorApartG1b
import Derived.Test.YtopicmcaoeameaaGreatDoorApartG1d
import Derived.Deep.RegionHeld3
namespace Go.Proofs.YtopicmcaoeameaaGreatDoor
open Go Go.Ev Go.RowKit

theorem syms_bd : ∀ x ∈ syms, 0 ≤ x ∧ x ≤ 255 := by decide
theorem all_at {p : Nat → Bool} {n : Nat} (h : (List.range (n + 1)).all p = true) : ∀ a ≤ n, p a = true := fun a ha => List.all_eq_true.1 h a (List.mem_range.2 (by omega))
theorem five {p : Nat → Prop} (h1 : p 1) (h2 : p 2) (h3 : p 3) (h4 : p 4) (h5 : p 5) {n : Nat} (ha : 1 ≤ n) (hb : n ≤ 5) : p n := by
  obtain rfl | rfl | rfl | rfl | rfl : n = 1 ∨ n = 2 ∨ n = 3 ∨ n = 4 ∨ n = 5 := by omega
  · exact h1
  · exact h2
  · exact h3
  · exact h4
  · exact h5
theorem at_ro {k : Nat} (hk : k < 12) (h3 : k ≠ 3) (h6 : k ≠ 6) (htr : ∀ n, 1 ≤ n → n ≤ 5 → ∀ a ≤ n, tree k n a = true) {t : List Int} (h1 : 1 ≤ t.length) (h5 : t.length ≤ 5) (hb : ∀ x ∈ t, 0 ≤ x ∧ x ≤ 255) : ∃ G, FirstAt k t.length t G := by
  obtain ⟨R, hR⟩ := first_ro hk h3 h6 (htr t.length h1 h5) h1 h5 rfl hb
  exact ⟨goR R t.length, fun f => goR_err R t.length _ f (Nat.le_refl _), fun M lo hi w pb tb tc base from' a1 a2 a3 a4 a5 a6 a7 _ => hR M lo hi w pb tb tc base from' a1 a2 a3 a4 a5 a6 a7⟩
theorem at_m (htr : ∀ n, 1 ≤ n → n ≤ 5 → ∀ a ≤ n, treeM n a = true) {t : List Int} (h1 : 1 ≤ t.length) (h5 : t.length ≤ 5) (hb : ∀ x ∈ t, 0 ≤ x ∧ x ≤ 255) : ∃ G, FirstAt 3 t.length t G := by
  obtain ⟨R, hR⟩ := first_m (htr t.length h1 h5) h1 h5 rfl hb
  exact ⟨goR R t.length, fun f => goR_err R t.length _ f (Nat.le_refl _), fun M lo hi w pb tb tc base from' a1 a2 a3 a4 a5 a6 a7 _ => hR M lo hi w pb tb tc base from' a1 a2 a3 a4 a5 a6 a7⟩
theorem tree0 : ∀ n, 1 ≤ n → n ≤ 5 → ∀ a ≤ n, tree 0 n a = true := fun n ha hb => five (p := fun n => ∀ a ≤ n, tree 0 n a = true) (all_at tree_0_1) (all_at tree_0_2) (all_at tree_0_3) (all_at tree_0_4) (all_at tree_0_5) ha hb
theorem tree1 : ∀ n, 1 ≤ n → n ≤ 5 → ∀ a ≤ n, tree 1 n a = true := fun n ha hb => five (p := fun n => ∀ a ≤ n, tree 1 n a = true) (all_at tree_1_1) (all_at tree_1_2) (all_at tree_1_3) (all_at tree_1_4) (all_at tree_1_5) ha hb
theorem tree2 : ∀ n, 1 ≤ n → n ≤ 5 → ∀ a ≤ n, tree 2 n a = true := fun n ha hb => five (p := fun n => ∀ a ≤ n, tree 2 n a = true) (all_at tree_2_1) (all_at tree_2_2) (all_at tree_2_3) (all_at tree_2_4) (all_at tree_2_5) ha hb
theorem tree3 : ∀ n, 1 ≤ n → n ≤ 5 → ∀ a ≤ n, treeM n a = true := fun n ha hb => five (p := fun n => ∀ a ≤ n, treeM n a = true) (all_at tree_3_1) (all_at tree_3_2) (all_at tree_3_3) (all_at tree_3_4) (all_at tree_3_5) ha hb
theorem tree4 : ∀ n, 1 ≤ n → n ≤ 5 → ∀ a ≤ n, tree 4 n a = true := fun n ha hb => five (p := fun n => ∀ a ≤ n, tree 4 n a = true) (all_at tree_4_1) (all_at tree_4_2) (all_at tree_4_3) (all_at tree_4_4) (all_at tree_4_5) ha hb
theorem tree5 : ∀ n, 1 ≤ n → n ≤ 5 → ∀ a ≤ n, tree 5 n a = true := fun n ha hb => five (p := fun n => ∀ a ≤ n, tree 5 n a = true) (all_at tree_5_1) (all_at tree_5_2) (all_at tree_5_3) (all_at tree_5_4) (all_at tree_5_5) ha hb
theorem tree7 : ∀ n, 1 ≤ n → n ≤ 5 → ∀ a ≤ n, tree 7 n a = true := fun n ha hb => five (p := fun n => ∀ a ≤ n, tree 7 n a = true) (all_at tree_7_1) (all_at tree_7_2) (all_at tree_7_3) (all_at tree_7_4) (all_at tree_7_5) ha hb
theorem treeB_50 : treeB 5 0 = true := by
  refine List.all_eq_true.2 fun b hb => ?_
  obtain ⟨l, hl, hm⟩ := List.mem_flatMap.1 (show b ∈ (bitsAll 4).flatMap fun l => [true :: l, false :: l] from hb)
  simp only [List.mem_cons, List.not_mem_nil, or_false] at hm
  show chkB 5 0 b = true
  rcases hm with rfl | rfl
  · exact List.all_eq_true.1 treeB_50t l hl
  · exact List.all_eq_true.1 treeB_50f l hl
theorem treeB_all : ∀ n, 1 ≤ n → n ≤ 5 → ∀ f ≤ n, treeB n f = true := fun n ha hb => five (p := fun n => ∀ f ≤ n, treeB n f = true)
  (all_at treeB_1) (all_at treeB_2) (all_at treeB_3)
  (fun f hf => by
    obtain rfl | rfl | rfl | rfl | rfl : f = 0 ∨ f = 1 ∨ f = 2 ∨ f = 3 ∨ f = 4 := by omega
    · exact treeB_40
    · exact treeB_41
    · exact treeB_42
    · exact treeB_43
    · exact treeB_44)
  (fun f hf => by
    obtain rfl | rfl | rfl | rfl | rfl | rfl : f = 0 ∨ f = 1 ∨ f = 2 ∨ f = 3 ∨ f = 4 ∨ f = 5 := by omega
    · exact treeB_50
    · exact treeB_51
    · exact treeB_52
    · exact treeB_53
    · exact treeB_54
    · exact treeB_55) ha hb
theorem at_k (k : Nat) (hk : k < 8) {t : List Int} (h1 : 1 ≤ t.length) (h5 : t.length ≤ 5) (hb : ∀ x ∈ t, 0 ≤ x ∧ x ≤ 255) : ∃ G, FirstAt k t.length t G := by
  obtain rfl | rfl | rfl | rfl | rfl | rfl | rfl | rfl : k = 0 ∨ k = 1 ∨ k = 2 ∨ k = 3 ∨ k = 4 ∨ k = 5 ∨ k = 6 ∨ k = 7 := by omega
  · exact at_ro (by decide) (by decide) (by decide) tree0 h1 h5 hb
  · exact at_ro (by decide) (by decide) (by decide) tree1 h1 h5 hb
  · exact at_ro (by decide) (by decide) (by decide) tree2 h1 h5 hb
  · exact at_m tree3 h1 h5 hb
  · exact at_ro (by decide) (by decide) (by decide) tree4 h1 h5 hb
  · exact at_ro (by decide) (by decide) (by decide) tree5 h1 h5 hb
  · exact first_o treeB_all h1 h5 hb
  · exact at_ro (by decide) (by decide) (by decide) tree7 h1 h5 hb
theorem firstLaw : FirstLaw := fun t h1 h5 hs => by
  have hb : ∀ x ∈ t, 0 ≤ x ∧ x ≤ 255 := fun x hx => syms_bd x (hs x hx)
  have hk : ∀ k, ∃ G : Nat → FR, (∀ f, (G f).err = 0) ∧ (k < 8 → FirstAt k t.length t G) := fun k => by
    by_cases h8 : k < 8
    · obtain ⟨G, hG⟩ := at_k k h8 h1 h5 hb
      exact ⟨G, fun f => (hG.1 f).1, fun _ => hG⟩
    · exact ⟨fun _ => ⟨0, 0, false, 0⟩, fun _ => rfl, fun h => absurd h h8⟩
  obtain ⟨F, hF⟩ := Classical.axiomOfChoice hk
  refine ⟨F, fun k f => (hF k).1 f, fun M lo hi w rs tb tc base hMw hhi hk8 htb htm htx w1 hb1 r hr pb hl from' hfr hrch => ?_⟩
  obtain ⟨a1, a2⟩ := (hF r.k).2 (hk8 r hr)
  exact ⟨fun _ hok => (a1 from').2 hok, a2 M lo hi w1 pb tb tc base from' (fun c hc => Nat.lt_of_lt_of_le (hMw c hc) hb1.size) hl (Nat.le_trans hhi hb1.size) htb htm (owns_bel1 htx hb1 (fun g hg => by cases hg; exact htm)) hfr hrch⟩
end Go.Proofs.YtopicmcaoeameaaGreatDoor
namespace Go.Proofs.YtopicmcaoeameaaGreatDoor
open Go Go.Ev Go.RowKit

theorem tree8 : ∀ n, 1 ≤ n → n ≤ 5 → ∀ a ≤ n, tree 8 n a = true := fun n ha hb => five (p := fun n => ∀ a ≤ n, tree 8 n a = true) (all_at tree_8_1) (all_at tree_8_2) (all_at tree_8_3) (all_at tree_8_4) (all_at tree_8_5) ha hb
theorem tree9 : ∀ n, 1 ≤ n → n ≤ 5 → ∀ a ≤ n, tree 9 n a = true := fun n ha hb => five (p := fun n => ∀ a ≤ n, tree 9 n a = true) (all_at tree_9_1) (all_at tree_9_2) (all_at tree_9_3) (all_at tree_9_4) (all_at tree_9_5) ha hb
theorem tree10 : ∀ n, 1 ≤ n → n ≤ 5 → ∀ a ≤ n, tree 10 n a = true := fun n ha hb => five (p := fun n => ∀ a ≤ n, tree 10 n a = true) (all_at tree_10_1) (all_at tree_10_2) (all_at tree_10_3) (all_at tree_10_4) (all_at tree_10_5) ha hb
theorem tree11 : ∀ n, 1 ≤ n → n ≤ 5 → ∀ a ≤ n, tree 11 n a = true := fun n ha hb => five (p := fun n => ∀ a ≤ n, tree 11 n a = true) (all_at tree_11_1) (all_at tree_11_2) (all_at tree_11_3) (all_at tree_11_4) (all_at tree_11_5) ha hb
theorem at_k12 (k : Nat) (hk : k < 12) {t : List Int} (h1 : 1 ≤ t.length) (h5 : t.length ≤ 5) (hb : ∀ x ∈ t, 0 ≤ x ∧ x ≤ 255) : ∃ G, FirstAt k t.length t G := by
  by_cases h8 : k < 8
  · exact at_k k h8 h1 h5 hb
  · obtain rfl | rfl | rfl | rfl : k = 8 ∨ k = 9 ∨ k = 10 ∨ k = 11 := by omega
    · exact at_ro (by decide) (by decide) (by decide) tree8 h1 h5 hb
    · exact at_ro (by decide) (by decide) (by decide) tree9 h1 h5 hb
    · exact at_ro (by decide) (by decide) (by decide) tree10 h1 h5 hb
    · exact at_ro (by decide) (by decide) (by decide) tree11 h1 h5 hb
/-- First's contract at every text of the symbols, at all twelve texts of rules -/
def FirstLaw12 : Prop := ∀ t : List Int, 1 ≤ t.length → t.length ≤ 5 → (∀ x ∈ t, x ∈ syms) → ∃ F : Nat → Nat → FR, (∀ k f, (F k f).err = 0) ∧
  ∀ (M : Nat → Prop) (lo hi : Nat) (w : World) (rs : List Rl) (tb tc base : Nat), (∀ c, M c → c < w.heap.size) → hi ≤ w.heap.size → (∀ r ∈ rs, r.k < 12) → (tb < lo ∨ hi ≤ tb) → ¬ M tb → w.ownsRow base 3 1 (.slice (some ⟨tb, 0, none⟩) t.length tc) t.length (t.map (Value.int .i64)) →
    FirstOf M lo hi w (.slice (some ⟨tb, 0, none⟩) t.length tc) t.length 2000 F rs
theorem firstLaw12 : FirstLaw12 := fun t h1 h5 hs => by
  have hb : ∀ x ∈ t, 0 ≤ x ∧ x ≤ 255 := fun x hx => syms_bd x (hs x hx)
  have hk : ∀ k, ∃ G : Nat → FR, (∀ f, (G f).err = 0) ∧ (k < 12 → FirstAt k t.length t G) := fun k => by
    by_cases h8 : k < 12
    · obtain ⟨G, hG⟩ := at_k12 k h8 h1 h5 hb
      exact ⟨G, fun f => (hG.1 f).1, fun _ => hG⟩
    · exact ⟨fun _ => ⟨0, 0, false, 0⟩, fun _ => rfl, fun h => absurd h h8⟩
  obtain ⟨F, hF⟩ := Classical.axiomOfChoice hk
  refine ⟨F, fun k f => (hF k).1 f, fun M lo hi w rs tb tc base hMw hhi hk8 htb htm htx w1 hb1 r hr pb hl from' hfr hrch => ?_⟩
  obtain ⟨a1, a2⟩ := (hF r.k).2 (hk8 r hr)
  exact ⟨fun _ hok => (a1 from').2 hok, a2 M lo hi w1 pb tb tc base from' (fun c hc => Nat.lt_of_lt_of_le (hMw c hc) hb1.size) hl (Nat.le_trans hhi hb1.size) htb htm (owns_bel1 htx hb1 (fun g hg => by cases hg; exact htm)) hfr hrch⟩
end Go.Proofs.YtopicmcaoeameaaGreatDoor
namespace Go.Proofs.YtopicmcaoeameaaGreatDoor
open Go Go.Ev Go.RowKit Go.Smap

/-- sorted lists of the same names are the same -/
theorem names_eq {a b : List ByteArray} (sa : a.Pairwise fun x y => x.data.toList ≤ y.data.toList) (sb : b.Pairwise fun x y => x.data.toList ≤ y.data.toList) (na : a.Nodup) (nb : b.Nodup) (h : ∀ s, s ∈ a ↔ s ∈ b) : a = b := by
  refine List.Perm.eq_of_pairwise (fun x y _ _ h1 h2 => ?_) sa sb ((List.perm_ext_iff_of_nodup na nb).2 h)
  exact ByteArray.ext (Array.toList_inj.1 (List.le_antisymm h1 h2))
theorem differ_comm (ra rb : List Rl) (D1 D2 : List (Int × Int × Int)) (ns : List ByteArray) : differ rb ra D2 D1 ns = differ ra rb D1 D2 ns := by
  unfold differ
  congr 1
  funext s
  congr 1
  exact decide_eq_decide.2 eq_comm
/-- the constants of a law over canaries -/
structure Fix where
  w0 : World
  b1 : Nat
  b2 : Nat
  b3 : Nat
  b4 : Nat
  l1 : Nat
  u1 : Nat
  l2 : Nat
  u2 : Nat
  l3 : Nat
  u3 : Nat
  l4 : Nat
  u4 : Nat
  ra : List Rl
  rb : List Rl
  ev : Int
  mo : Int
  en : Int
  ns : List ByteArray
  tv : Value
  ts : List (Value × List Int)
  tb : Nat
/-- in no set's blocks -/
structure OutQ (Q : Fix) (k : Nat) : Prop where
  lo : Q.w0.heap.size ≤ k
  o1 : k < Q.l1 ∨ Q.u1 ≤ k
  o2 : k < Q.l2 ∨ Q.u2 ≤ k
  o3 : k < Q.l3 ∨ Q.u3 ≤ k
  o4 : k < Q.l4 ∨ Q.u4 ≤ k
/-- what holds of the constants -/
structure Fixed (M : Nat → Prop) (Q : Fix) : Prop where
  w0 : Q.w0.heap.size ≤ Q.tb
  u1 : Q.u1 ≤ Q.tb
  u2 : Q.u2 ≤ Q.tb
  u3 : Q.u3 ≤ Q.tb
  u4 : Q.u4 ≤ Q.tb
  mach : ∀ k, M k → Q.w0.heap.size ≤ k ∧ k < Q.tb
  pair : Pair Q.ra Q.rb
  ev : 1 ≤ Q.ev
  nl : Q.ns.length ≤ 200
  nz : ∀ s ∈ Q.ns, s.size ≤ maxLen
  tl : Q.ts.length ≤ 10
theorem Fixed.out {M : Nat → Prop} {Q : Fix} (h : Fixed M Q) {k : Nat} (hk : Q.tb ≤ k) : OutQ Q k := ⟨Nat.le_trans h.w0 hk, .inr (Nat.le_trans h.u1 hk), .inr (Nat.le_trans h.u2 hk), .inr (Nat.le_trans h.u3 hk), .inr (Nat.le_trans h.u4 hk)⟩
/-- sets and texts lie as they did -/
structure Env (M : Nat → Prop) (Q : Fix) (wr : World) : Prop where
  s1 : SetAt M Q.l1 Q.u1 wr Q.b1 Q.ra
  s2 : SetAt M Q.l2 Q.u2 wr Q.b2 Q.rb
  s3 : SetAt M Q.l3 Q.u3 wr Q.b3 Q.rb
  s4 : SetAt M Q.l4 Q.u4 wr Q.b4 Q.ra
  t : TextsAt wr Q.tb Q.tv Q.ts
  bel : Below Q.w0.heap.size Q.w0 wr
  low : Q.tb ≤ wr.heap.size
/-- a canary of the law -/
structure One (M : Nat → Prop) (Q : Fix) (wr : World) (cb p q base : Nat) (s : St) (C : Can) : Prop where
  can : CanG M wr cb p q base Q.ev Q.mo Q.en Q.ns s C
  out : OutQ Q cb
  cas : ∀ g, C.cases.ownBlock = some g → Q.tb ≤ g
theorem Env.belX {M X : Nat → Prop} {Q : Fix} {w w' : World} (he : Env M Q w) (hf : Fixed M Q) (hb : BelX M X w w') (hX : ∀ k, X k → OutQ Q k) (hT : ∀ g, Q.tv.ownBlock = some g → ¬ X g) (hE : ∀ p ∈ Q.ts, ∀ g, p.1.ownBlock = some g → ¬ X g) : Env M Q w' := by
  have hlow := he.low
  have hu := hf.u1
  have hu2 := hf.u2
  have hu3 := hf.u3
  have hu4 := hf.u4
  have hM : ∀ {b : Nat} {e : TypeId} {n : Nat} {v : Value} {xs : List Value}, w.ownsRow Q.tb e 1 v n xs → ∀ g, v.ownBlock = some g → ¬ M g := fun h g hg hm => by
    have := (hf.mach g hm).2
    have := (World.ownsRow.lt h g hg).1
    omega
  refine ⟨he.s1.belX hb (by omega) fun k h1 h2 hx => ?_, he.s2.belX hb (by omega) fun k h1 h2 hx => ?_, he.s3.belX hb (by omega) fun k h1 h2 hx => ?_, he.s4.belX hb (by omega) fun k h1 h2 hx => ?_, ?_, ?_, Nat.le_trans hlow hb.size⟩
  · have := (hX k hx).o1; omega
  · have := (hX k hx).o2; omega
  · have := (hX k hx).o3; omega
  · have := (hX k hx).o4; omega
  · refine ⟨owns_belX he.t.row hb fun g hg => ⟨hT g hg, hM (b := 0) he.t.row g hg⟩, fun p hp => ?_⟩
    obtain ⟨h1, h2⟩ := he.t.each p hp
    exact ⟨owns_belX h1 hb fun g hg => ⟨hE p hp g hg, hM (b := 0) h1 g hg⟩, h2⟩
  · have hw0 := hf.w0
    exact he.bel.trans ((hb.bel (B := Q.w0.heap.size) (by omega) fun k hk => (hX k hk).lo).below fun k hk => (hf.mach k hk).1)
/-- what See of a canary leaves alone -/
theorem Env.see {M : Nat → Prop} {Q : Fix} {w w' : World} {cb p q base : Nat} {s : St} {C : Can} (he : Env M Q w) (hf : Fixed M Q) (ho : One M Q w cb p q base s C) (hb : BelX M (fun k => k = cb ∨ C.cases.ownBlock = some k) w w') : Env M Q w' := by
  refine he.belX hf hb (fun k hk => ?_) (fun g hg => ?_) fun p hp g hg => ?_
  · rcases hk with rfl | hk
    · exact ho.out
    · exact hf.out (ho.cas k hk)
  · rintro (e | e)
    · exact not_row he.t.row ho.can.at' (by decide) (by rw [hg, e])
    · exact rows_two he.t.row ho.can.cases (by decide) hg e
  · have h1 := (he.t.each p hp).1
    rintro (e | e)
    · exact not_row h1 ho.can.at' (by decide) (by rw [hg, e])
    · exact rows_two h1 ho.can.cases (by decide) hg e
theorem Env.below {M : Nat → Prop} {Q : Fix} {w w' : World} (he : Env M Q w) (hf : Fixed M Q) (hb : Below w.heap.size w w') : Env M Q w' :=
  he.belX (X := fun _ => False) hf (.of (.of hb)) (fun _ h => h.elim) (fun _ _ h => h) (fun _ _ _ _ h => h)
theorem One.below {M : Nat → Prop} {Q : Fix} {w w' : World} {cb p q base : Nat} {s : St} {C : Can} (h : One M Q w cb p q base s C) (hb : Below w.heap.size w w') : One M Q w' cb p q base s C := ⟨h.can.bel (.of hb), h.out, h.cas⟩
/-- another canary sees a text -/
theorem One.other {M : Nat → Prop} {Q : Fix} {w w' : World} {cb p q base cb' p' q' base' : Nat} {s s' : St} {C C' : Can} (h : One M Q w cb p q base s C) (h' : One M Q w cb' p' q' base' s' C') (hne : cb' ≠ cb) (hca : ∀ g, C'.cases.ownBlock = some g → C.cases.ownBlock ≠ some g)
    (hb : BelX M (fun k => k = cb' ∨ C'.cases.ownBlock = some k) w w') : One M Q w' cb p q base s C := by
  obtain ⟨a1, a2, a3, a4⟩ := h'.can.apart h.can hne hca
  exact ⟨h.can.belX hb a1 a2 a3 a4, h.out, h.cas⟩
/-- the cases of two canaries stay apart -/
theorem apart_step {w : World} {u v v' : Value} {base n : Nat} {xs : List Value} (hu : w.ownsRow base 56 2 u n xs) (h : ∀ g, v.ownBlock = some g → u.ownBlock ≠ some g) (hv : v'.ownBlock = v.ownBlock ∨ ∃ g, v'.ownBlock = some g ∧ w.heap.size ≤ g) : ∀ g, v'.ownBlock = some g → u.ownBlock ≠ some g := fun g hg hu' => by
  rcases hv with e | ⟨g', e, hge⟩
  · exact h g (e ▸ hg) hu'
  · rw [e] at hg
    have e2 : g' = g := Option.some.inj hg
    have := (World.ownsRow.lt hu g hu').2
    omega
theorem Env.cell {M : Nat → Prop} {Q : Fix} {w : World} {gt ct j : Nat} (he : Env M Q w) (q1 : Q.tv = .slice (some ⟨gt, 0, none⟩) Q.ts.length ct) (hj : j < Q.ts.length) : w.cell? ⟨gt, j, none⟩ = some Q.ts[j].1 := by
  have h := he.t.row
  rw [q1] at h
  rw [h.cellAt j (by omega), List.getElem?_map, List.getElem?_eq_getElem hj]
  rfl
/-- First's contracts at the four sets -/
theorem Env.first {M : Nat → Prop} {Q : Fix} {w : World} (he : Env M Q w) (hf : Fixed M Q) {p : Value × List Int} (hp : p ∈ Q.ts) {tk tc : Nat} (h1 : p.1 = .slice (some ⟨tk, 0, none⟩) p.2.length tc) {F : Nat → Nat → FR}
    (hF : ∀ (M : Nat → Prop) (lo hi : Nat) (w : World) (rs : List Rl) (tb tc base : Nat), (∀ c, M c → c < w.heap.size) → hi ≤ w.heap.size → (∀ r ∈ rs, r.k < 12) → (tb < lo ∨ hi ≤ tb) → ¬ M tb → w.ownsRow base 3 1 (.slice (some ⟨tb, 0, none⟩) p.2.length tc) p.2.length (p.2.map (Value.int .i64)) →
      FirstOf M lo hi w (.slice (some ⟨tb, 0, none⟩) p.2.length tc) p.2.length 2000 F rs) :
    FirstOf M Q.l1 Q.u1 w p.1 p.2.length 2000 F Q.ra ∧ FirstOf M Q.l2 Q.u2 w p.1 p.2.length 2000 F Q.rb ∧ FirstOf M Q.l3 Q.u3 w p.1 p.2.length 2000 F Q.rb ∧ FirstOf M Q.l4 Q.u4 w p.1 p.2.length 2000 F Q.ra := by
  have hr := (he.t.each p hp).1
  have hlow := he.low
  rw [h1] at hr ⊢
  have hk := (World.ownsRow.lt hr tk rfl).1
  have hm : ¬ M tk := fun hm => by have := (hf.mach tk hm).2; omega
  have hMw : ∀ c, M c → c < w.heap.size := fun c hc => Nat.lt_of_lt_of_le (hf.mach c hc).2 hlow
  have h1' := hf.u1
  have h2' := hf.u2
  have h3' := hf.u3
  have h4' := hf.u4
  have ka : ∀ r ∈ Q.ra, r.k < 12 := fun r hr => (hf.pair.ga.each r hr).1
  have kb : ∀ r ∈ Q.rb, r.k < 12 := fun r hr => (hf.pair.gb.each r hr).1
  exact ⟨hF M _ _ w _ tk tc _ hMw (by omega) ka (.inr (by omega)) hm hr, hF M _ _ w _ tk tc _ hMw (by omega) kb (.inr (by omega)) hm hr, hF M _ _ w _ tk tc _ hMw (by omega) kb (.inr (by omega)) hm hr, hF M _ _ w _ tk tc _ hMw (by omega) ka (.inr (by omega)) hm hr⟩
theorem Env.text {M : Nat → Prop} {Q : Fix} {w : World} (he : Env M Q w) {p : Value × List Int} (hp : p ∈ Q.ts) : ∃ tk tc, p.1 = .slice (some ⟨tk, 0, none⟩) p.2.length tc := by
  obtain ⟨h1, h2, _, _, pa, pc, h5⟩ := he.t.each p hp
  rw [h5] at h1 ⊢
  rcases h1.2 with ⟨e, h0⟩ | ⟨g', cap', cur', e, _⟩
  · omega
  · injection e with e1 _ _
    exact ⟨g', pc, by rw [e1]⟩
theorem step_facts (ev mo en : Int) (D : List ByteArray) (s : St) : (stepC ev mo en D s).1.2.2 = 0 → (stepC ev mo en D s).2.seen = s.seen + 1 := by
  unfold stepC
  split
  · intro h; have h2 : (20 : Int) = 0 := h; omega
  · split
    · intro _; rfl
    · intro _; rfl
/-- See at one of the law's canaries -/
theorem One.see {M : Nat → Prop} {Q : Fix} {w : World} {cb p q base i l u l' u' : Nat} {rp rq : List Rl} {s : St} {C : Can} (ho : One M Q w cb p q base s C) (he : Env M Q w) (hf : Fixed M Q) (hS1 : SetAt M l u w p rp) (hS2 : SetAt M l' u' w q rq) (hu : u ≤ Q.tb) (hu' : u' ≤ Q.tb) (hG1 : Good rp) (hG2 : Good rq) (hst : StB s i) (hi : i ≤ 100)
    {ta : Option Addr} {n tc : Nat} (hn : n ≤ 1000) {F : Nat → Nat → FR} {D1 D2 : List (Int × Int × Int)} {D : List ByteArray} (hD : differ rp rq D1 D2 Q.ns = D) (hD1 : fnd F n 0 rp = .ok D1) (hD2 : fnd F n 0 rq = .ok D2) (hF1 : FirstOf M l u w (.slice ta n tc) n 2000 F rp) (hF2 : FirstOf M l' u' w (.slice ta n tc) n 2000 F rq) :
    Calls Tryz.prog 12 #[.pointer (some ⟨cb, 0, none⟩), .slice ta n tc, .int .i64 2000] w fun e w' => ∃ C' : Can, e = .returned (.tuple #[.bool (stepC Q.ev Q.mo Q.en D s).1.1, .bool (stepC Q.ev Q.mo Q.en D s).1.2.1, .int .i64 (stepC Q.ev Q.mo Q.en D s).1.2.2]) ∧
      BelX M (fun k => k = cb ∨ C.cases.ownBlock = some k) w w' ∧ One M Q w' cb p q base (stepC Q.ev Q.mo Q.en D s).2 C' ∧ (C'.cases.ownBlock = C.cases.ownBlock ∨ ∃ g, C'.cases.ownBlock = some g ∧ w.heap.size ≤ g) := by
  subst hD
  have hlow := he.low
  refine (see_gen (fun k hk => Nat.lt_of_lt_of_le (hf.mach k hk).2 hlow) hS1 hS2 (by omega) (by omega) hG1.len hG2.len (fun r hr => (hG1.each r hr).2.2.2) (fun r hr => (hG2.each r hr).2.2.2) ho.can hf.ev hst hi hf.nl hf.nz hn hD1 hD2 hF1 hF2).mono ?_
  rintro e w' ⟨C', rfl, hb, hC', _, _, hor⟩
  refine ⟨C', rfl, hb, ⟨hC', ho.out, fun g hg => ?_⟩, hor⟩
  rcases hor with e | ⟨g', e, hge⟩
  · exact ho.cas g (e ▸ hg)
  · rw [e] at hg
    cases hg
    omega
/-- Copy of one of the law's canaries -/
theorem One.copy {M : Nat → Prop} {Q : Fix} {w : World} {cb p q base i : Nat} {s : St} {C : Can} (ho : One M Q w cb p q base s C) (he : Env M Q w) (hf : Fixed M Q) (hst : StB s i) (hi : i ≤ 100) :
    Calls Tryz.prog 21 #[.pointer (some ⟨cb, 0, none⟩)] w fun e w' => ∃ (kb : Nat) (C' : Can), e = .returned (.pointer (some ⟨kb, 0, none⟩)) ∧ Below w.heap.size w w' ∧ w.heap.size ≤ kb ∧ One M Q w' kb p q w.heap.size s C' ∧ ∀ g, C'.cases.ownBlock = some g → w.heap.size ≤ g := by
  have hlow := he.low
  have hca : s.cases.length ≤ 1000000 := Nat.le_trans hst.ca (Nat.le_trans (Nat.mul_le_mul_right 1000 hi) (by decide))
  refine (copy_walk (fun k hk => Nat.lt_of_lt_of_le (hf.mach k hk).2 hlow) ho.can hf.nl hca).mono ?_
  rintro e w' ⟨kb, C', rfl, hb, hk, hC', hg⟩
  exact ⟨kb, C', rfl, hb, hk, ⟨hC', hf.out (by omega), fun g hg' => by have := hg g hg'; omega⟩, hg⟩
end Go.Proofs.YtopicmcaoeameaaGreatDoor
namespace Go.Proofs.YtopicmcaoeameaaGreatDoor
open Go Go.Ev Go.RowKit Go.Smap

/-- what stands when the second canary is made -/
def AEnd (wr : World) (ra rb : List Rl) (y6 : World) (b3 b4 ob : Nat) : Prop := ∃ (M3 M4 : Nat → Prop) (lo3 mid lo4 low bm2 : Nat) (vn2 : Value) (nt : List ByteArray),
  Below wr.heap.size wr y6 ∧ wr.heap.size ≤ lo3 ∧ (∀ k, M3 k → lo3 ≤ k ∧ k < mid) ∧ mid ≤ lo4 ∧ (∀ k, M4 k → lo4 ≤ k ∧ k < low) ∧ SetAt M3 lo3 mid y6 b3 (zz :: ra) ∧ SetAt M4 lo4 low y6 b4 (rb ++ [zz]) ∧ low ≤ y6.heap.size ∧ low ≤ ob ∧
  CanAt y6 ob ⟨b3, b4, 1, 1, 9, 0, 0, 0, vn2, .map (some bm2), .slice none 0 0⟩ ∧ IsMap y6 bm2 0 (fun _ => none) ∧ low ≤ bm2 ∧ y6.ownsRow low 9 1 vn2 nt.length (nt.map Value.string) ∧ nt.length ≤ 200 ∧ (∀ s ∈ nt, s.size ≤ maxLen) ∧ nt.Nodup ∧ ∀ s, s ∈ nt ↔ ∃ r, r ∈ (zz :: ra) ++ (rb ++ [zz]) ∧ r.name = s
/-- another set's machines in place of the frame's -/
theorem BelX.swap {M M' X : Nat → Prop} {w w' : World} (h : BelX M X w w') (hd : ∀ k, M' k → ¬ M k ∧ ¬ X k) : BelX M' (fun k => X k ∨ M k) w w' :=
  ⟨h.os, h.tape, h.output, h.size, fun k hk hx _ => h.block k hk (fun e => hx (.inl e)) fun e => hx (.inr e), fun k hk hm => .inl (h.block k hk (hd k hm).2 (hd k hm).1)⟩
/-- both sets and the canary, from block B on -/
structure Two (B : Nat) (ra rb : List Rl) (x : World) (M' : Nat → Prop) (lo3 mid lo4 low b3 b4 ob : Nat) (C : Can) (nt : List ByteArray) : Prop where
  l3 : B ≤ lo3
  lm : mid ≤ low
  l4 : B ≤ lo4
  mach : ∀ k, M' k → B ≤ k ∧ k < low
  s3 : SetAt M' lo3 mid x b3 (zz :: ra)
  s4 : SetAt M' lo4 low x b4 (rb ++ [zz])
  low' : low ≤ x.heap.size
  can : CanG M' x ob b3 b4 low 1 1 9 nt ⟨0, 0, 0, []⟩ C
  cas : C.cases = .slice none 0 0
  obl : B ≤ ob
  nam : ∀ g, C.names.ownBlock = some g → B ≤ g
  all : ∀ bm, C.allowed = .map (some bm) → B ≤ bm
  nl : nt.length ≤ 200
  nz : ∀ s ∈ nt, s.size ≤ maxLen
  mem : ∀ s, s ∈ nt ↔ ∃ r, r ∈ (zz :: ra) ++ (rb ++ [zz]) ∧ r.name = s
theorem AEnd.two {wr y6 : World} {ra rb : List Rl} {b3 b4 ob : Nat} (h : AEnd wr ra rb y6 b3 b4 ob) : Below wr.heap.size wr y6 ∧ ∃ (M' : Nat → Prop) (lo3 mid lo4 low : Nat) (C : Can) (nt : List ByteArray), Two wr.heap.size ra rb y6 M' lo3 mid lo4 low b3 b4 ob C nt := by
  obtain ⟨M3, M4, lo3, mid, lo4, low, bm, vn, nt, a1, a2, a3, a4, a5, a6, a7, a8, a9, a10, a11, a12, a13, a14, a15, _, a17⟩ := h
  have hmid : lo3 ≤ mid := by
    obtain ⟨v, hv, h1, h2, _⟩ := a6.set
    omega
  have hlow : lo4 ≤ low := by
    obtain ⟨v, hv, h1, h2, _⟩ := a7.set
    omega
  have hM : ∀ k, M3 k ∨ M4 k → lo3 ≤ k ∧ k < low := fun k hk => by
    rcases hk with hk | hk
    · have := a3 k hk; omega
    · have := a5 k hk; omega
  refine ⟨a1, fun k => M3 k ∨ M4 k, lo3, mid, lo4, low, _, nt, a2, by omega, by omega, fun k hk => ?_, ?_, ?_, a8, ⟨a10, ⟨rfl, rfl, rfl, rfl, rfl, rfl, rfl, rfl⟩, fun hm => ?_, ⟨bm, rfl, fun hm => ?_, a11⟩, a13, fun g hg hm => ?_, World.ownsRow_nil _ _ _ _, fun g hg => (by cases hg), a8⟩, rfl, by omega, fun g hg => ?_, fun b hb => ?_, a14, a15, a17⟩
  · have := hM k hk; omega
  · exact a6.more fun c c1 c2 => ⟨fun h => h.elim id fun h => by have := a5 c h; omega, .inl⟩
  · exact a7.more fun c c1 c2 => ⟨fun h => h.elim (fun h => by have := a3 c h; omega) id, .inr⟩
  · have := hM _ hm; omega
  · have := hM _ hm; omega
  · have := hM _ hm
    have := (World.ownsRow.lt a13 g hg).1
    omega
  · have := (World.ownsRow.lt a13 g hg).1
    omega
  · cases hb
    omega
/-- a step that changes old blocks alone -/
theorem Two.belX {M X : Nat → Prop} {B lo3 mid lo4 low b3 b4 ob : Nat} {ra rb : List Rl} {x x' : World} {M' : Nat → Prop} {C : Can} {nt : List ByteArray} (h : Two B ra rb x M' lo3 mid lo4 low b3 b4 ob C nt) (hb : BelX M X x x') (hM : ∀ k, M k → k < B) (hX : ∀ k, X k → k < B) : Two B ra rb x' M' lo3 mid lo4 low b3 b4 ob C nt := by
  have hs : BelX M' (fun k => X k ∨ M k) x x' := hb.swap fun k hk => by
    have h1 := (h.mach k hk).1
    exact ⟨fun e => by have := hM k e; omega, fun e => by have := hX k e; omega⟩
  have hno : ∀ k, B ≤ k → ¬ (X k ∨ M k) := fun k hk e => by
    rcases e with e | e
    · have := hX k e; omega
    · have := hM k e; omega
  have h3 := h.l3
  have h4 := h.l4
  have hlm := h.lm
  have hlow := h.low'
  exact ⟨h.l3, h.lm, h.l4, h.mach, h.s3.belX hs (by omega) fun k h1 _ => hno k (by omega), h.s4.belX hs (by omega) fun k h1 _ => hno k (by omega), Nat.le_trans h.low' hb.size, h.can.belX hs (hno _ h.obl) (fun g hg => hno g (h.nam g hg)) (fun g hg => by rw [h.cas] at hg; cases hg) fun bm hbm => hno bm (h.all bm hbm), h.cas, h.obl, h.nam, h.all, h.nl, h.nz, h.mem⟩
/-- See of the second canary: whether there is a difference, no error; only blocks from B on change -/
theorem Two.see {M : Nat → Prop} {B lo3 mid lo4 low b3 b4 ob : Nat} {ra rb : List Rl} {x : World} {M' : Nat → Prop} {C : Can} {nt : List ByteArray} (h : Two B ra rb x M' lo3 mid lo4 low b3 b4 ob C nt) (hP : Pair ra rb) (hM : ∀ k, M k → k < B)
    {ta : Option Addr} {n tc : Nat} (hn : n ≤ 1000) {F : Nat → Nat → FR} {E1 E2 : List (Int × Int × Int)} (hD1 : fnd F n 0 (zz :: ra) = .ok E1) (hD2 : fnd F n 0 (rb ++ [zz]) = .ok E2) (hF1 : FirstOf M' lo3 mid x (.slice ta n tc) n 2000 F (zz :: ra)) (hF2 : FirstOf M' lo4 low x (.slice ta n tc) n 2000 F (rb ++ [zz])) :
    Calls Tryz.prog 12 #[.pointer (some ⟨ob, 0, none⟩), .slice ta n tc, .int .i64 2000] x fun e x' => e = .returned (.tuple #[.bool (stepC 1 1 9 (differ (zz :: ra) (rb ++ [zz]) E1 E2 nt) ⟨0, 0, 0, []⟩).1.1, .bool (stepC 1 1 9 (differ (zz :: ra) (rb ++ [zz]) E1 E2 nt) ⟨0, 0, 0, []⟩).1.2.1, .int .i64 (stepC 1 1 9 (differ (zz :: ra) (rb ++ [zz]) E1 E2 nt) ⟨0, 0, 0, []⟩).1.2.2]) ∧ BelX M (fun k => k = ob ∨ M' k) x x' := by
  have hA := hP.ahead
  have hB := hP.behind
  have hlow := h.low'
  have hlm := h.lm
  refine (see_gen (i := 0) (fun k hk => Nat.lt_of_lt_of_le (h.mach k hk).2 hlow) h.s3 h.s4 (by omega) hlow hA.len hB.len (fun r hr => (hA.each r hr).2.2.2) (fun r hr => (hB.each r hr).2.2.2) h.can (by omega) ⟨⟨Int.le_refl _, Int.le_refl _⟩, ⟨Int.le_refl _, Int.le_refl _⟩, ⟨Int.le_refl _, Int.le_refl _⟩, Nat.le_refl _⟩ (by omega) h.nl h.nz hn hD1 hD2 hF1 hF2).mono ?_
  rintro e x' ⟨C', rfl, hb, _⟩
  refine ⟨rfl, (hb.swap fun k hk => ?_).mono fun k _ hk => ?_⟩
  · have h1 := hM k hk
    refine ⟨fun e => by have := (h.mach k e).1; omega, ?_⟩
    rintro (e | e)
    · have := h.obl; omega
    · rw [h.cas] at e; cases e
  · rcases hk with (rfl | hk) | hk
    · exact .inl rfl
    · rw [h.cas] at hk; cases hk
    · exact .inr hk
/-- what the law keeps besides: both lists, and the rule that is added, below block L -/
structure Lists (w : World) (base bz L : Nat) (v1 v2 : Value) (ra rb : List Rl) : Prop where
  ro : w.ownsRow base 27 3 v1 ra.length (ra.flatMap Rl.cells)
  rf : w.ownsRow base 27 3 v2 rb.length (rb.flatMap Rl.cells)
  z : w.heap[bz]? = some (.cells #[.string zz.name, .string zz.text, .bool false] 27 (0, 0))
  l1 : ∀ g, v1.ownBlock = some g → g < L
  l2 : ∀ g, v2.ownBlock = some g → g < L
  lz : bz < L
theorem Lists.below {w w' : World} {base bz L : Nat} {v1 v2 : Value} {ra rb : List Rl} (h : Lists w base bz L v1 v2 ra rb) (hb : Below w.heap.size w w') : Lists w' base bz L v1 v2 ra rb :=
  ⟨owns_below h.ro hb, owns_below h.rf hb, (hb.block bz (Array.getElem?_eq_some_iff.1 h.z).1).trans h.z, h.l1, h.l2, h.lz⟩
theorem Lists.belX {M X : Nat → Prop} {w w' : World} {base bz L : Nat} {v1 v2 : Value} {ra rb : List Rl} (h : Lists w base bz L v1 v2 ra rb) (hb : BelX M X w w') (hX : ∀ k, X k → L ≤ k) (hM : ∀ k, M k → L ≤ k) : Lists w' base bz L v1 v2 ra rb :=
  ⟨owns_belX h.ro hb fun g hg => ⟨fun e => by have := hX g e; have := h.l1 g hg; omega, fun e => by have := hM g e; have := h.l1 g hg; omega⟩, owns_belX h.rf hb fun g hg => ⟨fun e => by have := hX g e; have := h.l2 g hg; omega, fun e => by have := hM g e; have := h.l2 g hg; omega⟩,
    (hb.block bz (Array.getElem?_eq_some_iff.1 h.z).1 (fun e => by have := hX bz e; have := h.lz; omega) fun e => by have := hM bz e; have := h.lz; omega).trans h.z, h.l1, h.l2, h.lz⟩
/-- a canary of the law, while the second one sees a text -/
theorem One.two {M M' : Nat → Prop} {Q : Fix} {w x y : World} {cb p q base B ob : Nat} {s s' : St} {C C' : Can} (h : One M Q x cb p q base s' C') (h0 : One M Q w cb p q base s C) (hn : C'.names.ownBlock = C.names.ownBlock) (ha : C'.allowed = C.allowed) (hw : w.heap.size ≤ B) (hob : B ≤ ob) (hM' : ∀ k, M' k → B ≤ k) (hor : ∀ g, C'.cases.ownBlock = some g → g < B ∨ (g ≠ ob ∧ ¬ M' g))
    (hb : BelX M (fun k => k = ob ∨ M' k) x y) : One M Q y cb p q base s' C' := by
  have hlt := h0.can.at'.lt
  have hno : ∀ k, k < B → ¬ (k = ob ∨ M' k) := fun k hk e => by
    rcases e with e | e
    · omega
    · have := hM' k e; omega
  refine ⟨h.can.belX hb (hno cb (by omega)) (fun g hg => ?_) (fun g hg => ?_) fun bm hbm => ?_, h.out, h.cas⟩
  · have := (World.ownsRow.lt h0.can.names g (hn ▸ hg)).2
    exact hno g (by omega)
  · rcases hor g hg with h1 | ⟨h1, h2⟩
    · exact hno g h1
    · exact fun e => e.elim h1 h2
  · obtain ⟨b, h1, _, h2⟩ := h0.can.all
    rw [ha, h1] at hbm
    cases hbm
    have := h2.lt
    exact hno bm (by omega)
/-- See where the verdict is open and every text is drawn -/
theorem stepC_open {mo en : Int} {D : List ByteArray} {s : St} (h : verdict mo en s.compared s.unlike = 0) : ∃ s', stepC 1 mo en D s = ((true, D.isEmpty, 0), s') := by
  unfold stepC
  rw [if_neg (by rw [h]; decide), if_neg (by rw [Int.emod_one]; decide)]
  exact ⟨_, rfl⟩
theorem verdict_0 : verdict 1 9 0 0 = 0 := by decide
theorem verdict_low {s : St} {i : Nat} (h : StB s i) (hi : i ≤ 100) : verdict 1000 1000 s.compared s.unlike = 0 := by
  obtain ⟨_, ⟨_, a⟩, ⟨_, b⟩, _⟩ := h
  unfold verdict
  rw [if_neg (by omega), if_neg (by omega)]
/-- See at one of the law's canaries, with what stays of it -/
theorem One.see2 {M : Nat → Prop} {Q : Fix} {w : World} {cb p q base i l u l' u' : Nat} {rp rq : List Rl} {s : St} {C : Can} (ho : One M Q w cb p q base s C) (he : Env M Q w) (hf : Fixed M Q) (hS1 : SetAt M l u w p rp) (hS2 : SetAt M l' u' w q rq) (hu : u ≤ Q.tb) (hu' : u' ≤ Q.tb) (hG1 : Good rp) (hG2 : Good rq) (hst : StB s i) (hi : i ≤ 100)
    {ta : Option Addr} {n tc : Nat} (hn : n ≤ 1000) {F : Nat → Nat → FR} {D1 D2 : List (Int × Int × Int)} {D : List ByteArray} (hD : differ rp rq D1 D2 Q.ns = D) (hD1 : fnd F n 0 rp = .ok D1) (hD2 : fnd F n 0 rq = .ok D2) (hF1 : FirstOf M l u w (.slice ta n tc) n 2000 F rp) (hF2 : FirstOf M l' u' w (.slice ta n tc) n 2000 F rq) :
    Calls Tryz.prog 12 #[.pointer (some ⟨cb, 0, none⟩), .slice ta n tc, .int .i64 2000] w fun e w' => ∃ C' : Can, e = .returned (.tuple #[.bool (stepC Q.ev Q.mo Q.en D s).1.1, .bool (stepC Q.ev Q.mo Q.en D s).1.2.1, .int .i64 (stepC Q.ev Q.mo Q.en D s).1.2.2]) ∧
      BelX M (fun k => k = cb ∨ C.cases.ownBlock = some k) w w' ∧ One M Q w' cb p q base (stepC Q.ev Q.mo Q.en D s).2 C' ∧ (C'.cases.ownBlock = C.cases.ownBlock ∨ ∃ g, C'.cases.ownBlock = some g ∧ w.heap.size ≤ g) ∧ C'.names = C.names ∧ C'.allowed = C.allowed := by
  subst hD
  have hlow := he.low
  refine (see_gen (fun k hk => Nat.lt_of_lt_of_le (hf.mach k hk).2 hlow) hS1 hS2 (by omega) (by omega) hG1.len hG2.len (fun r hr => (hG1.each r hr).2.2.2) (fun r hr => (hG2.each r hr).2.2.2) ho.can hf.ev hst hi hf.nl hf.nz hn hD1 hD2 hF1 hF2).mono ?_
  rintro e w' ⟨C', rfl, hb, hC', hn1, ha1, hor⟩
  refine ⟨C', rfl, hb, ⟨hC', ho.out, fun g hg => ?_⟩, hor, hn1, ha1⟩
  rcases hor with e | ⟨g', e, hge⟩
  · exact ho.cas g (e ▸ hg)
  · rw [e] at hg
    cases hg
    omega
/-- First's contracts at both sets of the second canary -/
theorem Two.first {B lo3 mid lo4 low b3 b4 ob : Nat} {ra rb : List Rl} {x : World} {M' : Nat → Prop} {C : Can} {nt : List ByteArray} (h : Two B ra rb x M' lo3 mid lo4 low b3 b4 ob C nt) (hP : Pair ra rb) {F : Nat → Nat → FR} {n tk tc base : Nat} {l : List Int} (htk : tk < B) (hr : x.ownsRow base 3 1 (.slice (some ⟨tk, 0, none⟩) n tc) n (l.map (Value.int .i64)))
    (hF : ∀ (M : Nat → Prop) (lo hi : Nat) (w : World) (rs : List Rl) (tb tc base : Nat), (∀ c, M c → c < w.heap.size) → hi ≤ w.heap.size → (∀ r ∈ rs, r.k < 12) → (tb < lo ∨ hi ≤ tb) → ¬ M tb → w.ownsRow base 3 1 (.slice (some ⟨tb, 0, none⟩) n tc) n (l.map (Value.int .i64)) →
      FirstOf M lo hi w (.slice (some ⟨tb, 0, none⟩) n tc) n 2000 F rs) :
    FirstOf M' lo3 mid x (.slice (some ⟨tk, 0, none⟩) n tc) n 2000 F (zz :: ra) ∧ FirstOf M' lo4 low x (.slice (some ⟨tk, 0, none⟩) n tc) n 2000 F (rb ++ [zz]) := by
  have h3 := h.l3
  have h4 := h.l4
  have hlm := h.lm
  have hlow := h.low'
  have hm : ¬ M' tk := fun hm => by have := (h.mach tk hm).1; omega
  have hMx : ∀ c, M' c → c < x.heap.size := fun c hc => Nat.lt_of_lt_of_le (h.mach c hc).2 hlow
  exact ⟨hF M' _ _ x _ tk tc _ hMx (by omega) (fun r hr => (hP.ahead.each r hr).1) (.inl (by omega)) hm hr, hF M' _ _ x _ tk tc _ hMx (by omega) (fun r hr => (hP.behind.each r hr).1) (.inl (by omega)) hm hr⟩
end Go.Proofs.YtopicmcaoeameaaGreatDoor
namespace Go.Proofs.YtopicmcaoeameaaGreatDoor
open Go Go.Ev Go.RowKit Go.Smap

/-- the elements that append takes: nil, or cells -/
theorem rows_src {w1 : World} {base : Nat} {v : Value} {rs : List Rl} (h : w1.ownsRow base 27 3 v rs.length (rs.flatMap Rl.cells)) : (v = .slice none 0 0 ∧ rs.length = 0) ∨ ∃ ad c, v = .slice (some ad) rs.length c ∧ ∀ j y, (rs.flatMap Rl.cells)[j]? = some y → w1.cell? (ad.add j) = some y := by
  rcases h.2 with ⟨e, h0⟩ | ⟨g, cap, cur, e, hge, hg, _⟩
  · exact .inl ⟨e, h0⟩
  · exact .inr ⟨⟨g, 0, none⟩, cap, e, fun j y hy => h.cells (g := g) (by rw [e]; rfl) j y hy⟩
/-- append, as one step of a region that draws -/
def AppG (ty t : TypeId) (vs vx : Value) (w : World) (K : Value → World → Prop) : Prop := ∃ v' w', (Builtin.append_ #[t, t] ty #[vs, vx]).run Tryz.prog w = .ok v' w' ∧ K v' w'
theorem step_app {ops : Array Oper} {o : Oper} {a : Act} {w : World} {K : Act → World → Prop} {Q : Exit → Act → World → Prop} {E : Prop} (hgd : o.guard = none) (s x : Operand) (t : TypeId) (ho : o.op = .call { callee := .builtin .append, args := #[s, x], argTypes := #[t, t] })
    (h : AppG o.type t (a.eval s) (a.eval x) w fun v' w' => K (a.put o.dst v') w') : if Region.wanted o (yielded ops a.tmps) = true then Oper.wp Tryz.prog o a w K Q else E := by
  have hw : Region.wanted o (yielded ops a.tmps) = true := by simp [Region.wanted, hgd]
  rw [if_pos hw]
  obtain ⟨v', w', hr, hK⟩ := h
  unfold Oper.wp
  simp [execOp, ho, resolve, invoke, builtin, hr, Result.andThen]
  exact hK
/-- append to a slice without room -/
theorem AppG.full {ty : TypeId} {w : World} {K : Value → World → Prop} {base : Nat} {B n m : Nat} {u : Value} {xs news : List Value} {i0 : TypeInfo} {z : Value} (hi0 : Tryz.prog.info? 27 = some i0) (hz0 : i0.zero = some z) (hz1 : i0.size = 3) (hz2 : i0.bytes = 40) (hz3 : z.cells.size = 3)
    (hown : w.ownsRow base 27 3 (.slice (some ⟨B, 0, none⟩) n n) n xs) (hu : (u = .slice none 0 0 ∧ m = 0) ∨ ∃ ad c, u = .slice (some ad) m c ∧ ∀ j y, news[j]? = some y → w.cell? (ad.add j) = some y) (hl : news.length = m * 3) (h1 : ∀ u ∈ news, u.oneCell' = true) (hn : n + m ≤ 1000) (hbase : base ≤ w.heap.size)
    (h : ∀ v' w', w'.ownsRow base 27 3 v' (n + m) (xs ++ news) → Below w.heap.size w w' → ((∃ B', v' = .slice (some ⟨B', 0, none⟩) (n + m) (n + m)) ∨ ∀ g, v'.ownBlock = some g → w.heap.size ≤ g) → K v' w') : AppG ty 23 (.slice (some ⟨B, 0, none⟩) n n) u w K := by
  rcases hu with ⟨rfl, rfl⟩ | ⟨ad, c, rfl, hc⟩
  · have hn' : news = [] := List.length_eq_zero_iff.1 (by simpa using hl)
    subst hn'
    exact ⟨_, w, run_append_owned_none w base 23 ty 27 i0 3 Tryz.underlying23 hi0 _ n xs hown, h _ w (by simpa using hown) (Below.refl _ _) (.inl ⟨B, rfl⟩)⟩
  · rcases Nat.eq_zero_or_pos m with rfl | hm
    · have hn' : news = [] := List.length_eq_zero_iff.1 (by simpa using hl)
      subst hn'
      have hr := run_append_room_cells (P := Tryz.prog) w 23 ty 27 i0 Tryz.underlying23 hi0 B 0 n n ad 0 c [] (by simp) (fun j u hu => by simp at hu) (fun u hu => by simp at hu) (by omega) (fun j hj => by simp at hj) (fun j hj => by simp at hj)
      exact ⟨_, _, hr, h _ _ (by simpa [World.setCells] using hown) (Below.refl _ _) (.inl ⟨B, rfl⟩)⟩
    · obtain ⟨v', w', h2, h3, h4⟩ := run_append_arg_grows (P := Tryz.prog) w 23 ty 27 i0 z 3 40 Tryz.underlying23 hi0 hz0 hz1 hz2 hz3 (by decide) ⟨B, 0, none⟩ n n xs hown.1 (fun j u hj => hown.cells rfl j u hj) ad m c news hl hc (by omega) (by unfold maxLen; omega) (by omega)
      exact ⟨v', w', h2, h v' w' (owns_base h3 hbase) ((Below.refl _ _).grown h4 (Nat.le_refl _) fun k hk => by cases hk) (.inr fun g hg => (World.ownsRow.lt h3 g hg).1)⟩
/-- append to a slice without room, or to one in a block from low on -/
theorem AppG.mix {ty : TypeId} {w : World} {K : Value → World → Prop} {base low : Nat} {v : Value} {n m : Nat} {u : Value} {xs news : List Value} {i0 : TypeInfo} {z : Value} (hi0 : Tryz.prog.info? 27 = some i0) (hz0 : i0.zero = some z) (hz1 : i0.size = 3) (hz2 : i0.bytes = 40) (hz3 : z.cells.size = 3)
    (hown : w.ownsRow base 27 3 v n xs) (hk : (∃ B', v = .slice (some ⟨B', 0, none⟩) n n) ∨ ∀ g, v.ownBlock = some g → low ≤ g) (hlow : low ≤ w.heap.size) (hu : ∃ ad c, u = .slice (some ad) m c ∧ ∀ j y, news[j]? = some y → w.cell? (ad.add j) = some y) (hl : news.length = m * 3) (h1 : ∀ u ∈ news, u.oneCell' = true) (hn : n + m ≤ 1000) (hbase : base ≤ w.heap.size)
    (h : ∀ v' w', w'.ownsRow base 27 3 v' (n + m) (xs ++ news) → Below low w w' → K v' w') : AppG ty 23 v u w K := by
  rcases hk with ⟨B, rfl⟩ | hk
  · exact AppG.full hi0 hz0 hz1 hz2 hz3 hown (.inr hu) hl h1 hn hbase fun v' w' a1 a2 _ => h v' w' a1 (a2.mono hlow)
  · obtain ⟨ad, c, rfl, hc⟩ := hu
    obtain ⟨v', w', h2, h3, h4, _⟩ := run_append_own w base 23 ty 27 i0 z 3 40 Tryz.underlying23 hi0 hz0 hz1 hz2 hz3 (by decide) v n xs hown ad m c news hl hc h1 (by unfold maxLen; omega) (by omega) hbase
    exact ⟨v', w', h2, h v' w' h3 ((Below.refl _ _).grown h4 hlow fun k hg => hk k hg)⟩
/-- a slice's literal in a block of its own -/
def Lit (w : World) (base B n : Nat) (cs : List Value) : Prop := base ≤ B ∧ w.ownsRow base 27 3 (.slice (some ⟨B, 0, none⟩) n n) n cs
theorem Lit.own {w : World} {base B n : Nat} {cs : List Value} (h : Lit w base B n cs) : w.ownsRow base 27 3 (.slice (some ⟨B, 0, none⟩) n n) n cs := h.2
theorem Lit.alloc {w : World} {base B n : Nat} {cs : List Value} (h : Lit w base B n cs) (o : Obj) : Lit (w.alloc o) base B n cs := ⟨h.1, h.2.alloc o⟩
theorem Lit.below {w w' : World} {base B n : Nat} {cs : List Value} (h : Lit w base B n cs) (hb : Below w.heap.size w w') : Lit w' base B n cs := ⟨h.1, owns_below h.2 hb⟩
theorem Lit.drew {w : World} {base B n : Nat} {cs : List Value} (h : Lit w base B n cs) : Lit w.drew base B n cs := ⟨h.1, World.ownsRow.drew h.2⟩
theorem Lit.new1 {w : World} {base B : Nat} {a b c : Value} (hB : B = w.heap.size) (hb : base ≤ w.heap.size) : Lit (w.alloc (.cells #[a, b, c] 27)) base B 1 [a, b, c] := by
  subst hB
  exact ⟨hb, World.ownsRow_lit (e := 27) (size := 3) w #[a, b, c] 1 hb (by unfold maxLen; omega) rfl⟩
theorem Lit.new0 {w : World} {base B : Nat} (hB : B = w.heap.size) (hb : base ≤ w.heap.size) : Lit (w.alloc (.cells #[] 27)) base B 0 [] := by
  subst hB
  exact ⟨hb, World.ownsRow_lit (e := 27) (size := 3) w #[] 0 hb (by unfold maxLen; omega) rfl⟩
theorem sz_0 (n : Nat) : n = n := rfl
theorem sz_1 (w : World) (o : Obj) : w.heap.size + 1 = (w.alloc o).heap.size := by simp
theorem sz_2 (w : World) (o o' : Obj) : w.heap.size + 2 = ((w.alloc o).alloc o').heap.size := by simp
theorem sz_2' (w : World) (o o' : Obj) : w.heap.size + 1 + 1 = ((w.alloc o).alloc o').heap.size := by simp
theorem sz_le (w : World) (o : Obj) {n : Nat} (h : n ≤ w.heap.size) : n ≤ (w.alloc o).heap.size := by simp; omega
theorem sz_ld (w : World) {n : Nat} (h : n ≤ w.heap.size) : n ≤ w.drew.heap.size := h
theorem below_alloc {B : Nat} {a w : World} (h : Below B a w) (hB : B ≤ a.heap.size) (o : Obj) : Below B a (w.alloc o) := h.alloc (Nat.le_trans hB h.size) o
theorem below_then {B low : Nat} {a w w' : World} (hb : Below low w w') (h : Below B a w) (hB : B ≤ low) : Below B a w' := h.trans (hb.mono hB)
theorem kind_low {n low low' : Nat} {v : Value} (h : (∃ B', v = .slice (some ⟨B', 0, none⟩) n n) ∨ ∀ g, v.ownBlock = some g → low ≤ g) (hl : low' ≤ low) : (∃ B', v = .slice (some ⟨B', 0, none⟩) n n) ∨ ∀ g, v.ownBlock = some g → low' ≤ g := h.imp id fun h g hg => Nat.le_trans hl (h g hg)
theorem names_of {ra rb : List Rl} (ha : Good ra) (hb : Good rb) : ∀ r ∈ ra ++ rb, r.name.size ≤ maxLen := fun r hr => by
  rcases List.mem_append.1 hr with hr | hr
  · exact (ha.each r hr).2.2.2
  · exact (hb.each r hr).2.2.2
theorem lit_src {w : World} {base B : Nat} {cs : List Value} (h : Lit w base B 1 cs) : ∃ ad c, Value.slice (some ⟨B, 0, none⟩) 1 1 = .slice (some ad) 1 c ∧ ∀ j y, cs[j]? = some y → w.cell? (ad.add j) = some y := ⟨_, _, rfl, fun j y hy => h.2.cells rfl j y hy⟩
theorem zz_name : zz.name = ⟨#[122, 122]⟩ := rfl
theorem zz_text : zz.text = ⟨#[97, 42, 98]⟩ := rfl
set_option maxHeartbeats 32000000 in
set_option maxRecDepth 1000000 in
theorem apart_law {w : World} {v v2 : Value} {l m : List Int} (h : SlArg w v l) (h2 : SlCap w v2 m) {how : Int} (hh : -9223372036854775808 ≤ how ∧ how ≤ 9223372036854775807) :
    Calls Tryz.prog 3 #[v, v2, .int .i64 how] w fun e w' => e = .returned (.bool true) ∧ Below w.heap.size w w' := by
  have hsd := sides_walk h hh
  have hNums : Nums 1 1000 1000 := by unfold Nums; omega
  clear h
  go_enter Tryz.func3, Tryz.ntmps3
  go_wp2_with (first
    | (go_at_call 7; refine hsd.mono ?_; clear hsd; rintro _ w1 ⟨v1, vf, ra, rb, rfl, hro, hrf, hP, hb1⟩; obtain ⟨ao, co, rfl, _⟩ := owns_shape hro; obtain ⟨af, cf, rfl, _⟩ := owns_shape hrf)
    | (go_at_call 8; refine (rule_walk _ _ _).mono ?_; rintro _ wz ⟨rfl, hbz⟩; have hZ : Lists (wz.alloc (.cells #[.string ⟨#[122, 122]⟩, .string ⟨#[97, 42, 98]⟩, .bool false] 27)) w.heap.size wz.heap.size (wz.alloc (.cells #[.string ⟨#[122, 122]⟩, .string ⟨#[97, 42, 98]⟩, .bool false] 27)).heap.size (.slice ao ra.length co) (.slice af rb.length cf) ra rb := ⟨(owns_below hro hbz).alloc _, (owns_below hrf hbz).alloc _, heap_alloc_new _ _, fun g hg => (World.ownsRow.lt ((owns_below hro hbz).alloc _) g hg).2, fun g hg => (World.ownsRow.lt ((owns_below hrf hbz).alloc _) g hg).2, by simp⟩; have hBz : Below w.heap.size w (wz.alloc (.cells #[.string ⟨#[122, 122]⟩, .string ⟨#[97, 42, 98]⟩, .bool false] 27)) := (hb1.trans (hbz.mono hb1.size)).alloc (by have := hb1.size; have := hbz.size; omega) _; have hsz0 : wz.heap.size < (wz.alloc (.cells #[.string ⟨#[122, 122]⟩, .string ⟨#[97, 42, 98]⟩, .bool false] 27)).heap.size := (by simp); have hoA := own_walk hZ.ro hP.ga)
    | (go_at_call 10; refine hoA.mono ?_; clear hoA; rintro _ w2 ⟨b1, M1, rfl, hb2, hM1, hS1⟩; obtain ⟨w1z, hw1z⟩ : ∃ x, wz.alloc (.cells #[.string ⟨#[122, 122]⟩, .string ⟨#[97, 42, 98]⟩, .bool false] 27) = x := ⟨_, rfl⟩; rw [hw1z] at hZ hBz hsz0 hb2 hM1 hS1; clear hw1z; have hoB := own_walk (owns_below hZ.rf hb2) hP.gb)
    | (go_at_call 10; refine hoB.mono ?_; clear hoB; rintro _ w3 ⟨b2, M2, rfl, hb3, hM2, hS2⟩; have hN1 := new_walk (hS1.bel (Bel.of hb3) (Nat.le_refl _)) hS2 hb3.size (Nat.le_refl _) hP.ga.len hP.gb.len (fun r hr => by rcases List.mem_append.1 hr with hr | hr; exact (hP.ga.each r hr).2.2.2; exact (hP.gb.each r hr).2.2.2) hNums)
    | (go_at_call 9; refine hN1.mono ?_; clear hN1; rintro _ w4 ⟨cb, bm1, vn1, ns, rfl, hb4, hcb, hC1, hbm1, hbg1, hn1, hnl1, hnz1, _, _, hmem1⟩; have s2 := hb2.size; have s3 := hb3.size; have s4 := hb4.size; have hB14 : Below w1z.heap.size w1z w4 := (hb2.trans (hb3.mono s2)).trans (hb4.mono (by omega)); have hW4 : Below w.heap.size w w4 := hBz.trans (hB14.mono hBz.size); have htx := texts_walk (h2.below hW4))
    | (go_at_call 11; refine htx.mono ?_; clear htx; rintro _ w5 ⟨vt, ts, rfl, hT, htl, hb5⟩; obtain ⟨at', ct, rfl, _⟩ := owns_shape hT.row))
  have sz := hBz.size
  have s5 := hb5.size
  have hB45 : Below w4.heap.size w4 w5 := hb5
  have hB35 : Below w3.heap.size w3 w5 := hb4.trans (hB45.mono s4)
  have hB25 : Below w2.heap.size w2 w5 := hb3.trans (hB35.mono s3)
  have hZ5 := hZ.below (hB14.trans (hb5.mono (by omega)))
  obtain ⟨M, hMd⟩ : ∃ M : Nat → Prop, M = fun k => M1 k ∨ M2 k := ⟨_, rfl⟩
  have hMi : ∀ k, M k → w1z.heap.size ≤ k ∧ k < w3.heap.size := fun k hk => by
    rw [hMd] at hk
    rcases hk with hk | hk
    · have := hM1 k hk; omega
    · have := hM2 k hk; omega
  obtain ⟨Q, hQ⟩ : ∃ Q : Fix, Q = ⟨w, b1, b2, b2, b1, w1z.heap.size, w2.heap.size, w2.heap.size, w3.heap.size, w2.heap.size, w3.heap.size, w1z.heap.size, w2.heap.size, ra, rb, 1, 1000, 1000, ns, .slice at' ts.length ct, ts, w4.heap.size⟩ := ⟨_, rfl⟩
  have hf : Fixed M Q := by
    subst hQ
    refine ⟨hW4.size, by show w2.heap.size ≤ w4.heap.size; omega, by show w3.heap.size ≤ w4.heap.size; omega, by show w3.heap.size ≤ w4.heap.size; omega, by show w2.heap.size ≤ w4.heap.size; omega, fun k hk => ?_, hP, by show (1 : Int) ≤ 1; omega, hnl1, hnz1, htl⟩
    have := hMi k hk
    exact ⟨by show w.heap.size ≤ k; omega, by show k < w4.heap.size; omega⟩
  have hE : Env M Q w5 := by
    have hA : SetAt M w1z.heap.size w2.heap.size w5 b1 ra := (hS1.more fun c c1 c2 => by
      rw [hMd]
      exact ⟨fun h => h.elim id fun h => by have := hM2 c h; omega, .inl⟩).bel (Bel.of hB25) (Nat.le_refl _)
    have hB : SetAt M w2.heap.size w3.heap.size w5 b2 rb := (hS2.more fun c c1 c2 => by
      rw [hMd]
      exact ⟨fun h => h.elim (fun h => by have := hM1 c h; omega) id, .inr⟩).bel (Bel.of hB35) (Nat.le_refl _)
    subst hQ
    exact ⟨hA, hB, hB, hA, hT, hW4.trans (hb5.mono hW4.size), s5⟩
  have hOc : One M Q w5 cb b1 b2 w3.heap.size ⟨0, 0, 0, []⟩ ⟨b1, b2, 1, 1000, 1000, 0, 0, 0, vn1, .map (some bm1), .slice none 0 0⟩ := by
    have hlt := hC1.lt
    have hbl := hbm1.lt
    subst hQ
    refine ⟨⟨hC1.below hB45, ⟨rfl, rfl, rfl, rfl, rfl, rfl, rfl, rfl⟩, fun hm => by have := hMi _ hm; omega, ⟨bm1, rfl, fun hm => by have := hMi _ hm; omega, hbm1.same (hB45.block _ hbl)⟩, owns_below hn1 hB45, fun g hg hm => ?_, World.ownsRow_nil _ _ _ _, fun g hg => (by cases hg), hB35.size⟩,
      ⟨by show w.heap.size ≤ cb; omega, .inr (by show w2.heap.size ≤ cb; omega), .inr (by show w3.heap.size ≤ cb; omega), .inr (by show w3.heap.size ≤ cb; omega), .inr (by show w2.heap.size ≤ cb; omega)⟩, fun g hg => (by cases hg)⟩
    have := World.ownsRow.lt hn1 g hg
    have := hMi _ hm
    omega
  have hcbL : w1z.heap.size ≤ cb := by omega
  have hst0 : StB ⟨0, 0, 0, []⟩ 0 := ⟨⟨Int.le_refl _, Int.le_refl _⟩, ⟨Int.le_refl _, Int.le_refl _⟩, ⟨Int.le_refl _, Int.le_refl _⟩, Nat.le_refl _⟩
  have q1 : Q.tv = .slice at' ts.length ct := by rw [hQ]
  have q2 : Q.ts = ts := by rw [hQ]
  have q3 : Q.b1 = b1 ∧ Q.b2 = b2 ∧ Q.ra = ra ∧ Q.rb = rb ∧ Q.w0 = w ∧ Q.ns = ns ∧ Q.ev = 1 ∧ Q.mo = 1000 ∧ Q.en = 1000 := by rw [hQ]; exact ⟨rfl, rfl, rfl, rfl, rfl, rfl, rfl, rfl, rfl⟩
  have hlowz : wz.heap.size < Q.tb ∧ w1z.heap.size ≤ Q.tb := by rw [hQ]; exact ⟨by show wz.heap.size < w4.heap.size; omega, by show w1z.heap.size ≤ w4.heap.size; omega⟩
  have hrowM : ∀ k, M k → w1z.heap.size ≤ k := fun k hk => (hMi k hk).1
  obtain ⟨q31, q32, q33, q34, q35, q36, q37, q38, q39⟩ := q3
  subst q2
  subst q31
  subst q32
  subst q33
  subst q34
  subst q36
  clear hT hS1 hS2 hM1 hM2 hMd hMi hC1 hbm1 hn1 hnz1 hnl1 hro hrf hb1 hb2 hb3 hb4 hb5 hB25 hB35 hB45 hB14 hW4 hNums h2 hP hQ hbg1 hcb s2 s3 s4 s5 hZ hbz
  go_loopw [13] (fun i wr => ∃ (j : Nat) (s : St) (Cc : Can), j ≤ Q.ts.length ∧ i = .int .i64 j ∧ Env M Q wr ∧ One M Q wr cb Q.b1 Q.b2 w3.heap.size s Cc ∧ StB s j ∧ Lists wr w.heap.size wz.heap.size w1z.heap.size (.slice ao Q.ra.length co) (.slice af Q.rb.length cf) Q.ra Q.rb) (fun i _ => Q.ts.length - (intOf i).toNat)
  case atStart => exact ⟨0, _, _, Nat.zero_le _, rfl, hE, hOc, hst0, hZ5⟩
  case round =>
    obtain ⟨j, s, Cc, hj, rfl, he, hc, hst, hL⟩ := hrel
    by_cases hjl : j < Q.ts.length
    · have hzc := hL.z
      have hS : ∀ w', Below wr.heap.size wr w' → w'.cell? ⟨wz.heap.size, 0, none⟩ = some (.string ⟨#[122, 122]⟩) ∧ w'.cell? ⟨wz.heap.size, 1, none⟩ = some (.string ⟨#[97, 42, 98]⟩) ∧ w'.cell? ⟨wz.heap.size, 2, none⟩ = some (.bool false) := fun w' hb => by
        have hlt := (Array.getElem?_eq_some_iff.1 hzc).1
        have h0 := (hb.block _ hlt).trans hzc
        refine ⟨?_, ?_, ?_⟩ <;> simp [World.cell?, h0, zz]
      have hS0 := hS wr.drew (Below.refl _ _).drew
      obtain ⟨i0, hi0, hz0, hz1, hz2⟩ := info_parts info27
      obtain ⟨z0, z1, z2⟩ := hS wr (Below.refl _ _)
      have hla : 1 + Q.ra.length ≤ 1000 := by have := hf.pair.la; omega
      have hlb : 0 + Q.rb.length ≤ 1000 := by have := hf.pair.lb; omega
      have hlc : Q.rb.length + 1 ≤ 1000 := by have := hf.pair.lb; omega
      have hP2 : Good (zz :: Q.ra) := hf.pair.ahead
      have hP3 : Good (Q.rb ++ [zz]) := hf.pair.behind
      have hu1 : ∀ W, Below wr.heap.size wr W → (Value.slice ao Q.ra.length co = .slice none 0 0 ∧ Q.ra.length = 0) ∨ ∃ ad c, Value.slice ao Q.ra.length co = .slice (some ad) Q.ra.length c ∧ ∀ j y, (Q.ra.flatMap Rl.cells)[j]? = some y → W.cell? (ad.add j) = some y := fun W hW => rows_src (owns_below hL.ro hW)
      have hu2 : ∀ W, Below wr.heap.size wr W → (Value.slice af Q.rb.length cf = .slice none 0 0 ∧ Q.rb.length = 0) ∨ ∃ ad c, Value.slice af Q.rb.length cf = .slice (some ad) Q.rb.length c ∧ ∀ j y, (Q.rb.flatMap Rl.cells)[j]? = some y → W.cell? (ad.add j) = some y := fun W hW => rows_src (owns_below hL.rf hW)
      have hone : ∀ u ∈ [Value.string ⟨#[122, 122]⟩, .string ⟨#[97, 42, 98]⟩, .bool false], u.oneCell' = true := fun u hu => by
        simp at hu
        rcases hu with rfl | rfl | rfl <;> rfl
      have hNums1 : Nums 1 1 9 := by unfold Nums; omega
      have N1a : Hid True := trivial
      have N1 : Hid True := trivial
      have N2a : Hid True := trivial
      have N2 : Hid True := trivial
      have N3 : Hid True := trivial
      have N4 : Hid True := trivial
      have N5 : Hid True := trivial
      go_wp2_with fail
      rename_i Q0 K1 hK1 K0 hK0
      have hEnd : ∀ (u53 u57 u61 vA vB vC : Value) (b3 b4 ob : Nat) (y6 : World), AEnd wr Q.ra Q.rb y6 b3 b4 ob → Exit.then K0 (Exit.inBlock 1 (Exit.then K1 Q0)) .normal ⟨#[
          v, v2, .int .i64 how, undef, undef, undef, u6, .slice ao Q.ra.length co, .slice af Q.rb.length cf, .pointer (some ⟨wz.heap.size, 0, none⟩), .pointer (some ⟨cb, 0, none⟩),
          .int .i64 0, .slice at' Q.ts.length ct, .int .i64 ↑j, .pointer (some ⟨ob, 0, none⟩), .int .i64 0, u16, u17, u18, u19, u20, u21, .tuple #[.slice ao Q.ra.length co, .slice af Q.rb.length
          cf], v, .int .i64 how, .tuple #[.slice ao Q.ra.length co, .slice af Q.rb.length cf], .slice ao Q.ra.length co, .slice af Q.rb.length cf, .agg #[.string ⟨#[122, 122]⟩, .string ⟨#[97,
          42, 98]⟩, .bool false], .tuple #[.pointer (some ⟨cb, 0, none⟩), .int .i64 0], .slice ao Q.ra.length co, .pointer (some ⟨Q.b1, 0, none⟩), .slice af Q.rb.length cf, .pointer
          (some ⟨Q.b2, 0, none⟩), .tuple #[.pointer (some ⟨cb, 0, none⟩), .int .i64 0], .pointer (some ⟨cb, 0, none⟩), .int .i64 0, .pointer (some ⟨cb, 0, none⟩),
          .bool false, .bool false, .int .i64 0, .bool false, .bool false, v2, .slice at' Q.ts.length ct, .int .i64 ↑j, .slice at' Q.ts.length ct, .int .i64 ↑Q.ts.length, .bool true, u49, u50, .tuple #[.pointer
          (some ⟨ob, 0, none⟩), .int .i64 0], .agg #[.string ⟨#[122, 122]⟩, .string ⟨#[97, 42, 98]⟩, .bool false], u53, .slice ao Q.ra.length co, vA, .pointer (some ⟨b3, 0, none⟩), u57, .slice af Q.rb.length cf, vB, .agg #[.string ⟨#[122, 122]⟩, .string ⟨#[97, 42, 98]⟩, .bool false], u61, vC, .pointer (some ⟨b4, 0, none⟩), .tuple
          #[.pointer (some ⟨ob, 0, none⟩), .int .i64 0], .pointer (some ⟨ob, 0, none⟩), .int .i64 0, u67, u68, u69, u70, u71, u72, u73, u74, u75, u76, u77, u78, u79, u80, u81, u82, u83,
          u84, u85, u86, u87, u88, u89, u90, u91, u92, u93, u94, u95, u96, u97, u98, u99, u100, u101, u102, u103, u104, u105, u106, u107, u108, u109, u110, u111, undef], []⟩ y6 := by
        as_aux_lemma =>
          intro u53 u57 u61 vA vB vC b3 b4 ob y6 hA
          obtain ⟨hN6, M', lo3, mid, lo4, low, Co, nt, hT⟩ := hA.two
          clear hA hu1 hu2 hS hS0 hone z0 z1 z2 hzc hla hlb hlc hi0 hz0 hz1 hz2 N1a N1 N2a N2 N3 N4 N5 hNums1
          obtain ⟨gt, rfl⟩ : ∃ g, at' = some ⟨g, 0, none⟩ := by
            have h := he.t.row
            rw [q1] at h
            rcases h.2 with ⟨e, h0⟩ | ⟨g', cap', cur', e, _⟩
            · omega
            · injection e with e1 _ _
              exact ⟨g', e1⟩
          obtain ⟨p, hpe⟩ : ∃ p, Q.ts[j] = p := ⟨_, rfl⟩
          have hp : p ∈ Q.ts := hpe ▸ List.getElem_mem hjl
          obtain ⟨tk, tc, hp1⟩ := he.text hp
          obtain ⟨htr, t1, t5, ts5, _⟩ := he.t.each p hp
          obtain ⟨F, hF0, hFl⟩ := firstLaw12 p.2 t1 t5 ts5
          obtain ⟨D1, hD1⟩ := fnd_ok p.2.length Q.ra 0 fun r _ f => hF0 r.k f
          obtain ⟨D2, hD2⟩ := fnd_ok p.2.length Q.rb 0 fun r _ f => hF0 r.k f
          obtain ⟨E1, hE1⟩ := fnd_ok p.2.length (zz :: Q.ra) 0 fun r _ f => hF0 r.k f
          obtain ⟨E2, hE2⟩ := fnd_ok p.2.length (Q.rb ++ [zz]) 0 fun r _ f => hF0 r.k f
          have hmore := differ_more hP2.nodup hP3.nodup hD1 hD2 hE1 hE2 hmem1 hT.mem
          obtain ⟨D, hD⟩ : ∃ D, differ Q.ra Q.rb D1 D2 Q.ns = D := ⟨_, rfl⟩
          obtain ⟨E, hEe⟩ : ∃ E, differ (zz :: Q.ra) (Q.rb ++ [zz]) E1 E2 nt = E := ⟨_, rfl⟩
          rw [hD, hEe] at hmore
          have hDl : D.length ≤ 1000 := by
            rw [← hD]
            have := differ_len Q.ra Q.rb D1 D2 Q.ns
            have := hf.nl
            omega
          have htk : tk < wr.heap.size := by
            rw [hp1] at htr
            exact (World.ownsRow.lt htr tk rfl).2
          have hMB : ∀ k, M k → k < wr.heap.size := fun k hk => Nat.lt_of_lt_of_le (hf.mach k hk).2 he.low
          have hcell : ∀ w', Env M Q w' → w'.cell? ⟨gt, j, none⟩ = some (.slice (some ⟨tk, 0, none⟩) p.2.length tc) := fun w' he' => by
            rw [he'.cell q1 hjl, hpe, hp1]
          have htl10 := hf.tl
          have hn5 : p.2.length ≤ 1000 := by omega
          have he6 := he.below hf hN6
          have hc6 := hc.below hN6
          have hL6 := hL.below hN6
          have cell6 := hcell y6 he6
          have hstn := hst.step Q.ev Q.mo Q.en hDl
          obtain ⟨s', hR⟩ : ∃ s', stepC Q.ev Q.mo Q.en D s = ((true, D.isEmpty, 0), s') := by
            rw [q37, q38, q39]
            exact stepC_open (verdict_low hst (by omega))
          obtain ⟨s2, hR2⟩ : ∃ s', stepC 1 1 9 E ⟨0, 0, 0, []⟩ = ((true, D.isEmpty, 0), s') := by
            rw [← hmore]
            exact stepC_open verdict_0
          have hf6 := he6.first hf hp hp1 hFl
          rw [hp1] at hf6
          have hsc := hc6.see2 he6 hf he6.s1 he6.s2 hf.u1 hf.u2 hf.pair.ga hf.pair.gb hst (by omega) hn5 hD hD1 hD2 hf6.1 hf6.2.1
          have hso := fun (x : World) (hx : Env M Q x) (hT' : Two wr.heap.size Q.ra Q.rb x M' lo3 mid lo4 low b3 b4 ob Co nt) => by
            have hr := (hx.t.each p hp).1
            rw [hp1] at hr
            have hff := hT'.first hf.pair htk hr hFl
            have := hT'.see hf.pair hMB hn5 hE1 hE2 hff.1 hff.2
            rw [hEe] at this
            exact this
          rw [hR] at hsc hstn
          simp only [hR2] at hso
          simp only at hsc hstn
          obtain ⟨b, hb⟩ : ∃ b, D.isEmpty = b := ⟨_, rfl⟩
          rw [hb] at hsc hso
          clear hR hR2 hmore hD hEe hD1 hD2 hE1 hE2 hF0 hFl hf6 hDl hb hE hOc hst0 hZ5
          have hlow := he.low
          have hXc : ∀ k, (k = cb ∨ Cc.cases.ownBlock = some k) → k < wr.heap.size := fun k hk => by
            rcases hk with rfl | hk
            · exact hc.can.at'.lt
            · exact (World.ownsRow.lt hc.can.cases k hk).2
          have hXL : ∀ k, (k = cb ∨ Cc.cases.ownBlock = some k) → w1z.heap.size ≤ k := fun k hk => by
            rcases hk with rfl | hk
            · exact hcbL
            · exact Nat.le_trans hlowz.2 (hc.cas k hk)
          have hXo : ∀ k, (k = ob ∨ M' k) → wr.heap.size ≤ k := fun k hk => by
            rcases hk with rfl | hk
            · exact hT.obl
            · exact (hT.mach k hk).1
          have hoY := hT.can.at'.lt
          have hmY : ∀ k, M' k → k < y6.heap.size := fun k hk => Nat.lt_of_lt_of_le (hT.mach k hk).2 hT.low'
          have hstep : ∀ (x1 x2 : World) (C2 : Can), Env M Q x1 → One M Q x1 cb Q.b1 Q.b2 w3.heap.size s' C2 → (C2.cases.ownBlock = Cc.cases.ownBlock ∨ ∃ g, C2.cases.ownBlock = some g ∧ y6.heap.size ≤ g) → C2.names = Cc.names → C2.allowed = Cc.allowed → Lists x1 w.heap.size wz.heap.size w1z.heap.size (.slice ao Q.ra.length co) (.slice af Q.rb.length cf) Q.ra Q.rb → BelX M (fun k => k = ob ∨ M' k) x1 x2 →
              Env M Q x2 ∧ One M Q x2 cb Q.b1 Q.b2 w3.heap.size s' C2 ∧ Lists x2 w.heap.size wz.heap.size w1z.heap.size (.slice ao Q.ra.length co) (.slice af Q.rb.length cf) Q.ra Q.rb := fun x1 x2 C2 h1 h2 hor hn ha h3 hx => by
            refine ⟨h1.belX hf hx (fun k hk => hf.out (Nat.le_trans hlow (hXo k hk))) (fun g hg hk => ?_) (fun q hq g hg hk => ?_), h2.two hc (by rw [hn]) ha (Nat.le_refl _) hT.obl (fun k hk => (hT.mach k hk).1) (fun g hg => ?_) hx, h3.belX hx (fun k hk => Nat.le_trans hlowz.2 (Nat.le_trans hlow (hXo k hk))) hrowM⟩
            · have := hXo g hk
              have := (World.ownsRow.lt he.t.row g hg).2
              omega
            · have := hXo g hk
              have := (World.ownsRow.lt (he.t.each q hq).1 g hg).2
              omega
            · rcases hor with e | ⟨g', e, hge⟩
              · rw [e] at hg
                exact .inl (World.ownsRow.lt hc.can.cases g hg).2
              · rw [e] at hg
                cases hg
                exact .inr ⟨by omega, fun hm => by have := hmY _ hm; omega⟩
          clear hXo hoY hmY hL hlow htr q37 q38 q39
          go_wp2_with (first
            | (go_at_call 12; refine hsc.mono ?_; clear hsc; rintro _ x1 ⟨Cc2, rfl, hx1, hc1, hor1, hnm1, hal1⟩; have he1 := he6.see hf hc6 hx1; have hT1 := hT.belX hx1 hMB hXc; have hL1 := hL6.belX hx1 hXL hrowM; have cell1 := hcell x1 he1; have hs2 := hso x1 he1 hT1; clear hso hT hx1 he6 hc6 hL6 cell6)
            | (go_at_call 12; refine hs2.mono ?_; clear hs2; rintro _ x2 ⟨rfl, hx2⟩; obtain ⟨he2, hc2, hL2⟩ := hstep x1 x2 Cc2 he1 hc1 hor1 hnm1 hal1 hL1 hx2; clear hstep hx2 he1 hc1 hL1 cell1 hT1)
            | go_in)
          all_goals exact ⟨⟨j + 1, s', Cc2, hjl, by go_num, he2, hc2, hstn, hL2⟩, by simp [intOf]; omega⟩
      as_aux_lemma =>
        go_region_held3 (fun w' => w'.cell? ⟨wz.heap.size, 0, none⟩ = some (.string ⟨#[122, 122]⟩) ∧ w'.cell? ⟨wz.heap.size, 1, none⟩ = some (.string ⟨#[97, 42, 98]⟩) ∧ w'.cell? ⟨wz.heap.size, 2, none⟩ = some (.bool false))
          (first
            | assumption
            | exact hS _ (by with_reducible repeat (first | assumption | exact Below.refl _ _ | refine Below.drew ?_ | refine below_alloc ?_ (by solve_by_elim (maxDepth := 16) [sz_le, sz_ld, Nat.le_refl]) _))
            | exact (hS _ (by with_reducible repeat (first | assumption | exact Below.refl _ _ | refine Below.drew ?_ | refine below_alloc ?_ (by solve_by_elim (maxDepth := 16) [sz_le, sz_ld, Nat.le_refl]) _))).1
            | exact (hS _ (by with_reducible repeat (first | assumption | exact Below.refl _ _ | refine Below.drew ?_ | refine below_alloc ?_ (by solve_by_elim (maxDepth := 16) [sz_le, sz_ld, Nat.le_refl]) _))).2.1
            | exact (hS _ (by with_reducible repeat (first | assumption | exact Below.refl _ _ | refine Below.drew ?_ | refine below_alloc ?_ (by solve_by_elim (maxDepth := 16) [sz_le, sz_ld, Nat.le_refl]) _))).2.2
            | go_keep)
          (first
            | (clear N1a; refine step_app (by rfl) _ _ _ (by rfl) ?_; go_simp; refine AppG.full (base := wr.heap.size) (n := 1) (m := Q.ra.length) (xs := [.string ⟨#[122, 122]⟩, .string ⟨#[97, 42, 98]⟩, .bool false]) (news := Q.ra.flatMap Rl.cells) hi0 hz0 hz1 hz2 rfl (Lit.own (by with_reducible repeat (first | exact Lit.new1 (by first | exact sz_0 _ | exact sz_1 _ _ | exact sz_2 _ _ _ | exact sz_2' _ _ _) (by solve_by_elim (maxDepth := 16) [sz_le, sz_ld, Nat.le_refl]) | exact Lit.new0 (by first | exact sz_0 _ | exact sz_1 _ _ | exact sz_2 _ _ _ | exact sz_2' _ _ _) (by solve_by_elim (maxDepth := 16) [sz_le, sz_ld, Nat.le_refl]) | refine Lit.alloc ?_ _ | refine Lit.drew ?_ | refine Lit.below ?_ hA1 | refine Lit.below ?_ hO1 | refine Lit.below ?_ hA2 | refine Lit.below ?_ hA3 | refine Lit.below ?_ hO2))) (hu1 _ (by with_reducible repeat (first | assumption | exact Below.refl _ _ | refine Below.drew ?_ | refine below_alloc ?_ (by solve_by_elim (maxDepth := 16) [sz_le, sz_ld, Nat.le_refl]) _))) (rl_len _) (rl_one _) hla (by solve_by_elim (maxDepth := 16) [sz_le, sz_ld, Nat.le_refl]) ?_; clear N1; intro vA y1 hrA hA1 _; have hN1 : Below wr.heap.size wr y1 := below_then hA1 (by with_reducible repeat (first | assumption | exact Below.refl _ _ | refine Below.drew ?_ | refine below_alloc ?_ (by solve_by_elim (maxDepth := 16) [sz_le, sz_ld, Nat.le_refl]) _)) (by solve_by_elim (maxDepth := 16) [sz_le, sz_ld, Nat.le_refl]); have hz1' : wr.heap.size ≤ y1.heap.size := hN1.size; have hS1 := hS y1 hN1; have hrA' : y1.ownsRow wr.heap.size 27 3 vA (zz :: Q.ra).length ((zz :: Q.ra).flatMap Rl.cells) := (by have := hrA; rw [Nat.add_comm] at this; exact this); clear hrA)
            | (go_at_call 10; clear N2a; refine (own_walk (rs := zz :: Q.ra) (base := wr.heap.size) (by solve_by_elim (maxDepth := 8) [World.ownsRow.alloc, World.ownsRow.drew]) hP2).mono ?_; clear N2; rintro _ y2 ⟨b3, M3, rfl, hO1, hM3, hS3⟩; have hN2 : Below wr.heap.size wr y2 := below_then hO1 (by with_reducible repeat (first | assumption | exact Below.refl _ _ | refine Below.drew ?_ | refine below_alloc ?_ (by solve_by_elim (maxDepth := 16) [sz_le, sz_ld, Nat.le_refl]) _)) (by solve_by_elim (maxDepth := 16) [sz_le, sz_ld, Nat.le_refl]); have hz2' : wr.heap.size ≤ y2.heap.size := hN2.size; have hS2' := hS y2 hN2; have hlo3 : ∃ lo, wr.heap.size ≤ lo ∧ (∀ k, M3 k → lo ≤ k ∧ k < y2.heap.size) ∧ SetAt M3 lo y2.heap.size y2 b3 (zz :: Q.ra) := ⟨_, (by solve_by_elim (maxDepth := 16) [sz_le, sz_ld, Nat.le_refl]), hM3, hS3⟩; clear hM3 hS3)
            | (clear N3; refine step_app (by rfl) _ _ _ (by rfl) ?_; go_simp; refine AppG.full (base := wr.heap.size) (n := 0) (m := Q.rb.length) (xs := []) (news := Q.rb.flatMap Rl.cells) hi0 hz0 hz1 hz2 rfl (Lit.own (by with_reducible repeat (first | exact Lit.new1 (by first | exact sz_0 _ | exact sz_1 _ _ | exact sz_2 _ _ _ | exact sz_2' _ _ _) (by solve_by_elim (maxDepth := 16) [sz_le, sz_ld, Nat.le_refl]) | exact Lit.new0 (by first | exact sz_0 _ | exact sz_1 _ _ | exact sz_2 _ _ _ | exact sz_2' _ _ _) (by solve_by_elim (maxDepth := 16) [sz_le, sz_ld, Nat.le_refl]) | refine Lit.alloc ?_ _ | refine Lit.drew ?_ | refine Lit.below ?_ hA1 | refine Lit.below ?_ hO1 | refine Lit.below ?_ hA2 | refine Lit.below ?_ hA3 | refine Lit.below ?_ hO2))) (hu2 _ (by with_reducible repeat (first | assumption | exact Below.refl _ _ | refine Below.drew ?_ | refine below_alloc ?_ (by solve_by_elim (maxDepth := 16) [sz_le, sz_ld, Nat.le_refl]) _))) (rl_len _) (rl_one _) hlb (by solve_by_elim (maxDepth := 16) [sz_le, sz_ld, Nat.le_refl]) ?_; intro vB y3 hrB hA2 hkB; have hN3 : Below wr.heap.size wr y3 := below_then hA2 (by with_reducible repeat (first | assumption | exact Below.refl _ _ | refine Below.drew ?_ | refine below_alloc ?_ (by solve_by_elim (maxDepth := 16) [sz_le, sz_ld, Nat.le_refl]) _)) (by solve_by_elim (maxDepth := 16) [sz_le, sz_ld, Nat.le_refl]); have hz3' : wr.heap.size ≤ y3.heap.size := hN3.size; have hS3' := hS y3 hN3; have hP23 : Below y2.heap.size y2 y3 := below_then hA2 (by with_reducible repeat (first | assumption | exact Below.refl _ _ | refine Below.drew ?_ | refine below_alloc ?_ (by solve_by_elim (maxDepth := 16) [sz_le, sz_ld, Nat.le_refl]) _)) (by solve_by_elim (maxDepth := 16) [sz_le, sz_ld, Nat.le_refl]); have hz23 : y2.heap.size ≤ y3.heap.size := hP23.size; have hrB' : y3.ownsRow wr.heap.size 27 3 vB Q.rb.length (Q.rb.flatMap Rl.cells) := (by have := hrB; rw [Nat.zero_add, List.nil_append] at this; exact this); have hkB' : (∃ B', vB = .slice (some ⟨B', 0, none⟩) Q.rb.length Q.rb.length) ∨ ∀ g, vB.ownBlock = some g → y2.heap.size ≤ g := (kind_low (by have := hkB; rw [Nat.zero_add] at this; exact this) (by solve_by_elim (maxDepth := 16) [sz_le, sz_ld, Nat.le_refl])); clear hrB hkB)
            | (clear N4; refine step_app (by rfl) _ _ _ (by rfl) ?_; go_simp; refine AppG.mix (base := wr.heap.size) (low := y2.heap.size) (n := Q.rb.length) (m := 1) (xs := Q.rb.flatMap Rl.cells) (news := [.string ⟨#[122, 122]⟩, .string ⟨#[97, 42, 98]⟩, .bool false]) hi0 hz0 hz1 hz2 rfl (by solve_by_elim (maxDepth := 8) [World.ownsRow.alloc, World.ownsRow.drew]) hkB' (by solve_by_elim (maxDepth := 16) [sz_le, sz_ld, Nat.le_refl]) (lit_src (base := wr.heap.size) (by with_reducible repeat (first | exact Lit.new1 (by first | exact sz_0 _ | exact sz_1 _ _ | exact sz_2 _ _ _ | exact sz_2' _ _ _) (by solve_by_elim (maxDepth := 16) [sz_le, sz_ld, Nat.le_refl]) | exact Lit.new0 (by first | exact sz_0 _ | exact sz_1 _ _ | exact sz_2 _ _ _ | exact sz_2' _ _ _) (by solve_by_elim (maxDepth := 16) [sz_le, sz_ld, Nat.le_refl]) | refine Lit.alloc ?_ _ | refine Lit.drew ?_ | refine Lit.below ?_ hA1 | refine Lit.below ?_ hO1 | refine Lit.below ?_ hA2 | refine Lit.below ?_ hA3 | refine Lit.below ?_ hO2))) rfl hone hlc (by solve_by_elim (maxDepth := 16) [sz_le, sz_ld, Nat.le_refl]) ?_; intro vC y4 hrC hA3; have hP24 : Below y2.heap.size y2 y4 := below_then hA3 (by with_reducible repeat (first | assumption | exact Below.refl _ _ | refine Below.drew ?_ | refine below_alloc ?_ (by solve_by_elim (maxDepth := 16) [sz_le, sz_ld, Nat.le_refl]) _)) (Nat.le_refl _); have hz24 : y2.heap.size ≤ y4.heap.size := hP24.size; have hN4 : Below wr.heap.size wr y4 := hN2.trans (hP24.mono hN2.size); have hz4' : wr.heap.size ≤ y4.heap.size := hN4.size; have hS4' := hS y4 hN4; have hrC' : y4.ownsRow wr.heap.size 27 3 vC (Q.rb ++ [zz]).length ((Q.rb ++ [zz]).flatMap Rl.cells) := (by rw [List.length_append, List.flatMap_append]; exact hrC); clear hrC)
            | (go_at_call 10; clear N5; refine (own_walk (rs := Q.rb ++ [zz]) (base := wr.heap.size) (by solve_by_elim (maxDepth := 8) [World.ownsRow.alloc, World.ownsRow.drew]) hP3).mono ?_; rintro _ y5 ⟨b4, M4, rfl, hO2, hM4, hS4⟩; have hP25 : Below y2.heap.size y2 y5 := below_then hO2 (by with_reducible repeat (first | assumption | exact Below.refl _ _ | refine Below.drew ?_ | refine below_alloc ?_ (by solve_by_elim (maxDepth := 16) [sz_le, sz_ld, Nat.le_refl]) _)) (by solve_by_elim (maxDepth := 16) [sz_le, sz_ld, Nat.le_refl]); have hN5 : Below wr.heap.size wr y5 := hN2.trans (hP25.mono hN2.size); have hz25 : y2.heap.size ≤ y5.heap.size := hP25.size; have hS5' := hS y5 hN5; have hlo4 : ∃ lo, y2.heap.size ≤ lo ∧ (∀ k, M4 k → lo ≤ k ∧ k < y5.heap.size) ∧ SetAt M4 lo y5.heap.size y5 b4 (Q.rb ++ [zz]) := ⟨_, (by solve_by_elim (maxDepth := 16) [sz_le, sz_ld, Nat.le_refl]), hM4, hS4⟩; clear hM4 hS4; obtain ⟨lo3, hl3, hM3', hS3a⟩ := hlo3; obtain ⟨lo4, hl4, hM4', hS4a⟩ := hlo4; have hS3b := hS3a.bel (Bel.of hP25) (Nat.le_refl _); have hnw := new_walk hS3b hS4a hP25.size (Nat.le_refl _) hP2.len hP3.len (names_of hP2 hP3) hNums1)
            | (go_at_call 9; refine hnw.mono ?_; clear hnw; rintro _ y6 ⟨ob, bm2, vn2, nt, rfl, hb6, hob, hC2, hbm2, hbg2, hn2, hnl2, hnz2, _, hnd2, hmem2⟩; have hN6 : Below wr.heap.size wr y6 := hN5.trans (hb6.mono hN5.size); have hS6' := hS y6 hN6; have hAE : AEnd wr Q.ra Q.rb y6 b3 b4 ob := ⟨M3, M4, lo3, _, lo4, _, bm2, vn2, nt, hN6, hl3, hM3', hl4, hM4', hS3b.bel (Bel.of hb6) hz25, hS4a.bel (Bel.of hb6) (Nat.le_refl _), hb6.size, hob, hC2, hbm2, hbg2, hn2, hnl2, hnz2, hnd2, hmem2⟩))
        all_goals exact hEnd _ _ _ _ _ _ _ _ _ _ (by assumption)
    · have hje : j = Q.ts.length := by omega
      subst hje
      have hliv := lives_walk wr
      go_wp2_with (first
        | (go_at_call 13; refine hliv.mono ?_; clear hliv; rintro _ x9 ⟨rfl, hb9⟩)
        | go_in)
      go_ret
      have hBw := he.bel
      rw [q35] at hBw
      exact ⟨rfl, hBw.trans (hb9.mono hBw.size)⟩
end Go.Proofs.YtopicmcaoeameaaGreatDoor
