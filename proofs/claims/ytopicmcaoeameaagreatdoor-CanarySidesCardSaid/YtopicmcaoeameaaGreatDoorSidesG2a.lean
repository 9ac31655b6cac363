/-
  First's contract at every text of the law's symbols.
  First's contract at every text of the law's symbols, for all twelve texts of rules.
  What a law over canaries keeps: sets, texts and canaries, while one canary sees a text.
  The law CanarySides, walked.
-/
import Derived.Test.YtopicmcaoeameaaGreatDoorSidesG1a
import Derived.Test.YtopicmcaoeameaaGreatDoorSidesG1c
import Derived.Test.YtopicmcaoeameaaGreatDoorTree0Y
import Derived.Test.YtopicmcaoeameaaGreatDoorTree1Y
import Derived.Test.YtopicmcaoeameaaGreatDoorTree2aY
import Derived.Test.YtopicmcaoeameaaGreatDoorTree2bY
import Derived.Test.YtopicmcaoeameaaGreatDoorTree2cY
import Derived.Test.YtopicmcaoeameaaGreatDoorTree3aY
import Derived.Test.YtopicmcaoeameaaGreatDoorTree3bY
import Derived.Test.YtopicmcaoeameaaGreatDoorTree3cY
import Derived.Test.YtopicmcaoeameaaGreatDoorTree3dY
import Derived.Test.YtopicmcaoeameaaGreatDoorTree4Y
import Derived.Test.YtopicmcaoeameaaGreatDoorTree5Y
import Derived.Test.YtopicmcaoeameaaGreatDoorTree7aY
import Derived.Test.YtopicmcaoeameaaGreatDoorTree7bY
import Derived.Test.YtopicmcaoeameaaGreatDoorTree7cY
import Derived.Test.YtopicmcaoeameaaGreatDoorTree6aY
import Derived.Test.YtopicmcaoeameaaGreatDoorTree6bY
import Derived.Test.YtopicmcaoeameaaGreatDoorTree6cY
import Derived.Test.YtopicmcaoeameaaGreatDoorTree6dY
import Derived.Test.YtopicmcaoeameaaGreatDoorTree6eY
import Derived.Test.YtopicmcaoeameaaGreatDoorTree6fY
import Derived.Test.YtopicmcaoeameaaGreatDoorTree6gY
import Derived.Test.YtopicmcaoeameaaGreatDoorTree6hY
import Derived.Test.YtopicmcaoeameaaGreatDoorTree8Y
import Derived.Test.YtopicmcaoeameaaGreatDoorTree9Y
import Derived.Test.YtopicmcaoeameaaGreatDoorTree10Y
import Derived.Test.YtopicmcaoeameaaGreatDoorTree11Y
import Derived.Test.YtopicmcaoeameaaGreatDoorSidesG1b
import Derived.Test.YtopicmcaoeameaaGreatDoorSidesG1d
namespace Go.Proofs.YtopicmcaoeameaaGreatDoor
open Go Go.Ev Go.RowKit

theorem syms_bd : ∀ x ∈ syms, 0 ≤ x ∧ x ≤ 255 := by decide
theorem all_at {p : Nat → Bool} {n : Nat} (h : (List.range (n + 1)).all p = true) : ∀ a ≤ n, p a = true := fun a ha => List.all_eq_true.1 h a (List.mem_range.2 (by omega))
theorem five {p : Nat → Prop} (h1 : p 1) (h2 : p 2) (h3 : p 3) (h4 : p 4) (h5 : p 5) {n : Nat} (ha : 1 ≤ n) (hb : n ≤ 5) : p n := by
  obtain rfl | rfl | rfl | rfl | rfl : n = 1 ∨ n = 2 ∨ n = 3 ∨ n = 4 ∨ n = 5 := by omega
  · exact h1
  · exact h2
  · exact h3
  · exact h4
  · exact h5
theorem at_ro {k : Nat} (hk : k < 12) (h3 : k ≠ 3) (h6 : k ≠ 6) (htr : ∀ n, 1 ≤ n → n ≤ 5 → ∀ a ≤ n, tree k n a = true) {t : List Int} (h1 : 1 ≤ t.length) (h5 : t.length ≤ 5) (hb : ∀ x ∈ t, 0 ≤ x ∧ x ≤ 255) : ∃ G, FirstAt k t.length t G := by
  obtain ⟨R, hR⟩ := first_ro hk h3 h6 (htr t.length h1 h5) h1 h5 rfl hb
  exact ⟨goR R t.length, fun f => goR_err R t.length _ f (Nat.le_refl _), fun M lo hi w pb tb tc base from' a1 a2 a3 a4 a5 a6 a7 _ => hR M lo hi w pb tb tc base from' a1 a2 a3 a4 a5 a6 a7⟩
theorem at_m (htr : ∀ n, 1 ≤ n → n ≤ 5 → ∀ a ≤ n, treeM n a = true) {t : List Int} (h1 : 1 ≤ t.length) (h5 : t.length ≤ 5) (hb : ∀ x ∈ t, 0 ≤ x ∧ x ≤ 255) : ∃ G, FirstAt 3 t.length t G := by
  obtain ⟨R, hR⟩ := first_m (htr t.length h1 h5) h1 h5 rfl hb
  exact ⟨goR R t.length, fun f => goR_err R t.length _ f (Nat.le_refl _), fun M lo hi w pb tb tc base from' a1 a2 a3 a4 a5 a6 a7 _ => hR M lo hi w pb tb tc base from' a1 a2 a3 a4 a5 a6 a7⟩
theorem tree0 : ∀ n, 1 ≤ n → n ≤ 5 → ∀ a ≤ n, tree 0 n a = true := fun n ha hb => five (p := fun n => ∀ a ≤ n, tree 0 n a = true) (all_at tree_0_1) (all_at tree_0_2) (all_at tree_0_3) (all_at tree_0_4) (all_at tree_0_5) ha hb
theorem tree1 : ∀ n, 1 ≤ n → n ≤ 5 → ∀ a ≤ n, tree 1 n a = true := fun n ha hb => five (p := fun n => ∀ a ≤ n, tree 1 n a = true) (all_at tree_1_1) (all_at tree_1_2) (all_at tree_1_3) (all_at tree_1_4) (all_at tree_1_5) ha hb
theorem tree2 : ∀ n, 1 ≤ n → n ≤ 5 → ∀ a ≤ n, tree 2 n a = true := fun n ha hb => five (p := fun n => ∀ a ≤ n, tree 2 n a = true) (all_at tree_2_1) (all_at tree_2_2) (all_at tree_2_3) (all_at tree_2_4) (all_at tree_2_5) ha hb
theorem tree3 : ∀ n, 1 ≤ n → n ≤ 5 → ∀ a ≤ n, treeM n a = true := fun n ha hb => five (p := fun n => ∀ a ≤ n, treeM n a = true) (all_at tree_3_1) (all_at tree_3_2) (all_at tree_3_3) (all_at tree_3_4) (all_at tree_3_5) ha hb
theorem tree4 : ∀ n, 1 ≤ n → n ≤ 5 → ∀ a ≤ n, tree 4 n a = true := fun n ha hb => five (p := fun n => ∀ a ≤ n, tree 4 n a = true) (all_at tree_4_1) (all_at tree_4_2) (all_at tree_4_3) (all_at tree_4_4) (all_at tree_4_5) ha hb
theorem tree5 : ∀ n, 1 ≤ n → n ≤ 5 → ∀ a ≤ n, tree 5 n a = true := fun n ha hb => five (p := fun n => ∀ a ≤ n, tree 5 n a = true) (all_at tree_5_1) (all_at tree_5_2) (all_at tree_5_3) (all_at tree_5_4) (all_at tree_5_5) ha hb
theorem tree7 : ∀ n, 1 ≤ n → n ≤ 5 → ∀ a ≤ n, tree 7 n a = true := fun n ha hb => five (p := fun n => ∀ a ≤ n, tree 7 n a = true) (all_at tree_7_1) (all_at tree_7_2) (all_at tree_7_3) (all_at tree_7_4) (all_at tree_7_5) ha hb
theorem treeB_50 : treeB 5 0 = true := by
  refine List.all_eq_true.2 fun b hb => ?_
  obtain ⟨l, hl, hm⟩ := List.mem_flatMap.1 (show b ∈ (bitsAll 4).flatMap fun l => [true :: l, false :: l] from hb)
  simp only [List.mem_cons, List.not_mem_nil, or_false] at hm
  show chkB 5 0 b = true
  rcases hm with rfl | rfl
  · exact List.all_eq_true.1 treeB_50t l hl
  · exact List.all_eq_true.1 treeB_50f l hl
theorem treeB_all : ∀ n, 1 ≤ n → n ≤ 5 → ∀ f ≤ n, treeB n f = true := fun n ha hb => five (p := fun n => ∀ f ≤ n, treeB n f = true)
  (all_at treeB_1) (all_at treeB_2) (all_at treeB_3)
  (fun f hf => by
    obtain rfl | rfl | rfl | rfl | rfl : f = 0 ∨ f = 1 ∨ f = 2 ∨ f = 3 ∨ f = 4 := by omega
    · exact treeB_40
    · exact treeB_41
    · exact treeB_42
    · exact treeB_43
    · exact treeB_44)
  (fun f hf => by
    obtain rfl | rfl | rfl | rfl | rfl | rfl : f = 0 ∨ f = 1 ∨ f = 2 ∨ f = 3 ∨ f = 4 ∨ f = 5 := by omega
    · exact treeB_50
    · exact treeB_51
    · exact treeB_52
    · exact treeB_53
    · exact treeB_54
    · exact treeB_55) ha hb
theorem at_k (k : Nat) (hk : k < 8) {t : List Int} (h1 : 1 ≤ t.length) (h5 : t.length ≤ 5) (hb : ∀ x ∈ t, 0 ≤ x ∧ x ≤ 255) : ∃ G, FirstAt k t.length t G := by
  obtain rfl | rfl | rfl | rfl | rfl | rfl | rfl | rfl : k = 0 ∨ k = 1 ∨ k = 2 ∨ k = 3 ∨ k = 4 ∨ k = 5 ∨ k = 6 ∨ k = 7 := by omega
  · exact at_ro (by decide) (by decide) (by decide) tree0 h1 h5 hb
  · exact at_ro (by decide) (by decide) (by decide) tree1 h1 h5 hb
  · exact at_ro (by decide) (by decide) (by decide) tree2 h1 h5 hb
  · exact at_m tree3 h1 h5 hb
  · exact at_ro (by decide) (by decide) (by decide) tree4 h1 h5 hb
  · exact at_ro (by decide) (by decide) (by decide) tree5 h1 h5 hb
  · exact first_o treeB_all h1 h5 hb
  · exact at_ro (by decide) (by decide) (by decide) tree7 h1 h5 hb
theorem firstLaw : FirstLaw := fun t h1 h5 hs => by
  have hb : ∀ x ∈ t, 0 ≤ x ∧ x ≤ 255 := fun x hx => syms_bd x (hs x hx)
  have hk : ∀ k, ∃ G : Nat → FR, (∀ f, (G f).err = 0) ∧ (k < 8 → FirstAt k t.length t G) := fun k => by
    by_cases h8 : k < 8
    · obtain ⟨G, hG⟩ := at_k k h8 h1 h5 hb
      exact ⟨G, fun f => (hG.1 f).1, fun _ => hG⟩
    · exact ⟨fun _ => ⟨0, 0, false, 0⟩, fun _ => rfl, fun h => absurd h h8⟩
  obtain ⟨F, hF⟩ := Classical.axiomOfChoice hk
  refine ⟨F, fun k f => (hF k).1 f, fun M lo hi w rs tb tc base hMw hhi hk8 htb htm htx w1 hb1 r hr pb hl from' hfr hrch => ?_⟩
  obtain ⟨a1, a2⟩ := (hF r.k).2 (hk8 r hr)
  exact ⟨fun _ hok => (a1 from').2 hok, a2 M lo hi w1 pb tb tc base from' (fun c hc => Nat.lt_of_lt_of_le (hMw c hc) hb1.size) hl (Nat.le_trans hhi hb1.size) htb htm (owns_bel1 htx hb1 (fun g hg => by cases hg; exact htm)) hfr hrch⟩
end Go.Proofs.YtopicmcaoeameaaGreatDoor
namespace Go.Proofs.YtopicmcaoeameaaGreatDoor
open Go Go.Ev Go.RowKit

theorem tree8 : ∀ n, 1 ≤ n → n ≤ 5 → ∀ a ≤ n, tree 8 n a = true := fun n ha hb => five (p := fun n => ∀ a ≤ n, tree 8 n a = true) (all_at tree_8_1) (all_at tree_8_2) (all_at tree_8_3) (all_at tree_8_4) (all_at tree_8_5) ha hb
theorem tree9 : ∀ n, 1 ≤ n → n ≤ 5 → ∀ a ≤ n, tree 9 n a = true := fun n ha hb => five (p := fun n => ∀ a ≤ n, tree 9 n a = true) (all_at tree_9_1) (all_at tree_9_2) (all_at tree_9_3) (all_at tree_9_4) (all_at tree_9_5) ha hb
theorem tree10 : ∀ n, 1 ≤ n → n ≤ 5 → ∀ a ≤ n, tree 10 n a = true := fun n ha hb => five (p := fun n => ∀ a ≤ n, tree 10 n a = true) (all_at tree_10_1) (all_at tree_10_2) (all_at tree_10_3) (all_at tree_10_4) (all_at tree_10_5) ha hb
theorem tree11 : ∀ n, 1 ≤ n → n ≤ 5 → ∀ a ≤ n, tree 11 n a = true := fun n ha hb => five (p := fun n => ∀ a ≤ n, tree 11 n a = true) (all_at tree_11_1) (all_at tree_11_2) (all_at tree_11_3) (all_at tree_11_4) (all_at tree_11_5) ha hb
theorem at_k12 (k : Nat) (hk : k < 12) {t : List Int} (h1 : 1 ≤ t.length) (h5 : t.length ≤ 5) (hb : ∀ x ∈ t, 0 ≤ x ∧ x ≤ 255) : ∃ G, FirstAt k t.length t G := by
  by_cases h8 : k < 8
  · exact at_k k h8 h1 h5 hb
  · obtain rfl | rfl | rfl | rfl : k = 8 ∨ k = 9 ∨ k = 10 ∨ k = 11 := by omega
    · exact at_ro (by decide) (by decide) (by decide) tree8 h1 h5 hb
    · exact at_ro (by decide) (by decide) (by decide) tree9 h1 h5 hb
    · exact at_ro (by decide) (by decide) (by decide) tree10 h1 h5 hb
    · exact at_ro (by decide) (by decide) (by decide) tree11 h1 h5 hb
/-- First's contract at every text of the symbols, at all twelve texts of rules -/
def FirstLaw12 : Prop := ∀ t : List Int, 1 ≤ t.length → t.length ≤ 5 → (∀ x ∈ t, x ∈ syms) → ∃ F : Nat → Nat → FR, (∀ k f, (F k f).err = 0) ∧
  ∀ (M : Nat → Prop) (lo hi : Nat) (w : World) (rs : List Rl) (tb tc base : Nat), (∀ c, M c → c < w.heap.size) → hi ≤ w.heap.size → (∀ r ∈ rs, r.k < 12) → (tb < lo ∨ hi ≤ tb) → ¬ M tb → w.ownsRow base 3 1 (.slice (some ⟨tb, 0, none⟩) t.length tc) t.length (t.map (Value.int .i64)) →
    FirstOf M lo hi w (.slice (some ⟨tb, 0, none⟩) t.length tc) t.length 2000 F rs
theorem firstLaw12 : FirstLaw12 := fun t h1 h5 hs => by
  have hb : ∀ x ∈ t, 0 ≤ x ∧ x ≤ 255 := fun x hx => syms_bd x (hs x hx)
  have hk : ∀ k, ∃ G : Nat → FR, (∀ f, (G f).err = 0) ∧ (k < 12 → FirstAt k t.length t G) := fun k => by
    by_cases h8 : k < 12
    · obtain ⟨G, hG⟩ := at_k12 k h8 h1 h5 hb
      exact ⟨G, fun f => (hG.1 f).1, fun _ => hG⟩
    · exact ⟨fun _ => ⟨0, 0, false, 0⟩, fun _ => rfl, fun h => absurd h h8⟩
  obtain ⟨F, hF⟩ := Classical.axiomOfChoice hk
  refine ⟨F, fun k f => (hF k).1 f, fun M lo hi w rs tb tc base hMw hhi hk8 htb htm htx w1 hb1 r hr pb hl from' hfr hrch => ?_⟩
  obtain ⟨a1, a2⟩ := (hF r.k).2 (hk8 r hr)
  exact ⟨fun _ hok => (a1 from').2 hok, a2 M lo hi w1 pb tb tc base from' (fun c hc => Nat.lt_of_lt_of_le (hMw c hc) hb1.size) hl (Nat.le_trans hhi hb1.size) htb htm (owns_bel1 htx hb1 (fun g hg => by cases hg; exact htm)) hfr hrch⟩
end Go.Proofs.YtopicmcaoeameaaGreatDoor
namespace Go.Proofs.YtopicmcaoeameaaGreatDoor
open Go Go.Ev Go.RowKit Go.Smap

/-- sorted lists of the same names are the same -/
theorem names_eq {a b : List ByteArray} (sa : a.Pairwise fun x y => x.data.toList ≤ y.data.toList) (sb : b.Pairwise fun x y => x.data.toList ≤ y.data.toList) (na : a.Nodup) (nb : b.Nodup) (h : ∀ s, s ∈ a ↔ s ∈ b) : a = b := by
  refine List.Perm.eq_of_pairwise (fun x y _ _ h1 h2 => ?_) sa sb ((List.perm_ext_iff_of_nodup na nb).2 h)
  exact ByteArray.ext (Array.toList_inj.1 (List.le_antisymm h1 h2))
theorem differ_comm (ra rb : List Rl) (D1 D2 : List (Int × Int × Int)) (ns : List ByteArray) : differ rb ra D2 D1 ns = differ ra rb D1 D2 ns := by
  unfold differ
  congr 1
  funext s
  congr 1
  exact decide_eq_decide.2 eq_comm
/-- the constants of a law over canaries -/
structure Fix where
  w0 : World
  b1 : Nat
  b2 : Nat
  b3 : Nat
  b4 : Nat
  l1 : Nat
  u1 : Nat
  l2 : Nat
  u2 : Nat
  l3 : Nat
  u3 : Nat
  l4 : Nat
  u4 : Nat
  ra : List Rl
  rb : List Rl
  ev : Int
  mo : Int
  en : Int
  ns : List ByteArray
  tv : Value
  ts : List (Value × List Int)
  tb : Nat
/-- in no set's blocks -/
structure OutQ (Q : Fix) (k : Nat) : Prop where
  lo : Q.w0.heap.size ≤ k
  o1 : k < Q.l1 ∨ Q.u1 ≤ k
  o2 : k < Q.l2 ∨ Q.u2 ≤ k
  o3 : k < Q.l3 ∨ Q.u3 ≤ k
  o4 : k < Q.l4 ∨ Q.u4 ≤ k
/-- what holds of the constants -/
structure Fixed (M : Nat → Prop) (Q : Fix) : Prop where
  w0 : Q.w0.heap.size ≤ Q.tb
  u1 : Q.u1 ≤ Q.tb
  u2 : Q.u2 ≤ Q.tb
  u3 : Q.u3 ≤ Q.tb
  u4 : Q.u4 ≤ Q.tb
  mach : ∀ k, M k → Q.w0.heap.size ≤ k ∧ k < Q.tb
  pair : Pair Q.ra Q.rb
  ev : 1 ≤ Q.ev
  nl : Q.ns.length ≤ 200
  nz : ∀ s ∈ Q.ns, s.size ≤ maxLen
  tl : Q.ts.length ≤ 10
theorem Fixed.out {M : Nat → Prop} {Q : Fix} (h : Fixed M Q) {k : Nat} (hk : Q.tb ≤ k) : OutQ Q k := ⟨Nat.le_trans h.w0 hk, .inr (Nat.le_trans h.u1 hk), .inr (Nat.le_trans h.u2 hk), .inr (Nat.le_trans h.u3 hk), .inr (Nat.le_trans h.u4 hk)⟩
/-- sets and texts lie as they did -/
structure Env (M : Nat → Prop) (Q : Fix) (wr : World) : Prop where
  s1 : SetAt M Q.l1 Q.u1 wr Q.b1 Q.ra
  s2 : SetAt M Q.l2 Q.u2 wr Q.b2 Q.rb
  s3 : SetAt M Q.l3 Q.u3 wr Q.b3 Q.rb
  s4 : SetAt M Q.l4 Q.u4 wr Q.b4 Q.ra
  t : TextsAt wr Q.tb Q.tv Q.ts
  bel : Below Q.w0.heap.size Q.w0 wr
  low : Q.tb ≤ wr.heap.size
/-- a canary of the law -/
structure One (M : Nat → Prop) (Q : Fix) (wr : World) (cb p q base : Nat) (s : St) (C : Can) : Prop where
  can : CanG M wr cb p q base Q.ev Q.mo Q.en Q.ns s C
  out : OutQ Q cb
  cas : ∀ g, C.cases.ownBlock = some g → Q.tb ≤ g
theorem Env.belX {M X : Nat → Prop} {Q : Fix} {w w' : World} (he : Env M Q w) (hf : Fixed M Q) (hb : BelX M X w w') (hX : ∀ k, X k → OutQ Q k) (hT : ∀ g, Q.tv.ownBlock = some g → ¬ X g) (hE : ∀ p ∈ Q.ts, ∀ g, p.1.ownBlock = some g → ¬ X g) : Env M Q w' := by
  have hlow := he.low
  have hu := hf.u1
  have hu2 := hf.u2
  have hu3 := hf.u3
  have hu4 := hf.u4
  have hM : ∀ {b : Nat} {e : TypeId} {n : Nat} {v : Value} {xs : List Value}, w.ownsRow Q.tb e 1 v n xs → ∀ g, v.ownBlock = some g → ¬ M g := fun h g hg hm => by
    have := (hf.mach g hm).2
    have := (World.ownsRow.lt h g hg).1
    omega
  refine ⟨he.s1.belX hb (by omega) fun k h1 h2 hx => ?_, he.s2.belX hb (by omega) fun k h1 h2 hx => ?_, he.s3.belX hb (by omega) fun k h1 h2 hx => ?_, he.s4.belX hb (by omega) fun k h1 h2 hx => ?_, ?_, ?_, Nat.le_trans hlow hb.size⟩
  · have := (hX k hx).o1; omega
  · have := (hX k hx).o2; omega
  · have := (hX k hx).o3; omega
  · have := (hX k hx).o4; omega
  · refine ⟨owns_belX he.t.row hb fun g hg => ⟨hT g hg, hM (b := 0) he.t.row g hg⟩, fun p hp => ?_⟩
    obtain ⟨h1, h2⟩ := he.t.each p hp
    exact ⟨owns_belX h1 hb fun g hg => ⟨hE p hp g hg, hM (b := 0) h1 g hg⟩, h2⟩
  · have hw0 := hf.w0
    exact he.bel.trans ((hb.bel (B := Q.w0.heap.size) (by omega) fun k hk => (hX k hk).lo).below fun k hk => (hf.mach k hk).1)
/-- what See of a canary leaves alone -/
theorem Env.see {M : Nat → Prop} {Q : Fix} {w w' : World} {cb p q base : Nat} {s : St} {C : Can} (he : Env M Q w) (hf : Fixed M Q) (ho : One M Q w cb p q base s C) (hb : BelX M (fun k => k = cb ∨ C.cases.ownBlock = some k) w w') : Env M Q w' := by
  refine he.belX hf hb (fun k hk => ?_) (fun g hg => ?_) fun p hp g hg => ?_
  · rcases hk with rfl | hk
    · exact ho.out
    · exact hf.out (ho.cas k hk)
  · rintro (e | e)
    · exact not_row he.t.row ho.can.at' (by decide) (by rw [hg, e])
    · exact rows_two he.t.row ho.can.cases (by decide) hg e
  · have h1 := (he.t.each p hp).1
    rintro (e | e)
    · exact not_row h1 ho.can.at' (by decide) (by rw [hg, e])
    · exact rows_two h1 ho.can.cases (by decide) hg e
theorem Env.below {M : Nat → Prop} {Q : Fix} {w w' : World} (he : Env M Q w) (hf : Fixed M Q) (hb : Below w.heap.size w w') : Env M Q w' :=
  he.belX (X := fun _ => False) hf (.of (.of hb)) (fun _ h => h.elim) (fun _ _ h => h) (fun _ _ _ _ h => h)
theorem One.below {M : Nat → Prop} {Q : Fix} {w w' : World} {cb p q base : Nat} {s : St} {C : Can} (h : One M Q w cb p q base s C) (hb : Below w.heap.size w w') : One M Q w' cb p q base s C := ⟨h.can.bel (.of hb), h.out, h.cas⟩
/-- another canary sees a text -/
theorem One.other {M : Nat → Prop} {Q : Fix} {w w' : World} {cb p q base cb' p' q' base' : Nat} {s s' : St} {C C' : Can} (h : One M Q w cb p q base s C) (h' : One M Q w cb' p' q' base' s' C') (hne : cb' ≠ cb) (hca : ∀ g, C'.cases.ownBlock = some g → C.cases.ownBlock ≠ some g)
    (hb : BelX M (fun k => k = cb' ∨ C'.cases.ownBlock = some k) w w') : One M Q w' cb p q base s C := by
  obtain ⟨a1, a2, a3, a4⟩ := h'.can.apart h.can hne hca
  exact ⟨h.can.belX hb a1 a2 a3 a4, h.out, h.cas⟩
/-- the cases of two canaries stay apart -/
theorem apart_step {w : World} {u v v' : Value} {base n : Nat} {xs : List Value} (hu : w.ownsRow base 56 2 u n xs) (h : ∀ g, v.ownBlock = some g → u.ownBlock ≠ some g) (hv : v'.ownBlock = v.ownBlock ∨ ∃ g, v'.ownBlock = some g ∧ w.heap.size ≤ g) : ∀ g, v'.ownBlock = some g → u.ownBlock ≠ some g := fun g hg hu' => by
  rcases hv with e | ⟨g', e, hge⟩
  · exact h g (e ▸ hg) hu'
  · rw [e] at hg
    have e2 : g' = g := Option.some.inj hg
    have := (World.ownsRow.lt hu g hu').2
    omega
theorem Env.cell {M : Nat → Prop} {Q : Fix} {w : World} {gt ct j : Nat} (he : Env M Q w) (q1 : Q.tv = .slice (some ⟨gt, 0, none⟩) Q.ts.length ct) (hj : j < Q.ts.length) : w.cell? ⟨gt, j, none⟩ = some Q.ts[j].1 := by
  have h := he.t.row
  rw [q1] at h
  rw [h.cellAt j (by omega), List.getElem?_map, List.getElem?_eq_getElem hj]
  rfl
/-- First's contracts at the four sets -/
theorem Env.first {M : Nat → Prop} {Q : Fix} {w : World} (he : Env M Q w) (hf : Fixed M Q) {p : Value × List Int} (hp : p ∈ Q.ts) {tk tc : Nat} (h1 : p.1 = .slice (some ⟨tk, 0, none⟩) p.2.length tc) {F : Nat → Nat → FR}
    (hF : ∀ (M : Nat → Prop) (lo hi : Nat) (w : World) (rs : List Rl) (tb tc base : Nat), (∀ c, M c → c < w.heap.size) → hi ≤ w.heap.size → (∀ r ∈ rs, r.k < 12) → (tb < lo ∨ hi ≤ tb) → ¬ M tb → w.ownsRow base 3 1 (.slice (some ⟨tb, 0, none⟩) p.2.length tc) p.2.length (p.2.map (Value.int .i64)) →
      FirstOf M lo hi w (.slice (some ⟨tb, 0, none⟩) p.2.length tc) p.2.length 2000 F rs) :
    FirstOf M Q.l1 Q.u1 w p.1 p.2.length 2000 F Q.ra ∧ FirstOf M Q.l2 Q.u2 w p.1 p.2.length 2000 F Q.rb ∧ FirstOf M Q.l3 Q.u3 w p.1 p.2.length 2000 F Q.rb ∧ FirstOf M Q.l4 Q.u4 w p.1 p.2.length 2000 F Q.ra := by
  have hr := (he.t.each p hp).1
  have hlow := he.low
  rw [h1] at hr ⊢
  have hk := (World.ownsRow.lt hr tk rfl).1
  have hm : ¬ M tk := fun hm => by have := (hf.mach tk hm).2; omega
  have hMw : ∀ c, M c → c < w.heap.size := fun c hc => Nat.lt_of_lt_of_le (hf.mach c hc).2 hlow
  have h1' := hf.u1
  have h2' := hf.u2
  have h3' := hf.u3
  have h4' := hf.u4
  have ka : ∀ r ∈ Q.ra, r.k < 12 := fun r hr => (hf.pair.ga.each r hr).1
  have kb : ∀ r ∈ Q.rb, r.k < 12 := fun r hr => (hf.pair.gb.each r hr).1
  exact ⟨hF M _ _ w _ tk tc _ hMw (by omega) ka (.inr (by omega)) hm hr, hF M _ _ w _ tk tc _ hMw (by omega) kb (.inr (by omega)) hm hr, hF M _ _ w _ tk tc _ hMw (by omega) kb (.inr (by omega)) hm hr, hF M _ _ w _ tk tc _ hMw (by omega) ka (.inr (by omega)) hm hr⟩
theorem Env.text {M : Nat → Prop} {Q : Fix} {w : World} (he : Env M Q w) {p : Value × List Int} (hp : p ∈ Q.ts) : ∃ tk tc, p.1 = .slice (some ⟨tk, 0, none⟩) p.2.length tc := by
  obtain ⟨h1, h2, _, _, pa, pc, h5⟩ := he.t.each p hp
  rw [h5] at h1 ⊢
  rcases h1.2 with ⟨e, h0⟩ | ⟨g', cap', cur', e, _⟩
  · omega
  · injection e with e1 _ _
    exact ⟨g', pc, by rw [e1]⟩
theorem step_facts (ev mo en : Int) (D : List ByteArray) (s : St) : (stepC ev mo en D s).1.2.2 = 0 → (stepC ev mo en D s).2.seen = s.seen + 1 := by
  unfold stepC
  split
  · intro h; have h2 : (20 : Int) = 0 := h; omega
  · split
    · intro _; rfl
    · intro _; rfl
/-- See at one of the law's canaries -/
theorem One.see {M : Nat → Prop} {Q : Fix} {w : World} {cb p q base i l u l' u' : Nat} {rp rq : List Rl} {s : St} {C : Can} (ho : One M Q w cb p q base s C) (he : Env M Q w) (hf : Fixed M Q) (hS1 : SetAt M l u w p rp) (hS2 : SetAt M l' u' w q rq) (hu : u ≤ Q.tb) (hu' : u' ≤ Q.tb) (hG1 : Good rp) (hG2 : Good rq) (hst : StB s i) (hi : i ≤ 100)
    {ta : Option Addr} {n tc : Nat} (hn : n ≤ 1000) {F : Nat → Nat → FR} {D1 D2 : List (Int × Int × Int)} {D : List ByteArray} (hD : differ rp rq D1 D2 Q.ns = D) (hD1 : fnd F n 0 rp = .ok D1) (hD2 : fnd F n 0 rq = .ok D2) (hF1 : FirstOf M l u w (.slice ta n tc) n 2000 F rp) (hF2 : FirstOf M l' u' w (.slice ta n tc) n 2000 F rq) :
    Calls Tryz.prog 12 #[.pointer (some ⟨cb, 0, none⟩), .slice ta n tc, .int .i64 2000] w fun e w' => ∃ C' : Can, e = .returned (.tuple #[.bool (stepC Q.ev Q.mo Q.en D s).1.1, .bool (stepC Q.ev Q.mo Q.en D s).1.2.1, .int .i64 (stepC Q.ev Q.mo Q.en D s).1.2.2]) ∧
      BelX M (fun k => k = cb ∨ C.cases.ownBlock = some k) w w' ∧ One M Q w' cb p q base (stepC Q.ev Q.mo Q.en D s).2 C' ∧ (C'.cases.ownBlock = C.cases.ownBlock ∨ ∃ g, C'.cases.ownBlock = some g ∧ w.heap.size ≤ g) := by
  subst hD
  have hlow := he.low
  refine (see_gen (fun k hk => Nat.lt_of_lt_of_le (hf.mach k hk).2 hlow) hS1 hS2 (by omega) (by omega) hG1.len hG2.len (fun r hr => (hG1.each r hr).2.2.2) (fun r hr => (hG2.each r hr).2.2.2) ho.can hf.ev hst hi hf.nl hf.nz hn hD1 hD2 hF1 hF2).mono ?_
  rintro e w' ⟨C', rfl, hb, hC', _, _, hor⟩
  refine ⟨C', rfl, hb, ⟨hC', ho.out, fun g hg => ?_⟩, hor⟩
  rcases hor with e | ⟨g', e, hge⟩
  · exact ho.cas g (e ▸ hg)
  · rw [e] at hg
    cases hg
    omega
/-- Copy of one of the law's canaries -/
theorem One.copy {M : Nat → Prop} {Q : Fix} {w : World} {cb p q base i : Nat} {s : St} {C : Can} (ho : One M Q w cb p q base s C) (he : Env M Q w) (hf : Fixed M Q) (hst : StB s i) (hi : i ≤ 100) :
    Calls Tryz.prog 21 #[.pointer (some ⟨cb, 0, none⟩)] w fun e w' => ∃ (kb : Nat) (C' : Can), e = .returned (.pointer (some ⟨kb, 0, none⟩)) ∧ Below w.heap.size w w' ∧ w.heap.size ≤ kb ∧ One M Q w' kb p q w.heap.size s C' ∧ ∀ g, C'.cases.ownBlock = some g → w.heap.size ≤ g := by
  have hlow := he.low
  have hca : s.cases.length ≤ 1000000 := Nat.le_trans hst.ca (Nat.le_trans (Nat.mul_le_mul_right 1000 hi) (by decide))
  refine (copy_walk (fun k hk => Nat.lt_of_lt_of_le (hf.mach k hk).2 hlow) ho.can hf.nl hca).mono ?_
  rintro e w' ⟨kb, C', rfl, hb, hk, hC', hg⟩
  exact ⟨kb, C', rfl, hb, hk, ⟨hC', hf.out (by omega), fun g hg' => by have := hg g hg'; omega⟩, hg⟩
end Go.Proofs.YtopicmcaoeameaaGreatDoor
namespace Go.Proofs.YtopicmcaoeameaaGreatDoor
open Go Go.Ev Go.RowKit Go.Smap

theorem Pair.turn_mem {ra rb : List Rl} {s : ByteArray} : (∃ r ∈ rb ++ ra, r.name = s) ↔ ∃ r ∈ ra ++ rb, r.name = s := by
  constructor <;> rintro ⟨r, hr, h⟩ <;> exact ⟨r, by simp at hr ⊢; exact hr.symm, h⟩
theorem eq56 (a : Int) (s : ByteArray) (w : World) : (Op.equalIn 10000 56 (.agg #[.int .i64 a, .string s]) (.agg #[.int .i64 a, .string s])).run Tryz.prog w = .ok true w := by
  have h3 : ∀ d (a b : Int), (Op.equalIn (d + 1) 3 (.int .i64 a) (.int .i64 b)).run Tryz.prog w = .ok (a == b) w := fun d a b => by
    unfold Op.equalIn
    simp [run_underlying Tryz.underlying3, Result.andThen]
  have h9 : ∀ d (a b : ByteArray), (Op.equalIn (d + 1) 9 (.string a) (.string b)).run Tryz.prog w = .ok (a == b) w := fun d a b => by
    unfold Op.equalIn
    simp [run_underlying Tryz.underlying9, Result.andThen]
  unfold Op.equalIn
  simp [run_underlying Tryz.underlying56, Result.andThen]
  have hp : (part 3 #[Value.int .i64 a, Value.string s] 0).run Tryz.prog w = .ok (.int .i64 a) w := by kernel_rfl
  have hq : (part 9 #[Value.int .i64 a, Value.string s] 1).run Tryz.prog w = .ok (.string s) w := by kernel_rfl
  have hs : (s == s) = true := by cases s with | mk d => exact beq_self_eq_true d
  simp [hp, hq, h3 9998, h9 9998, hs]
theorem cases_cell : ∀ (cs : List (Int × ByteArray)) (j : Nat) (c : Int × ByteArray), cs[j]? = some c → (cs.flatMap caseC)[j * 2]? = some (.int .i64 c.1) ∧ (cs.flatMap caseC)[j * 2 + 1]? = some (.string c.2)
  | [], j, c, h => by simp at h
  | a :: t, 0, c, h => by
    simp at h
    subst h
    exact ⟨rfl, rfl⟩
  | a :: t, j + 1, c, h => by
    have ih := cases_cell t j c (by simpa using h)
    rw [show (j + 1) * 2 = j * 2 + 1 + 1 by omega]
    exact ih
set_option maxHeartbeats 32000000 in
set_option maxRecDepth 1000000 in
theorem sides_law {w : World} {v v2 : Value} {l m : List Int} (h : SlArg w v l) (h2 : SlCap w v2 m) {how ev : Int} (hh : -9223372036854775808 ≤ how ∧ how ≤ 9223372036854775807) (hv : -9223372036854775808 ≤ ev ∧ ev ≤ 9223372036854775807) :
    Calls Tryz.prog 6 #[v, v2, .int .i64 how, .int .i64 ev] w fun e w' => e = .returned (.bool true) ∧ Below w.heap.size w w' := by
  have hsd := sides_walk h hh
  obtain ⟨ea, eb⟩ := arnd_in ev 2 (by omega)
  obtain ⟨e2, he2⟩ : ∃ e2 : Nat, arnd ev 2 = e2 := Int.eq_ofNat_of_zero_le ea
  have hE2 := around_at hv (m := 2) (by omega) (by omega) he2
  have he2b : e2 < 2 := by omega
  have hNums : Nums (1 + (e2 : Int)) 2 9 := by unfold Nums; omega
  clear ea eb he2 h
  go_enter Tryz.func6, Tryz.ntmps6
  go_wp2_with (first
    | (go_at_call 7; refine hsd.mono ?_; clear hsd; rintro _ w1 ⟨v1, vf, ra, rb, rfl, hro, hrf, hP, hb1⟩; obtain ⟨ao, co, rfl, _⟩ := owns_shape hro; obtain ⟨af, cf, rfl, _⟩ := owns_shape hrf; have hoA := own_walk hro hP.ga)
    | (go_at_call 18; refine (hE2 _).mono ?_; clear hE2; rintro _ wx ⟨rfl, rfl⟩)
    | (go_at_call 10; refine hoA.mono ?_; clear hoA; rintro _ w2 ⟨b1, M1, rfl, hb2, hM1, hS1⟩; have hoB := own_walk (owns_below hrf hb2) hP.gb)
    | (go_at_call 10; refine hoB.mono ?_; clear hoB; rintro _ w3 ⟨b2, M2, rfl, hb3, hM2, hS2⟩; have hN1 := new_walk (hS1.bel (Bel.of hb3) (Nat.le_refl _)) hS2 hb3.size (Nat.le_refl _) hP.ga.len hP.gb.len (fun r hr => by rcases List.mem_append.1 hr with hr | hr; exact (hP.ga.each r hr).2.2.2; exact (hP.gb.each r hr).2.2.2) hNums)
    | (go_at_call 9; refine hN1.mono ?_; clear hN1; rintro _ w4 ⟨cb, bm1, vn1, ns, rfl, hb4, hcb, hC1, hbm1, hbg1, hn1, hnl1, hnz1, hns1, hnd1, hmem1⟩; have hoC := own_walk (owns_below (owns_below (owns_below hrf hb2) hb3) hb4) hP.gb)
    | (go_at_call 10; refine hoC.mono ?_; clear hoC; rintro _ w5 ⟨b3, M3, rfl, hb5, hM3, hS3⟩; have hoD := own_walk (owns_below (owns_below (owns_below (owns_below hro hb2) hb3) hb4) hb5) hP.ga)
    | (go_at_call 10; refine hoD.mono ?_; clear hoD; rintro _ w6 ⟨b4, M4, rfl, hb6, hM4, hS4⟩; have hN2 := new_walk (hS3.bel (Bel.of hb6) (Nat.le_refl _)) hS4 hb6.size (Nat.le_refl _) hP.gb.len hP.ga.len (fun r hr => by rcases List.mem_append.1 hr with hr | hr; exact (hP.gb.each r hr).2.2.2; exact (hP.ga.each r hr).2.2.2) hNums)
    | (go_at_call 9; refine hN2.mono ?_; clear hN2; rintro _ w7 ⟨db, bm2, vn2, ns2, rfl, hb7, hdb, hC2, hbm2, hbg2, hn2, hnl2, hnz2, hns2, hnd2, hmem2⟩; have s2 := hb2.size; have s3 := hb3.size; have s4 := hb4.size; have s5 := hb5.size; have s6 := hb6.size; have s7 := hb7.size; have hW7 : Below w.heap.size w w7 := (((((hb1.trans (hb2.mono hb1.size)).trans (hb3.mono (by have := hb1.size; omega))).trans (hb4.mono (by have := hb1.size; omega))).trans (hb5.mono (by have := hb1.size; omega))).trans (hb6.mono (by have := hb1.size; omega))).trans (hb7.mono (by have := hb1.size; omega)); have htx := texts_walk (h2.below hW7))
    | (go_at_call 11; refine htx.mono ?_; clear htx; rintro _ w8 ⟨vt, ts, rfl, hT, htl, hb8⟩; obtain ⟨at', ct, rfl, _⟩ := owns_shape hT.row))
  have hns : ns2 = ns := names_eq hns2 hns1 hnd2 hnd1 fun s => by rw [hmem2 s, hmem1 s]; exact Pair.turn_mem
  subst hns
  have s1 := hb1.size
  have s8 := hb8.size
  have hB78 : Below w7.heap.size w7 w8 := hb8
  have hB68 : Below w6.heap.size w6 w8 := hb7.trans (hb8.mono s7)
  have hB58 : Below w5.heap.size w5 w8 := hb6.trans (hB68.mono s6)
  have hB48 : Below w4.heap.size w4 w8 := hb5.trans (hB58.mono s5)
  have hB38 : Below w3.heap.size w3 w8 := hb4.trans (hB48.mono s4)
  have hB28 : Below w2.heap.size w2 w8 := hb3.trans (hB38.mono s3)
  obtain ⟨M, hMd⟩ : ∃ M : Nat → Prop, M = fun k => M1 k ∨ M2 k ∨ M3 k ∨ M4 k := ⟨_, rfl⟩
  have hMi : ∀ k, M k → (w1.heap.size ≤ k ∧ k < w3.heap.size) ∨ (w4.heap.size ≤ k ∧ k < w6.heap.size) := fun k hk => by
    rw [hMd] at hk
    rcases hk with hk | hk | hk | hk
    · have := hM1 k hk; omega
    · have := hM2 k hk; omega
    · have := hM3 k hk; omega
    · have := hM4 k hk; omega
  obtain ⟨Q, hQ⟩ : ∃ Q : Fix, Q = ⟨w, b1, b2, b3, b4, w1.heap.size, w2.heap.size, w2.heap.size, w3.heap.size, w4.heap.size, w5.heap.size, w5.heap.size, w6.heap.size, ra, rb, 1 + (e2 : Int), 2, 9, ns2, .slice at' ts.length ct, ts, w7.heap.size⟩ := ⟨_, rfl⟩
  have hf : Fixed M Q := by
    subst hQ
    refine ⟨hW7.size, by show w2.heap.size ≤ w7.heap.size; omega, by show w3.heap.size ≤ w7.heap.size; omega, by show w5.heap.size ≤ w7.heap.size; omega, by show w6.heap.size ≤ w7.heap.size; omega, fun k hk => ?_, hP, by show 1 ≤ 1 + (e2 : Int); omega, hnl2, hnz2, htl⟩
    have := hMi k hk
    exact ⟨by show w.heap.size ≤ k; omega, by show k < w7.heap.size; omega⟩
  have hE : Env M Q w8 := by
    subst hQ
    refine ⟨(hS1.more fun c c1 c2 => ?_).bel (Bel.of hB28) (Nat.le_refl _), (hS2.more fun c c1 c2 => ?_).bel (Bel.of hB38) (Nat.le_refl _), (hS3.more fun c c1 c2 => ?_).bel (Bel.of hB58) (Nat.le_refl _), (hS4.more fun c c1 c2 => ?_).bel (Bel.of hB68) (Nat.le_refl _), hT, hW7.trans (hb8.mono hW7.size), s8⟩
    · rw [hMd]
      exact ⟨fun h => by
        rcases h with h | h | h | h
        · exact h
        · have := hM2 c h; omega
        · have := hM3 c h; omega
        · have := hM4 c h; omega, .inl⟩
    · rw [hMd]
      exact ⟨fun h => by
        rcases h with h | h | h | h
        · have := hM1 c h; omega
        · exact h
        · have := hM3 c h; omega
        · have := hM4 c h; omega, fun h => .inr (.inl h)⟩
    · rw [hMd]
      exact ⟨fun h => by
        rcases h with h | h | h | h
        · have := hM1 c h; omega
        · have := hM2 c h; omega
        · exact h
        · have := hM4 c h; omega, fun h => .inr (.inr (.inl h))⟩
    · rw [hMd]
      exact ⟨fun h => by
        rcases h with h | h | h | h
        · have := hM1 c h; omega
        · have := hM2 c h; omega
        · have := hM3 c h; omega
        · exact h, fun h => .inr (.inr (.inr h))⟩
  have hOc : One M Q w8 cb b1 b2 w3.heap.size ⟨0, 0, 0, []⟩ ⟨b1, b2, 1 + (e2 : Int), 2, 9, 0, 0, 0, vn1, .map (some bm1), .slice none 0 0⟩ := by
    have hlt := hC1.lt
    have hbl := hbm1.lt
    subst hQ
    refine ⟨⟨hC1.below hB48, ⟨rfl, rfl, rfl, rfl, rfl, rfl, rfl, rfl⟩, fun hm => by have := hMi _ hm; omega, ⟨bm1, rfl, fun hm => by have := hMi _ hm; omega, hbm1.same (hB48.block _ hbl)⟩, owns_below hn1 hB48, fun g hg hm => ?_, World.ownsRow_nil _ _ _ _, fun g hg => (by cases hg), hB38.size⟩,
      ⟨by show w.heap.size ≤ cb; omega, .inr (by show w2.heap.size ≤ cb; omega), .inr (by show w3.heap.size ≤ cb; omega), .inl (by show cb < w4.heap.size; omega), .inl (by show cb < w5.heap.size; omega)⟩, fun g hg => (by cases hg)⟩
    have := World.ownsRow.lt hn1 g hg
    have := hMi _ hm
    omega
  have hOd : One M Q w8 db b3 b4 w6.heap.size ⟨0, 0, 0, []⟩ ⟨b3, b4, 1 + (e2 : Int), 2, 9, 0, 0, 0, vn2, .map (some bm2), .slice none 0 0⟩ := by
    have hlt := hC2.lt
    have hbl := hbm2.lt
    subst hQ
    refine ⟨⟨hC2.below hB78, ⟨rfl, rfl, rfl, rfl, rfl, rfl, rfl, rfl⟩, fun hm => by have := hMi _ hm; omega, ⟨bm2, rfl, fun hm => by have := hMi _ hm; omega, hbm2.same (hB78.block _ hbl)⟩, owns_below hn2 hB78, fun g hg hm => ?_, World.ownsRow_nil _ _ _ _, fun g hg => (by cases hg), hB68.size⟩,
      ⟨by show w.heap.size ≤ db; omega, .inr (by show w2.heap.size ≤ db; omega), .inr (by show w3.heap.size ≤ db; omega), .inr (by show w5.heap.size ≤ db; omega), .inr (by show w6.heap.size ≤ db; omega)⟩, fun g hg => (by cases hg)⟩
    have := World.ownsRow.lt hn2 g hg
    have := hMi _ hm
    omega
  have hne : cb ≠ db := by
    have := hC1.lt
    omega
  have hcad : ∀ g, Value.ownBlock (.slice none 0 0) = some g → Value.ownBlock (.slice none 0 0) ≠ some g := fun g hg => by cases hg
  have hst0 : StB ⟨0, 0, 0, []⟩ 0 := ⟨⟨Int.le_refl _, Int.le_refl _⟩, ⟨Int.le_refl _, Int.le_refl _⟩, ⟨Int.le_refl _, Int.le_refl _⟩, Nat.le_refl _⟩
  have q1 : Q.tv = .slice at' ts.length ct := by rw [hQ]
  have q2 : Q.ts = ts := by rw [hQ]
  have q3 : Q.b1 = b1 ∧ Q.b2 = b2 ∧ Q.b3 = b3 ∧ Q.b4 = b4 ∧ Q.w0 = w := by rw [hQ]; exact ⟨rfl, rfl, rfl, rfl, rfl⟩
  obtain ⟨q31, q32, q33, q34, q35⟩ := q3
  subst q2
  subst q31
  subst q32
  subst q33
  subst q34
  clear hT hS1 hS2 hS3 hS4 hM1 hM2 hM3 hM4 hMd hMi hC1 hC2 hbm1 hbm2 hn1 hn2 hns1 hns2 hnd1 hnd2 hmem1 hmem2 hnz1 hnz2 hnl1 hnl2 hro hrf hb1 hb2 hb3 hb4 hb5 hb6 hb7 hb8 hB28 hB38 hB48 hB58 hB68 hB78 hW7 hNums h2 hP hQ hbg1 hbg2 hcb hdb s1 s2 s3 s4 s5 s6 s7 s8
  go_loopw [17] (fun i wr => ∃ (j : Nat) (s : St) (Cc Cd : Can), j ≤ Q.ts.length ∧ i = .int .i64 j ∧ Env M Q wr ∧ One M Q wr cb Q.b1 Q.b2 w3.heap.size s Cc ∧ One M Q wr db Q.b3 Q.b4 w6.heap.size s Cd ∧ Hid (∀ g, Cc.cases.ownBlock = some g → Cd.cases.ownBlock ≠ some g) ∧ StB s j) (fun i _ => Q.ts.length - (intOf i).toNat)
  case atStart => exact ⟨0, _, _, _, Nat.zero_le _, rfl, hE, hOc, hOd, hcad, hst0⟩
  case round =>
    obtain ⟨j, s, Cc, Cd, hj, rfl, he, hc, hd, hca, hst⟩ := hrel
    by_cases hjl : j < Q.ts.length
    · obtain ⟨gt, rfl⟩ : ∃ g, at' = some ⟨g, 0, none⟩ := by
        have h := he.t.row
        rw [q1] at h
        rcases h.2 with ⟨e, h0⟩ | ⟨g', cap', cur', e, _⟩
        · omega
        · injection e with e1 _ _
          exact ⟨g', e1⟩
      obtain ⟨p, hpe⟩ : ∃ p, Q.ts[j] = p := ⟨_, rfl⟩
      have hp : p ∈ Q.ts := hpe ▸ List.getElem_mem hjl
      obtain ⟨tk, tc, hp1⟩ := he.text hp
      obtain ⟨_, t1, t5, ts5, _⟩ := he.t.each p hp
      obtain ⟨F, hF0, hFl⟩ := firstLaw12 p.2 t1 t5 ts5
      obtain ⟨D1, hD1⟩ := fnd_ok p.2.length Q.ra 0 fun r _ f => hF0 r.k f
      obtain ⟨D2, hD2⟩ := fnd_ok p.2.length Q.rb 0 fun r _ f => hF0 r.k f
      obtain ⟨D, hD⟩ : ∃ D, differ Q.ra Q.rb D1 D2 Q.ns = D := ⟨_, rfl⟩
      have hDl : D.length ≤ 1000 := by
        rw [← hD]
        have := differ_len Q.ra Q.rb D1 D2 Q.ns
        have := hf.nl
        omega
      have hD' : differ Q.rb Q.ra D2 D1 Q.ns = D := (differ_comm _ _ _ _ _).trans hD
      have hfst := step_facts Q.ev Q.mo Q.en D s
      have hstn := hst.step Q.ev Q.mo Q.en hDl
      have hcell : ∀ w', Env M Q w' → w'.cell? ⟨gt, j, none⟩ = some (.slice (some ⟨tk, 0, none⟩) p.2.length tc) := fun w' he' => by
        rw [he'.cell q1 hjl, hpe, hp1]
      have hfirst := fun (w' : World) (he' : Env M Q w') => he'.first hf hp hp1 hFl
      rw [hp1] at hfirst
      have hseeC := fun (w' : World) (he' : Env M Q w') (C : Can) (base cb' : Nat) (h : One M Q w' cb' Q.b1 Q.b2 base s C) => h.see he' hf he'.s1 he'.s2 hf.u1 hf.u2 hf.pair.ga hf.pair.gb hst (by omega) (by omega) hD hD1 hD2 (hfirst w' he').1 (hfirst w' he').2.1
      have hseeD := fun (w' : World) (he' : Env M Q w') (C : Can) (base cb' : Nat) (h : One M Q w' cb' Q.b3 Q.b4 base s C) => h.see he' hf he'.s3 he'.s4 hf.u3 hf.u4 hf.pair.gb hf.pair.ga hst (by omega) (by omega) hD' hD2 hD1 (hfirst w' he').2.2.1 (hfirst w' he').2.2.2
      obtain ⟨R, hR⟩ : ∃ R, stepC Q.ev Q.mo Q.en D s = R := ⟨_, rfl⟩
      rw [hR] at hfst hstn hseeC hseeD
      obtain ⟨⟨xa, xb, er⟩, s'⟩ := R
      simp only at hfst hstn hseeC hseeD
      clear hD hD' hD1 hD2 hR hF0 hFl hfirst hDl
      have hcp := hc.copy he hf hst (by omega)
      have hcount := fun (w' : World) (cb' p q base : Nat) (s : St) (C : Can) (h : One M Q w' cb' p q base s C) => counts_walk (w := w') (s := s.seen) (c := s.compared) (u := s.unlike) (by rw [h.can.at'.cell 5]; simp [Can.cells, h.can.num]) (by rw [h.can.at'.cell 6]; simp [Can.cells, h.can.num]) (by rw [h.can.at'.cell 7]; simp [Can.cells, h.can.num])
      by_cases her : er = 0
      · subst her
        have hsn : s'.seen = s.seen + 1 := hfst rfl
        have hsl : 0 ≤ s.seen := hst.se.1
        have hsu : s.seen ≤ 100 := by have := hst.se.2; omega
        go_wp2_with (first
          | (go_at_call 21; refine hcp.mono ?_; clear hcp; rintro _ x1 ⟨kb, Ck, rfl, hb1, hkb, hk1, hkg⟩; have he1 := he.below hf hb1; have hc1 := hc.below hb1; have hd1 := hd.below hb1; have cell1 := hcell x1 he1; have hsc := hseeC x1 he1 Cc _ cb hc1; have hnc : cb ≠ kb := (by have := hc.can.at'.lt; omega); have hnd : db ≠ kb := (by have := hd.can.at'.lt; omega); have hck1 : ∀ g, Cc.cases.ownBlock = some g → Ck.cases.ownBlock ≠ some g := (fun g h h' => by have := (World.ownsRow.lt hc.can.cases g h).2; have := hkg g h'; omega); have hdk1 : ∀ g, Cd.cases.ownBlock = some g → Ck.cases.ownBlock ≠ some g := (fun g h h' => by have := (World.ownsRow.lt hd.can.cases g h).2; have := hkg g h'; omega); clear hkg hkb hb1)
          | (go_at_call 12; refine hsc.mono ?_; clear hsc; rintro _ x2 ⟨Cc2, rfl, hx2, hc2, hor2⟩; have he2 := he1.see hf hc1 hx2; have hd2 := hd1.other hc1 hne hca.out hx2; have hk2 := hk1.other hc1 hnc hck1 hx2; have hca2 := apart_step hd1.can.cases hca.out hor2; have hck2 := apart_step hk1.can.cases hck1 hor2; have cell2 := hcell x2 he2; have hsd := hseeD x2 he2 Cd _ db hd2; clear hx2 hor2 hck1 hd1 hk1 hc1 he1 cell1)
          | (go_at_call 12; refine hsd.mono ?_; clear hsd; rintro _ x3 ⟨Cd3, rfl, hx3, hd3, hor3⟩; have he3 := he2.see hf hd2 hx3; have hc3 := hc2.other hd2 (Ne.symm hne) (fun g h h' => hca2 g h' h) hx3; have hk3 := hk2.other hd2 hnd hdk1 hx3; have hda3 := apart_step hc2.can.cases (fun g h h' => hca2 g h' h) hor3; have hdk3 := apart_step hk2.can.cases hdk1 hor3; have hcnt4 := hcount x3 kb _ _ _ s Ck hk3; clear hx3 hor3 hdk1 hca2 hc2 hk2 hd2 he2 cell2)
          | (go_at_call 17; refine hcnt4.mono ?_; clear hcnt4; rintro _ x4 ⟨rfl, hb4⟩; have he4 := he3.below hf hb4; have hc4 := hc3.below hb4; have hd4 := hd3.below hb4; have hk4 := hk3.below hb4; have hcnt5 := hcount x4 cb _ _ _ s' Cc2 hc4; clear hb4 he3 hc3 hd3 hk3)
          | (go_at_call 17; refine hcnt5.mono ?_; clear hcnt5; rintro _ x5 ⟨rfl, hb5⟩; have he5 := he4.below hf hb5; have hc5 := hc4.below hb5; have hd5 := hd4.below hb5; have hk5 := hk4.below hb5; have cell5 := hcell x5 he5; have hsk := hseeC x5 he5 Ck _ kb hk5; clear hb5 he4 hc4 hd4 hk4)
          | (go_at_call 12; refine hsk.mono ?_; clear hsk; rintro _ x6 ⟨Ck6, rfl, hx6, hk6, hor6⟩; have he6 := he5.see hf hk5 hx6; have hc6 := hc5.other hk5 (Ne.symm hnc) (fun g h h' => hck2 g h' h) hx6; have hd6 := hd5.other hk5 (Ne.symm hnd) (fun g h h' => hdk3 g h' h) hx6; have hcnt7 := hcount x6 kb _ _ _ s' Ck6 hk6; clear hx6 hor6 hc5 hd5 hk5 he5 cell5)
          | (go_at_call 17; refine hcnt7.mono ?_; clear hcnt7; rintro _ x7 ⟨rfl, hb7⟩; have he7 := he6.below hf hb7; have hc7 := hc6.below hb7; have hd7 := hd6.below hb7; clear hb7 he6 hc6 hd6 hk6)
          | go_in)
        exact ⟨⟨j + 1, s', Cc2, Cd3, hjl, by go_num, he7, hc7, hd7, fun g h h' => hda3 g h' h, hstn⟩, by simp [intOf]; omega⟩
      · clear hfst
        go_wp2_with (first
          | (go_at_call 21; refine hcp.mono ?_; clear hcp; rintro _ x1 ⟨kb, Ck, rfl, hb1, hkb, hk1, hkg⟩; have he1 := he.below hf hb1; have hc1 := hc.below hb1; have hd1 := hd.below hb1; have cell1 := hcell x1 he1; have hsc := hseeC x1 he1 Cc _ cb hc1; have hnc : cb ≠ kb := (by have := hc.can.at'.lt; omega); have hnd : db ≠ kb := (by have := hd.can.at'.lt; omega); have hck1 : ∀ g, Cc.cases.ownBlock = some g → Ck.cases.ownBlock ≠ some g := (fun g h h' => by have := (World.ownsRow.lt hc.can.cases g h).2; have := hkg g h'; omega); have hdk1 : ∀ g, Cd.cases.ownBlock = some g → Ck.cases.ownBlock ≠ some g := (fun g h h' => by have := (World.ownsRow.lt hd.can.cases g h).2; have := hkg g h'; omega); clear hkg hkb hb1)
          | (go_at_call 12; refine hsc.mono ?_; clear hsc; rintro _ x2 ⟨Cc2, rfl, hx2, hc2, hor2⟩; have he2 := he1.see hf hc1 hx2; have hd2 := hd1.other hc1 hne hca.out hx2; have hk2 := hk1.other hc1 hnc hck1 hx2; have hca2 := apart_step hd1.can.cases hca.out hor2; have hck2 := apart_step hk1.can.cases hck1 hor2; have cell2 := hcell x2 he2; have hsd := hseeD x2 he2 Cd _ db hd2; clear hx2 hor2 hck1 hd1 hk1 hc1 he1 cell1)
          | (go_at_call 12; refine hsd.mono ?_; clear hsd; rintro _ x3 ⟨Cd3, rfl, hx3, hd3, hor3⟩; have he3 := he2.see hf hd2 hx3; have hc3 := hc2.other hd2 (Ne.symm hne) (fun g h h' => hca2 g h' h) hx3; have hk3 := hk2.other hd2 hnd hdk1 hx3; have hda3 := apart_step hc2.can.cases (fun g h h' => hca2 g h' h) hor3; have hdk3 := apart_step hk2.can.cases hdk1 hor3; have hcnt4 := hcount x3 kb _ _ _ s Ck hk3; clear hx3 hor3 hdk1 hca2 hc2 hk2 hd2 he2 cell2)
          | (go_at_call 17; refine hcnt4.mono ?_; clear hcnt4; rintro _ x4 ⟨rfl, hb4⟩; have he4 := he3.below hf hb4; have hc4 := hc3.below hb4; have hd4 := hd3.below hb4; have hk4 := hk3.below hb4; have hcnt5 := hcount x4 cb _ _ _ s' Cc2 hc4; clear hb4 he3 hc3 hd3 hk3)
          | (go_at_call 17; refine hcnt5.mono ?_; clear hcnt5; rintro _ x5 ⟨rfl, hb5⟩; have he5 := he4.below hf hb5; have hc5 := hc4.below hb5; have hd5 := hd4.below hb5; have hk5 := hk4.below hb5; have cell5 := hcell x5 he5; have hsk := hseeC x5 he5 Ck _ kb hk5; clear hb5 he4 hc4 hd4 hk4)
          | (go_at_call 12; refine hsk.mono ?_; clear hsk; rintro _ x6 ⟨Ck6, rfl, hx6, hk6, hor6⟩; have he6 := he5.see hf hk5 hx6; have hc6 := hc5.other hk5 (Ne.symm hnc) (fun g h h' => hck2 g h' h) hx6; have hd6 := hd5.other hk5 (Ne.symm hnd) (fun g h h' => hdk3 g h' h) hx6; have hcnt7 := hcount x6 kb _ _ _ s' Ck6 hk6; clear hx6 hor6 hc5 hd5 hk5 he5 cell5)
          | (go_at_call 17; refine hcnt7.mono ?_; clear hcnt7; rintro _ x7 ⟨rfl, hb7⟩; have he7 := he6.below hf hb7; have hc7 := hc6.below hb7; have hd7 := hd6.below hb7; clear hb7 he6 hc6 hd6 hk6)
          | go_in)
        exact ⟨⟨j + 1, s', Cc2, Cd3, hjl, by go_num, he7, hc7, hd7, fun g h h' => hda3 g h' h, hstn⟩, by simp [intOf]; omega⟩
    · have hje : j = Q.ts.length := by omega
      subst hje
      clear hjl hj
      have hlowr := he.low
      have hcl : s.cases.length ≤ 1000000 := Nat.le_trans hst.ca (Nat.le_trans (Nat.mul_le_mul_right 1000 (show Q.ts.length ≤ 100 by omega)) (by decide))
      have hun := unlike_gen hc.can.at' hc.can.cases hcl (cases_one _) (cases_len _)
      have hune := fun (w' : World) (hd' : One M Q w' db Q.b3 Q.b4 w6.heap.size s Cd) => unlike_gen hd'.can.at' hd'.can.cases hcl (cases_one _) (cases_len _)
      have hver := fun (w' : World) (cb' p q base : Nat) (C : Can) (h : One M Q w' cb' p q base s C) => verdict_walk (w := w') (m := Q.mo) (e := Q.en) (c := s.compared) (u := s.unlike) (by rw [h.can.at'.cell 3]; simp [Can.cells, h.can.num]) (by rw [h.can.at'.cell 4]; simp [Can.cells, h.can.num]) (by rw [h.can.at'.cell 6]; simp [Can.cells, h.can.num]) (by rw [h.can.at'.cell 7]; simp [Can.cells, h.can.num])
      obtain ⟨V, hV⟩ : ∃ V, verdict Q.mo Q.en s.compared s.unlike = V := ⟨_, rfl⟩
      rw [hV] at hver
      clear hV
      obtain ⟨N, hN⟩ : ∃ N, s.cases.length = N := ⟨_, rfl⟩
      obtain ⟨cs, hcs⟩ : ∃ cs, s.cases = cs := ⟨_, rfl⟩
      rw [hcs] at hun hune hcl hN
      rw [hN] at hun hune hcl
      go_wp2_with (first
        | (go_at_call 20; refine hun.mono ?_; clear hun; rintro _ x1 ⟨vp, rfl, hvp, hb1⟩; obtain ⟨pa, pc, rfl, hpa⟩ := owns_shape hvp; have hc1 := hc.below hb1; have hd1 := hd.below hb1; have hu2 := hune x1 hd1)
        | (go_at_call 20; refine hu2.mono ?_; clear hu2 hune; rintro _ x2 ⟨vq, rfl, hvq, hb2⟩; obtain ⟨qa, qc, rfl, hqa⟩ := owns_shape hvq; have hc2 := hc1.below hb2; have hd2 := hd1.below hb2; have hv1 := hver x2 cb _ _ _ Cc hc2)
        | (go_at_call 19; refine hv1.mono ?_; clear hv1; rintro _ x3 ⟨rfl, hb3⟩; have hd3 := hd2.below hb3; have hv2 := hver x3 db _ _ _ Cd hd3)
        | (go_at_call 19; refine hv2.mono ?_; clear hv2 hver; rintro _ x4 ⟨rfl, hb4⟩)
        | go_in)
      have hP4 := owns_below (owns_below (owns_below hvp hb2) hb3) hb4
      have hQ4 := owns_below (owns_below hvq hb3) hb4
      have z1 := hb1.size
      have z2 := hb2.size
      have z3 := hb3.size
      have z4 := hb4.size
      have hBw : Below Q.w0.heap.size Q.w0 x4 := by
        have h0 := he.bel
        have h00 := h0.size
        exact (((h0.trans (hb1.mono h00)).trans (hb2.mono (by omega))).trans (hb3.mono (by omega))).trans (hb4.mono (by omega))
      have h56 := eq56
      clear hb1 hb2 hb3 hb4 hvp hvq hc hd hc1 hd1 hc2 hd2 hd3 he
      go_loopw [39] (fun i wt => ∃ j : Nat, j ≤ N ∧ i = .int .i64 j ∧ Below x4.heap.size x4 wt) (fun i _ => N - (intOf i).toNat)
      case atStart => exact ⟨0, Nat.zero_le _, rfl, Below.refl _ _⟩
      case round =>
        rename World => wt
        obtain ⟨j, hj, rfl, hbt⟩ := hrel
        by_cases hjl : j < N
        · obtain ⟨g1, rfl⟩ := hpa (by omega)
          obtain ⟨g2, rfl⟩ := hqa (by omega)
          have hP5 := owns_below hP4 hbt
          have hQ5 := owns_below hQ4 hbt
          obtain ⟨c0, c1⟩ := cases_cell cs j cs[j] (List.getElem?_eq_getElem (by omega))
          obtain ⟨a, sx⟩ := cs[j]
          have p0 := (hP5.cellAt (j * 2) (by omega)).trans c0
          have p1 := (hP5.cellAt (j * 2 + 1) (by omega)).trans c1
          have r0 := (hQ5.cellAt (j * 2) (by omega)).trans c0
          have r1 := (hQ5.cellAt (j * 2 + 1) (by omega)).trans c1
          clear hP5 hQ5 c0 c1
          go_wp2_with fail
          go_region
          all_goals (try go_wp2)
          all_goals go_roundw
          all_goals first
            | exact ⟨j + 1, hjl, by go_num, hbt.drew⟩
            | (simp [intOf]; omega)
        · have hje : j = N := by omega
          subst hje
          have hliv := lives_walk wt
          go_wp2_with (first
            | (go_at_call 13; refine hliv.mono ?_; clear hliv; rintro _ x9 ⟨rfl, hb9⟩)
            | go_in)
          go_ret
          rw [q35] at hBw
          exact ⟨rfl, (hBw.trans (hbt.mono hBw.size)).trans (hb9.mono (by have := hBw.size; have := hbt.size; omega))⟩
end Go.Proofs.YtopicmcaoeameaaGreatDoor
