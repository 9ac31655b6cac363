/-
  A plan that holds a machine: what its calls may change, and how it lies in memory.
-/
import Derived.Test.YtopicmcaoeameaaGreatDoorBase
import Derived.WalkKit
namespace Go.Proofs.YtopicmcaoeameaaGreatDoor
open Go Go.Ev Go.RowKit

/-- a machine's block, as it was but for the cells that a run leaves behind -/
def SameM (o o' : Option Obj) : Prop := o' = o ∨ ∃ (c c' : Array Value) (t t' : TypeId) (fr fr' : Nat × Nat), o = some (.cells c t fr) ∧ o' = some (.cells c' t' fr') ∧ (fr'.1 = fr'.2 ∨ c'.size ≤ fr'.1) ∧ c'.size = c.size ∧ ∀ i, i < 14 → c'[i]? = c[i]?
theorem SameM.refl (o : Option Obj) : SameM o o := .inl rfl
theorem SameM.trans {a b c : Option Obj} (h : SameM a b) (k : SameM b c) : SameM a c := by
  rcases h with rfl | ⟨x, x', t, t', fr, fr', rfl, rfl, h1, h2, h3⟩
  · exact k
  · rcases k with rfl | ⟨y, y', s, s', gr, gr', e, rfl, k1, k2, k3⟩
    · exact .inr ⟨x, x', t, t', fr, fr', rfl, rfl, h1, h2, h3⟩
    · cases e
      exact .inr ⟨x, y', t, s', fr, gr', rfl, rfl, k1, k2.trans h2, fun i hi => (k3 i hi).trans (h3 i hi)⟩
/-- below B nothing has changed, but for what the machines M hold -/
structure Bel (M : Nat → Prop) (B : Nat) (w w' : World) : Prop where
  os : w'.os = w.os
  tape : w'.tape = w.tape
  output : w'.output = w.output
  size : w.heap.size ≤ w'.heap.size
  block : ∀ k, k < B → ¬ M k → w'.heap[k]? = w.heap[k]?
  mach : ∀ k, k < B → M k → SameM (w.heap[k]?) (w'.heap[k]?)
theorem Bel.of {M : Nat → Prop} {B : Nat} {w w' : World} (h : Below B w w') : Bel M B w w' := ⟨h.os, h.tape, h.output, h.size, fun k hk _ => h.block k hk, fun k hk _ => .inl (h.block k hk)⟩
theorem Bel.refl (M : Nat → Prop) (B : Nat) (w : World) : Bel M B w w := .of (Below.refl _ _)
theorem Bel.trans {M : Nat → Prop} {B : Nat} {a b c : World} (h : Bel M B a b) (k : Bel M B b c) : Bel M B a c :=
  ⟨k.os.trans h.os, k.tape.trans h.tape, k.output.trans h.output, Nat.le_trans h.size k.size, fun i hi hm => (k.block i hi hm).trans (h.block i hi hm), fun i hi hm => (h.mach i hi hm).trans (k.mach i hi hm)⟩
theorem Bel.mono {M : Nat → Prop} {B B' : Nat} {w w' : World} (h : Bel M B w w') (hB : B' ≤ B) : Bel M B' w w' := ⟨h.os, h.tape, h.output, h.size, fun k hk => h.block k (Nat.lt_of_lt_of_le hk hB), fun k hk => h.mach k (Nat.lt_of_lt_of_le hk hB)⟩
theorem Bel.more {M M' : Nat → Prop} {B : Nat} {w w' : World} (h : Bel M B w w') (hM : ∀ k, M k → M' k) : Bel M' B w w' :=
  ⟨h.os, h.tape, h.output, h.size, fun k hk hm => h.block k hk fun e => hm (hM k e), fun k hk _ => (Classical.em (M k)).elim (h.mach k hk) fun hn => .inl (h.block k hk hn)⟩
theorem Bel.drew {M : Nat → Prop} {B : Nat} {a w : World} (h : Bel M B a w) : Bel M B a w.drew := ⟨h.os, h.tape, h.output, h.size, h.block, h.mach⟩
theorem Bel.alloc {M : Nat → Prop} {B : Nat} {a w : World} (h : Bel M B a w) (hB : B ≤ w.heap.size) (o : Obj) : Bel M B a (w.alloc o) := h.trans (.of ((Below.refl B w).alloc hB o))
theorem Bel.setCell {M : Nat → Prop} {B : Nat} {a w : World} (h : Bel M B a w) {p : Addr} (hp : B ≤ p.block) (u : Value) : Bel M B a (w.setCell p u) := h.trans (.of ((Below.refl B w).setCell hp u))
theorem Bel.grown {M : Nat → Prop} {B : Nat} {a w w' : World} {row : Option Nat} (h : Bel M B a w) (hg : w.grownBy w' row) (hB : B ≤ w.heap.size) (hr : ∀ k, row = some k → B ≤ k) : Bel M B a w' := h.trans (.of ((Below.refl B w).grown hg hB hr))
theorem Bel.cell {M : Nat → Prop} {B : Nat} {w w' : World} (h : Bel M B w w') {p : Addr} (hp : p.block < B) (hm : ¬ M p.block) : w'.cell? p = w.cell? p := World.cell?_of_block (w := w) (h.block p.block hp hm)
theorem Bel.frozen {M : Nat → Prop} {B : Nat} {w w' : World} (h : Bel M B w w') {p : Addr} (hp : p.block < B) (hm : ¬ M p.block) : w'.frozen? p = w.frozen? p := World.frozen?_of_block (w := w) (h.block p.block hp hm)
theorem owns_bel {M : Nat → Prop} {w w1 : World} {base : Nat} {e : TypeId} {size : Nat} {v : Value} {n : Nat} {xs : List Value} (h : w.ownsRow base e size v n xs) (hb : Bel M w.heap.size w w1) (hM : ∀ k, M k → k < base) : w1.ownsRow base e size v n xs := by
  refine ⟨h.1, h.2.imp id ?_⟩
  rintro ⟨g, cap, cur, h1, h2, h3, h4⟩
  exact ⟨g, cap, cur, h1, h2, (hb.block g (Array.getElem?_eq_some_iff.1 h3).1 fun e => by have := hM g e; omega).trans h3, h4⟩

/-- the machine's block's name in the plan of the text 3 -/
def nMach : Pth := nm 298
/-- the machine, whatever its last run has left -/
def mach0 : List V := [.int .i64 2, .nilsl, .sl (nm 297) 0 2 2 8, .int .i64 0, .int .i64 0, .int .i64 0, .int .i64 0, .bool false, .int .i64 1, .bool false, .nilsl, .nilsl, .nilsl, .int .i64 0, .unk, .unk, .unk, .unk, .unk]
/-- the machine as New leaves it -/
def mach1 : List V := [.int .i64 2, .nilsl, .sl (nm 297) 0 2 2 8, .int .i64 0, .int .i64 0, .int .i64 0, .int .i64 0, .bool false, .int .i64 1, .bool false, .nilsl, .nilsl, .nilsl, .int .i64 0, .int .i64 0, .int .i64 0, .int .i64 0, .bool false, .bool false]
noncomputable def ro3 : List (Pth × List V) := plan3.filter fun e => !(e.1.beq nMach)
/-- a plan's blocks, whatever runs have left -/
noncomputable def planU (k : Nat) : List (Pth × List V) := match k with | 3 => (nMach, mach0) :: ro3 | k => plan k
theorem planU_ne {k : Nat} (h : k ≠ 3) : planU k = plan k := by
  unfold planU
  split
  · exact absurd rfl h
  · rfl
/-- the plan of the text k lies in blocks from lo on and ahead of hi; mb is its machine's, if it has one -/
def Laid1 (k lo hi : Nat) (w : World) (b mb : Nat) : Prop :=
  ∃ ι : Emb, RoIs ι (planU k) w ∧ ι (root k) = some (b, 0) ∧ (∀ e ∈ planU k, ∀ c s, ι e.1 = some (c, s) → lo ≤ c ∧ c < hi ∧ (c = mb ↔ k = 3 ∧ e.1 = nMach)) ∧
    (k = 3 → ι nMach = some (mb, 0) ∧ ∃ c el fr, w.heap[mb]? = some (.cells c el fr) ∧ (fr.1 = fr.2 ∨ c.size ≤ fr.1) ∧ ι.size mb = c.size)
theorem rels_unk {ι : Emb} : ∀ (n : Nat) (xs ys : List Value), V.rels ι (List.replicate n .unk) xs → ys.length = xs.length → V.rels ι (List.replicate n .unk) ys
  | 0, xs, ys, h, hl => by
    rw [show xs = [] from rels_nil_inv h] at hl
    rw [List.length_eq_zero_iff.1 hl]; exact rels_nil
  | n + 1, xs, ys, h, hl => by
    obtain ⟨x, t, rfl, hx, ht⟩ := rels_cons_inv h
    cases ys with
    | nil => simp at hl
    | cons y u => exact rels_cons trivial (rels_unk n t u ht (by simpa using hl))
theorem rels_swap {ι : Emb} : ∀ (A : List V) (n : Nat) (xs ys : List Value), V.rels ι (A ++ List.replicate n .unk) xs → ys.length = xs.length → (∀ i, i < A.length → ys[i]? = xs[i]?) → V.rels ι (A ++ List.replicate n .unk) ys
  | [], n, xs, ys, h, hl, _ => rels_unk n xs ys h hl
  | a :: A, n, xs, ys, h, hl, he => by
    obtain ⟨x, t, rfl, hx, ht⟩ := rels_cons_inv h
    cases ys with
    | nil => simp at hl
    | cons y u =>
      have h0 : y = x := by simpa using he 0 (by simp)
      subst h0
      exact rels_cons hx (rels_swap A n t u ht (by simpa using hl) fun i hi => by simpa using he (i + 1) (by simp; omega))
theorem Laid1.bel {M : Nat → Prop} {B k lo hi b mb : Nat} {w w' : World} (h : Laid1 k lo hi w b mb) (hb : Bel M B w w') (hB : hi ≤ B) (hM : ∀ c, lo ≤ c → c < hi → M c → k = 3 ∧ c = mb) : Laid1 k lo hi w' b mb := by
  obtain ⟨ι, h1, h2, h3, h4⟩ := h
  refine ⟨ι, fun e he => ?_, h2, h3, fun hk => ?_⟩
  · obtain ⟨c, s, cs, el, fr, e1, e2, e3⟩ := h1 e he
    obtain ⟨l1, l2, l3⟩ := h3 e he c s e1
    by_cases hm : M c
    · obtain ⟨rfl, rfl⟩ := hM c l1 l2 hm
      have hn : e.1 = nMach := (l3.1 rfl).2
      have hcs : e.2 = mach0 := by
        rcases List.mem_cons.1 (show e ∈ (nMach, mach0) :: ro3 from he) with rfl | he'
        · rfl
        · have := (List.mem_filter.1 he').2
          rw [hn, (Pth.beq_iff nMach nMach).2 rfl] at this
          cases this
      rcases hb.mach c (by omega) hm with e4 | ⟨x, x', t, t', gr, gr', k1, k2, k3, k4, k5⟩
      · exact ⟨c, s, cs, el, fr, e1, e4.trans e2, e3⟩
      · rw [e2] at k1
        cases k1
        obtain ⟨e5, cs', el', fr', e7, e8, e9⟩ := h4 rfl
        rw [e2] at e7
        cases e7
        have hs0 : s = 0 := by rw [hn, e5] at e1; cases e1; rfl
        subst hs0
        refine ⟨c, 0, x', t', gr', e1, k2, ?_⟩
        rw [hcs] at e3 ⊢
        refine rels_swap (mach0.take 14) 5 _ _ e3 (by simp [k4]) fun i hi => ?_
        have hi' : i < 14 := by simpa [mach0] using hi
        have hm19 : mach0.length = 19 := rfl
        rw [List.drop_zero, List.drop_zero, List.getElem?_take, List.getElem?_take, hm19, if_pos (by omega), if_pos (by omega), Array.getElem?_toList, Array.getElem?_toList, k5 i hi']
    · exact ⟨c, s, cs, el, fr, e1, (hb.block c (by omega) hm).trans e2, e3⟩
  · obtain ⟨e5, cs, el, fr, e7, e8, e9⟩ := h4 hk
    refine ⟨e5, ?_⟩
    subst hk
    obtain ⟨l1, l2, _⟩ := h3 (nMach, mach0) (List.mem_cons_self ..) mb 0 e5
    by_cases hm : M mb
    · rcases hb.mach mb (by omega) hm with e4 | ⟨x, x', t, t', gr, gr', k1, k2, k3, k4, k5⟩
      · exact ⟨cs, el, fr, e4.trans e7, e8, e9⟩
      · rw [e7] at k1
        cases k1
        exact ⟨x', t', gr', k2, k3, e9.trans k4.symm⟩
    · exact ⟨cs, el, fr, (hb.block mb (by omega) hm).trans e7, e8, e9⟩
theorem Laid1.same {k lo hi b mb : Nat} {w w' : World} (h : Laid1 k lo hi w b mb) (hs : ∀ c, lo ≤ c → c < hi → w'.heap[c]? = w.heap[c]?) : Laid1 k lo hi w' b mb := by
  obtain ⟨ι, h1, h2, h3, h4⟩ := h
  refine ⟨ι, h1.same fun e he c s hc => hs c (h3 e he c s hc).1 (h3 e he c s hc).2.1, h2, h3, fun hk => ?_⟩
  obtain ⟨e5, cs, el, fr, e7, e8, e9⟩ := h4 hk
  subst hk
  obtain ⟨l1, l2, _⟩ := h3 (nMach, mach0) (List.mem_cons_self ..) mb 0 e5
  exact ⟨e5, cs, el, fr, (hs mb l1 l2).trans e7, e8, e9⟩
theorem Laid1.mb {lo hi b mb : Nat} {w : World} (h : Laid1 3 lo hi w b mb) : lo ≤ mb ∧ mb < hi := by
  obtain ⟨ι, h1, h2, h3, h4⟩ := h
  obtain ⟨e5, _⟩ := h4 rfl
  obtain ⟨l1, l2, _⟩ := h3 (nMach, mach0) (List.mem_cons_self ..) mb 0 e5
  exact ⟨l1, l2⟩
theorem Laid1.laid {k lo hi b mb : Nat} {w : World} (h : Laid1 k lo hi w b mb) (hk : k ≠ 3) : Laid (plan k) (root k) lo hi w b := by
  obtain ⟨ι, h1, h2, h3, _⟩ := h
  rw [planU_ne hk] at h1 h3
  exact ⟨ι, h1, h2, fun e he c s hc => ⟨(h3 e he c s hc).1, (h3 e he c s hc).2.1⟩⟩
/-- the plan of the text k, its machine being one of M -/
def LaidM (M : Nat → Prop) (k lo hi : Nat) (w : World) (b : Nat) : Prop := ∃ lo' hi' mb, lo ≤ lo' ∧ hi' ≤ hi ∧ Laid1 k lo' hi' w b mb ∧ ∀ c, lo' ≤ c → c < hi' → (M c ↔ k = 3 ∧ c = mb)
theorem LaidM.bel {M : Nat → Prop} {B k lo hi b : Nat} {w w' : World} (h : LaidM M k lo hi w b) (hb : Bel M B w w') (hB : hi ≤ B) : LaidM M k lo hi w' b := by
  obtain ⟨lo', hi', mb, h1, h2, h3, h4⟩ := h
  exact ⟨lo', hi', mb, h1, h2, h3.bel hb (by omega) fun c c1 c2 hm => (h4 c c1 c2).1 hm, h4⟩
theorem LaidM.wide {M : Nat → Prop} {k lo hi lo' hi' b : Nat} {w : World} (h : LaidM M k lo hi w b) (h1 : lo' ≤ lo) (h2 : hi ≤ hi') : LaidM M k lo' hi' w b := by
  obtain ⟨l, u, mb, k1, k2, k3⟩ := h
  exact ⟨l, u, mb, by omega, by omega, k3⟩
end Go.Proofs.YtopicmcaoeameaaGreatDoor
