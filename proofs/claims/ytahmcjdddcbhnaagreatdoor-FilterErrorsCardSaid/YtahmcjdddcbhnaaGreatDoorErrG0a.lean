/-
  Frames, blocks and rows: the words that the walks below use.
  The reference's filter, as it is specified: its operations in plain terms; where it lies in memory.
  The reference's filter, walked: Has, late, find.
  A map keyed by small numbers, said as a function: what a look-up gives, what a store and a delete leave. (Of no program.)
  The filter, walked: late, New.
  A map keyed by small numbers: the look-up that says whether it found, also at -1. (Of no program.)
  The filter, walked: Use.
  The filter, walked: End where it is refused.
  The meter of a version, walked: what is left of a share, and what is taken.
  The filter, walked: Data where it is refused.
  The meter of a version, walked: move, Take, and a share's left and take.
  A range over a function whose iterator tells, when it is done, what then lies in memory: the law for bodies that are never left early. (Of no program.)
  The reference's filter, walked: remove.
  A call's contract out of an evaluation whose heap is a symbolic state: what comes out fits another symbolic state.
  text.Valid, walked at symbols of a text.
-/
import Derived.KernelRfl
import Derived.Tactics
import Derived.Tactics2
import Derived.StillTactics
import Derived.WalkKit
import Derived.LoopTactic
import Derived.LoopN
import Derived.Lib.Hide
import Derived.Laws.OwnMore
import Derived.Deep.AppendLies
import Derived.Maps.AppendAt
import Derived.Test.YtahmcjdddcbhnaaGreatDoorProg
import Derived.Maps.Own
import Derived.Deep.RegionHeld3
import Derived.Deep.QuietTactic
import Derived.BigQuiet
import Derived.RangeFuncNested
import Derived.RangeFuncBound
import Derived.RangeFuncCalls
import Derived.RangeFuncLeaves
import Derived.RangeFuncFrom
import Derived.RangeFuncBox
import Derived.Shelf.Abstract
import Derived.Shelf.RegionOpen
import Derived.OwnWalkIn
import Derived.TacticsInMore
import Derived.LoopNIn
import Derived.LoopIn
import Derived.Test.YtahmcjdddcbhnaaGreatDoorEvD
namespace Go.Proofs.YtahmcjdddcbhnaaGreatDoor
open Go Go.RowKit

/-- nothing has changed but the blocks F, and what is new -/
structure Chg (F : Nat → Prop) (w w' : World) : Prop where
  os : w'.os = w.os
  tape : w'.tape = w.tape
  output : w'.output = w.output
  size : w.heap.size ≤ w'.heap.size
  block : ∀ k, k < w.heap.size → ¬ F k → w'.heap[k]? = w.heap[k]?
section
variable {F G : Nat → Prop} {a b c : World}
theorem Chg.refl (F : Nat → Prop) (w : World) : Chg F w w := ⟨rfl, rfl, rfl, Nat.le_refl _, fun _ _ _ => rfl⟩
theorem Chg.trans (h : Chg F a b) (k : Chg G b c) (hG : ∀ i, i < a.heap.size → G i → F i) : Chg F a c :=
  ⟨k.os.trans h.os, k.tape.trans h.tape, k.output.trans h.output, Nat.le_trans h.size k.size, fun i hi hf => (k.block i (Nat.lt_of_lt_of_le hi h.size) fun e => hf (hG i hi e)).trans (h.block i hi hf)⟩
theorem Chg.more (h : Chg F a b) (hG : ∀ i, i < a.heap.size → F i → G i) : Chg G a b := ⟨h.os, h.tape, h.output, h.size, fun k hk hf => h.block k hk fun e => hf (hG k hk e)⟩
theorem Chg.of_below (h : Below a.heap.size a b) : Chg F a b := ⟨h.os, h.tape, h.output, h.size, fun k hk _ => h.block k hk⟩
theorem Chg.to_below (h : Chg F a b) {B : Nat} (hB : B ≤ a.heap.size) (hF : ∀ i, i < a.heap.size → F i → B ≤ i) : Below B a b :=
  ⟨h.os, h.tape, h.output, h.size, fun k hk => h.block k (Nat.lt_of_lt_of_le hk hB) fun e => by have := hF k (Nat.lt_of_lt_of_le hk hB) e; omega⟩
theorem Chg.then_below (h : Chg F a b) {B : Nat} (k : Below B b c) (hB : a.heap.size ≤ B) : Chg F a c :=
  ⟨k.os.trans h.os, k.tape.trans h.tape, k.output.trans h.output, Nat.le_trans h.size k.size, fun i hi hf => (k.block i (Nat.lt_of_lt_of_le hi hB)).trans (h.block i hi hf)⟩
theorem Chg.alloc (h : Chg F a b) (o : Obj) : Chg F a (b.alloc o) := h.then_below ((Below.refl a.heap.size b).alloc h.size o) (Nat.le_refl _)
theorem Chg.drew (h : Chg F a b) : Chg F a b.drew := h.then_below (Below.refl a.heap.size b).drew (Nat.le_refl _)
theorem Chg.setCell (h : Chg F a b) {p : Addr} (hp : a.heap.size ≤ p.block ∨ F p.block) (u : Value) : Chg F a (b.setCell p u) :=
  ⟨h.os, h.tape, h.output, by simp only [World.setCell, Array.size_modify]; exact h.size, fun k hk hf => (Below.heap_setCell b p u k (fun e => by subst e; rcases hp with hp | hp; omega; exact hf hp)).trans (h.block k hk hf)⟩
theorem Chg.grown {row : Option Nat} (h : Chg F a b) (hg : b.grownBy c row) (hr : ∀ k, row = some k → a.heap.size ≤ k ∨ F k) : Chg F a c :=
  ⟨hg.os.trans h.os, hg.tape.trans h.tape, hg.output.trans h.output, Nat.le_trans h.size hg.size, fun k hk hf => (hg.block k (Nat.lt_of_lt_of_le hk h.size) (fun e => by rcases hr k e.symm with h1 | h1; omega; exact hf h1)).trans (h.block k hk hf)⟩
theorem Chg.cell (h : Chg F a b) {p : Addr} (hp : p.block < a.heap.size) (hf : ¬ F p.block) : b.cell? p = a.cell? p := World.cell?_of_block (w := a) (h.block _ hp hf)
theorem Chg.frozen (h : Chg F a b) {p : Addr} (hp : p.block < a.heap.size) (hf : ¬ F p.block) : b.frozen? p = a.frozen? p := World.frozen?_of_block (w := a) (h.block _ hp hf)
end

/-- block g is the cells cs -/
def Blk (w : World) (g : Nat) (t : TypeId) (cs : Array Value) : Prop := w.heap[g]? = some (.cells cs t (0, 0))
section
variable {F : Nat → Prop} {w w' : World} {g : Nat} {t : TypeId} {cs : Array Value}
theorem Blk.lt (h : Blk w g t cs) : g < w.heap.size := (Array.getElem?_eq_some_iff.1 h).1
theorem Blk.at' (h : Blk w g t cs) (i : Nat) : w.cell? ⟨g, i, none⟩ = cs[i]? := by simp [World.cell?, show w.heap[g]? = _ from h]
theorem Blk.thaw (h : Blk w g t cs) (i : Nat) : w.frozen? ⟨g, i, none⟩ = false := by simp [World.frozen?, show w.heap[g]? = _ from h]
theorem Blk.made (w : World) (t : TypeId) (cs : Array Value) : Blk (w.alloc (.cells cs t)) w.heap.size t cs := heap_alloc_new w _
theorem Blk.chg (h : Blk w g t cs) (hc : Chg F w w') (hf : ¬ F g) : Blk w' g t cs := (hc.block g h.lt hf).trans h
theorem Blk.bel {B : Nat} (h : Blk w g t cs) (hc : Below B w w') (hf : g < B) : Blk w' g t cs := (hc.block g hf).trans h
theorem Blk.alloc (h : Blk w g t cs) (o : Obj) : Blk (w.alloc o) g t cs := (Below.heap_alloc w o g h.lt).trans h
theorem Blk.put (h : Blk w g t cs) (i : Nat) (u : Value) : Blk (w.setCell ⟨g, i, none⟩ u) g t (cs.setIfInBounds i u) := by
  unfold Blk at h ⊢
  simp [World.setCell, Array.getElem?_modify, h]
theorem Blk.away (h : Blk w g t cs) {p : Addr} (hp : g ≠ p.block) (u : Value) : Blk (w.setCell p u) g t cs := (Below.heap_setCell w p u g hp).trans h
theorem Blk.grown {row : Option Nat} (h : Blk w g t cs) (hb : w.grownBy w' row) (hg : some g ≠ row) : Blk w' g t cs := (hb.block g h.lt hg).trans h
/-- blocks of two types are two -/
theorem Blk.two {g' : Nat} {t' : TypeId} {cs' : Array Value} (h : Blk w g t cs) (h' : Blk w g' t' cs') (hne : t ≠ t') : g ≠ g' := by
  rintro rfl
  have e := (show w.heap[g]? = _ from h).symm.trans h'
  cases e
  exact hne rfl
end
section
variable {F : Nat → Prop} {w w' : World} {base : Nat} {e : TypeId} {size : Nat} {v : Value} {n : Nat} {xs : List Value}
theorem row_chg (h : w.ownsRow base e size v n xs) (hc : Chg F w w') (hf : ∀ g, v.ownBlock = some g → ¬ F g) : w'.ownsRow base e size v n xs := by
  refine ⟨h.1, h.2.imp id ?_⟩
  rintro ⟨g, cap, cur, rfl, h2, h3, h4⟩
  exact ⟨g, cap, cur, rfl, h2, (hc.block g (Array.getElem?_eq_some_iff.1 h3).1 (hf g rfl)).trans h3, h4⟩
theorem row_set (h : w.ownsRow base e size v n xs) {p : Addr} (hp : v.ownBlock ≠ some p.block) (u : Value) : (w.setCell p u).ownsRow base e size v n xs := by
  refine ⟨h.1, h.2.imp id ?_⟩
  rintro ⟨g, cap, cur, rfl, h2, h3, h4⟩
  exact ⟨g, cap, cur, rfl, h2, (Below.heap_setCell w p u g (fun e => hp (by rw [← e]; rfl))).trans h3, h4⟩
theorem row_blk (h : w.ownsRow base e size v n xs) {g : Nat} {t : TypeId} {cs : Array Value} (hb : Blk w g t cs) (hne : e ≠ t) : v.ownBlock ≠ some g := by
  rcases h.2 with ⟨rfl, _⟩ | ⟨g', cap, cur, rfl, _, h3, _⟩
  · intro e; cases e
  · intro he
    cases he
    have e := h3.symm.trans hb
    cases e
    exact hne rfl
theorem row_form (h : w.ownsRow base e size v n xs) : ∃ A c, v = .slice A n c ∧ n ≤ c := by
  rcases h.2 with ⟨rfl, rfl⟩ | ⟨g, cap, cur, rfl, _, _, h4, _⟩
  · exact ⟨_, _, rfl, Nat.le_refl _⟩
  · exact ⟨_, _, rfl, h4⟩
theorem row_base {B : Nat} (h : w.ownsRow base e size v n xs) (hB : B ≤ base) : w.ownsRow B e size v n xs := by
  refine ⟨h.1, h.2.imp id ?_⟩
  rintro ⟨g, cap, cur, rfl, h2, h3⟩
  exact ⟨g, cap, cur, rfl, by omega, h3⟩
end
theorem add_flat (b s i : Nat) : (⟨b, s, none⟩ : Addr).add i = ⟨b, s + i, none⟩ := by
  unfold Addr.add
  split
  · rename_i h; subst h; rfl
  · rfl
/-- a slice that reads as the cells xs, wherever it lies -/
def Sees (w : World) (size : Nat) (v : Value) (xs : List Value) : Prop :=
  ∃ A n c, v = .slice A n c ∧ xs.length = n * size ∧ n ≤ c ∧ (n ≠ 0 → ∃ b s, A = some ⟨b, s, none⟩ ∧ b < w.heap.size ∧ ∀ i u, xs[i]? = some u → w.cell? ⟨b, s + i, none⟩ = some u)
section
variable {F : Nat → Prop} {w w' : World} {size : Nat} {v : Value} {xs : List Value}
/-- the block that a slice leads to, where it has an element -/
def Value.leads : Value → Option Nat
  | .slice (some a) (_ + 1) _ => some a.block
  | _ => none
theorem Sees.row {base : Nat} {e : TypeId} {n : Nat} (h : w.ownsRow base e size v n xs) : Sees w size v xs := by
  rcases h.2 with ⟨rfl, rfl⟩ | ⟨g, cap, cur, rfl, h2, h3, h4, _⟩
  · exact ⟨_, _, _, rfl, h.1, Nat.le_refl _, fun h => absurd rfl h⟩
  · refine ⟨_, _, _, rfl, h.1, h4, fun _ => ⟨g, 0, rfl, (Array.getElem?_eq_some_iff.1 h3).1, fun i u hi => ?_⟩⟩
    have := h.cells (g := g) rfl i u hi
    rw [add_flat] at this
    simpa using this
theorem Sees.keep (h : Sees w size v xs) (hs : w.heap.size ≤ w'.heap.size) (hc : ∀ g, Value.leads v = some g → w'.heap[g]? = w.heap[g]?) : Sees w' size v xs := by
  obtain ⟨A, n, c, rfl, h1, h2, h3⟩ := h
  refine ⟨A, n, c, rfl, h1, h2, fun hn => ?_⟩
  obtain ⟨b, s, rfl, hb, hcell⟩ := h3 hn
  obtain ⟨m, rfl⟩ : ∃ m, n = m + 1 := ⟨n - 1, by omega⟩
  exact ⟨b, s, rfl, by omega, fun i u hi => (World.cell?_of_block (hc b rfl)).trans (hcell i u hi)⟩
theorem Sees.chg (h : Sees w size v xs) (hc : Chg F w w') (hf : ∀ g, Value.leads v = some g → ¬ F g) : Sees w' size v xs := by
  refine h.keep hc.size fun g hg => hc.block g ?_ (hf g hg)
  obtain ⟨A, n, c, rfl, h1, h2, h3⟩ := h
  cases n with
  | zero => cases A <;> cases hg
  | succ m =>
    obtain ⟨b, s, rfl, hb, _⟩ := h3 (by omega)
    cases hg
    exact hb
theorem Sees.bel (h : Sees w size v xs) (hc : Below w.heap.size w w') : Sees w' size v xs := h.chg (F := fun _ => False) (Chg.of_below hc) fun _ _ h => h
theorem Sees.alloc (h : Sees w size v xs) (o : Obj) : Sees (w.alloc o) size v xs := h.bel ((Below.refl _ _).alloc (Nat.le_refl _) o)
theorem Sees.nil (w : World) (size : Nat) : Sees w size (.slice none 0 0) [] := ⟨_, _, _, rfl, by simp, Nat.le_refl _, fun h => absurd rfl h⟩
end
/-- bytes as cells -/
def bv (l : List UInt8) : List Value := l.map fun b => .int .u8 (b.toNat : Int)
theorem bv_len (l : List UInt8) : (bv l).length = l.length := List.length_map ..
theorem bv_app (a b : List UInt8) : bv (a ++ b) = bv a ++ bv b := List.map_append ..
theorem bv_one (l : List UInt8) : ∀ u ∈ bv l, u.oneCell' = true := fun u hu => by
  obtain ⟨b, _, rfl⟩ := List.mem_map.1 hu; rfl
theorem info_parts' {P : Program} {t : TypeId} {z : Value} {n m : Nat} (h : (P.info? t).map (fun i => (i.zero, i.size, i.bytes)) = some (some z, n, m)) : ∃ i, P.info? t = some i ∧ i.zero = some z ∧ i.size = n ∧ i.bytes = m := by
  cases hi : P.info? t with
  | none => rw [hi] at h; cases h
  | some i =>
    rw [hi] at h
    simp only [Option.map_some, Option.some.injEq, Prod.mk.injEq] at h
    exact ⟨i, rfl, h.1, h.2.1, h.2.2⟩

section
variable {P : Program} {w : World} {base : Nat} {e : TypeId} {size : Nat}
theorem grown_refl (w : World) (r : Option Nat) : w.grownBy w r := ⟨rfl, rfl, rfl, Nat.le_refl _, fun _ _ _ => rfl⟩
/-- append of what a slice reads as: the row is the old one or a new one -/
theorem wpList_append_sees {ops : Array Oper} {rest : List Oper} {o : Oper} {a : Act} {Q : Exit → Act → World → Prop} (hgd : o.guard = none) (s x : Operand) (t : TypeId)
    (ho : o.op = .call { callee := .builtin .append, args := #[s, x], argTypes := #[t, t] })
    (i : TypeInfo) (z : Value) (bytes : Nat) (ht : P.underlying t = some (.slice e)) (hi : P.info? e = some i) (hz : i.zero = some z)
    (hsize : i.size = size) (hby : i.bytes = bytes) (hzs : z.cells.size = size) (hsz : 0 < size)
    (v : Value) (n : Nat) (xs : List Value) (hs : a.eval s = v) (hown : w.ownsRow base e size v n xs)
    (u : Value) (m : Nat) (news : List Value) (hx : a.eval x = u) (hrow : Sees w size u news) (hm : news.length = m * size) (h1 : ∀ u ∈ news, u.oneCell' = true)
    (h63 : n + m ≤ maxLen) (hbytes : (n + m) * bytes ≤ 140737488355328) (hbase : base ≤ w.heap.size)
    (h : ∀ v' w', w'.ownsRow base e size v' (n + m) (xs ++ news) → w.grownBy w' v.ownBlock → (v'.ownBlock = v.ownBlock ∨ ∃ g, v'.ownBlock = some g ∧ w.heap.size ≤ g) → wpList P ops Q rest (a.put o.dst v') w') :
    wpList P ops Q (o :: rest) a w := by
  have key : ∃ v' w', (Builtin.append_ #[t, t] o.type #[v, u]).run P w = .ok v' w' ∧ w'.ownsRow base e size v' (n + m) (xs ++ news) ∧ w.grownBy w' v.ownBlock ∧ (v'.ownBlock = v.ownBlock ∨ ∃ g, v'.ownBlock = some g ∧ w.heap.size ≤ g) := by
    obtain ⟨A, m', c, rfl, k1, k2, k3⟩ := hrow
    have hmm : m' = m := Nat.eq_of_mul_eq_mul_right hsz (k1.symm.trans hm)
    subst hmm
    cases A with
    | none =>
      have hm0 : m' = 0 := by
        rcases Nat.eq_zero_or_pos m' with h0 | h0
        · exact h0
        · obtain ⟨b, s, hb, _⟩ := k3 (by omega)
          cases hb
      subst hm0
      have hn : news = [] := List.length_eq_zero_iff.1 (by simpa using k1)
      subst hn
      refine ⟨v, w, ?_, by simpa using hown, grown_refl _ _, .inl rfl⟩
      rcases hown.2 with ⟨rfl, rfl⟩ | ⟨g, cap, cur, rfl, _, _, hnc, _⟩
      · simp [Builtin.append_, run_underlying ht, sizeOf, typeInfo, hi, Builtin.lenOf, Builtin.firstCells]
      · simp [Builtin.append_, run_underlying ht, sizeOf, typeInfo, hi, Builtin.lenOf, Builtin.firstCells, hnc, storeCells]
    | some ad =>
      have hcells : ∀ j u, news[j]? = some u → w.cell? (ad.add j) = some u := by
        intro j u hj
        have hlen := (List.getElem?_eq_some_iff.1 hj).1
        obtain ⟨b, s, hb, _, hc⟩ := k3 (fun e => by subst e; rw [Nat.zero_mul] at k1; omega)
        cases hb
        rw [add_flat]
        exact hc j u hj
      obtain ⟨v', w', h2, h3, h4, _, h5⟩ := run_append_own_at w base t o.type e i z size bytes ht hi hz hsize hby hzs hsz v n xs hown ad m' c news k1 hcells h1 h63 hbytes hbase
      exact ⟨v', w', h2, h3, h4, h5.imp id fun h => ⟨_, h, Nat.le_refl _⟩⟩
  obtain ⟨v', w', hr, h3, h4, h5⟩ := key
  refine wpList_plain hgd fun K hK => ?_
  unfold Oper.wp execOp
  simp only [ho, resolve, invoke, builtin, Sem.run_bind, Sem.run_pure, Result.andThen_ok, List.map_toArray, List.map_cons, List.map_nil, hs, hx, hr]
  exact hK _ _ (h v' w' h3 h4 h5)
end
end Go.Proofs.YtahmcjdddcbhnaaGreatDoor
namespace Go.Proofs.YtahmcjdddcbhnaaGreatDoor
open Go Go.RowKit

/-! ### Rows of things of several cells -/
theorem flat_at {α : Type} (c : α → List Value) (m : Nat) (hm : ∀ a, (c a).length = m) : ∀ (D : List α) (j : Nat) (h : j < D.length) (i : Nat), i < m → (D.flatMap c)[j * m + i]? = (c D[j])[i]?
  | a :: t, 0, _, i, hi => by
    rw [List.flatMap_cons, List.getElem?_append_left (by rw [hm]; omega)]
    simp
  | a :: t, j + 1, h, i, hi => by
    have e : (j + 1) * m + i = (c a).length + (j * m + i) := by rw [hm, Nat.succ_mul]; omega
    rw [List.flatMap_cons, e, List.getElem?_append_right (by omega), Nat.add_sub_cancel_left]
    exact flat_at c m hm t j (by simpa using h) i hi
theorem flat_len {α : Type} (c : α → List Value) (m : Nat) (hm : ∀ a, (c a).length = m) : ∀ D : List α, (D.flatMap c).length = D.length * m
  | [] => by simp
  | a :: t => by rw [List.flatMap_cons, List.length_append, hm, flat_len c m hm t, List.length_cons, Nat.succ_mul]; omega
theorem sees_at {α : Type} {w : World} {m : Nat} {v : Value} (c : α → List Value) (hm : ∀ a, (c a).length = m) (h0 : 0 < m) {l : List α} (h : Sees w m v (l.flatMap c)) :
    ∃ A cp, v = .slice A l.length cp ∧ l.length ≤ cp ∧ (l.length ≠ 0 → ∃ b s, A = some ⟨b, s, none⟩ ∧ b < w.heap.size ∧ ∀ j (hj : j < l.length) i u, i < m → (c l[j])[i]? = some u → w.cell? ⟨b, s + j * m + i, none⟩ = some u) := by
  obtain ⟨A, n, cp, rfl, h1, h2, h3⟩ := h
  have hn : n = l.length := by
    rw [flat_len c m hm] at h1
    exact (Nat.eq_of_mul_eq_mul_right h0 h1).symm
  subst hn
  refine ⟨A, cp, rfl, h2, fun hn => ?_⟩
  obtain ⟨b, s, rfl, hb, hc⟩ := h3 hn
  refine ⟨b, s, rfl, hb, fun j hj i u hi hu => ?_⟩
  rw [Nat.add_assoc]
  exact hc _ _ ((flat_at c m hm l j hj i hi).trans hu)
def ints (l : List Int) : List Value := l.map (Value.int .i64)
theorem ints_len (l : List Int) : (ints l).length = l.length := List.length_map ..
theorem wrapS {x : Int} (h1 : -9223372036854775808 ≤ x) (h2 : x ≤ 9223372036854775807) : IntKind.i64.wrap x = x := by
  rw [IntKind.wrap_i64]
  omega

/-! ### The reference's filter -/
structure CR where
  num : Int
  ver : Int
  many : Int
def CR.cells (c : CR) : List Value := [.int .i64 c.num, .int .i64 c.ver, .int .i64 c.many]
structure RF where
  vs : List Int
  cs : List CR
  use : Int
  tick : Int
structure ROp where
  kind : Int
  n : Int
  tick : Int
  many : Int
def ROp.cells (o : ROp) : List Value := [.int .i64 o.kind, .int .i64 o.n, .int .i64 o.tick, .int .i64 o.many]
/-- the error of a tick -/
def lateE (tk t : Int) : Int := if t < 0 ∨ 1099511627776 < t then 1 else if t < tk then 16 else 0
/-- the index of the first connection with a number, or how many there are -/
def idx (cs : List CR) (n : Int) : Nat := cs.findIdx fun c => c.num == n
/-- the index of the first connection whose number is not below, or how many there are -/
def pos (cs : List CR) (n : Int) : Nat := cs.findIdx fun c => !decide (c.num < n)
def RF.inst (s : RF) (n : Int) : Int × RF :=
  if n < 0 ∨ 1024 < n then (1, s) else if s.vs.contains n = true then (8, s) else if 64 ≤ s.vs.length then (4, s) else (0, { s with vs := s.vs ++ [n] })
def RF.usen (s : RF) (n : Int) : Int × RF := if s.vs.contains n = false then (7, s) else (0, { s with use := n })
def RF.rem (s : RF) (n : Int) : Int × RF :=
  if s.vs.contains n = false then (7, s) else if s.use = n then (15, s) else if s.cs.any (fun c => c.ver == n) = true then (15, s) else (0, { s with vs := s.vs.filter fun v => v != n })
def RF.opn (s : RF) (n t : Int) : Int × RF :=
  if n < 0 ∨ 1099511627776 < n then (1, s) else if lateE s.tick t ≠ 0 then (lateE s.tick t, s) else if idx s.cs n < s.cs.length then (8, s) else if s.use < 0 then (20, s) else if 64 ≤ s.cs.length then (4, s)
  else (0, { s with cs := s.cs.take (pos s.cs n) ++ [⟨n, s.use, 0⟩] ++ s.cs.drop (pos s.cs n), tick := t })
def RF.snd (s : RF) (n t many : Int) : Int × RF :=
  if lateE s.tick t ≠ 0 then (lateE s.tick t, s) else match s.cs[idx s.cs n]? with
  | none => (7, s)
  | some c => if 65536 < c.many + many then (4, s) else (0, { s with cs := s.cs.set (idx s.cs n) { c with many := c.many + many }, tick := t })
def RF.fin (s : RF) (n t : Int) : Int × RF :=
  if lateE s.tick t ≠ 0 then (lateE s.tick t, s) else match s.cs[idx s.cs n]? with
  | none => (7, s)
  | some _ => (0, { s with cs := s.cs.take (idx s.cs n) ++ s.cs.drop (idx s.cs n + 1), tick := t })
def RF.step (s : RF) (o : ROp) : Int × RF :=
  if o.kind = 0 then s.inst o.n else if o.kind = 1 then s.usen o.n else if o.kind = 2 then s.rem o.n else if o.kind = 3 then s.opn o.n o.tick else if o.kind = 4 then s.snd o.n o.tick o.many else s.fin o.n o.tick
/-- what an operation's fields may be -/
structure ROp.Ok (o : ROp) : Prop where
  kind : 0 ≤ o.kind ∧ o.kind ≤ 5
  n : -1 ≤ o.n ∧ o.n ≤ 3
  tick : 0 ≤ o.tick ∧ o.tick ≤ 1000000
  many : 0 ≤ o.many ∧ o.many ≤ 40000
/-- what a filter that is reached may be -/
structure RF.Ok (s : RF) : Prop where
  nd : s.vs.Nodup
  vs : ∀ v ∈ s.vs, 0 ≤ v ∧ v ≤ 3
  up : s.cs.Pairwise fun a b => a.num < b.num
  cs : ∀ c ∈ s.cs, (0 ≤ c.num ∧ c.num ≤ 3) ∧ c.ver ∈ s.vs ∧ 0 ≤ c.many ∧ c.many ≤ 65536
  use : s.use = -1 ∨ s.use ∈ s.vs
  none : s.use = -1 → s.cs = []
  tick : 0 ≤ s.tick ∧ s.tick ≤ 1000000
/-- where the reference's filter lies -/
structure RAt (w : World) (B g : Nat) (v1 v2 : Value) (s : RF) : Prop where
  blk : Blk w g 51 #[v1, v2, .int .i64 s.use, .int .i64 s.tick]
  row1 : w.ownsRow B 3 1 v1 s.vs.length (ints s.vs)
  row2 : w.ownsRow B 67 3 v2 s.cs.length (s.cs.flatMap CR.cells)
  lo : B ≤ g
/-- the blocks that are the reference's -/
def RFt (g : Nat) (v1 v2 : Value) (k : Nat) : Prop := k = g ∨ v1.ownBlock = some k ∨ v2.ownBlock = some k
section
variable {w w' : World} {B g : Nat} {v1 v2 : Value} {s : RF}
theorem RAt.chg {F : Nat → Prop} (h : RAt w B g v1 v2 s) (hc : Chg F w w') (hf : ∀ k, RFt g v1 v2 k → ¬ F k) : RAt w' B g v1 v2 s :=
  ⟨h.blk.chg hc (hf g (.inl rfl)), row_chg h.row1 hc fun k hk => hf k (.inr (.inl hk)), row_chg h.row2 hc fun k hk => hf k (.inr (.inr hk)), h.lo⟩
theorem RAt.bel (h : RAt w B g v1 v2 s) (hb : Below w.heap.size w w') : RAt w' B g v1 v2 s := h.chg (F := fun _ => False) (Chg.of_below hb) fun _ _ h => h
theorem RAt.lt (h : RAt w B g v1 v2 s) {k : Nat} (hk : RFt g v1 v2 k) : B ≤ k ∧ k < w.heap.size := by
  rcases hk with rfl | hk | hk
  · exact ⟨h.lo, h.blk.lt⟩
  · exact World.ownsRow.lt h.row1 k hk
  · exact World.ownsRow.lt h.row2 k hk
theorem RAt.sees1 (h : RAt w B g v1 v2 s) : Sees w 1 v1 (ints s.vs) := Sees.row h.row1
theorem RAt.sees2 (h : RAt w B g v1 v2 s) : Sees w 3 v2 (s.cs.flatMap CR.cells) := Sees.row h.row2
/-- the shape of the list of connections -/
theorem RAt.conns (h : RAt w B g v1 v2 s) : ∃ A cp, v2 = .slice A s.cs.length cp ∧ s.cs.length ≤ cp ∧ (s.cs.length ≠ 0 → ∃ b o, A = some ⟨b, o, none⟩ ∧ b < w.heap.size ∧
    ∀ j (hj : j < s.cs.length), w.cell? ⟨b, o + j * 3, none⟩ = some (.int .i64 s.cs[j].num) ∧ w.cell? ⟨b, o + j * 3 + 1, none⟩ = some (.int .i64 s.cs[j].ver) ∧ w.cell? ⟨b, o + j * 3 + 2, none⟩ = some (.int .i64 s.cs[j].many)) := by
  obtain ⟨A, cp, rfl, h1, h2⟩ := sees_at CR.cells (fun _ => rfl) (by omega) h.sees2
  refine ⟨A, cp, rfl, h1, fun h0 => ?_⟩
  obtain ⟨b, o, rfl, hb, hc⟩ := h2 h0
  exact ⟨b, o, rfl, hb, fun j hj => ⟨hc j hj 0 _ (by omega) rfl, hc j hj 1 _ (by omega) rfl, hc j hj 2 _ (by omega) rfl⟩⟩
theorem RAt.vers (h : RAt w B g v1 v2 s) : ∃ A cp, v1 = .slice A s.vs.length cp ∧ s.vs.length ≤ cp := by
  obtain ⟨A, n, c, rfl, h1, h2, -⟩ := h.sees1
  have : n = s.vs.length := by rw [ints_len] at h1; omega
  subst this
  exact ⟨A, c, rfl, h2⟩
end
end Go.Proofs.YtahmcjdddcbhnaaGreatDoor
namespace Go.Proofs.YtahmcjdddcbhnaaGreatDoor
open Go Go.RowKit

theorem contains_no {l : List Int} {z : Int} (h : ∀ i, ∀ hi : i < l.length, l[i] ≠ z) : l.contains z = false := by
  rw [Bool.eq_false_iff]
  intro hc
  rw [List.contains_iff_mem] at hc
  obtain ⟨i, hi, e⟩ := List.mem_iff_getElem.1 hc
  exact h i hi e
/-- none of the first ones, nor the next -/
theorem no_next {α : Type} {l : List α} {f : α → Int} {z y : Int} {j : Nat} (h : ∀ i, ∀ hi : i < l.length, i < j → f l[i] ≠ z) (hj : j < l.length) (e : f l[j] = y) (ne : y ≠ z) : ∀ i, ∀ hi : i < l.length, i < j + 1 → f l[i] ≠ z := fun i hi h1 => by
  rcases Nat.lt_or_ge i j with h' | h'
  · exact h i hi h'
  · obtain rfl : i = j := by omega
    rw [e]; exact ne
theorem contains_at {l : List Int} {z : Int} {i : Nat} (hi : i < l.length) (e : l[i] = z) : l.contains z = true := by
  rw [List.contains_iff_mem, ← e]
  exact List.getElem_mem hi
set_option maxHeartbeats 4000000 in
set_option maxRecDepth 1000000 in
theorem has_walk {w : World} {x : Value} {l : List Int} (h : Sees w 1 x (ints l)) (hlen : l.length ≤ 1000000) (z : Int) :
    Calls Tryz.prog 28 #[x, .int .i64 z] w fun e w' => e = .returned (.bool (l.contains z)) ∧ w' = w := by
  obtain ⟨A, n, c, rfl, h1, h2, h3⟩ := h
  have hn : n = l.length := by rw [ints_len] at h1; omega
  subst hn
  clear h1
  go_enter Tryz.func28, Tryz.ntmps28
  go_wp2
  go_loopw [5] (fun iv wr => ∃ j : Nat, j ≤ l.length ∧ iv = .int .i64 j ∧ wr = w ∧ Hid (∀ i, ∀ hi : i < l.length, i < j → l[i] ≠ z)) (fun iv _ => l.length - (intOf iv).toNat)
  case atStart => exact ⟨0, Nat.zero_le _, rfl, rfl, Lib.hid fun i _ h => absurd h (by omega)⟩
  case round =>
    obtain ⟨j, hj, rfl, rfl, hno⟩ := hrel
    by_cases hjl : j < l.length
    · obtain ⟨b, off, rfl, hb, hcc⟩ := h3 (by omega)
      have hc := hcc j (.int .i64 l[j]) (by unfold ints; rw [List.getElem?_map, List.getElem?_eq_getElem hjl]; rfl)
      obtain ⟨y, hy⟩ : ∃ y, l[j] = y := ⟨_, rfl⟩
      rw [hy] at hc
      have HY := Lib.hid hy
      have hj1 : (j : Int) < (l.length : Int) := by omega
      clear hy hcc h3
      by_cases he : y = z
      · have hed : (y == z) = true := by simpa using he
        go_wp2_with fail
        go_ret
        exact ⟨by rw [contains_at hjl (HY.out.trans he)]; rfl, rfl⟩
      · have hed : (y == z) = false := beq_eq_false_iff_ne.2 he
        go_wp2_with fail
        go_roundw
        case rel => exact ⟨j + 1, hjl, by go_num, trivial, Lib.hid (no_next (f := id) hno.out hjl HY.out he)⟩
        case measure => simp [intOf]; omega
    · have hje : j = l.length := by omega
      have hN := hno
      subst hje
      clear hno
      go_wp2_with fail
      go_ret
      exact ⟨by rw [contains_no fun i hi => hN.out i hi hi]; rfl, rfl⟩
set_option maxHeartbeats 4000000 in
set_option maxRecDepth 1000000 in
theorem rlate_walk {w : World} {B g : Nat} {v1 v2 : Value} {s : RF} (h : RAt w B g v1 v2 s) (t : Int) :
    Calls Tryz.prog 31 #[.pointer (some ⟨g, 0, none⟩), .int .i64 t] w fun e w' => e = .returned (.int .i64 (lateE s.tick t)) ∧ w' = w := by
  have c3 := h.blk.at' 3
  simp at c3
  clear h
  unfold lateE
  by_cases h1 : t < 0
  · rw [if_pos (.inl h1)]
    go_enter Tryz.func31, Tryz.ntmps31
    go_wp2
    go_ret
    exact ⟨rfl, rfl⟩
  by_cases h2 : 1099511627776 < t
  · rw [if_pos (.inr h2)]
    go_enter Tryz.func31, Tryz.ntmps31
    go_wp2
    go_ret
    exact ⟨rfl, rfl⟩
  rw [if_neg (by omega)]
  by_cases h3 : t < s.tick
  · rw [if_pos h3]
    go_enter Tryz.func31, Tryz.ntmps31
    go_wp2
    go_ret
    exact ⟨rfl, rfl⟩
  · rw [if_neg h3]
    go_enter Tryz.func31, Tryz.ntmps31
    go_wp2
    go_ret
    exact ⟨rfl, rfl⟩
theorem idx_at {cs : List CR} {n : Int} {i : Nat} (hi : i < cs.length) (e : cs[i].num = n) (h : ∀ j, ∀ hj : j < cs.length, j < i → cs[j].num ≠ n) : idx cs n = i := by
  unfold idx
  rw [List.findIdx_eq hi]
  refine ⟨by simpa using e, fun j hj => ?_⟩
  have := h j (by omega) hj
  simpa using this
theorem idx_no {cs : List CR} {n : Int} (h : ∀ j, ∀ hj : j < cs.length, cs[j].num ≠ n) : idx cs n = cs.length := by
  unfold idx
  rw [List.findIdx_eq_length]
  intro x hx
  obtain ⟨i, hi, rfl⟩ := List.mem_iff_getElem.1 hx
  simpa using h i hi
/-- what find returns -/
def findE (cs : List CR) (n : Int) : Int := if idx cs n < cs.length then (idx cs n : Int) else -1
set_option maxHeartbeats 4000000 in
set_option maxRecDepth 1000000 in
theorem find_walk {w : World} {B g : Nat} {v1 v2 : Value} {s : RF} (h : RAt w B g v1 v2 s) (hlen : s.cs.length ≤ 1000000) (n : Int) :
    Calls Tryz.prog 32 #[.pointer (some ⟨g, 0, none⟩), .int .i64 n] w fun e w' => e = .returned (.int .i64 (findE s.cs n)) ∧ w' = w := by
  have c1 := h.blk.at' 1
  obtain ⟨A, cp, rfl, hcp, h3⟩ := h.conns
  simp at c1
  clear h
  go_enter Tryz.func32, Tryz.ntmps32
  go_wp2
  go_loopw [5] (fun iv wr => ∃ j : Nat, j ≤ s.cs.length ∧ iv = .int .i64 j ∧ wr = w ∧ Hid (∀ i, ∀ hi : i < s.cs.length, i < j → s.cs[i].num ≠ n)) (fun iv _ => s.cs.length - (intOf iv).toNat)
  case atStart => exact ⟨0, Nat.zero_le _, rfl, rfl, Lib.hid fun i _ h => absurd h (by omega)⟩
  case round =>
    obtain ⟨j, hj, rfl, rfl, hno⟩ := hrel
    by_cases hjl : j < s.cs.length
    · obtain ⟨b, off, rfl, hb, hcc⟩ := h3 (by omega)
      obtain ⟨d0, -, -⟩ := hcc j hjl
      obtain ⟨y, hy⟩ : ∃ y, s.cs[j].num = y := ⟨_, rfl⟩
      rw [hy] at d0
      have HY := Lib.hid hy
      have hj1 : (j : Int) < (s.cs.length : Int) := by omega
      have hj0 : (0 : Int) ≤ (j : Int) := Int.natCast_nonneg _
      clear hy hcc h3
      by_cases he : y = n
      · have hed : (y == n) = true := by simpa using he
        go_wp2_with fail
        go_ret
        have e1 := idx_at hjl (HY.out.trans he) hno.out
        exact ⟨by unfold findE; rw [e1, if_pos hjl]; rfl, rfl⟩
      · have hed : (y == n) = false := beq_eq_false_iff_ne.2 he
        go_wp2_with fail
        go_roundw
        case rel => exact ⟨j + 1, hjl, by go_num, trivial, Lib.hid (no_next (f := CR.num) hno.out hjl HY.out he)⟩
        case measure => simp [intOf]; omega
    · have hN := hno
      have hje : j = s.cs.length := by omega
      have hj1 : ¬ (j : Int) < (s.cs.length : Int) := by omega
      clear hno
      go_wp2_with fail
      go_ret
      have e1 := idx_no fun i hi => hN.out i hi (by omega)
      exact ⟨by unfold findE; rw [e1, if_neg (Nat.lt_irrefl _)]; rfl, rfl⟩
end Go.Proofs.YtahmcjdddcbhnaaGreatDoor
namespace Go.Imap
open Go Go.Maps Go.RowKit Go.WideMaps

/-- numbers below a bound that all differ are no more than it -/
theorem few_below : ∀ (K : Nat) (l : List Nat), l.Nodup → (∀ a ∈ l, a < K) → l.length ≤ K
  | 0, l, _, h => by
    cases l with
    | nil => simp
    | cons a t => exact absurd (h a (List.mem_cons_self ..)) (by omega)
  | K + 1, l, hn, h => by
    by_cases hk : K ∈ l
    · have h1 := few_below K (l.erase K) (hn.erase K) fun a ha => by
        have h2 := (List.Nodup.mem_erase_iff hn).1 ha
        have := h a h2.2
        have := h2.1
        omega
      rw [List.length_erase_of_mem hk] at h1
      omega
    · have h1 := few_below K l hn fun a ha => by
        have := h a ha
        have : a ≠ K := fun e => hk (e ▸ ha)
        omega
      omega
/-- block B is a map keyed by numbers below 64, that holds what f says -/
def IMap (w : World) (B : Nat) (f : Nat → Option Value) : Prop :=
  ∃ ms cl, w.heap[B]? = some (.map ms cl) ∧ (∀ x ∈ ms.toList, x.born < cl) ∧ (ms.toList.map (·.born)).Nodup ∧ (ms.toList.map (·.key)).Nodup ∧
    (∀ x ∈ ms.toList, ∃ s : Nat, s < 64 ∧ x.key = .int .i64 (s : Int) ∧ f s = some x.val) ∧ ∀ s v, f s = some v → ∃ x ∈ ms.toList, x.key = .int .i64 (s : Int)
theorem IMap.same {w w' : World} {B : Nat} {f : Nat → Option Value} (h : IMap w B f) (hb : w'.heap[B]? = w.heap[B]?) : IMap w' B f := by
  obtain ⟨ms, cl, h0, h1⟩ := h
  exact ⟨ms, cl, hb.trans h0, h1⟩
theorem IMap.lt {w : World} {B : Nat} {f : Nat → Option Value} (h : IMap w B f) : B < w.heap.size := by
  obtain ⟨ms, cl, h0, _⟩ := h
  exact (Array.getElem?_eq_some_iff.1 h0).1
theorem IMap.alloc {w : World} {B : Nat} {f : Nat → Option Value} (h : IMap w B f) (o : Obj) : IMap (w.alloc o) B f := h.same (Below.heap_alloc _ _ _ h.lt)
theorem iMap_made (w : World) : IMap (w.alloc (.map #[] 0)) w.heap.size fun _ => none :=
  ⟨#[], 0, heap_alloc_new _ _, by simp, by simp, by simp, by simp, by simp⟩
theorem wf64 {s : Nat} (h : s < 64) : (Lit.int .i64 (s : Int)).wf = true := by
  have key : ∀ x : Fin 64, (Lit.int .i64 ((x.val : Nat) : Int)).wf = true := by decide
  exact key ⟨s, h⟩
section
variable {P : Program} {t k e : TypeId} {w : World} {B : Nat} {f : Nat → Option Value}
theorem IMap.keys (hk : P.underlying k = some (.int .i64)) {ms : Array MapEntry} (h : ∀ x ∈ ms.toList, ∃ s : Nat, s < 64 ∧ x.key = .int .i64 (s : Int) ∧ f s = some x.val) : ∀ x ∈ ms.toList, ∃ l, keyOf P k x.key = some l := fun x hx => by
  obtain ⟨s, hs, hkey, _⟩ := h x hx
  exact ⟨_, by rw [hkey]; exact keyOf_int_mk hk (wf64 hs)⟩
theorem IMap.size {ms : Array MapEntry} (hnd : (ms.toList.map (·.key)).Nodup) (h1 : ∀ x ∈ ms.toList, ∃ s : Nat, s < 64 ∧ x.key = .int .i64 (s : Int) ∧ f s = some x.val) : ms.size ≤ 64 := by
  let g : Value → Nat := fun v => match v with | .int _ a => a.toNat | _ => 0
  have hl : (ms.toList.map fun x => g x.key).length ≤ 64 := by
    refine few_below 64 _ ?_ ?_
    · have e : (ms.toList.map fun x => g x.key) = (ms.toList.map (·.key)).map g := by rw [List.map_map]; rfl
      rw [e]
      refine List.Pairwise.map (R := fun a b => a ≠ b ∧ a ∈ ms.toList.map (·.key) ∧ b ∈ ms.toList.map (·.key)) g ?_ ?_
      · rintro a b ⟨hne, ha, hb⟩ he
        obtain ⟨x, hx, rfl⟩ := List.mem_map.1 ha
        obtain ⟨y, hy, rfl⟩ := List.mem_map.1 hb
        obtain ⟨s, hs, kx, _⟩ := h1 x hx
        obtain ⟨s', hs', ky, _⟩ := h1 y hy
        apply hne
        show x.key = y.key
        rw [kx, ky] at he ⊢
        simp [g] at he
        rw [he]
      · exact List.Pairwise.imp_of_mem (fun ha hb h => ⟨h, ha, hb⟩) hnd
    · intro a ha
      obtain ⟨x, hx, rfl⟩ := List.mem_map.1 ha
      obtain ⟨s, hs, kx, _⟩ := h1 x hx
      simp [kx, g]
      exact hs
  simpa using hl
theorem IMap.lookup (h : IMap w B f) (ht : P.underlying t = some (.map k e)) (hk : P.underlying k = some (.int .i64)) {z : Value} (hz : (zeroValue e).run P w = .ok z w) {s : Nat} (hs : s < 64) :
    (Instr.lookup t (.map (some B)) (.int .i64 (s : Int)) false).run P w = .ok ((f s).getD z) w := by
  obtain ⟨ms, cl, hb, _, _, hnd, h1, h2⟩ := h
  have K := int_keyed hk
  have hkey := keyOf_int_mk hk (wf64 hs)
  rcases K.find w hkey ms.toList (IMap.keys hk h1) with ⟨hf, hn⟩ | ⟨j, e0, hf, hj, he⟩
  · have : f s = none := by
      cases hfs : f s with
      | none => rfl
      | some v => obtain ⟨x, hx, hxk⟩ := h2 s v hfs; exact absurd hxk (hn x hx)
    rw [this]
    simp [Instr.lookup, run_underlying ht, MapKept.run_getObj_map hb, K.check w _ hkey, hf, hz, Result.andThen]
  · obtain ⟨s', _, hk', hv⟩ := h1 e0 (List.mem_of_getElem? hj)
    rw [he] at hk'
    have e1 : s = s' := by cases hk'; omega
    subst e1
    rw [hv]
    simp [Instr.lookup, run_underlying ht, MapKept.run_getObj_map hb, K.check w _ hkey, hf, Result.andThen]
theorem IMap.update (h : IMap w B f) (ht : P.underlying t = some (.map k e)) (hk : P.underlying k = some (.int .i64)) {s : Nat} (hs : s < 64) (v : Value) :
    ∃ o, (Instr.mapUpdate t (.map (some B)) (.int .i64 (s : Int)) v).run P w = .ok () (ChangeMaps.setBlock w B o) ∧ IMap (ChangeMaps.setBlock w B o) B fun u => if u = s then some v else f u := by
  obtain ⟨ms, cl, hb, hb1, hb2, hnd, h1, h2⟩ := h
  have K := int_keyed hk
  have hkey := keyOf_int_mk hk (wf64 hs)
  have hlt : B < w.heap.size := (Array.getElem?_eq_some_iff.1 hb).1
  have hnew : ∀ o, (ChangeMaps.setBlock w B o).heap[B]? = some o := fun o => by simp [ChangeMaps.setBlock, hlt]
  have hsz := IMap.size hnd h1
  have hml : ms.size < maxLen := by unfold maxLen; omega
  rcases K.find w hkey ms.toList (IMap.keys hk h1) with ⟨hf, hno⟩ | ⟨j, e0, hf, hj, he⟩
  · refine ⟨.map (ms.push ⟨.int .i64 (s : Int), v, cl⟩) (cl + 1), ?_, ms.push ⟨.int .i64 (s : Int), v, cl⟩, cl + 1, hnew _, ?_, ?_, ?_, ?_, ?_⟩
    · simp [Instr.mapUpdate, run_underlying ht, MapKept.run_getObj_map hb, K.check w false hkey, hf, MapKept.run_setObj_map _ hb, Result.andThen, ChangeMaps.setBlock]
    · intro x hx
      simp only [Array.toList_push, List.mem_append, List.mem_singleton] at hx
      rcases hx with hx | rfl
      · have := hb1 x hx; omega
      · simp
    · simp only [Array.toList_push, List.map_append, List.map_singleton]
      refine List.nodup_append.2 ⟨hb2, by simp, fun a ha b hb' => ?_⟩
      simp only [List.mem_singleton] at hb'
      subst hb'
      obtain ⟨x, hx, rfl⟩ := List.mem_map.1 ha
      have := hb1 x hx
      simp; omega
    · simp only [Array.toList_push, List.map_append, List.map_singleton]
      refine List.nodup_append.2 ⟨hnd, by simp, fun a ha b hb' => ?_⟩
      simp only [List.mem_singleton] at hb'
      subst hb'
      obtain ⟨x, hx, rfl⟩ := List.mem_map.1 ha
      exact hno x hx
    · intro x hx
      simp only [Array.toList_push, List.mem_append, List.mem_singleton] at hx
      rcases hx with hx | rfl
      · obtain ⟨u, hu, hxk, hv⟩ := h1 x hx
        refine ⟨u, hu, hxk, ?_⟩
        show (if u = s then some v else f u) = _
        rw [if_neg (fun e' => hno x hx (by rw [hxk, e']))]
        exact hv
      · exact ⟨s, hs, rfl, by simp⟩
    · intro u y hu
      simp only [Array.toList_push, List.mem_append, List.mem_singleton]
      by_cases e : u = s
      · subst e
        exact ⟨_, .inr rfl, rfl⟩
      · have hu' : (if u = s then some v else f u) = some y := hu
        rw [if_neg e] at hu'
        obtain ⟨x, hx, hxk⟩ := h2 u y hu'
        exact ⟨x, .inl hx, hxk⟩
  · have hj' : ms[j]? = some e0 := by simpa using hj
    have hlist : (ms.modify j (fun e' => { e' with key := .int .i64 (s : Int), val := v })).toList = ms.toList.set j { e0 with key := .int .i64 (s : Int), val := v } := by rw [Array.toList_modify, ChangeMaps.modify_eq_set _ _ _ _ hj]
    have hkj : (ms.toList.map (·.key))[j]? = some (.int .i64 (s : Int)) := by rw [List.getElem?_map, hj]; simp [he]
    have hbj : (ms.toList.map (·.born))[j]? = some e0.born := by rw [List.getElem?_map, hj]; rfl
    have hself : ∀ {α : Type} (l : List α) (i : Nat) (a : α), l[i]? = some a → l.set i a = l := fun l i a h => by
      refine List.ext_getElem? fun m => ?_
      rw [List.getElem?_set]
      split
      · rename_i e1; subst e1; split
        · exact h.symm
        · rename_i h2; rw [List.getElem?_eq_none (by omega)] at h; cases h
      · rfl
    have hkeys : (ms.toList.set j { e0 with key := .int .i64 (s : Int), val := v }).map (·.key) = ms.toList.map (·.key) := by rw [List.map_set]; exact hself _ _ _ hkj
    have hborn : (ms.toList.set j { e0 with key := .int .i64 (s : Int), val := v }).map (·.born) = ms.toList.map (·.born) := by rw [List.map_set]; exact hself _ _ _ hbj
    have hjl : j < ms.toList.length := (List.getElem?_eq_some_iff.1 hj).1
    have who : ∀ x ∈ ms.toList.set j { e0 with key := .int .i64 (s : Int), val := v }, x = { e0 with key := .int .i64 (s : Int), val := v } ∨ (x ∈ ms.toList ∧ x.key ≠ .int .i64 (s : Int)) := by
      intro x hx
      obtain ⟨i, hi, ex⟩ := List.getElem_of_mem hx
      rw [List.getElem_set] at ex
      split at ex
      · exact .inl ex.symm
      · rename_i hne
        have hi' : i < ms.toList.length := by simpa using hi
        refine .inr ⟨ex ▸ List.getElem_mem hi', fun e1 => hne ?_⟩
        have hl : (ms.toList.map (·.key))[i]? = some (.int .i64 (s : Int)) := by rw [List.getElem?_map, List.getElem?_eq_getElem hi', ex]; simp [e1]
        have hij := (List.getElem?_inj (i := j) (j := i) (by simpa using hjl) hnd).1 (hkj.trans hl.symm)
        exact hij
    refine ⟨.map (ms.modify j (fun e' => { e' with key := .int .i64 (s : Int), val := v })) cl, ?_, ms.modify j (fun e' => { e' with key := .int .i64 (s : Int), val := v }), cl, hnew _, ?_, by rw [hlist, hborn]; exact hb2, by rw [hlist, hkeys]; exact hnd, ?_, ?_⟩
    · simp [Instr.mapUpdate, run_underlying ht, MapKept.run_getObj_map hb, K.check w false hkey, hf, hj', he, K.stays w hkey, MapKept.run_setObj_map _ hb, Result.andThen, ChangeMaps.setBlock]
    · intro x hx
      rw [hlist] at hx
      rcases who x hx with rfl | ⟨hx', _⟩
      · exact hb1 e0 (List.mem_of_getElem? hj)
      · exact hb1 x hx'
    · intro x hx
      rw [hlist] at hx
      rcases who x hx with rfl | ⟨hx', hne⟩
      · exact ⟨s, hs, rfl, by simp⟩
      · obtain ⟨u, hu, hxk, hv⟩ := h1 x hx'
        exact ⟨u, hu, hxk, by show (if u = s then some v else f u) = _; rw [if_neg (fun e' => hne (by rw [hxk, e']))]; exact hv⟩
    · intro u y hu
      rw [hlist]
      have hex : ∃ x ∈ ms.toList, x.key = .int .i64 (u : Int) := by
        by_cases e : u = s
        · subst e; exact ⟨e0, List.mem_of_getElem? hj, he⟩
        · have hu' : (if u = s then some v else f u) = some y := hu
          rw [if_neg e] at hu'; exact h2 u y hu'
      obtain ⟨x, hx, hxk⟩ := hex
      have : Value.int .i64 (u : Int) ∈ (ms.toList.set j { e0 with key := .int .i64 (s : Int), val := v }).map (·.key) := by rw [hkeys]; exact List.mem_map.2 ⟨x, hx, hxk⟩
      obtain ⟨x', hx', hxk'⟩ := List.mem_map.1 this
      exact ⟨x', hx', hxk'⟩
theorem IMap.delete (h : IMap w B f) (ht : P.underlying t = some (.map k e)) (hk : P.underlying k = some (.int .i64)) {s : Nat} (hs : s < 64) (ty : TypeId) :
    ∃ o, (Builtin.delete_ #[t, k] ty #[.map (some B), .int .i64 (s : Int)]).run P w = .ok (.tuple #[]) (ChangeMaps.setBlock w B o) ∧ IMap (ChangeMaps.setBlock w B o) B fun u => if u = s then none else f u := by
  obtain ⟨ms, cl, hb, hb1, hb2, hnd, h1, h2⟩ := h
  have K := int_keyed hk
  have hkey := keyOf_int_mk hk (wf64 hs)
  have hlt : B < w.heap.size := (Array.getElem?_eq_some_iff.1 hb).1
  have hnew : ∀ o, (ChangeMaps.setBlock w B o).heap[B]? = some o := fun o => by simp [ChangeMaps.setBlock, hlt]
  rcases K.find w hkey ms.toList (IMap.keys hk h1) with ⟨hf, hno⟩ | ⟨j, e0, hf, hj, he⟩
  · refine ⟨.map ms cl, ?_, ms, cl, hnew _, hb1, hb2, hnd, ?_, ?_⟩
    · simp [Builtin.delete_, run_underlying ht, MapKept.run_getObj_map hb, K.check w _ hkey, hf, MapKept.run_setObj_map _ hb, Result.andThen, ChangeMaps.setBlock]
    · intro x hx
      obtain ⟨u, hu, hxk, hv⟩ := h1 x hx
      refine ⟨u, hu, hxk, ?_⟩
      show (if u = s then none else f u) = _
      rw [if_neg (fun e' => hno x hx (by rw [hxk, e']))]
      exact hv
    · intro u y hu
      have hu' : (if u = s then none else f u) = some y := hu
      split at hu'
      · cases hu'
      · exact h2 u y hu'
  · have hjl : j < ms.toList.length := (List.getElem?_eq_some_iff.1 hj).1
    have hlist : (ms.eraseIdxIfInBounds j).toList = ms.toList.eraseIdx j := by simp [Array.eraseIdxIfInBounds]; split <;> simp_all
    have hsub : (ms.toList.eraseIdx j).Sublist ms.toList := List.eraseIdx_sublist _ _
    have hne : ∀ x ∈ ms.toList.eraseIdx j, x.key ≠ .int .i64 (s : Int) := by
      intro x hx hxk
      obtain ⟨i, hi1, hi2⟩ := List.mem_eraseIdx_iff_getElem?.1 hx
      have a1 : (ms.toList.map (·.key))[i]? = some (.int .i64 (s : Int)) := by rw [List.getElem?_map, hi2]; simp [hxk]
      have a2 : (ms.toList.map (·.key))[j]? = some (.int .i64 (s : Int)) := by rw [List.getElem?_map, hj]; simp [he]
      exact hi1 ((List.getElem?_inj (i := i) (j := j) (by simpa using (List.getElem?_eq_some_iff.1 hi2).1) hnd).1 (a1.trans a2.symm))
    refine ⟨.map (ms.eraseIdxIfInBounds j) cl, ?_, ms.eraseIdxIfInBounds j, cl, hnew _, ?_, ?_, ?_, ?_, ?_⟩
    · simp [Builtin.delete_, run_underlying ht, MapKept.run_getObj_map hb, K.check w _ hkey, hf, MapKept.run_setObj_map _ hb, Result.andThen, ChangeMaps.setBlock]
    · rw [hlist]; exact fun x hx => hb1 x (hsub.subset hx)
    · rw [hlist]; exact hb2.sublist (hsub.map _)
    · rw [hlist]; exact hnd.sublist (hsub.map _)
    · rw [hlist]
      intro x hx
      obtain ⟨u, hu, hxk, hv⟩ := h1 x (hsub.subset hx)
      refine ⟨u, hu, hxk, ?_⟩
      show (if u = s then none else f u) = _
      rw [if_neg (fun e' => hne x hx (by rw [hxk, e']))]
      exact hv
    · rw [hlist]
      intro u y hu
      have hu' : (if u = s then none else f u) = some y := hu
      split at hu'
      · cases hu'
      · rename_i hus
        obtain ⟨x, hx, hxk⟩ := h2 u y hu'
        refine ⟨x, ?_, hxk⟩
        obtain ⟨i, hi, hxi⟩ := List.getElem_of_mem hx
        refine List.mem_eraseIdx_iff_getElem?.2 ⟨i, fun e1 => ?_, by rw [List.getElem?_eq_getElem hi, hxi]⟩
        subst e1
        rw [List.getElem?_eq_getElem hi, hxi] at hj
        cases hj
        rw [hxk] at he
        cases he
        omega
end
end Go.Imap
namespace Go.Proofs.YtahmcjdddcbhnaaGreatDoor
open Go Go.RowKit Go.Imap

set_option maxHeartbeats 4000000 in
set_option maxRecDepth 1000000 in
theorem qlate_walk {w : World} {g : Nat} {sh pe tk cu : Int} {m1 m2 : Value} (h : Blk w g 80 #[.int .i64 sh, .int .i64 pe, .int .i64 tk, .int .i64 cu, m1, m2]) (t : Int) :
    Calls Tryz.prog 36 #[.pointer (some ⟨g, 0, none⟩), .int .i64 t] w fun e w' => e = .returned (.int .i64 (lateE tk t)) ∧ w' = w := by
  have c2 := h.at' 2
  simp at c2
  clear h
  unfold lateE
  by_cases h1 : t < 0
  · rw [if_pos (.inl h1)]
    go_enter Tryz.func36, Tryz.ntmps36
    go_wp2
    go_ret
    exact ⟨rfl, rfl⟩
  by_cases h2 : 1099511627776 < t
  · rw [if_pos (.inr h2)]
    go_enter Tryz.func36, Tryz.ntmps36
    go_wp2
    go_ret
    exact ⟨rfl, rfl⟩
  rw [if_neg (by omega)]
  by_cases h3 : t < tk
  · rw [if_pos h3]
    go_enter Tryz.func36, Tryz.ntmps36
    go_wp2
    go_ret
    exact ⟨rfl, rfl⟩
  · rw [if_neg h3]
    go_enter Tryz.func36, Tryz.ntmps36
    go_wp2
    go_ret
    exact ⟨rfl, rfl⟩
/-- what New takes -/
def newOk (a b : Int) : Prop := (0 ≤ a ∧ a ≤ 1099511627776) ∧ 1 ≤ b ∧ b ≤ 1099511627776
set_option maxHeartbeats 4000000 in
set_option maxRecDepth 1000000 in
theorem qnew_no {w : World} {a b : Int} (h : ¬ newOk a b) :
    Calls Tryz.prog 13 #[.int .i64 a, .int .i64 b] w fun e w' => e = .returned (.tuple #[.pointer none, .int .i64 1]) ∧ w' = w := by
  unfold newOk at h
  by_cases h1 : a < 0
  · clear h
    go_enter Tryz.func13, Tryz.ntmps13
    go_wp2
    go_ret2
    exact ⟨rfl, rfl⟩
  by_cases h2 : 1099511627776 < a
  · clear h
    go_enter Tryz.func13, Tryz.ntmps13
    go_wp2
    go_ret2
    exact ⟨rfl, rfl⟩
  by_cases h3 : b < 1
  · clear h
    go_enter Tryz.func13, Tryz.ntmps13
    go_wp2
    go_ret2
    exact ⟨rfl, rfl⟩
  have h4 : 1099511627776 < b := by omega
  clear h
  go_enter Tryz.func13, Tryz.ntmps13
  go_wp2
  go_ret2
  exact ⟨rfl, rfl⟩
set_option maxHeartbeats 4000000 in
set_option maxRecDepth 1000000 in
theorem qnew_walk {w : World} {a b : Int} (h : newOk a b) :
    Calls Tryz.prog 13 #[.int .i64 a, .int .i64 b] w fun e w' => e = .returned (.tuple #[.pointer (some ⟨w.heap.size + 2, 0, none⟩), .int .i64 0]) ∧
      Blk w' (w.heap.size + 2) 80 #[.int .i64 a, .int .i64 b, .int .i64 0, .int .i64 (-1), .map (some w.heap.size), .map (some (w.heap.size + 1))] ∧
      IMap w' w.heap.size (fun _ => none) ∧ IMap w' (w.heap.size + 1) (fun _ => none) ∧ Below w.heap.size w w' := by
  obtain ⟨⟨h1, h2⟩, h3, h4⟩ := h
  obtain ⟨W1, hW1⟩ : ∃ x, w.alloc (.map #[] 0) = x := ⟨_, rfl⟩
  obtain ⟨W2, hW2⟩ : ∃ x, W1.alloc (.map #[] 0) = x := ⟨_, rfl⟩
  have hs1 : W1.heap.size = w.heap.size + 1 := by rw [← hW1]; simp
  have hs2 : W2.heap.size = w.heap.size + 2 := by rw [← hW2]; simp [hs1]
  have mk1 : (Instr.makeMap 77 none).run Tryz.prog w = .ok (.map (some w.heap.size)) W1 := by rw [← hW1]; kernel_rfl
  have mk2 : (Instr.makeMap 78 none).run Tryz.prog W1 = .ok (.map (some (w.heap.size + 1))) W2 := by
    rw [← hs1, ← hW2]; kernel_rfl
  have m1 : IMap W2 w.heap.size fun _ => none := by rw [← hW2, ← hW1]; exact (iMap_made w).alloc _
  have m2 : IMap W2 (w.heap.size + 1) fun _ => none := by rw [← hW2, ← hs1]; exact iMap_made W1
  have hB : Below w.heap.size w W2 := by rw [← hW2, ← hW1]; exact ((Below.refl _ _).alloc (Nat.le_refl _) _).alloc (by simp) _
  have HS := Lib.hid hs2
  clear hW1 hW2 hs1 hs2
  go_enter Tryz.func13, Tryz.ntmps13
  go_wp2_with fail
  go_ret2
  have hb := Blk.made W2 80 #[.int .i64 a, .int .i64 b, .int .i64 0, .int .i64 (-1), .map (some w.heap.size), .map (some (w.heap.size + 1))]
  rw [HS.out] at hb
  refine ⟨?_, hb, m1.alloc _, m2.alloc _, hB.alloc hB.size _⟩
  rw [← HS.out]
  rfl
end Go.Proofs.YtahmcjdddcbhnaaGreatDoor
namespace Go.Imap
open Go Go.Maps Go.RowKit Go.WideMaps

/-- what a map holds at a number -/
def atI (f : Nat → Option Value) (x : Int) : Option Value := if x < 0 then none else f x.toNat
theorem wfI {x : Int} (h : -1 ≤ x ∧ x < 64) : (Lit.int .i64 x).wf = true := by
  by_cases h0 : x = -1
  · subst h0; decide
  · have e : x = ((x.toNat : Nat) : Int) := by omega
    rw [e]
    exact wf64 (by omega)
section
variable {P : Program} {w : World} {B : Nat} {f : Nat → Option Value} {t k e : TypeId}
theorem IMap.lookup2 (h : IMap w B f) (ht : P.underlying t = some (.map k e)) (hk : P.underlying k = some (.int .i64)) {z : Value} (hz : (zeroValue e).run P w = .ok z w) {x : Int} (hx : -1 ≤ x ∧ x < 64) :
    (Instr.lookup t (.map (some B)) (.int .i64 x) true).run P w = .ok (.tuple #[(atI f x).getD z, .bool (atI f x).isSome]) w := by
  obtain ⟨ms, cl, hb, _, _, hnd, h1, h2⟩ := h
  have K := int_keyed hk
  have hkey := keyOf_int_mk hk (wfI hx)
  rcases K.find w hkey ms.toList (IMap.keys hk h1) with ⟨hf, hn⟩ | ⟨j, e0, hf, hj, he⟩
  · have : atI f x = none := by
      unfold atI
      split
      · rfl
      · cases hfs : f x.toNat with
        | none => rfl
        | some v =>
          obtain ⟨y, hy, hyk⟩ := h2 _ v hfs
          have ex : ((x.toNat : Nat) : Int) = x := by omega
          rw [ex] at hyk
          exact absurd hyk (hn y hy)
    rw [this]
    simp [Instr.lookup, run_underlying ht, MapKept.run_getObj_map hb, K.check w _ hkey, hf, hz, Result.andThen]
  · obtain ⟨s', _, hk', hv⟩ := h1 e0 (List.mem_of_getElem? hj)
    rw [he] at hk'
    have e1 : x = (s' : Int) := by cases hk'; rfl
    subst e1
    have ea : atI f (s' : Int) = some e0.val := by
      unfold atI
      rw [if_neg (by omega), Int.toNat_natCast]
      exact hv
    rw [ea]
    simp [Instr.lookup, run_underlying ht, MapKept.run_getObj_map hb, K.check w _ hkey, hf, Result.andThen]
end
end Go.Imap
namespace Go.Proofs.YtahmcjdddcbhnaaGreatDoor
open Go Go.RowKit Go.Imap

theorem zeroVer (w : World) : (zeroValue 87).run Tryz.prog w = .ok (.pointer none) w := by kernel_rfl
theorem zeroConn (w : World) : (zeroValue 108).run Tryz.prog w = .ok (.pointer none) w := by kernel_rfl
set_option maxHeartbeats 4000000 in
set_option maxRecDepth 1000000 in
theorem quse_no {w : World} {g vm : Nat} {sh pe tk cu : Int} {m2 : Value} {f : Nat → Option Value} (h : Blk w g 80 #[.int .i64 sh, .int .i64 pe, .int .i64 tk, .int .i64 cu, .map (some vm), m2]) (hm : IMap w vm f) {n : Int} (hn : -1 ≤ n ∧ n < 64) (hf : atI f n = none) :
    Calls Tryz.prog 18 #[.pointer (some ⟨g, 0, none⟩), .int .i64 n] w fun e w' => e = .returned (.int .i64 7) ∧ w' = w := by
  have c4 := h.at' 4
  simp at c4
  have hlk := hm.lookup2 Tryz.underlying77 Tryz.underlying3 (zeroVer w) hn
  rw [hf] at hlk
  simp only [Option.getD_none, Option.isSome_none] at hlk
  clear h hm hf hn
  go_enter Tryz.func18, Tryz.ntmps18
  go_wp2
  go_ret
  exact ⟨rfl, rfl⟩
set_option maxHeartbeats 4000000 in
set_option maxRecDepth 1000000 in
theorem quse_ok {w : World} {g vm : Nat} {sh pe tk cu : Int} {m2 : Value} {f : Nat → Option Value} (h : Blk w g 80 #[.int .i64 sh, .int .i64 pe, .int .i64 tk, .int .i64 cu, .map (some vm), m2]) (hm : IMap w vm f) {n : Int} (hn : -1 ≤ n ∧ n < 64) {b : Nat} (hf : atI f n = some (.pointer (some ⟨b, 0, none⟩))) :
    Calls Tryz.prog 18 #[.pointer (some ⟨g, 0, none⟩), .int .i64 n] w fun e w' => e = .returned (.int .i64 0) ∧ w' = w.setCell ⟨g, 3, none⟩ (.int .i64 n) := by
  have c4 := h.at' 4
  have c3 := h.at' 3
  have f3 := h.thaw 3
  simp at c4 c3
  have hlk := hm.lookup2 Tryz.underlying77 Tryz.underlying3 (zeroVer w) hn
  rw [hf] at hlk
  simp only [Option.getD_some, Option.isSome_some] at hlk
  clear h hm hf hn
  go_enter Tryz.func18, Tryz.ntmps18
  go_wp2
  go_ret
  exact ⟨rfl, rfl⟩
end Go.Proofs.YtahmcjdddcbhnaaGreatDoor
namespace Go.Proofs.YtahmcjdddcbhnaaGreatDoor
open Go Go.RowKit Go.Imap

section
variable {w : World} {g cm : Nat} {sh pe tk cu : Int} {m1 : Value} {f : Nat → Option Value}
set_option maxHeartbeats 4000000 in
set_option maxRecDepth 1000000 in
theorem qend_late (h : Blk w g 80 #[.int .i64 sh, .int .i64 pe, .int .i64 tk, .int .i64 cu, m1, .map (some cm)]) {n t : Int} (ht : lateE tk t ≠ 0) :
    Calls Tryz.prog 22 #[.pointer (some ⟨g, 0, none⟩), .int .i64 n, .int .i64 t] w fun e w' => e = .returned (.tuple #[.slice none 0 0, .int .i64 (lateE tk t)]) ∧ w' = w := by
  have hla := qlate_walk h t
  obtain ⟨le, hle⟩ : ∃ x, lateE tk t = x := ⟨_, rfl⟩
  rw [hle] at hla ht ⊢
  have hlb : (le == 0) = false := beq_eq_false_iff_ne.2 ht
  clear hle h ht
  go_enter Tryz.func22, Tryz.ntmps22
  go_wp2_with (first | (go_at_call 36; refine hla.mono ?_; clear hla; rintro _ w1 ⟨rfl, rfl⟩) | fail)
  go_ret2
  exact ⟨rfl, rfl⟩
set_option maxHeartbeats 4000000 in
set_option maxRecDepth 1000000 in
theorem qend_no (h : Blk w g 80 #[.int .i64 sh, .int .i64 pe, .int .i64 tk, .int .i64 cu, m1, .map (some cm)]) (hm : IMap w cm f) {n t : Int} (hn : -1 ≤ n ∧ n < 64) (hf : atI f n = none) (ht : lateE tk t = 0) :
    Calls Tryz.prog 22 #[.pointer (some ⟨g, 0, none⟩), .int .i64 n, .int .i64 t] w fun e w' => e = .returned (.tuple #[.slice none 0 0, .int .i64 7]) ∧ Below w.heap.size w w' := by
  have hla := qlate_walk h t
  rw [ht] at hla
  have c5 := h.at' 5
  simp at c5
  have hlk := hm.lookup2 Tryz.underlying78 Tryz.underlying3 (zeroConn w) hn
  rw [hf] at hlk
  simp only [Option.getD_none, Option.isSome_none] at hlk
  have hB : Below w.heap.size w (w.alloc (.cells #[.pointer none] 108)) := (Below.refl _ _).alloc (Nat.le_refl _) _
  clear h hm hf hn ht
  go_enter Tryz.func22, Tryz.ntmps22
  go_wp2_with (first | (go_at_call 36; refine hla.mono ?_; clear hla; rintro _ w1 ⟨rfl, rfl⟩) | fail)
  go_ret2
  exact ⟨rfl, hB⟩
end
end Go.Proofs.YtahmcjdddcbhnaaGreatDoor
namespace Go.Proofs.YtahmcjdddcbhnaaGreatDoor
open Go Go.RowKit

/-- a meter of one rule -/
structure MtAt (w : World) (mb ub : Nat) (sh pe tk us : Int) : Prop where
  blk : Blk w mb 151 #[.int .i64 sh, .int .i64 pe, .int .i64 tk, .slice (some ⟨ub, 0, none⟩) 1 1]
  used : Blk w ub 3 #[.int .i64 us]
  hsh : 0 ≤ sh ∧ sh ≤ 1099511627776
  hpe : 1 ≤ pe ∧ pe ≤ 1099511627776
  htk : 0 ≤ tk ∧ tk ≤ 1099511627776
  hus : 0 ≤ us ∧ us ≤ sh
theorem MtAt.ne {w : World} {mb ub : Nat} {sh pe tk us : Int} (h : MtAt w mb ub sh pe tk us) : mb ≠ ub := h.blk.two h.used (by decide)
theorem MtAt.bel {w w' : World} {mb ub : Nat} {sh pe tk us : Int} (h : MtAt w mb ub sh pe tk us) (hb : Below w.heap.size w w') : MtAt w' mb ub sh pe tk us := ⟨h.blk.bel hb h.blk.lt, h.used.bel hb h.used.lt, h.hsh, h.hpe, h.htk, h.hus⟩
theorem MtAt.chg {w w' : World} {mb ub : Nat} {sh pe tk us : Int} {F : Nat → Prop} (h : MtAt w mb ub sh pe tk us) (hc : Chg F w w') (h1 : ¬ F mb) (h2 : ¬ F ub) : MtAt w' mb ub sh pe tk us := ⟨h.blk.chg hc h1, h.used.chg hc h2, h.hsh, h.hpe, h.htk, h.hus⟩
theorem belowN (w : World) : ∀ n, Below w.heap.size w (w.drewN n) := fun n => ⟨rfl, rfl, rfl, Nat.le_refl _, fun _ _ => rfl⟩
/-- is a tick in another period? -/
def fresh (pe tk t : Int) : Bool := !(t.tdiv pe == tk.tdiv pe)
/-- what is used of the share at a tick -/
def usedAt (pe tk us t : Int) : Int := if fresh pe tk t = true then 0 else us
theorem out_no {x lo hi : Int} (h1 : lo ≤ x) (h2 : x ≤ hi) (w : World) : Calls Tryz.prog 52 #[.int .i64 x, .int .i64 lo, .int .i64 hi] w fun e w' => e = .returned (.bool false) ∧ w' = w := by
  have k1 : ¬ x < lo := by omega
  have k2 : ¬ hi < x := by omega
  go_enter Tryz.func52, Tryz.ntmps52
  go_wp2
  go_ret
  exact ⟨rfl, rfl⟩
theorem quo_wrap {a b : Int} (ha : 0 ≤ a ∧ a ≤ 1099511627776) (hb : 1 ≤ b ∧ b ≤ 1099511627776) : IntKind.i64.wrap (a.tdiv b) = a.tdiv b := by
  have e : a.tdiv b = a / b := Int.tdiv_eq_ediv_of_nonneg ha.1
  have h2 : 0 ≤ a / b := Int.ediv_nonneg ha.1 (by omega)
  have h3 : a / b ≤ a := Int.ediv_le_self b ha.1
  rw [e]
  exact wrapS (by omega) (by omega)
section
variable {w : World} {mb ub : Nat} {sh pe tk us : Int}
set_option maxHeartbeats 4000000 in
set_option maxRecDepth 1000000 in
theorem wrong_walk (h : MtAt w mb ub sh pe tk us) {n t : Int} (hn : 0 ≤ n ∧ n ≤ 1099511627776) (ht : tk ≤ t ∧ t ≤ 1099511627776) :
    Calls Tryz.prog 362 #[.pointer (some ⟨mb, 0, none⟩), .int .i64 0, .int .i64 n, .int .i64 t] w fun e w' => e = .returned (.int .i64 0) ∧ w' = w := by
  have c2 := h.blk.at' 2
  have c3 := h.blk.at' 3
  simp at c2 c3
  have h0 := h.htk
  have o1 := out_no (x := 0) (lo := 0) (hi := 0) (by omega) (by omega) w
  have o2 := out_no (x := n) (lo := 0) (hi := 1099511627776) hn.1 hn.2 w
  have o3 := out_no (x := t) (lo := 0) (hi := 1099511627776) (by omega) ht.2 w
  have k1 : ¬ t < tk := by omega
  clear h hn ht h0
  go_enter Tryz.func362, Tryz.ntmps362
  go_wp2_with (first
    | (go_at_call 52; refine o1.mono ?_; clear o1; rintro _ w1 ⟨rfl, rfl⟩)
    | (go_at_call 52; refine o2.mono ?_; clear o2; rintro _ w1 ⟨rfl, rfl⟩)
    | (go_at_call 52; refine o3.mono ?_; clear o3; rintro _ w1 ⟨rfl, rfl⟩)
    | fail)
  go_ret
  exact ⟨rfl, rfl⟩
set_option maxHeartbeats 4000000 in
set_option maxRecDepth 1000000 in
theorem fresh_walk (h : MtAt w mb ub sh pe tk us) {t : Int} (ht : 0 ≤ t ∧ t ≤ 1099511627776) :
    Calls Tryz.prog 369 #[.pointer (some ⟨mb, 0, none⟩), .int .i64 t] w fun e w' => e = .returned (.bool (fresh pe tk t)) ∧ Below w.heap.size w w' := by
  have c1 := h.blk.at' 1
  have c2 := h.blk.at' 2
  simp at c1 c2
  have hq1 := quo_wrap (a := t) ht h.hpe
  have hq2 := quo_wrap (a := tk) h.htk h.hpe
  have h0 : ¬ pe = 0 := by have := h.hpe; omega
  clear h ht
  go_enter Tryz.func369, Tryz.ntmps369
  go_wp2
  (refine wp_region_quiet_lit (by kernel_rfl) (by kernel_rfl) ?_; (repeat (with_reducible refine wpQuiet_step (fun K hK => ?_); go_simp; with_reducible refine hK _ ?_; clear hK K)); with_reducible refine wpQuiet_nil ?_; rintro _ ⟨nq, rfl⟩)
  go_wp2
  go_ret
  exact ⟨rfl, belowN _ _⟩
set_option maxHeartbeats 4000000 in
set_option maxRecDepth 1000000 in
theorem spent_walk (h : MtAt w mb ub sh pe tk us) {t : Int} (ht : 0 ≤ t ∧ t ≤ 1099511627776) :
    Calls Tryz.prog 363 #[.pointer (some ⟨mb, 0, none⟩), .int .i64 0, .int .i64 t] w fun e w' => e = .returned (.int .i64 (usedAt pe tk us t)) ∧ Below w.heap.size w w' := by
  have hf := fresh_walk h ht
  unfold usedAt
  cases hb : fresh pe tk t with
  | true =>
    rw [hb] at hf
    clear hb h
    go_enter Tryz.func363, Tryz.ntmps363
    go_wp2_with (first | (go_at_call 369; refine hf.mono ?_; clear hf; rintro _ w1 ⟨rfl, hb1⟩) | fail)
    go_ret
    exact ⟨rfl, hb1⟩
  | false =>
    rw [hb] at hf
    clear hb
    go_enter Tryz.func363, Tryz.ntmps363
    go_wp2_with (first | (go_at_call 369; refine hf.mono ?_; clear hf; rintro _ w1 ⟨rfl, hb1⟩; have h1 := h.bel hb1; have c3 := h1.blk.at' 3; have d0 := h1.used.at' 0; simp at c3 d0) | fail)
    go_ret
    exact ⟨rfl, hb1⟩
theorem MtAt.usedBd (h : MtAt w mb ub sh pe tk us) (t : Int) : 0 ≤ usedAt pe tk us t ∧ usedAt pe tk us t ≤ sh := by
  have := h.hus
  unfold usedAt; split <;> omega
set_option maxHeartbeats 4000000 in
set_option maxRecDepth 1000000 in
theorem left_walk (h : MtAt w mb ub sh pe tk us) {t : Int} (ht : tk ≤ t ∧ t ≤ 1099511627776) :
    Calls Tryz.prog 353 #[.pointer (some ⟨mb, 0, none⟩), .int .i64 0, .int .i64 t] w fun e w' => e = .returned (.tuple #[.int .i64 (sh - usedAt pe tk us t), .int .i64 0]) ∧ Below w.heap.size w w' := by
  have hw := wrong_walk h (n := 0) (by omega) ht
  have hu := h.usedBd t
  have hsh := h.hsh
  have hsp := spent_walk (h.bel (Below.refl w.heap.size w).drew) (t := t) (by have := h.htk; omega)
  have hc : ∀ w', Below w.heap.size w w' → w'.cell? ⟨mb, 0, none⟩ = some (.int .i64 sh) := fun w' hb => by
    have := (h.bel hb).blk.at' 0
    simpa using this
  have HC := Lib.hid hc
  obtain ⟨u, hu'⟩ : ∃ u, usedAt pe tk us t = u := ⟨_, rfl⟩
  rw [hu'] at hsp hu ⊢
  have hwr : IntKind.i64.wrap (sh - u) = sh - u := wrapS (by omega) (by omega)
  have hc0 := hc _ (Below.refl w.heap.size w).drew
  clear h hu' hc
  go_enter Tryz.func353, Tryz.ntmps353
  go_wp2_with (first
    | (go_at_call 362; refine hw.mono ?_; clear hw; rintro _ w1 ⟨rfl, rfl⟩)
    | fail)
  go_region_held3 (fun w' => w'.cell? ⟨mb, 0, none⟩ = some (.int .i64 sh))
    (first | (exact HC.out _ ((Below.refl _ _).drew.trans hb1)) | go_keep)
    (first
      | (go_at_call 363; refine hsp.mono ?_; clear hsp; rintro _ w2 ⟨rfl, hb1⟩))
  go_wp2
  go_ret2
  exact ⟨rfl, (Below.refl _ _).drew.trans hb1⟩
end
end Go.Proofs.YtahmcjdddcbhnaaGreatDoor
namespace Go.Proofs.YtahmcjdddcbhnaaGreatDoor
open Go Go.RowKit Go.Imap

section
variable {w : World} {g cm : Nat} {sh pe tk cu : Int} {m1 : Value} {f : Nat → Option Value} {pA : Option Addr} {pn pc : Nat}
set_option maxHeartbeats 4000000 in
set_option maxRecDepth 1000000 in
theorem qdata_late (h : Blk w g 80 #[.int .i64 sh, .int .i64 pe, .int .i64 tk, .int .i64 cu, m1, .map (some cm)]) {n t : Int} (ht : lateE tk t ≠ 0) :
    Calls Tryz.prog 21 #[.pointer (some ⟨g, 0, none⟩), .int .i64 n, .slice pA pn pc, .int .i64 t] w fun e w' => e = .returned (.tuple #[.slice none 0 0, .int .i64 (lateE tk t)]) ∧ Below w.heap.size w w' := by
  obtain ⟨W0, hW0⟩ : ∃ x, w.alloc (.cells #[.slice pA pn pc] 23) = x := ⟨_, rfl⟩
  have hB0 : Below w.heap.size w W0 := by rw [← hW0]; exact (Below.refl _ _).alloc (Nat.le_refl _) _
  have hla := qlate_walk (h.bel hB0 h.lt) t
  obtain ⟨le, hle⟩ : ∃ x, lateE tk t = x := ⟨_, rfl⟩
  rw [hle] at hla ht ⊢
  have hlb : (le == 0) = false := beq_eq_false_iff_ne.2 ht
  clear hle h ht
  go_enter Tryz.func21, Tryz.ntmps21
  go_wp2_with (first | (go_at_call 36; refine hla.mono ?_; clear hla; rintro _ w1 ⟨rfl, rfl⟩) | fail)
  go_ret2
  exact ⟨rfl, hB0⟩
set_option maxHeartbeats 4000000 in
set_option maxRecDepth 1000000 in
theorem qdata_no (h : Blk w g 80 #[.int .i64 sh, .int .i64 pe, .int .i64 tk, .int .i64 cu, m1, .map (some cm)]) (hm : IMap w cm f) {n t : Int} (hn : -1 ≤ n ∧ n < 64) (hf : atI f n = none) (ht : lateE tk t = 0) :
    Calls Tryz.prog 21 #[.pointer (some ⟨g, 0, none⟩), .int .i64 n, .slice pA pn pc, .int .i64 t] w fun e w' => e = .returned (.tuple #[.slice none 0 0, .int .i64 7]) ∧ Below w.heap.size w w' := by
  obtain ⟨W0, hW0⟩ : ∃ x, w.alloc (.cells #[.slice pA pn pc] 23) = x := ⟨_, rfl⟩
  have hB0 : Below w.heap.size w W0 := by rw [← hW0]; exact (Below.refl _ _).alloc (Nat.le_refl _) _
  have hla := qlate_walk (h.bel hB0 h.lt) t
  rw [ht] at hla
  have c5 := (h.bel hB0 h.lt).at' 5
  simp at c5
  have hlk := (hm.same (hB0.block _ hm.lt)).lookup2 Tryz.underlying78 Tryz.underlying3 (zeroConn W0) hn
  rw [hf] at hlk
  simp only [Option.getD_none, Option.isSome_none] at hlk
  clear h hm hf hn ht
  go_enter Tryz.func21, Tryz.ntmps21
  go_wp2_with (first | (go_at_call 36; refine hla.mono ?_; clear hla; rintro _ w1 ⟨rfl, rfl⟩) | fail)
  go_ret2
  exact ⟨rfl, hB0⟩
set_option maxHeartbeats 4000000 in
set_option maxRecDepth 1000000 in
theorem qdata_much (h : Blk w g 80 #[.int .i64 sh, .int .i64 pe, .int .i64 tk, .int .i64 cu, m1, .map (some cm)]) (hm : IMap w cm f) {n t : Int} (hn : -1 ≤ n ∧ n < 64) {cb L wc : Nat} {wA : Option Addr} {x0 x1 x3 : Value}
    (hf : atI f n = some (.pointer (some ⟨cb, 0, none⟩))) (ht : lateE tk t = 0) (hc : Blk w cb 111 #[x0, x1, .slice wA L wc, x3]) (hL : L ≤ 65536) (hp : pn ≤ 1000000) (hbig : 65536 < L + pn) :
    Calls Tryz.prog 21 #[.pointer (some ⟨g, 0, none⟩), .int .i64 n, .slice pA pn pc, .int .i64 t] w fun e w' => e = .returned (.tuple #[.slice none 0 0, .int .i64 4]) ∧ Below w.heap.size w w' := by
  obtain ⟨W0, hW0⟩ : ∃ x, w.alloc (.cells #[.slice pA pn pc] 23) = x := ⟨_, rfl⟩
  have hB0 : Below w.heap.size w W0 := by rw [← hW0]; exact (Below.refl _ _).alloc (Nat.le_refl _) _
  have pb : Blk W0 w.heap.size 23 #[.slice pA pn pc] := by rw [← hW0]; exact Blk.made w _ _
  have hla := qlate_walk (h.bel hB0 h.lt) t
  rw [ht] at hla
  have c5 := (h.bel hB0 h.lt).at' 5
  simp at c5
  have hlk := (hm.same (hB0.block _ hm.lt)).lookup2 Tryz.underlying78 Tryz.underlying3 (zeroConn W0) hn
  rw [hf] at hlk
  simp only [Option.getD_some, Option.isSome_some] at hlk
  have hc0 := hc.bel hB0 hc.lt
  have d2 := fun k => (hc0.bel (belowN W0 k) hc0.lt).at' 2
  have p0 := fun k => (pb.bel (belowN W0 k) pb.lt).at' 0
  have hBk := fun k => hB0.trans ((belowN W0 k).mono hB0.size)
  simp at d2 p0
  have hw : IntKind.i64.wrap (65536 - (L : Int)) = 65536 - (L : Int) := wrapS (by omega) (by omega)
  have hgt : (65536 : Int) - (L : Int) < (pn : Int) := by omega
  clear h hm hf hn ht hc hc0 pb
  go_enter Tryz.func21, Tryz.ntmps21
  go_wp2_with (first | (go_at_call 36; refine hla.mono ?_; clear hla; rintro _ w1 ⟨rfl, rfl⟩) | fail)
  go_quiet (fail)
  go_wp2_with fail
  go_ret2
  exact ⟨rfl, hBk _⟩
end
end Go.Proofs.YtahmcjdddcbhnaaGreatDoor
namespace Go.Proofs.YtahmcjdddcbhnaaGreatDoor
open Go Go.RowKit

theorem zeroInt (w : World) : (zeroValue 3).run Tryz.prog w = .ok (.int .i64 0) w := by kernel_rfl
theorem clear_one {w : World} {ub : Nat} {u : Int} (hc : w.cell? ⟨ub, 0, none⟩ = some (.int .i64 u)) (hf : w.frozen? ⟨ub, 0, none⟩ = false) :
    (Builtin.clear_ #[22] 0 #[.slice (some ⟨ub, 0, none⟩) 1 1]).run Tryz.prog w = .ok (.tuple #[]) (w.setCell ⟨ub, 0, none⟩ (.int .i64 0)) := by
  simp [Builtin.clear_, run_underlying Tryz.underlying22, Sem.run_bind, zeroInt, Builtin.zeroCells, storeCells, store, hc, hf, Result.andThen, Value.cells, Addr.add]
  simp [Sem.run, hc, hf]
/-- the blocks of a meter -/
def MFt (mb ub : Nat) (b : Nat) : Prop := b = mb ∨ b = ub
section
variable {w : World} {mb ub : Nat} {sh pe tk us : Int}
theorem MtAt.upd {w' : World} {tk' us' : Int} (h : MtAt w mb ub sh pe tk us) (hb : Blk w' mb 151 #[.int .i64 sh, .int .i64 pe, .int .i64 tk', .slice (some ⟨ub, 0, none⟩) 1 1]) (hu : Blk w' ub 3 #[.int .i64 us']) (h1 : 0 ≤ tk' ∧ tk' ≤ 1099511627776) (h2 : 0 ≤ us' ∧ us' ≤ sh) : MtAt w' mb ub sh pe tk' us' :=
  ⟨hb, hu, h.hsh, h.hpe, h1, h2⟩
set_option maxHeartbeats 4000000 in
set_option maxRecDepth 1000000 in
theorem move_walk (hM : MtAt w mb ub sh pe tk us) {t : Int} (ht : tk ≤ t ∧ t ≤ 1099511627776) :
    Calls Tryz.prog 344 #[.pointer (some ⟨mb, 0, none⟩), .int .i64 t] w fun e w' => e = .returned (.tuple #[]) ∧ MtAt w' mb ub sh pe t (usedAt pe tk us t) ∧ Chg (MFt mb ub) w w' := by
  have htk := hM.htk
  have hus := hM.hus
  have hf := fresh_walk hM (t := t) (by omega)
  have hne := hM.ne
  unfold usedAt
  have hbel := fun w' (hb : Below w.heap.size w w') => hM.bel hb
  cases hb : fresh pe tk t with
  | true =>
    rw [hb] at hf
    clear hb
    go_enter Tryz.func344, Tryz.ntmps344
    go_wp2_with (first
      | (go_at_call 369; refine hf.mono ?_; clear hf; rintro _ w1 ⟨rfl, hb1⟩; have h1 := hbel w1 hb1; have c3 := h1.blk.at' 3; have d0 := h1.used.at' 0; have f2 := h1.blk.thaw 2; have g0 := h1.used.thaw 0; have c2 := h1.blk.at' 2; simp at c3 d0 c2; have hclr := clear_one d0 g0; have c2' := ((h1.blk.away (p := ⟨ub, 0, none⟩) hne (.int .i64 0)).at' 2); have f2' := ((h1.blk.away (p := ⟨ub, 0, none⟩) hne (.int .i64 0)).thaw 2); simp at c2')
      | fail)
    refine bodyPost_end (results_none rfl _ _ _) rfl ?_
    have k1 := (Chg.of_below (F := MFt mb ub) hb1).setCell (p := ⟨ub, 0, none⟩) (.inr (.inr rfl)) (.int .i64 0)
    refine ⟨rfl, hM.upd ?_ ?_ (by omega) (by simp; have := hM.hsh; omega), k1.setCell (p := ⟨mb, 2, none⟩) (.inr (.inl rfl)) _⟩
    · simpa using (h1.blk.away (p := ⟨ub, 0, none⟩) hne (.int .i64 0)).put 2 (.int .i64 t)
    · have := (h1.used.put 0 (.int .i64 0)).away (p := ⟨mb, 2, none⟩) (fun e => hne e.symm) (.int .i64 t)
      simpa using this
  | false =>
    rw [hb] at hf
    clear hb
    go_enter Tryz.func344, Tryz.ntmps344
    go_wp2_with (first
      | (go_at_call 369; refine hf.mono ?_; clear hf; rintro _ w1 ⟨rfl, hb1⟩; have h1 := hbel w1 hb1; have c2 := h1.blk.at' 2; have f2 := h1.blk.thaw 2; simp at c2)
      | fail)
    refine bodyPost_end (results_none rfl _ _ _) rfl ?_
    refine ⟨rfl, hM.upd ?_ ?_ (by omega) hus, ?_⟩
    · simpa using h1.blk.put 2 (.int .i64 t)
    · exact h1.used.away (p := ⟨mb, 2, none⟩) (fun e => hne e.symm) _
    · exact (Chg.of_below hb1).setCell (p := ⟨mb, 2, none⟩) (.inr (.inl rfl)) _
set_option maxHeartbeats 4000000 in
set_option maxRecDepth 1000000 in
theorem take_walk (hM : MtAt w mb ub sh pe tk us) {t n : Int} (ht : tk ≤ t ∧ t ≤ 1099511627776) (hn : 0 ≤ n ∧ n ≤ sh - usedAt pe tk us t) :
    Calls Tryz.prog 357 #[.pointer (some ⟨mb, 0, none⟩), .int .i64 0, .int .i64 n, .int .i64 t] w fun e w' => e = .returned (.tuple #[.int .i64 n, .int .i64 0]) ∧ MtAt w' mb ub sh pe t (usedAt pe tk us t + n) ∧ Chg (MFt mb ub) w w' := by
  have hu := hM.usedBd t
  have hsh := hM.hsh
  have htk := hM.htk
  have hw := wrong_walk hM (n := n) (by omega) ht
  have hmv := move_walk hM ht
  have hne := hM.ne
  obtain ⟨u, hu'⟩ : ∃ u, usedAt pe tk us t = u := ⟨_, rfl⟩
  rw [hu'] at hmv hu hn ⊢
  have hwr : IntKind.i64.wrap (sh - u) = sh - u := wrapS (by omega) (by omega)
  have hwa : IntKind.i64.wrap (u + n) = u + n := wrapS (by omega) (by omega)
  have hmin : ¬ sh - u < n := by omega
  have hmn : min n (sh - u) = n := by omega
  clear hu'
  go_enter Tryz.func357, Tryz.ntmps357
  go_wp2_with (first
    | (go_at_call 362; refine hw.mono ?_; clear hw; rintro _ w1 ⟨rfl, rfl⟩)
    | (go_at_call 344; refine hmv.mono ?_; clear hmv; rintro _ w2 ⟨rfl, hM2, hC2⟩; have c0 := hM2.blk.at' 0; have c3 := hM2.blk.at' 3; have d0 := hM2.used.at' 0; simp at c0 c3 d0)
    | fail)
  (refine wp_region_quiet_lit (by kernel_rfl) (by kernel_rfl) ?_; (repeat (with_reducible refine wpQuiet_step (fun K hK => ?_); go_simp; with_reducible refine hK _ ?_; clear hK K)); with_reducible refine wpQuiet_nil ?_; rintro _ ⟨nq, rfl⟩)
  have hB3 := belowN w2 nq
  have hM3 := hM2.bel hB3
  obtain ⟨w3, hw3⟩ : ∃ x, w2.drewN nq = x := ⟨_, rfl⟩
  rw [hw3] at hB3 hM3 ⊢
  have e3 := hM3.blk.at' 3
  have g0 := hM3.used.at' 0
  have gf := hM3.used.thaw 0
  simp at e3 g0
  clear c0 c3 d0
  go_wp2_with fail
  go_ret2
  refine ⟨rfl, hM3.upd (hM3.blk.away (p := ⟨ub, 0, none⟩) hne _) ?_ (by omega) (by omega), ?_⟩
  · simpa using hM3.used.put 0 (.int .i64 (u + n))
  · exact (hC2.trans (Chg.of_below (F := fun _ => False) hB3) fun _ _ h => h.elim).setCell (p := ⟨ub, 0, none⟩) (.inr (.inr rfl)) _
/-- a rule's share at a tick -/
def shareV (mb : Nat) (t : Int) : Value := .agg #[.pointer (some ⟨mb, 0, none⟩), .int .i64 0, .int .i64 t]
set_option maxHeartbeats 4000000 in
set_option maxRecDepth 1000000 in
theorem qleft_walk (hM : MtAt w mb ub sh pe tk us) {t : Int} (ht : tk ≤ t ∧ t ≤ 1099511627776) :
    Calls Tryz.prog 345 #[shareV mb t] w fun e w' => e = .returned (.int .i64 (sh - usedAt pe tk us t)) ∧ Below w.heap.size w w' := by
  have hl := fun w1 (hb : Below w.heap.size w w1) => left_walk (hM.bel hb) ht
  obtain ⟨r, hr⟩ : ∃ r, sh - usedAt pe tk us t = r := ⟨_, rfl⟩
  rw [hr] at hl ⊢
  have hb0 : Below w.heap.size w (w.alloc (.cells #[.pointer (some ⟨mb, 0, none⟩), .int .i64 0, .int .i64 t] 118)) := (Below.refl _ _).alloc (Nat.le_refl _) _
  have hl0 := hl _ hb0
  clear hM hr hl
  unfold shareV
  go_enter Tryz.func345, Tryz.ntmps345
  go_wp2_with (first
    | (go_at_call 353; refine hl0.mono ?_; clear hl0; rintro _ w1 ⟨rfl, hb1⟩)
    | fail)
  go_ret
  exact ⟨rfl, hb0.trans (hb1.mono hb0.size)⟩
set_option maxHeartbeats 4000000 in
set_option maxRecDepth 1000000 in
theorem qtake_walk (hM : MtAt w mb ub sh pe tk us) {t n : Int} (ht : tk ≤ t ∧ t ≤ 1099511627776) (hn : 0 ≤ n ∧ n ≤ sh - usedAt pe tk us t) :
    Calls Tryz.prog 351 #[shareV mb t, .int .i64 n] w fun e w' => e = .returned (.tuple #[]) ∧ MtAt w' mb ub sh pe t (usedAt pe tk us t + n) ∧ Chg (MFt mb ub) w w' := by
  have hl := fun w1 (hb : Below w.heap.size w w1) => take_walk (hM.bel hb) ht hn
  obtain ⟨r, hr⟩ : ∃ r, usedAt pe tk us t + n = r := ⟨_, rfl⟩
  rw [hr] at hl ⊢
  have hb0 : Below w.heap.size w (w.alloc (.cells #[.pointer (some ⟨mb, 0, none⟩), .int .i64 0, .int .i64 t] 118)) := (Below.refl _ _).alloc (Nat.le_refl _) _
  have hl0 := hl _ hb0
  clear hM hr hl
  unfold shareV
  go_enter Tryz.func351, Tryz.ntmps351
  go_wp2_with (first
    | (go_at_call 357; refine hl0.mono ?_; clear hl0; rintro _ w1 ⟨rfl, hM1, hC1⟩)
    | fail)
  refine bodyPost_end (results_none rfl _ _ _) rfl ?_
  exact ⟨rfl, hM1, (Chg.of_below hb0).trans hC1 fun _ _ h => h⟩
end
end Go.Proofs.YtahmcjdddcbhnaaGreatDoor
namespace Go.Says
open Go Go.RowKit Go.Shelf

/-- an iterator that yields xs, with each round leaving what Kp says, and S telling of the world behind it -/
def SeqSays {α : Type} (F : Fence) (n : Nat) (P : Program) (g : Nat) (lb : Array Value) (encs : α → Array Value) (Kp : World → World → Prop) (S : List α → World → Prop) (N : Nat) (w : World) : Prop :=
  ∀ (l : Nat) (J : List α → World → Prop) (W : World), Below w.heap.size w W → AbidesFrom W.heap.size J →
    (∀ pre x W1, J pre W1 → pre.length < N → YieldAt F (n - 1) P l (encs x) W1 fun e W' => e = .returned (.bool true) ∧ J (pre ++ [x]) W' ∧ Kp W1 W') →
    J [] W → CallsIn F n P g (#[.func (.yield l) #[] #[]] ++ lb) W fun e W' => (∃ v, e = .returned v) ∧ ∃ xs, S xs W' ∧ J xs W'
/-- a predicate stays where a block at or beyond B that holds no cells is turned -/
def Stays (B : Nat) (S : World → Prop) : Prop := ∀ (W : World) (l : Nat) (o o' : Obj), B ≤ l → W.heap[l]? = some o → o.isCells = false → S W → S (W.putObj l o')
section
variable {F : Fence} {n : Nat} {P : Program} {α : Type}
theorem wpIn_rangeFunc_says {g : Operand} {ps : Array Tmp} {assign body : Code} {Q : Exit → Act → World → Prop} {a : Act} {w : World}
    (hro : F.round = none) (h1 : 1 ≤ n) {gf : Nat} {lb : Array Value} (hg : a.eval g = .func (.func gf) #[] lb) (hFg : F.fn gf) (eg : ∀ args w, (callFunc gf args).run P w = .ok (.enter gf args) w)
    {encs : α → Array Value} {Kp : World → World → Prop} {S : List α → World → Prop} {N : Nat} (hseq : SeqSays F (n - 1) P gf lb encs Kp S N w)
    (hKt : ∀ {A B C : World}, Kp A B → Kp B C → Kp A C) (hKb : ∀ (W : World) (l : Nat) (o o' : Obj), w.heap.size ≤ l → W.heap[l]? = some o → o.isCells = false → o.isWalk = false → Kp W (W.putObj l o'))
    (hS : ∀ xs, Stays w.heap.size (S xs)) (hps : ∀ x, (encs x).size = ps.size) (I : List α → World → Prop) (hI : OwnFrom w.heap.size I) (h0 : I [] w) (a₁ : α → Act)
    (hassign : ∀ (l : Nat) (x : α) (W : World) (K : Act → World → Prop), K (a₁ x) W →
      assign.wpIn (F.inRound l) (n - 1 - 1) P (Exit.then K (fun _ _ _ => False)) { tmps := (ps.zip (encs x)).foldl (fun t (p, v) => t.setIfInBounds p v) a.tmps, defers := [] } W)
    (hbody : ∀ (l : Nat) (pre : List α) (x : α) (W : World), I pre W → pre.length < N → body.wpIn (F.inRound l) (n - 1 - 1) P (Exit.then (fun _ W' => KeepsOthers W W' ∧ Kp W W' ∧ I (pre ++ [x]) W') (fun _ _ _ => False)) (a₁ x) W)
    (hdone : ∀ (D : Nat) (xs : List α) (W : World), w.heap.size ≤ D → S xs W → I xs W → W.heap[D]? = some (.deferred (some [])) → Q .normal { a with defers := { target := .collected D, args := #[] } :: a.defers } W) :
    (Code.rangeFunc g ps assign body).wpIn F n P Q a w := by
  refine wpIn_rangeFunc fun fn hfn => ?_
  rw [hro]
  -- the loop's record, when it is ready; D: the block of the deferred calls, D + 1: the record
  obtain ⟨rd, hrd⟩ : ∃ rd : Loop, rd = { state := .ready, pending := none, fn, tmps := a.tmps, params := ps, assign, body, defers := w.heap.size } := ⟨_, rfl⟩
  obtain ⟨D, hD⟩ : ∃ D, w.heap.size = D := ⟨_, rfl⟩
  obtain ⟨V, hV⟩ : ∃ V, (w.alloc (.deferred (some []))).alloc (.loop rd) = V := ⟨_, rfl⟩
  have vD : V.heap[D]? = some (.deferred (some [])) := by
    rw [← hV, ← hD]; exact (Below.heap_alloc _ _ _ (by simp)).trans (World.alloc_heap_new w _)
  have vL : V.heap[D + 1]? = some (.loop rd) := by
    have := World.alloc_heap_new (w.alloc (.deferred (some []))) (.loop rd)
    rw [World.size_alloc, hD] at this
    rw [← hV]; exact this
  have vI : I [] V := by rw [← hV]; exact hI.alloc _ (hI.alloc _ h0)
  have vB : Below w.heap.size w V := by rw [← hV]; exact ((Below.refl _ w).alloc (Nat.le_refl _) _).alloc (by simp) _
  have vS : D + 2 ≤ V.heap.size := by rw [← hV, World.size_alloc, World.size_alloc]; omega
  refine ⟨D + 1, [{ target := .collected D, args := #[] }], V, { target := .fn (.func gf) lb, args := #[.func (.yield (D + 1)) #[] #[]] }, V, gf, #[.func (.yield (D + 1)) #[] #[]] ++ lb, V, ?_, ?_, ?_, ?_, fun _ => h1, ?_⟩
  · rw [← hV, ← hD, hrd]; exact run_enterLoop_outer _ _ _ _ _
  · simp only [resolve, hg]
    simp [go_sem]
  · intro f' hf'
    simp [Target.leads] at hf'
    subst hf'
    exact hFg
  · simp [invoke, go_sem, eg]
  have turned : ∀ {A B : World} {row : Option Nat}, (∀ r, row = some r → V.heap.size ≤ r ∧ ∃ o : Obj, A.heap[r]? = some o ∧ o.isWalk = true) → ∀ r, row = some r → w.heap.size ≤ r ∧ ∃ o : Obj, A.heap[r]? = some o ∧ o.isCells = false := fun hr r e => by
    obtain ⟨hB, o, ho, hw⟩ := hr r e
    exact ⟨by omega, o, ho, Obj.not_cells_of_walk hw⟩
  have hps' : ∀ x, (encs x).size = rd.params.size := fun x => by rw [hrd]; exact hps x
  refine (hseq (D + 1) (fun pre W => I pre W ∧ W.heap[D + 1]? = some (.loop rd) ∧ W.heap[D]? = some (.deferred (some []))) V vB ?_ ?_ ⟨vI, vL, vD⟩).mono ?_
  · intro s A B row hs hg' hr
    exact ⟨hI s A B row hs.1 hg' (turned (B := B) hr), (grownBy_keeps hg' (fun r e => (hr r e).2) hs.2.1 rfl).trans hs.2.1, (grownBy_keeps hg' (fun r e => (hr r e).2) hs.2.2 rfl).trans hs.2.2⟩
  · rintro pre x W ⟨hi, hl, hd⟩ hlen
    have hlt := (Array.getElem?_eq_some_iff.1 hl).1
    obtain ⟨bz, hbz⟩ : ∃ bz : Loop, bz = { rd with state := .busy } := ⟨_, rfl⟩
    have hy := run_yield (P := P) (args := encs x) hl (hps' x)
    have hbeg : (Instr.beginRound (D + 1)).run P W = .ok () (W.putObj (D + 1) (.loop bz)) := by rw [hbz]; exact run_beginRound hl (by rw [hrd])
    rw [hrd] at hy
    refine ⟨fn, _, assign, body, hy, roundIn_of_wpIn hfn (hassign _ x W _ ⟨_, hbeg, ?_⟩)⟩
    have hl2 : (W.putObj (D + 1) (.loop bz)).heap[D + 1]? = some (.loop bz) := World.putObj_heap_same hlt
    have hd2 : (W.putObj (D + 1) (.loop bz)).heap[D]? = some (.deferred (some [])) := (World.putObj_heap_other (by omega)).trans hd
    refine wpIn_mono (hbody _ pre x _ (hI.putObj _ hi (by omega) hl rfl) hlen) ?_
    rintro e a3 U hp
    cases e with
    | normal =>
      obtain ⟨hk, hkp, hi3⟩ := hp
      have hl3 := hk.same _ _ hl2 rfl
      have hd3 := hk.same _ _ hd2 rfl
      have hend := run_endRound (P := P) none hl3
      have hback : ({ bz with state := if (none : Option Code).isNone then .ready else .done, pending := none } : Loop) = rd := by rw [hbz, hrd]; rfl
      rw [hback] at hend
      exact ⟨_, _, hend, rfl, ⟨hI.putObj _ hi3 (by omega) hl3 rfl, World.putObj_heap_same (Array.getElem?_eq_some_iff.1 hl3).1, (World.putObj_heap_other (by omega)).trans hd3⟩, hKt (hKt (hKb _ _ _ _ (by omega) hl rfl rfl) hkp) (hKb _ _ _ _ (by omega) hl3 rfl rfl)⟩
    | ret => exact hp.elim
    | exit id => exact hp.elim
    | goto t => exact hp.elim
    | panic ch => exact hp.elim
    | outgrown => exact hp.elim
  · rintro e U ⟨⟨v, rfl⟩, xs, hs, hi, hl, hd⟩
    have hend := run_endLoop (P := P) hl (by rw [hrd]; simp)
    have hpend : rd.pending = none := by rw [hrd]
    rw [hpend] at hend
    exact ⟨none, _, hend, hdone D xs _ (by omega) (hS xs _ _ _ _ (by omega) hl rfl hs) (hI.putObj _ hi (by omega) hl rfl) ((World.putObj_heap_other (by omega)).trans hd)⟩
end
end Go.Says
namespace Go.Proofs.YtahmcjdddcbhnaaGreatDoor
open Go Go.RowKit

theorem infoInt : (Tryz.prog.info? 3).map (fun i => (i.zero, i.size, i.bytes)) = some (some (.int .i64 0), 1, 8) := by kernel_rfl
theorem sees_one (w : World) (e : TypeId) (cs : Array Value) {size : Nat} (hs : cs.size = size) : Sees (w.alloc (.cells cs e)) size (.slice (some ⟨w.heap.size, 0, none⟩) 1 1) cs.toList :=
  Sees.row (World.ownsRow_lit (base := w.heap.size) (e := e) (size := size) w cs 1 (Nat.le_refl _) (by unfold maxLen; omega) (by omega))
theorem grown_bel0 {w wr w2 : World} {B : Nat} {e : TypeId} {size n : Nat} {v : Value} {xs : List Value} (hb : Below B w wr) (hown : wr.ownsRow B e size v n xs) (hB : B ≤ wr.heap.size) (hg : wr.grownBy w2 v.ownBlock) : Below B w w2 :=
  hb.grown hg hB fun k hk => (World.ownsRow.lt hown k hk).1
theorem filter_take {l : List Int} {n : Int} {j : Nat} (hj : j < l.length) : (l.take (j + 1)).filter (fun v => v != n) = (l.take j).filter (fun v => v != n) ++ (if l[j] != n then [l[j]] else []) := by
  rw [List.take_succ_eq_append_getElem hj, List.filter_append]
  congr 1
  by_cases h : l[j] = n
  · simp [h]
  · simp [h]
theorem any_no {cs : List CR} {n : Int} (h : ∀ i, ∀ hi : i < cs.length, cs[i].ver ≠ n) : cs.any (fun c => c.ver == n) = false := by
  rw [List.any_eq_false]
  intro c hc
  obtain ⟨i, hi, rfl⟩ := List.mem_iff_getElem.1 hc
  simpa using h i hi
theorem any_at {cs : List CR} {n : Int} {i : Nat} (hi : i < cs.length) (e : cs[i].ver = n) : cs.any (fun c => c.ver == n) = true := by
  rw [List.any_eq_true]
  exact ⟨_, List.getElem_mem hi, by simpa using e⟩
/-- what an operation on the reference's filter leaves -/
structure RPost (w : World) (B g : Nat) (v1 v2 : Value) (s : RF) (w' : World) : Prop where
  ex : ∃ u1 u2, RAt w' B g u1 u2 s ∧ ∀ k, RFt g u1 u2 k → RFt g v1 v2 k ∨ w.heap.size ≤ k
  chg : Chg (RFt g v1 v2) w w'
theorem RPost.same {w : World} {B g : Nat} {v1 v2 : Value} {s : RF} (h : RAt w B g v1 v2 s) : RPost w B g v1 v2 s w := ⟨⟨v1, v2, h, fun _ h => .inl h⟩, Chg.refl _ _⟩
set_option maxHeartbeats 8000000 in
set_option maxRecDepth 1000000 in
theorem rremove_walk {w : World} {B g : Nat} {v1 v2 : Value} {s : RF} (h : RAt w B g v1 v2 s) (hB : B ≤ w.heap.size) (hl1 : s.vs.length ≤ 1000000) (hl2 : s.cs.length ≤ 1000000) (n : Int) :
    Calls Tryz.prog 29 #[.pointer (some ⟨g, 0, none⟩), .int .i64 n] w fun e w' => e = .returned (.int .i64 (s.rem n).1) ∧ RPost w B g v1 v2 (s.rem n).2 w' := by
  obtain ⟨i0, hi0, hz0, hz1, hz2⟩ := info_parts' infoInt
  have hha := has_walk h.sees1 hl1 n
  have c0 := h.blk.at' 0
  have c1 := h.blk.at' 1
  have c2 := h.blk.at' 2
  simp at c0 c1 c2
  have hsame := RPost.same h
  unfold RF.rem
  cases hcv : s.vs.contains n with
  | false =>
    rw [if_pos rfl]
    rw [hcv] at hha
    go_enter Tryz.func29, Tryz.ntmps29
    go_wp2_with fail
    go_at_call 28
    refine hha.mono ?_
    clear hha
    rintro _ w1 ⟨rfl, rfl⟩
    go_wp2_with fail
    go_ret
    exact ⟨rfl, hsame⟩
  | true =>
    rw [if_neg (by simp)]
    rw [hcv] at hha
    by_cases hu : s.use = n
    · rw [if_pos hu]
      have hub : (s.use == n) = true := by simpa using hu
      clear hu
      go_enter Tryz.func29, Tryz.ntmps29
      go_wp2_with fail
      go_at_call 28
      refine hha.mono ?_
      clear hha
      rintro _ w1 ⟨rfl, rfl⟩
      go_wp2_with fail
      go_ret
      exact ⟨rfl, hsame⟩
    · rw [if_neg hu]
      have hub : (s.use == n) = false := beq_eq_false_iff_ne.2 hu
      clear hu hsame
      obtain ⟨r, hr⟩ : ∃ r : Int × RF, (if s.cs.any (fun c => c.ver == n) = true then (15, s) else (0, { s with vs := s.vs.filter fun v => v != n })) = r := ⟨_, rfl⟩
      rw [hr]
      have HR := Lib.hid hr
      have hA := Lib.hid h
      obtain ⟨A, cp, rfl, hcp, h3⟩ := h.conns
      obtain ⟨A1, cp1, rfl, hcp1⟩ := h.vers
      have hrow1 := h.sees1
      clear hr h hcp hcp1
      go_enter Tryz.func29, Tryz.ntmps29
      go_wp2_with fail
      go_at_call 28
      refine hha.mono ?_
      clear hha
      rintro _ w1 ⟨rfl, rfl⟩
      go_wp2_with fail
      go_loopw [5] (fun iv wr => ∃ j : Nat, j ≤ s.cs.length ∧ iv = .int .i64 j ∧ wr = w1 ∧ Hid (∀ i, ∀ hi : i < s.cs.length, i < j → s.cs[i].ver ≠ n)) (fun iv _ => s.cs.length - (intOf iv).toNat)
      case atStart => exact ⟨0, Nat.zero_le _, rfl, rfl, Lib.hid fun i _ h => absurd h (by omega)⟩
      case round =>
        obtain ⟨j, hj, rfl, rfl, hno⟩ := hrel
        by_cases hjl : j < s.cs.length
        · obtain ⟨b, off, rfl, hb, hcc⟩ := h3 (by omega)
          obtain ⟨-, d1, -⟩ := hcc j hjl
          obtain ⟨y, hy⟩ : ∃ y, s.cs[j].ver = y := ⟨_, rfl⟩
          rw [hy] at d1
          have HY := Lib.hid hy
          have hj1 : (j : Int) < (s.cs.length : Int) := by omega
          have hj0 : (0 : Int) ≤ (j : Int) := Int.natCast_nonneg _
          clear hy hcc h3 hrow1
          by_cases he : y = n
          · have hed : (y == n) = true := by simpa using he
            go_wp2_with fail
            go_ret
            have hr := HR.out
            rw [if_pos (any_at hjl (HY.out.trans he))] at hr
            subst hr
            exact ⟨rfl, RPost.same hA.out⟩
          · have hed : (y == n) = false := beq_eq_false_iff_ne.2 he
            go_wp2_with fail
            go_roundw
            case rel => exact ⟨j + 1, hjl, by go_num, trivial, Lib.hid (no_next (f := CR.ver) hno.out hjl HY.out he)⟩
            case measure => simp [intOf]; omega
        · have hN := any_no fun i hi => hno.out i hi (by omega)
          have hj1 : ¬ (j : Int) < (s.cs.length : Int) := by omega
          clear hno
          have hr := HR.out
          rw [hN, if_neg (by simp)] at hr
          subst hr
          clear HR hN h3 hj hjl
          obtain ⟨wo, rfl⟩ : ∃ x, x = wr := ⟨_, rfl⟩
          go_wp2_with fail
          go_loopw [6, 7] (fun ov iv wr => ∃ j : Nat, j ≤ s.vs.length ∧ iv = .int .i64 j ∧ Below wo.heap.size wo wr ∧ wr.ownsRow wo.heap.size 3 1 ov ((s.vs.take j).filter fun v => v != n).length (ints ((s.vs.take j).filter fun v => v != n))) (fun _ iv _ => s.vs.length - (intOf iv).toNat)
          case atStart => exact ⟨0, Nat.zero_le _, rfl, Below.refl _ _, World.ownsRow_nil _ _ _ _⟩
          case round =>
            obtain ⟨j, hj, rfl, hbel, hrow⟩ := hrel
            have c0' := (hbel.cell (p := ⟨g, 0, none⟩) hA.out.blk.lt).trans c0
            by_cases hjl : j < s.vs.length
            · obtain ⟨Ax, nx, cx, e1, e2, e3, e4⟩ := hrow1
              cases e1
              obtain ⟨b, off, rfl, hb, hcc⟩ := e4 (by omega)
              have d := (hbel.cell (p := ⟨b, off + j, none⟩) hb).trans (hcc j (.int .i64 s.vs[j]) (by unfold ints; rw [List.getElem?_map, List.getElem?_eq_getElem hjl]; rfl))
              have hft := filter_take (n := n) hjl
              obtain ⟨y, hy⟩ : ∃ y, s.vs[j] = y := ⟨_, rfl⟩
              rw [hy] at d hft
              have hj1 : (j : Int) < (s.vs.length : Int) := by omega
              have hj0 : (0 : Int) ≤ (j : Int) := Int.natCast_nonneg _
              obtain ⟨l', hl'⟩ : ∃ x, (s.vs.take j).filter (fun v => v != n) = x := ⟨_, rfl⟩
              have hll : l'.length ≤ 1000000 := by rw [← hl']; exact Nat.le_trans (List.length_filter_le _ _) (by rw [List.length_take]; omega)
              rw [hl'] at hft hrow
              obtain ⟨Ao, co, rfl, _⟩ := row_form hrow
              clear hy hcc hl' e2 e3 e4
              by_cases he : y = n
              · have hed : (y == n) = true := by simpa using he
                rw [if_neg (by simpa using he), List.append_nil] at hft
                have HF := Lib.hid hft
                clear hft
                go_wp2_with fail
                go_roundw
                case rel => exact ⟨j + 1, hjl, by go_num, hbel, by rw [HF.out]; exact hrow⟩
                case measure => simp [intOf]; omega
              · have hed : (y == n) = false := beq_eq_false_iff_ne.2 he
                rw [if_pos (by simpa using he)] at hft
                have HF := Lib.hid hft
                have n63 : l'.length + 1 ≤ maxLen := by unfold maxLen; omega
                have nby : (l'.length + 1) * 8 ≤ 140737488355328 := by omega
                have hso := sees_one wr 3 #[.int .i64 y] (size := 1) rfl
                clear hft
                go_wp2_with (first
                  | (at_builtin; refine wpList_append_sees rfl _ _ 22 rfl i0 _ 8 Tryz.underlying22 hi0 hz0 hz1 hz2 rfl (by decide) (.slice Ao l'.length co) l'.length (ints l') rfl (hrow.alloc _) _ 1 _ rfl hso rfl (by intro u hu; simp at hu; subst hu; rfl) n63 nby (by simp; exact Nat.le_succ_of_le hbel.size) ?_; intro v3 w3 hrow3 hgrow3 hown3)
                  | fail)
                go_roundw
                case rel =>
                  refine ⟨j + 1, hjl, by go_num, grown_bel0 (hbel.alloc hbel.size _) (hrow.alloc _) (by simp; exact Nat.le_succ_of_le hbel.size) hgrow3, ?_⟩
                  rw [HF.out, List.length_append]
                  unfold ints
                  rw [List.map_append]
                  exact hrow3
                case measure => simp [intOf]; omega
            · have hje : j = s.vs.length := by omega
              have hj1 : ¬ (j : Int) < (s.vs.length : Int) := by omega
              rw [hje, List.take_length] at hrow
              have HR := Lib.hid hrow
              have f0 := (hbel.frozen (p := ⟨g, 0, none⟩) hA.out.blk.lt).trans (hA.out.blk.thaw 0)
              obtain ⟨Ao, co, rfl, _⟩ := row_form hrow
              clear hje hj hrow hrow1
              go_wp2_with fail
              go_ret
              have hRA := HR.out
              have hC : Chg (RFt g (.slice A1 s.vs.length cp1) (.slice A s.cs.length cp)) wo (wr.setCell ⟨g, 0, none⟩ (.slice Ao (s.vs.filter fun v => v != n).length co)) := (Chg.of_below hbel).setCell (.inr (.inl rfl)) _
              refine ⟨rfl, ⟨.slice Ao (s.vs.filter fun v => v != n).length co, .slice A s.cs.length cp, ?_, fun k hk => ?_⟩, hC⟩
              · have hb := (hA.out.blk.bel hbel hA.out.blk.lt).put 0 (.slice Ao (s.vs.filter fun v => v != n).length co)
                have hne1 := row_blk hRA (hA.out.blk.bel hbel hA.out.blk.lt) (by decide)
                have h2 := (hA.out.bel hbel).row2
                have hne2 := row_blk h2 (hA.out.blk.bel hbel hA.out.blk.lt) (by decide)
                exact ⟨by simpa using hb, row_base (row_set hRA (p := ⟨g, 0, none⟩) hne1 _) hB, row_set h2 (p := ⟨g, 0, none⟩) hne2 _, hA.out.lo⟩
              · rcases hk with rfl | hk | hk
                · exact .inl (.inl rfl)
                · exact .inr (World.ownsRow.lt hRA k hk).1
                · exact .inl (.inr (.inr hk))
end Go.Proofs.YtahmcjdddcbhnaaGreatDoor
namespace Go.Proofs.YtahmcjdddcbhnaaGreatDoor
open Go Go.Ev Go.RowKit

theorem mix : Tryz.prog.follows .mixedOrders = true := by kernel_rfl
theorem noName : Tryz.prog.funcs.all (fun fn => !(fn.name == "runtime.NumGoroutine")) = true := by kernel_rfl
theorem notNamed (f : Nat) (fn : Func) (h : Tryz.prog.funcs[f]? = some fn) : (fn.name == "runtime.NumGoroutine") = false := by
  have h1 := Array.all_eq_true_iff_forall_mem.1 noName fn (Array.mem_of_getElem? h)
  simpa using h1
/-- calls, however deep within bounds that suffice -/
noncomputable def cal0 : Cal := evCal (funIR Tryz.prog) Γ0 1000000 1000
theorem cal0_ok : CalOK Tryz.prog Γ0 cal0 := Go.Ev.cal_ok mix notNamed 1000

/-- the blocks A lie where ι says, their numbers being σ; nothing else has a name -/
structure Lies (w : World) (A : List (Pth × O)) (σ : Nat → Int) (ι : Emb) : Prop where
  sym : ι.sym = σ
  hok : HOK Tryz.prog ι (hp A) w
  dom : ∀ p, ι p ≠ none → p ∈ names A
/-- where they lie -/
def foot (ι : Emb) (A : List (Pth × O)) (b : Nat) : Prop := ∃ p t, Live (hp A) p ∧ ι p = some (b, t)
section
variable {w w' : World} {A : List (Pth × O)} {σ : Nat → Int} {ι : Emb}
theorem Lies.lt (h : Lies w A σ ι) {b : Nat} (hb : foot ι A b) : b < w.heap.size := by
  obtain ⟨p, t, _, hp⟩ := hb
  exact h.hok.lt p b t hp
theorem Lies.chg {F : Nat → Prop} (h : Lies w A σ ι) (hc : Chg F w w') (hf : ∀ b, foot ι A b → ¬ F b) : Lies w' A σ ι :=
  ⟨h.sym, ⟨fun p o hp => O.ok_mono (h.hok.obj p o hp) (Emb.le.refl _) fun b s hd hp' => hc.block b (h.hok.lt p b s hp') (hf b ⟨p, s, ⟨o, hp, hd⟩, hp'⟩), h.hok.inj, fun p b s hp => Nat.lt_of_lt_of_le (h.hok.lt p b s hp) hc.size⟩, h.dom⟩
theorem Lies.bel (h : Lies w A σ ι) (hb : Below w.heap.size w w') : Lies w' A σ ι := h.chg (F := fun _ => False) (Chg.of_below hb) fun _ _ h => h
/-- a cell of a block that is named -/
theorem Lies.cell (h : Lies w A σ ι) {p : Pth} {c : List V} (hp : (hp A).get p = some (.cells c)) {b t : Nat} (hb : ι p = some (b, t)) {j : Nat} {v : V} (hj : c[j]? = some v) :
    ∃ x, w.cell? ⟨b, j, none⟩ = some x ∧ V.rel ι v x := by
  have h0 := cells_zero h.hok hp hb
  subst h0
  obtain ⟨z, hz, hzr, hlt⟩ := cell_nth h.hok hp hb (j := j) (v := v) (by rw [nth_eq]; exact hj)
  exact ⟨z, by simpa using hz, hzr⟩
end
/-- the blocks A2 are found in H' -/
noncomputable def fitA (H' : Heap) (A2 : List (Pth × O)) (l0 : Asc) : Asc := uniB 40 H' A2 l0
noncomputable def extA (l : Asc) (l0 : Asc) : Bool := List.rec true (fun e _ ih => match hasA l e.1 e.2 with | true => ih | false => false) l0
theorem extA_ok {l : Asc} : ∀ {l0 : Asc}, extA l l0 = true → ∀ e ∈ l0, asc l e.1 = some e.2
  | [], _, e, he => by simp at he
  | x :: t, h, e, he => by
    have h' : (match hasA l x.1 x.2 with | true => extA l t | false => false) = true := h
    cases h1 : hasA l x.1 x.2 with
    | false => simp [h1] at h'
    | true =>
      simp only [h1] at h'
      rcases List.mem_cons.1 he with rfl | he
      · exact hasA_ok h1
      · exact extA_ok h' e he
noncomputable def fitF (asg : Asg) (spec : Ev.Spec) (l0 : Asc) (A2 : List (Pth × O)) (H' : Heap) : Bool :=
  match premtchS (mtchS asg spec (imgs (fitA H' A2 l0) (names A2)) (fitA H' A2 l0) 40) (fitA H' A2 l0) H' A2, nodupP (imgs (fitA H' A2 l0) (names A2)), subP (fstOf (fitA H' A2 l0)) (names A2), extA (fitA H' A2 l0) l0 with
  | true, true, true, true => true
  | _, _, _, _ => false
theorem fit_core {H H' : Heap} {A2 : List (Pth × O)} {asg : Asg} {spec : Ev.Spec} {l0 : Asc} (hfit : fitF asg spec l0 A2 H' = true) {σ τ : Nat → Int} (hn : Num asg spec σ τ) {w w' : World} {ι ι' : Emb} (hs : ι.sym = σ) (st : Step Tryz.prog ι H w ι' H' w') :
    ∃ ι2, Lies w' A2 τ ι2 ∧ (∀ b, foot ι2 A2 b → (∃ q s, Live H q ∧ ι q = some (b, s)) ∨ w.heap.size ≤ b) ∧ ∀ e ∈ l0, ι2 e.1 = ι' e.2 := by
  unfold fitF at hfit
  generalize hl : fitA H' A2 l0 = l at hfit
  generalize hzs : imgs l (names A2) = zs at hfit
  cases h2 : premtchS (mtchS asg spec zs l 40) l H' A2 <;> cases h3 : nodupP zs <;> cases h7 : subP (fstOf l) (names A2) <;> cases h6 : extA l l0 <;> simp only [h2, h3, h7, h6] at hfit <;> try (cases hfit; done)
  have hsym : ι'.sym = σ := st.ext.syms.trans hs
  have hn' : Num asg spec ι'.sym τ := by rw [hsym]; exact hn
  have hself := extA_ok h6
  have hz : ∀ q b s, q ∈ zs → ι' q = some (b, s) → s = 0 := fun q b s hq hb => by
    rw [← hzs] at hq
    have : ∀ ps : List Pth, q ∈ imgs l ps → ∃ p ∈ ps, asc l p = some q := by
      intro ps
      induction ps with
      | nil => intro hh; cases hh
      | cons x t ih =>
        intro hh
        have hi : imgs l (x :: t) = (match asc l x with | some q => q :: imgs l t | none => imgs l t) := rfl
        rw [hi] at hh
        cases hx : asc l x with
        | none => rw [hx] at hh; obtain ⟨p, g1, g2⟩ := ih hh; exact ⟨p, List.mem_cons_of_mem _ g1, g2⟩
        | some y =>
          rw [hx] at hh
          rcases List.mem_cons.1 hh with rfl | hh
          · exact ⟨x, List.mem_cons_self .., hx⟩
          · obtain ⟨p, g1, g2⟩ := ih hh; exact ⟨p, List.mem_cons_of_mem _ g1, g2⟩
    obtain ⟨p, g1, g2⟩ := this _ hq
    rw [names_eq] at g1
    obtain ⟨e, g3, rfl⟩ := List.mem_map.1 g1
    obtain ⟨q', o, e1, e2, e3⟩ := premtchS_ok h2 e g3
    rw [g2] at e1; cases e1
    have ho := st.hok.obj q o e2
    cases o with
    | cells c => obtain ⟨b', s', cs, el, fr, f1, f2, f3, f4, f5, f6⟩ := ho; rw [hb] at f1; cases f1; exact f6
    | map es kk => obtain ⟨b', es', f1, f2, f3⟩ := ho; rw [hb] at f1; cases f1; rfl
    | _ => exfalso; cases hx : e.2 <;> rw [hx] at e3 <;> cases e3
  have hmt := fun v x y => mtchS_ok (l := l) (ι := ι') hn' hz 40 v x y
  have hok2 : HOK Tryz.prog (viaS l τ ι') (hp A2) w' := fit_ok hmt h2 (by rw [hzs]; exact h3) st.hok
  refine ⟨viaS l τ ι', ⟨rfl, hok2, fun p hp => ?_⟩, ?_, fun e he => viaS_some (hself e he)⟩
  · cases hv' : viaS l τ ι' p with
    | none => exact absurd hv' hp
    | some z =>
      obtain ⟨q, g1, _⟩ := viaS_inv hv'
      exact subP_ok h7 p (fstOf_mem g1)
  · rintro b ⟨p, t, ⟨o, hl1, hl2⟩, hp⟩
    obtain ⟨q, a, e1, e2, e3⟩ := premtchS_ok h2 _ (hp_mem hl1)
    have ha := (omtchS_ok (P := Tryz.prog) (w := w') hmt e3 e1 (st.hok.obj q a e2)).2
    rw [viaS_some e1] at hp
    by_cases hb : b < w.heap.size
    · obtain ⟨q', s', g1, g2⟩ := st.back q b t ⟨a, e2, ha⟩ hp hb
      exact .inl ⟨q', s', g1, g2⟩
    · exact .inr (by omega)
/-- a call from the blocks A to the blocks A2 -/
theorem call_fit {f : Nat} {args : List V} {v : V} {H' : Heap} {n m : Pth} {A A2 : List (Pth × O)} {asg : Asg} {spec : Ev.Spec} {l0 : Asc} (h : cal0.fn f args (hp A) m = .ok v H' n) (hfit : fitF asg spec l0 A2 H' = true) {σ τ : Nat → Int} (hn : Num asg spec σ τ)
    {w : World} {ι : Emb} (hL : Lies w A σ ι) {xs : Array Value} (hxs : V.rels ι args xs.toList) :
    Calls Tryz.prog f xs w fun e w' => ∃ x ι' ι2, e = .returned x ∧ V.rel ι' v x ∧ Lies w' A2 τ ι2 ∧ Chg (foot ι A) w w' ∧ (∀ b, foot ι2 A2 b → foot ι A b ∨ w.heap.size ≤ b) ∧ ∀ e ∈ l0, ι2 e.1 = ι' e.2 ∧ ∀ z, ι e.2 = some z → ι2 e.1 = some z := by
  obtain ⟨hmono, _, hk⟩ := cal0_ok.fn _ _ _ _ _ _ _ h
  refine (hk ι w xs hL.hok GOK.none (fun p h1 _ => ?_) hxs).mono fun e w' he => ?_
  · cases hp : ι p with
    | none => rfl
    | some z => exact absurd h1 (hp_in (hL.dom p (by rw [hp]; simp)))
  obtain ⟨x, rfl, ι', hv, st⟩ := he
  obtain ⟨ι2, h1, h2, h3⟩ := fit_core hfit hn hL.sym st
  refine ⟨x, ι', ι2, rfl, hv, h1, ⟨st.os, st.tape, st.out, st.size, fun b hb hf => st.kept b hb fun p s hl' hp => hf ⟨p, s, hl', hp⟩⟩, fun b hb => ?_, fun e he => ⟨h3 e he, fun z hz => (h3 e he).trans (st.ext.name _ z hz)⟩⟩
  rcases h2 b hb with ⟨q, s, g1, g2⟩ | g
  · exact .inl ⟨q, s, g1, g2⟩
  · exact .inr g
/-- a call that reads blocks and makes the blocks A2 -/
theorem call_made {Γ : Glo} {cal : Cal} (k : CalOK Tryz.prog Γ cal) {f : Nat} {args : List V} {v : V} {H' : Heap} {n m : Pth} {ps : List Pth} {A2 : List (Pth × O)} {asg : Asg} {spec : Ev.Spec} {l0 : Asc} (h : cal.fn f args .nil m = .ok v H' n) (hfree : freeH H' ps = true)
    (hfit : fitF asg spec l0 A2 H' = true) {σ τ : Nat → Int} (hn : Num asg spec σ τ) {w : World} {ι : Emb} (hs : ι.sym = σ) (hv : Γ.val = fun _ => []) (ht : Γ.tab = []) (hl : Γ.lds = [])
    (hro : RoIs ι Γ.ro w) (hdom : ∀ p, ι p ≠ none → p ∈ ps) (hlt : ∀ p b s, ι p = some (b, s) → b < w.heap.size) {xs : Array Value} (hxs : V.rels ι args xs.toList) :
    Calls Tryz.prog f xs w fun e w' => ∃ x ι' ι2, e = .returned x ∧ V.rel ι' v x ∧ Lies w' A2 τ ι2 ∧ Below w.heap.size w w' ∧ (∀ b, foot ι2 A2 b → w.heap.size ≤ b) ∧ ∀ e ∈ l0, ι2 e.1 = ι' e.2 := by
  obtain ⟨_, _, hk⟩ := k.fn _ _ _ _ _ _ _ h
  have noLive : ∀ p, ¬ Live (.nil : Heap) p := fun p hl => by obtain ⟨o, h1, _⟩ := hl; rw [Tr.get_nil] at h1; cases h1
  refine (hk ι w xs ⟨fun p o h => (by rw [Tr.get_nil] at h; cases h), fun p q b s s' h => absurd h (noLive p), hlt⟩ ⟨fun g i v h => ?_, fun g h => ?_, fun e he => ?_, fun e he => ?_, fun e he => (by rw [hl] at he; simp at he), fun e he => ?_⟩ (fun p _ h2 => ?_) hxs).mono fun e w1 he => ?_
  · rw [hv] at h; simp at h
  · rw [hv] at h; exact absurd rfl h
  · rw [ht] at he; simp at he
  · rw [ht] at he; simp at he
  · obtain ⟨b, s, c, el, fr, h1, h2, h3⟩ := hro e he
    exact ⟨b, s, c, el, fr, h1, h2, h3, fun q t hl => absurd hl (noLive q)⟩
  · cases hp : ι p with
    | none => rfl
    | some z => exact absurd (freeH_ok hfree p (hdom p (by rw [hp]; simp))) h2
  · obtain ⟨x, rfl, ι', hv', st⟩ := he
    obtain ⟨ι2, h1, h2, h3⟩ := fit_core hfit hn hs st
    refine ⟨x, ι', ι2, rfl, hv', h1, ⟨st.os, st.tape, st.out, st.size, fun b hb => st.kept b hb fun p s hl => absurd hl (noLive p)⟩, fun b hb => ?_, h3⟩
    rcases h2 b hb with ⟨q, s, g1, g2⟩ | g
    · exact absurd g1 (noLive q)
    · exact g
end Go.Proofs.YtahmcjdddcbhnaaGreatDoor
namespace Go.Proofs.YtahmcjdddcbhnaaGreatDoor
open Go Go.RowKit

/-- the greatest symbol -/
def topSym (r : Bool) : Int := if r then 1114111 else 255
/-- a symbol of a text -/
structure okSym (r : Bool) (z : Int) : Prop where
  lo : 0 ≤ z
  hi : z ≤ topSym r
  no : r = true → ¬ (55296 ≤ z ∧ z ≤ 57343)
section
variable {w : World}
theorem surr_no {z : Int} (h : ¬ (55296 ≤ z ∧ z ≤ 57343)) (w : World) : Calls Tryz.prog 59 #[.int .i64 z] w fun e w' => e = .returned (.bool false) ∧ w' = w := by
  by_cases h1 : 55296 ≤ z
  · have h2 : ¬ z ≤ 57343 := fun h2 => h ⟨h1, h2⟩
    go_enter Tryz.func59, Tryz.ntmps59
    go_wp2
    go_ret
    exact ⟨rfl, rfl⟩
  · go_enter Tryz.func59, Tryz.ntmps59
    go_wp2
    go_ret
    exact ⟨rfl, rfl⟩
set_option maxHeartbeats 4000000 in
set_option maxRecDepth 1000000 in
theorem outs_walk {r : Bool} {z : Int} (h : okSym r z) {p3 p1 : Nat} (c3 : w.cell? ⟨p3, 0, none⟩ = some (.int .i64 (topSym r))) (c1 : w.cell? ⟨p1, 0, none⟩ = some (.bool r)) :
    Calls Tryz.prog 58 #[.int .i64 z, .pointer (some ⟨p3, 0, none⟩), .pointer (some ⟨p1, 0, none⟩)] w fun e w' => e = .returned (.bool false) ∧ w' = w := by
  have h1 := h.lo
  have h2 := h.hi
  have h3 := h.no
  obtain ⟨t, ht⟩ : ∃ t, topSym r = t := ⟨_, rfl⟩
  rw [ht] at h2 c3
  have k1 : ¬ z < 0 := by omega
  have k2 : ¬ t < z := by omega
  clear h ht
  cases r with
  | false =>
    clear h3
    go_enter Tryz.func58, Tryz.ntmps58
    go_wp2
    go_ret
    exact ⟨rfl, rfl⟩
  | true =>
    have hs := surr_no (h3 rfl) w
    clear h3
    go_enter Tryz.func58, Tryz.ntmps58
    go_wp2_with (first | (go_at_call 59; refine hs.mono ?_; clear hs; rintro _ w1 ⟨rfl, rfl⟩) | fail)
    go_ret
    exact ⟨rfl, rfl⟩
set_option maxHeartbeats 4000000 in
set_option maxRecDepth 1000000 in
theorem index_walk {r : Bool} {v : Value} {l : List Int} (h : Sees w 1 v (ints l)) (hl : l.length ≤ 1000000) (hok : ∀ z ∈ l, okSym r z) {p3 p1 : Nat} (c3 : w.cell? ⟨p3, 0, none⟩ = some (.int .i64 (topSym r))) (c1 : w.cell? ⟨p1, 0, none⟩ = some (.bool r)) :
    Calls Tryz.prog 57 #[v, .func (.func 58) #[] #[.pointer (some ⟨p3, 0, none⟩), .pointer (some ⟨p1, 0, none⟩)]] w fun e w' => e = .returned (.int .i64 (-1)) ∧ w' = w := by
  obtain ⟨A, n, c, rfl, h1, h2, h3⟩ := h
  have hn : n = l.length := by rw [ints_len] at h1; omega
  subst hn
  clear h1
  have HO := Lib.hid hok
  have hcall : ∀ z, okSym r z → Calls Tryz.prog 58 #[.int .i64 z, .pointer (some ⟨p3, 0, none⟩), .pointer (some ⟨p1, 0, none⟩)] w fun e w' => e = .returned (.bool false) ∧ w' = w := fun z hz => outs_walk hz c3 c1
  clear hok c3 c1
  go_enter Tryz.func57, Tryz.ntmps57
  go_wp2_with fail
  go_loopw [8] (fun iv wr => ∃ j : Nat, j ≤ l.length ∧ iv = .int .i64 j ∧ wr = w) (fun iv _ => l.length - (intOf iv).toNat)
  case atStart => exact ⟨0, Nat.zero_le _, rfl, rfl⟩
  case round =>
    obtain ⟨j, hj, rfl, rfl⟩ := hrel
    by_cases hjl : j < l.length
    · obtain ⟨b, off, rfl, hb, hcc⟩ := h3 (by omega)
      have hc := hcc j (.int .i64 l[j]) (by unfold ints; rw [List.getElem?_map, List.getElem?_eq_getElem hjl]; rfl)
      have ho := hcall _ (HO.out _ (List.getElem_mem hjl))
      obtain ⟨y, hy⟩ : ∃ y, l[j] = y := ⟨_, rfl⟩
      rw [hy] at hc ho
      have hj1 : (j : Int) < (l.length : Int) := by omega
      clear hy hcc h3 hcall
      go_wp2_with (first | (go_at_call 58; refine ho.mono ?_; clear ho; rintro _ w1 ⟨rfl, rfl⟩) | fail)
      go_roundw
      case rel => exact ⟨j + 1, hjl, by go_num, trivial⟩
      case measure => simp [intOf]; omega
    · have hj1 : ¬ (j : Int) < (l.length : Int) := by omega
      clear hj hjl
      go_wp2_with fail
      go_ret
      exact ⟨rfl, rfl⟩
set_option maxHeartbeats 4000000 in
set_option maxRecDepth 1000000 in
theorem contains_walk {r : Bool} {v : Value} {l : List Int} (h : Sees w 1 v (ints l)) (hl : l.length ≤ 1000000) (hok : ∀ z ∈ l, okSym r z) {p3 p1 : Nat} (c3 : w.cell? ⟨p3, 0, none⟩ = some (.int .i64 (topSym r))) (c1 : w.cell? ⟨p1, 0, none⟩ = some (.bool r)) :
    Calls Tryz.prog 43 #[v, .func (.func 58) #[] #[.pointer (some ⟨p3, 0, none⟩), .pointer (some ⟨p1, 0, none⟩)]] w fun e w' => e = .returned (.bool false) ∧ w' = w := by
  have hi := index_walk h hl hok c3 c1
  clear h hl hok c3 c1
  go_enter Tryz.func43, Tryz.ntmps43
  go_wp2_with (first | (go_at_call 57; refine hi.mono ?_; clear hi; rintro _ w1 ⟨rfl, rfl⟩) | fail)
  go_ret
  exact ⟨rfl, rfl⟩
set_option maxHeartbeats 4000000 in
set_option maxRecDepth 1000000 in
theorem outside_walk (r : Bool) (w : World) : Calls Tryz.prog 44 #[.bool r] w fun e w' => ∃ p3 p1, e = .returned (.func (.func 58) #[] #[.pointer (some ⟨p3, 0, none⟩), .pointer (some ⟨p1, 0, none⟩)]) ∧
    w'.cell? ⟨p3, 0, none⟩ = some (.int .i64 (topSym r)) ∧ w'.cell? ⟨p1, 0, none⟩ = some (.bool r) ∧ Below w.heap.size w w' := by
  cases r with
  | false =>
    go_enter Tryz.func44, Tryz.ntmps44
    go_wp2_with fail
    go_ret
    have b1 := Blk.made (w.alloc (.cells #[.bool false] 4)) 3 #[.int .i64 255]
    have b0 := (Blk.made w 4 #[.bool false]).alloc (.cells #[.int .i64 255] 3)
    refine ⟨_, _, rfl, ?_, ?_, ((Below.refl _ _).alloc (Nat.le_refl _) _).alloc (by simp) _⟩
    · simp [b1.at' 0, topSym]
    · simp [b0.at' 0]
  | true =>
    go_enter Tryz.func44, Tryz.ntmps44
    go_wp2_with fail
    go_ret
    have b1 := Blk.made (w.alloc (.cells #[.bool true] 4)) 3 #[.int .i64 1114111]
    have b0 := (Blk.made w 4 #[.bool true]).alloc (.cells #[.int .i64 1114111] 3)
    refine ⟨_, _, rfl, ?_, ?_, ((Below.refl _ _).alloc (Nat.le_refl _) _).alloc (by simp) _⟩
    · simp [b1.at' 0, topSym]
    · simp [b0.at' 0]
set_option maxHeartbeats 4000000 in
set_option maxRecDepth 1000000 in
theorem valid_walk {r : Bool} {v : Value} {l : List Int} (h : Sees w 1 v (ints l)) (hl : l.length ≤ 65536) (hok : ∀ z ∈ l, okSym r z) :
    Calls Tryz.prog 24 #[v, .bool r] w fun e w' => e = .returned (.int .i64 0) ∧ Below w.heap.size w w' := by
  have ho := outside_walk r w
  have hc := fun (w1 : World) (hb : Below w.heap.size w w1) (p3 p1 : Nat) (c3 : w1.cell? ⟨p3, 0, none⟩ = some (.int .i64 (topSym r))) (c1 : w1.cell? ⟨p1, 0, none⟩ = some (.bool r)) => contains_walk (h.bel hb) (by omega) hok c3 c1
  obtain ⟨A, n, c, rfl, h1, -, -⟩ := h
  have hn : n = l.length := by rw [ints_len] at h1; omega
  subst hn
  have hlI : ¬ (65536 : Int) < (l.length : Int) := by omega
  clear h1 hok hl
  go_enter Tryz.func24, Tryz.ntmps24
  go_wp2_with (first
    | (go_at_call 44; refine ho.mono ?_; clear ho; rintro _ w1 ⟨p3, p1, rfl, c3, c1, hb1⟩; have hc1 := hc w1 hb1 p3 p1 c3 c1; clear hc)
    | (go_at_call 43; refine hc1.mono ?_; clear hc1; rintro _ w2 ⟨rfl, rfl⟩)
    | fail)
  go_ret
  exact ⟨rfl, hb1⟩
end
end Go.Proofs.YtahmcjdddcbhnaaGreatDoor
