/-
  Frames, blocks and rows: the words that the walks below use.
  The reference's filter, as it is specified: its operations in plain terms; where it lies in memory.
  A slice of numbers that is an argument of a law: what it holds before the call, and that it reads behind it as before.
  The meter of a version, walked: what is left of a share, and what is taken.
  The reference's filter, walked: Has, late, find.
  The reference's filter, walked: remove.
  A slice of what a slice reads as: 's[:j]' and 's[j:]', whatever lies behind.
  The reference's filter, walked: open.
  The reference's filter, walked: Do.
  The reference's filter, walked: Do, an install.
  The reference's filter, walked: Do, a piece of data and an end.
  The reference's filter, walked: Do, an end.
  The reference's filter: Do, any operation; what holds of it throughout.
-/
import Derived.KernelRfl
import Derived.Tactics
import Derived.Tactics2
import Derived.StillTactics
import Derived.WalkKit
import Derived.LoopTactic
import Derived.LoopN
import Derived.Lib.Hide
import Derived.Laws.OwnMore
import Derived.Deep.AppendLies
import Derived.Maps.AppendAt
import Derived.Test.YtahmcjdddcbhnaaGreatDoorProg
import Derived.Carry
import Derived.ProofKit
import Derived.OpenShut
import Derived.Deep.Grids
import Derived.Deep.RegionHeld3
import Derived.Deep.QuietTactic
import Derived.BigQuiet
import Derived.Deep.RegionLaw
namespace Go.Proofs.YtahmcjdddcbhnaaGreatDoor
open Go Go.RowKit

/-- nothing has changed but the blocks F, and what is new -/
structure Chg (F : Nat → Prop) (w w' : World) : Prop where
  os : w'.os = w.os
  tape : w'.tape = w.tape
  output : w'.output = w.output
  size : w.heap.size ≤ w'.heap.size
  block : ∀ k, k < w.heap.size → ¬ F k → w'.heap[k]? = w.heap[k]?
section
variable {F G : Nat → Prop} {a b c : World}
theorem Chg.refl (F : Nat → Prop) (w : World) : Chg F w w := ⟨rfl, rfl, rfl, Nat.le_refl _, fun _ _ _ => rfl⟩
theorem Chg.trans (h : Chg F a b) (k : Chg G b c) (hG : ∀ i, i < a.heap.size → G i → F i) : Chg F a c :=
  ⟨k.os.trans h.os, k.tape.trans h.tape, k.output.trans h.output, Nat.le_trans h.size k.size, fun i hi hf => (k.block i (Nat.lt_of_lt_of_le hi h.size) fun e => hf (hG i hi e)).trans (h.block i hi hf)⟩
theorem Chg.more (h : Chg F a b) (hG : ∀ i, i < a.heap.size → F i → G i) : Chg G a b := ⟨h.os, h.tape, h.output, h.size, fun k hk hf => h.block k hk fun e => hf (hG k hk e)⟩
theorem Chg.of_below (h : Below a.heap.size a b) : Chg F a b := ⟨h.os, h.tape, h.output, h.size, fun k hk _ => h.block k hk⟩
theorem Chg.to_below (h : Chg F a b) {B : Nat} (hB : B ≤ a.heap.size) (hF : ∀ i, i < a.heap.size → F i → B ≤ i) : Below B a b :=
  ⟨h.os, h.tape, h.output, h.size, fun k hk => h.block k (Nat.lt_of_lt_of_le hk hB) fun e => by have := hF k (Nat.lt_of_lt_of_le hk hB) e; omega⟩
theorem Chg.then_below (h : Chg F a b) {B : Nat} (k : Below B b c) (hB : a.heap.size ≤ B) : Chg F a c :=
  ⟨k.os.trans h.os, k.tape.trans h.tape, k.output.trans h.output, Nat.le_trans h.size k.size, fun i hi hf => (k.block i (Nat.lt_of_lt_of_le hi hB)).trans (h.block i hi hf)⟩
theorem Chg.alloc (h : Chg F a b) (o : Obj) : Chg F a (b.alloc o) := h.then_below ((Below.refl a.heap.size b).alloc h.size o) (Nat.le_refl _)
theorem Chg.drew (h : Chg F a b) : Chg F a b.drew := h.then_below (Below.refl a.heap.size b).drew (Nat.le_refl _)
theorem Chg.setCell (h : Chg F a b) {p : Addr} (hp : a.heap.size ≤ p.block ∨ F p.block) (u : Value) : Chg F a (b.setCell p u) :=
  ⟨h.os, h.tape, h.output, by simp only [World.setCell, Array.size_modify]; exact h.size, fun k hk hf => (Below.heap_setCell b p u k (fun e => by subst e; rcases hp with hp | hp; omega; exact hf hp)).trans (h.block k hk hf)⟩
theorem Chg.grown {row : Option Nat} (h : Chg F a b) (hg : b.grownBy c row) (hr : ∀ k, row = some k → a.heap.size ≤ k ∨ F k) : Chg F a c :=
  ⟨hg.os.trans h.os, hg.tape.trans h.tape, hg.output.trans h.output, Nat.le_trans h.size hg.size, fun k hk hf => (hg.block k (Nat.lt_of_lt_of_le hk h.size) (fun e => by rcases hr k e.symm with h1 | h1; omega; exact hf h1)).trans (h.block k hk hf)⟩
theorem Chg.cell (h : Chg F a b) {p : Addr} (hp : p.block < a.heap.size) (hf : ¬ F p.block) : b.cell? p = a.cell? p := World.cell?_of_block (w := a) (h.block _ hp hf)
theorem Chg.frozen (h : Chg F a b) {p : Addr} (hp : p.block < a.heap.size) (hf : ¬ F p.block) : b.frozen? p = a.frozen? p := World.frozen?_of_block (w := a) (h.block _ hp hf)
end

/-- block g is the cells cs -/
def Blk (w : World) (g : Nat) (t : TypeId) (cs : Array Value) : Prop := w.heap[g]? = some (.cells cs t (0, 0))
section
variable {F : Nat → Prop} {w w' : World} {g : Nat} {t : TypeId} {cs : Array Value}
theorem Blk.lt (h : Blk w g t cs) : g < w.heap.size := (Array.getElem?_eq_some_iff.1 h).1
theorem Blk.at' (h : Blk w g t cs) (i : Nat) : w.cell? ⟨g, i, none⟩ = cs[i]? := by simp [World.cell?, show w.heap[g]? = _ from h]
theorem Blk.thaw (h : Blk w g t cs) (i : Nat) : w.frozen? ⟨g, i, none⟩ = false := by simp [World.frozen?, show w.heap[g]? = _ from h]
theorem Blk.made (w : World) (t : TypeId) (cs : Array Value) : Blk (w.alloc (.cells cs t)) w.heap.size t cs := heap_alloc_new w _
theorem Blk.chg (h : Blk w g t cs) (hc : Chg F w w') (hf : ¬ F g) : Blk w' g t cs := (hc.block g h.lt hf).trans h
theorem Blk.bel {B : Nat} (h : Blk w g t cs) (hc : Below B w w') (hf : g < B) : Blk w' g t cs := (hc.block g hf).trans h
theorem Blk.alloc (h : Blk w g t cs) (o : Obj) : Blk (w.alloc o) g t cs := (Below.heap_alloc w o g h.lt).trans h
theorem Blk.put (h : Blk w g t cs) (i : Nat) (u : Value) : Blk (w.setCell ⟨g, i, none⟩ u) g t (cs.setIfInBounds i u) := by
  unfold Blk at h ⊢
  simp [World.setCell, Array.getElem?_modify, h]
theorem Blk.away (h : Blk w g t cs) {p : Addr} (hp : g ≠ p.block) (u : Value) : Blk (w.setCell p u) g t cs := (Below.heap_setCell w p u g hp).trans h
theorem Blk.grown {row : Option Nat} (h : Blk w g t cs) (hb : w.grownBy w' row) (hg : some g ≠ row) : Blk w' g t cs := (hb.block g h.lt hg).trans h
/-- blocks of two types are two -/
theorem Blk.two {g' : Nat} {t' : TypeId} {cs' : Array Value} (h : Blk w g t cs) (h' : Blk w g' t' cs') (hne : t ≠ t') : g ≠ g' := by
  rintro rfl
  have e := (show w.heap[g]? = _ from h).symm.trans h'
  cases e
  exact hne rfl
end
section
variable {F : Nat → Prop} {w w' : World} {base : Nat} {e : TypeId} {size : Nat} {v : Value} {n : Nat} {xs : List Value}
theorem row_chg (h : w.ownsRow base e size v n xs) (hc : Chg F w w') (hf : ∀ g, v.ownBlock = some g → ¬ F g) : w'.ownsRow base e size v n xs := by
  refine ⟨h.1, h.2.imp id ?_⟩
  rintro ⟨g, cap, cur, rfl, h2, h3, h4⟩
  exact ⟨g, cap, cur, rfl, h2, (hc.block g (Array.getElem?_eq_some_iff.1 h3).1 (hf g rfl)).trans h3, h4⟩
theorem row_set (h : w.ownsRow base e size v n xs) {p : Addr} (hp : v.ownBlock ≠ some p.block) (u : Value) : (w.setCell p u).ownsRow base e size v n xs := by
  refine ⟨h.1, h.2.imp id ?_⟩
  rintro ⟨g, cap, cur, rfl, h2, h3, h4⟩
  exact ⟨g, cap, cur, rfl, h2, (Below.heap_setCell w p u g (fun e => hp (by rw [← e]; rfl))).trans h3, h4⟩
theorem row_blk (h : w.ownsRow base e size v n xs) {g : Nat} {t : TypeId} {cs : Array Value} (hb : Blk w g t cs) (hne : e ≠ t) : v.ownBlock ≠ some g := by
  rcases h.2 with ⟨rfl, _⟩ | ⟨g', cap, cur, rfl, _, h3, _⟩
  · intro e; cases e
  · intro he
    cases he
    have e := h3.symm.trans hb
    cases e
    exact hne rfl
theorem row_form (h : w.ownsRow base e size v n xs) : ∃ A c, v = .slice A n c ∧ n ≤ c := by
  rcases h.2 with ⟨rfl, rfl⟩ | ⟨g, cap, cur, rfl, _, _, h4, _⟩
  · exact ⟨_, _, rfl, Nat.le_refl _⟩
  · exact ⟨_, _, rfl, h4⟩
theorem row_base {B : Nat} (h : w.ownsRow base e size v n xs) (hB : B ≤ base) : w.ownsRow B e size v n xs := by
  refine ⟨h.1, h.2.imp id ?_⟩
  rintro ⟨g, cap, cur, rfl, h2, h3⟩
  exact ⟨g, cap, cur, rfl, by omega, h3⟩
end
theorem add_flat (b s i : Nat) : (⟨b, s, none⟩ : Addr).add i = ⟨b, s + i, none⟩ := by
  unfold Addr.add
  split
  · rename_i h; subst h; rfl
  · rfl
/-- a slice that reads as the cells xs, wherever it lies -/
def Sees (w : World) (size : Nat) (v : Value) (xs : List Value) : Prop :=
  ∃ A n c, v = .slice A n c ∧ xs.length = n * size ∧ n ≤ c ∧ (n ≠ 0 → ∃ b s, A = some ⟨b, s, none⟩ ∧ b < w.heap.size ∧ ∀ i u, xs[i]? = some u → w.cell? ⟨b, s + i, none⟩ = some u)
section
variable {F : Nat → Prop} {w w' : World} {size : Nat} {v : Value} {xs : List Value}
/-- the block that a slice leads to, where it has an element -/
def Value.leads : Value → Option Nat
  | .slice (some a) (_ + 1) _ => some a.block
  | _ => none
theorem Sees.row {base : Nat} {e : TypeId} {n : Nat} (h : w.ownsRow base e size v n xs) : Sees w size v xs := by
  rcases h.2 with ⟨rfl, rfl⟩ | ⟨g, cap, cur, rfl, h2, h3, h4, _⟩
  · exact ⟨_, _, _, rfl, h.1, Nat.le_refl _, fun h => absurd rfl h⟩
  · refine ⟨_, _, _, rfl, h.1, h4, fun _ => ⟨g, 0, rfl, (Array.getElem?_eq_some_iff.1 h3).1, fun i u hi => ?_⟩⟩
    have := h.cells (g := g) rfl i u hi
    rw [add_flat] at this
    simpa using this
theorem Sees.keep (h : Sees w size v xs) (hs : w.heap.size ≤ w'.heap.size) (hc : ∀ g, Value.leads v = some g → w'.heap[g]? = w.heap[g]?) : Sees w' size v xs := by
  obtain ⟨A, n, c, rfl, h1, h2, h3⟩ := h
  refine ⟨A, n, c, rfl, h1, h2, fun hn => ?_⟩
  obtain ⟨b, s, rfl, hb, hcell⟩ := h3 hn
  obtain ⟨m, rfl⟩ : ∃ m, n = m + 1 := ⟨n - 1, by omega⟩
  exact ⟨b, s, rfl, by omega, fun i u hi => (World.cell?_of_block (hc b rfl)).trans (hcell i u hi)⟩
theorem Sees.chg (h : Sees w size v xs) (hc : Chg F w w') (hf : ∀ g, Value.leads v = some g → ¬ F g) : Sees w' size v xs := by
  refine h.keep hc.size fun g hg => hc.block g ?_ (hf g hg)
  obtain ⟨A, n, c, rfl, h1, h2, h3⟩ := h
  cases n with
  | zero => cases A <;> cases hg
  | succ m =>
    obtain ⟨b, s, rfl, hb, _⟩ := h3 (by omega)
    cases hg
    exact hb
theorem Sees.bel (h : Sees w size v xs) (hc : Below w.heap.size w w') : Sees w' size v xs := h.chg (F := fun _ => False) (Chg.of_below hc) fun _ _ h => h
theorem Sees.alloc (h : Sees w size v xs) (o : Obj) : Sees (w.alloc o) size v xs := h.bel ((Below.refl _ _).alloc (Nat.le_refl _) o)
theorem Sees.nil (w : World) (size : Nat) : Sees w size (.slice none 0 0) [] := ⟨_, _, _, rfl, by simp, Nat.le_refl _, fun h => absurd rfl h⟩
end
/-- bytes as cells -/
def bv (l : List UInt8) : List Value := l.map fun b => .int .u8 (b.toNat : Int)
theorem bv_len (l : List UInt8) : (bv l).length = l.length := List.length_map ..
theorem bv_app (a b : List UInt8) : bv (a ++ b) = bv a ++ bv b := List.map_append ..
theorem bv_one (l : List UInt8) : ∀ u ∈ bv l, u.oneCell' = true := fun u hu => by
  obtain ⟨b, _, rfl⟩ := List.mem_map.1 hu; rfl
theorem info_parts' {P : Program} {t : TypeId} {z : Value} {n m : Nat} (h : (P.info? t).map (fun i => (i.zero, i.size, i.bytes)) = some (some z, n, m)) : ∃ i, P.info? t = some i ∧ i.zero = some z ∧ i.size = n ∧ i.bytes = m := by
  cases hi : P.info? t with
  | none => rw [hi] at h; cases h
  | some i =>
    rw [hi] at h
    simp only [Option.map_some, Option.some.injEq, Prod.mk.injEq] at h
    exact ⟨i, rfl, h.1, h.2.1, h.2.2⟩

section
variable {P : Program} {w : World} {base : Nat} {e : TypeId} {size : Nat}
theorem grown_refl (w : World) (r : Option Nat) : w.grownBy w r := ⟨rfl, rfl, rfl, Nat.le_refl _, fun _ _ _ => rfl⟩
/-- append of what a slice reads as: the row is the old one or a new one -/
theorem wpList_append_sees {ops : Array Oper} {rest : List Oper} {o : Oper} {a : Act} {Q : Exit → Act → World → Prop} (hgd : o.guard = none) (s x : Operand) (t : TypeId)
    (ho : o.op = .call { callee := .builtin .append, args := #[s, x], argTypes := #[t, t] })
    (i : TypeInfo) (z : Value) (bytes : Nat) (ht : P.underlying t = some (.slice e)) (hi : P.info? e = some i) (hz : i.zero = some z)
    (hsize : i.size = size) (hby : i.bytes = bytes) (hzs : z.cells.size = size) (hsz : 0 < size)
    (v : Value) (n : Nat) (xs : List Value) (hs : a.eval s = v) (hown : w.ownsRow base e size v n xs)
    (u : Value) (m : Nat) (news : List Value) (hx : a.eval x = u) (hrow : Sees w size u news) (hm : news.length = m * size) (h1 : ∀ u ∈ news, u.oneCell' = true)
    (h63 : n + m ≤ maxLen) (hbytes : (n + m) * bytes ≤ 140737488355328) (hbase : base ≤ w.heap.size)
    (h : ∀ v' w', w'.ownsRow base e size v' (n + m) (xs ++ news) → w.grownBy w' v.ownBlock → (v'.ownBlock = v.ownBlock ∨ ∃ g, v'.ownBlock = some g ∧ w.heap.size ≤ g) → wpList P ops Q rest (a.put o.dst v') w') :
    wpList P ops Q (o :: rest) a w := by
  have key : ∃ v' w', (Builtin.append_ #[t, t] o.type #[v, u]).run P w = .ok v' w' ∧ w'.ownsRow base e size v' (n + m) (xs ++ news) ∧ w.grownBy w' v.ownBlock ∧ (v'.ownBlock = v.ownBlock ∨ ∃ g, v'.ownBlock = some g ∧ w.heap.size ≤ g) := by
    obtain ⟨A, m', c, rfl, k1, k2, k3⟩ := hrow
    have hmm : m' = m := Nat.eq_of_mul_eq_mul_right hsz (k1.symm.trans hm)
    subst hmm
    cases A with
    | none =>
      have hm0 : m' = 0 := by
        rcases Nat.eq_zero_or_pos m' with h0 | h0
        · exact h0
        · obtain ⟨b, s, hb, _⟩ := k3 (by omega)
          cases hb
      subst hm0
      have hn : news = [] := List.length_eq_zero_iff.1 (by simpa using k1)
      subst hn
      refine ⟨v, w, ?_, by simpa using hown, grown_refl _ _, .inl rfl⟩
      rcases hown.2 with ⟨rfl, rfl⟩ | ⟨g, cap, cur, rfl, _, _, hnc, _⟩
      · simp [Builtin.append_, run_underlying ht, sizeOf, typeInfo, hi, Builtin.lenOf, Builtin.firstCells]
      · simp [Builtin.append_, run_underlying ht, sizeOf, typeInfo, hi, Builtin.lenOf, Builtin.firstCells, hnc, storeCells]
    | some ad =>
      have hcells : ∀ j u, news[j]? = some u → w.cell? (ad.add j) = some u := by
        intro j u hj
        have hlen := (List.getElem?_eq_some_iff.1 hj).1
        obtain ⟨b, s, hb, _, hc⟩ := k3 (fun e => by subst e; rw [Nat.zero_mul] at k1; omega)
        cases hb
        rw [add_flat]
        exact hc j u hj
      obtain ⟨v', w', h2, h3, h4, _, h5⟩ := run_append_own_at w base t o.type e i z size bytes ht hi hz hsize hby hzs hsz v n xs hown ad m' c news k1 hcells h1 h63 hbytes hbase
      exact ⟨v', w', h2, h3, h4, h5.imp id fun h => ⟨_, h, Nat.le_refl _⟩⟩
  obtain ⟨v', w', hr, h3, h4, h5⟩ := key
  refine wpList_plain hgd fun K hK => ?_
  unfold Oper.wp execOp
  simp only [ho, resolve, invoke, builtin, Sem.run_bind, Sem.run_pure, Result.andThen_ok, List.map_toArray, List.map_cons, List.map_nil, hs, hx, hr]
  exact hK _ _ (h v' w' h3 h4 h5)
end
end Go.Proofs.YtahmcjdddcbhnaaGreatDoor
namespace Go.Proofs.YtahmcjdddcbhnaaGreatDoor
open Go Go.RowKit

/-! ### Rows of things of several cells -/
theorem flat_at {α : Type} (c : α → List Value) (m : Nat) (hm : ∀ a, (c a).length = m) : ∀ (D : List α) (j : Nat) (h : j < D.length) (i : Nat), i < m → (D.flatMap c)[j * m + i]? = (c D[j])[i]?
  | a :: t, 0, _, i, hi => by
    rw [List.flatMap_cons, List.getElem?_append_left (by rw [hm]; omega)]
    simp
  | a :: t, j + 1, h, i, hi => by
    have e : (j + 1) * m + i = (c a).length + (j * m + i) := by rw [hm, Nat.succ_mul]; omega
    rw [List.flatMap_cons, e, List.getElem?_append_right (by omega), Nat.add_sub_cancel_left]
    exact flat_at c m hm t j (by simpa using h) i hi
theorem flat_len {α : Type} (c : α → List Value) (m : Nat) (hm : ∀ a, (c a).length = m) : ∀ D : List α, (D.flatMap c).length = D.length * m
  | [] => by simp
  | a :: t => by rw [List.flatMap_cons, List.length_append, hm, flat_len c m hm t, List.length_cons, Nat.succ_mul]; omega
theorem sees_at {α : Type} {w : World} {m : Nat} {v : Value} (c : α → List Value) (hm : ∀ a, (c a).length = m) (h0 : 0 < m) {l : List α} (h : Sees w m v (l.flatMap c)) :
    ∃ A cp, v = .slice A l.length cp ∧ l.length ≤ cp ∧ (l.length ≠ 0 → ∃ b s, A = some ⟨b, s, none⟩ ∧ b < w.heap.size ∧ ∀ j (hj : j < l.length) i u, i < m → (c l[j])[i]? = some u → w.cell? ⟨b, s + j * m + i, none⟩ = some u) := by
  obtain ⟨A, n, cp, rfl, h1, h2, h3⟩ := h
  have hn : n = l.length := by
    rw [flat_len c m hm] at h1
    exact (Nat.eq_of_mul_eq_mul_right h0 h1).symm
  subst hn
  refine ⟨A, cp, rfl, h2, fun hn => ?_⟩
  obtain ⟨b, s, rfl, hb, hc⟩ := h3 hn
  refine ⟨b, s, rfl, hb, fun j hj i u hi hu => ?_⟩
  rw [Nat.add_assoc]
  exact hc _ _ ((flat_at c m hm l j hj i hi).trans hu)
def ints (l : List Int) : List Value := l.map (Value.int .i64)
theorem ints_len (l : List Int) : (ints l).length = l.length := List.length_map ..
theorem wrapS {x : Int} (h1 : -9223372036854775808 ≤ x) (h2 : x ≤ 9223372036854775807) : IntKind.i64.wrap x = x := by
  rw [IntKind.wrap_i64]
  omega

/-! ### The reference's filter -/
structure CR where
  num : Int
  ver : Int
  many : Int
def CR.cells (c : CR) : List Value := [.int .i64 c.num, .int .i64 c.ver, .int .i64 c.many]
structure RF where
  vs : List Int
  cs : List CR
  use : Int
  tick : Int
structure ROp where
  kind : Int
  n : Int
  tick : Int
  many : Int
def ROp.cells (o : ROp) : List Value := [.int .i64 o.kind, .int .i64 o.n, .int .i64 o.tick, .int .i64 o.many]
/-- the error of a tick -/
def lateE (tk t : Int) : Int := if t < 0 ∨ 1099511627776 < t then 1 else if t < tk then 16 else 0
/-- the index of the first connection with a number, or how many there are -/
def idx (cs : List CR) (n : Int) : Nat := cs.findIdx fun c => c.num == n
/-- the index of the first connection whose number is not below, or how many there are -/
def pos (cs : List CR) (n : Int) : Nat := cs.findIdx fun c => !decide (c.num < n)
def RF.inst (s : RF) (n : Int) : Int × RF :=
  if n < 0 ∨ 1024 < n then (1, s) else if s.vs.contains n = true then (8, s) else if 64 ≤ s.vs.length then (4, s) else (0, { s with vs := s.vs ++ [n] })
def RF.usen (s : RF) (n : Int) : Int × RF := if s.vs.contains n = false then (7, s) else (0, { s with use := n })
def RF.rem (s : RF) (n : Int) : Int × RF :=
  if s.vs.contains n = false then (7, s) else if s.use = n then (15, s) else if s.cs.any (fun c => c.ver == n) = true then (15, s) else (0, { s with vs := s.vs.filter fun v => v != n })
def RF.opn (s : RF) (n t : Int) : Int × RF :=
  if n < 0 ∨ 1099511627776 < n then (1, s) else if lateE s.tick t ≠ 0 then (lateE s.tick t, s) else if idx s.cs n < s.cs.length then (8, s) else if s.use < 0 then (20, s) else if 64 ≤ s.cs.length then (4, s)
  else (0, { s with cs := s.cs.take (pos s.cs n) ++ [⟨n, s.use, 0⟩] ++ s.cs.drop (pos s.cs n), tick := t })
def RF.snd (s : RF) (n t many : Int) : Int × RF :=
  if lateE s.tick t ≠ 0 then (lateE s.tick t, s) else match s.cs[idx s.cs n]? with
  | none => (7, s)
  | some c => if 65536 < c.many + many then (4, s) else (0, { s with cs := s.cs.set (idx s.cs n) { c with many := c.many + many }, tick := t })
def RF.fin (s : RF) (n t : Int) : Int × RF :=
  if lateE s.tick t ≠ 0 then (lateE s.tick t, s) else match s.cs[idx s.cs n]? with
  | none => (7, s)
  | some _ => (0, { s with cs := s.cs.take (idx s.cs n) ++ s.cs.drop (idx s.cs n + 1), tick := t })
def RF.step (s : RF) (o : ROp) : Int × RF :=
  if o.kind = 0 then s.inst o.n else if o.kind = 1 then s.usen o.n else if o.kind = 2 then s.rem o.n else if o.kind = 3 then s.opn o.n o.tick else if o.kind = 4 then s.snd o.n o.tick o.many else s.fin o.n o.tick
/-- what an operation's fields may be -/
structure ROp.Ok (o : ROp) : Prop where
  kind : 0 ≤ o.kind ∧ o.kind ≤ 5
  n : -1 ≤ o.n ∧ o.n ≤ 3
  tick : 0 ≤ o.tick ∧ o.tick ≤ 1000000
  many : 0 ≤ o.many ∧ o.many ≤ 40000
/-- what a filter that is reached may be -/
structure RF.Ok (s : RF) : Prop where
  nd : s.vs.Nodup
  vs : ∀ v ∈ s.vs, 0 ≤ v ∧ v ≤ 3
  up : s.cs.Pairwise fun a b => a.num < b.num
  cs : ∀ c ∈ s.cs, (0 ≤ c.num ∧ c.num ≤ 3) ∧ c.ver ∈ s.vs ∧ 0 ≤ c.many ∧ c.many ≤ 65536
  use : s.use = -1 ∨ s.use ∈ s.vs
  none : s.use = -1 → s.cs = []
  tick : 0 ≤ s.tick ∧ s.tick ≤ 1000000
/-- where the reference's filter lies -/
structure RAt (w : World) (B g : Nat) (v1 v2 : Value) (s : RF) : Prop where
  blk : Blk w g 51 #[v1, v2, .int .i64 s.use, .int .i64 s.tick]
  row1 : w.ownsRow B 3 1 v1 s.vs.length (ints s.vs)
  row2 : w.ownsRow B 67 3 v2 s.cs.length (s.cs.flatMap CR.cells)
  lo : B ≤ g
/-- the blocks that are the reference's -/
def RFt (g : Nat) (v1 v2 : Value) (k : Nat) : Prop := k = g ∨ v1.ownBlock = some k ∨ v2.ownBlock = some k
section
variable {w w' : World} {B g : Nat} {v1 v2 : Value} {s : RF}
theorem RAt.chg {F : Nat → Prop} (h : RAt w B g v1 v2 s) (hc : Chg F w w') (hf : ∀ k, RFt g v1 v2 k → ¬ F k) : RAt w' B g v1 v2 s :=
  ⟨h.blk.chg hc (hf g (.inl rfl)), row_chg h.row1 hc fun k hk => hf k (.inr (.inl hk)), row_chg h.row2 hc fun k hk => hf k (.inr (.inr hk)), h.lo⟩
theorem RAt.bel (h : RAt w B g v1 v2 s) (hb : Below w.heap.size w w') : RAt w' B g v1 v2 s := h.chg (F := fun _ => False) (Chg.of_below hb) fun _ _ h => h
theorem RAt.lt (h : RAt w B g v1 v2 s) {k : Nat} (hk : RFt g v1 v2 k) : B ≤ k ∧ k < w.heap.size := by
  rcases hk with rfl | hk | hk
  · exact ⟨h.lo, h.blk.lt⟩
  · exact World.ownsRow.lt h.row1 k hk
  · exact World.ownsRow.lt h.row2 k hk
end
end Go.Proofs.YtahmcjdddcbhnaaGreatDoor
namespace Go.Proofs.YtahmcjdddcbhnaaGreatDoor
open Go Go.ChangeShapes Go.WideShapes Go.ChangeAt Go.RowKit Go.Deep

/-- a slice of numbers -/
structure SlS (w : World) (x : Value) (l : List Int) : Prop where
  sees : Sees w 1 x (ints l)
  len : l.length ≤ 9223372036854775807
  bd : ∀ z ∈ l, IntKind.i64.min ≤ z ∧ z ≤ IntKind.i64.max
theorem cellsInt : Tryz.prog.cellsOf 3 = 1 := by kernel_rfl
section
variable {H : Type} {enc : TypeId × Value → H}
set_option maxRecDepth 100000 in
theorem read_ints {W : World} {base : Nat} {v : Value} {d : DataW H} {ps : List MemPlace} (hval : Value.okWide Tryz.prog W .any base 22 v) (h : DataW.Trod enc Tryz.prog W 0 (fun _ => true) true 22 v d ps) :
    ∃ l, SlS W v l ∧ ∀ W' : World, (∀ b, b < W.heap.size → W'.heap[b]? = W.heap[b]?) → DataW.Trod enc Tryz.prog W' 0 (fun b => decide (b < W.heap.size)) true 22 v d ps := by
  obtain ⟨a0, len, cap, rfl⟩ := okWide_slice Tryz.underlying22 hval
  obtain ⟨fuel, hf⟩ := h
  rcases open_ints Tryz.underlying22 Tryz.underlying3 cellsInt hf with ⟨hcs, hx⟩ | ⟨a, len', cap', zs, hcs, _, hl, hm, hz, hx, hcell, hwz⟩
  · simp [Value.cells] at hcs
    obtain ⟨rfl, rfl, rfl⟩ := hcs
    simp only [Prod.mk.injEq] at hx
    obtain ⟨rfl, rfl⟩ := hx
    refine ⟨[], ⟨⟨none, 0, 0, rfl, rfl, Nat.le_refl _, fun h => absurd rfl h⟩, by decide, fun z hz => by simp at hz⟩, fun W' _ => ⟨1, ?_⟩⟩
    simp [DataW.trod, Tryz.underlying22, Value.cells]
  · simp [Value.cells] at hcs
    obtain ⟨rfl, rfl, rfl⟩ := hcs
    simp only [Prod.mk.injEq] at hx
    obtain ⟨rfl, rfl⟩ := hx
    simp only [if_true] at hz
    have hmax : cap ≤ 9223372036854775807 := by unfold maxLen at hm; omega
    have hlt : (zs.take len).length = len := by simp; omega
    have hbd : ∀ z ∈ zs, -9223372036854775808 ≤ z ∧ z ≤ 9223372036854775807 := fun z hz => by
      have := hwz z hz
      simp [Lit.wf, IntKind.min, IntKind.max, IntKind.signed, IntKind.bits] at this
      omega
    refine ⟨zs.take len, ⟨⟨some a, len, cap, rfl, by rw [ints_len, hlt, Nat.mul_one], by omega, fun h => ?_⟩, by rw [hlt]; omega, fun z hz => hbd z (List.mem_of_mem_take hz)⟩, fun W' hW' => ?_⟩
    · have hpos : 0 < zs.length := by
        rcases Nat.eq_zero_or_pos zs.length with h0 | h0
        · omega
        · exact h0
      obtain ⟨b, off, rfl, hc⟩ := ints_at hcell hpos
      refine ⟨b, off, rfl, ?_, fun i u hi => ?_⟩
      · have := hc 0 hpos
        simp only [World.cell?] at this
        by_cases hb : b < W.heap.size
        · exact hb
        · rw [Array.getElem?_eq_none (by omega)] at this
          simp at this
      · unfold ints at hi
        rw [List.getElem?_map] at hi
        obtain ⟨z, hi', rfl⟩ := Option.map_eq_some_iff.1 hi
        have hil : i < len := by
          have := (List.getElem?_eq_some_iff.1 hi').1
          omega
        rw [List.getElem?_take, if_pos hil] at hi'
        rw [hc i (by have := (List.getElem?_eq_some_iff.1 hi').1; omega)]
        simp [List.getD, hi']
    · refine ⟨2, shut_ints 0 Tryz.underlying22 Tryz.underlying3 cellsInt (Nat.zero_le _) hl hm ?_ (fun i hi => ?_) hwz⟩
      · rcases Nat.eq_zero_or_pos zs.length with h0 | h0
        · split <;> omega
        · obtain ⟨b, off, rfl, hc⟩ := ints_at hcell h0
          have hb : b < W.heap.size := by
            have := hc 0 h0
            simp only [World.cell?] at this
            by_cases hb : b < W.heap.size
            · exact hb
            · rw [Array.getElem?_eq_none (by omega)] at this
              simp at this
          simp [hb, hz]
      · obtain ⟨b, off, rfl, hc⟩ := ints_at hcell (by omega)
        have hci := hcell i hi
        rw [Go.WideShapes.add_plain] at hci ⊢
        rw [← hci]
        have hb : b < W.heap.size := by
          have := hc 0 (by omega)
          simp only [World.cell?] at this
          by_cases hb : b < W.heap.size
          · exact hb
          · rw [Array.getElem?_eq_none (by omega)] at this
            simp at this
        simp only [World.cell?]
        rw [hW' b hb]
end
end Go.Proofs.YtahmcjdddcbhnaaGreatDoor
namespace Go.Proofs.YtahmcjdddcbhnaaGreatDoor
open Go Go.RowKit

/-- a meter of one rule -/
structure MtAt (w : World) (mb ub : Nat) (sh pe tk us : Int) : Prop where
  blk : Blk w mb 151 #[.int .i64 sh, .int .i64 pe, .int .i64 tk, .slice (some ⟨ub, 0, none⟩) 1 1]
  used : Blk w ub 3 #[.int .i64 us]
  hsh : 0 ≤ sh ∧ sh ≤ 1099511627776
  hpe : 1 ≤ pe ∧ pe ≤ 1099511627776
  htk : 0 ≤ tk ∧ tk ≤ 1099511627776
  hus : 0 ≤ us ∧ us ≤ sh
theorem MtAt.ne {w : World} {mb ub : Nat} {sh pe tk us : Int} (h : MtAt w mb ub sh pe tk us) : mb ≠ ub := h.blk.two h.used (by decide)
theorem MtAt.bel {w w' : World} {mb ub : Nat} {sh pe tk us : Int} (h : MtAt w mb ub sh pe tk us) (hb : Below w.heap.size w w') : MtAt w' mb ub sh pe tk us := ⟨h.blk.bel hb h.blk.lt, h.used.bel hb h.used.lt, h.hsh, h.hpe, h.htk, h.hus⟩
theorem MtAt.chg {w w' : World} {mb ub : Nat} {sh pe tk us : Int} {F : Nat → Prop} (h : MtAt w mb ub sh pe tk us) (hc : Chg F w w') (h1 : ¬ F mb) (h2 : ¬ F ub) : MtAt w' mb ub sh pe tk us := ⟨h.blk.chg hc h1, h.used.chg hc h2, h.hsh, h.hpe, h.htk, h.hus⟩
theorem belowN (w : World) : ∀ n, Below w.heap.size w (w.drewN n) := fun _n => ⟨rfl, rfl, rfl, Nat.le_refl _, fun _ _ => rfl⟩
/-- is a tick in another period? -/
def fresh (pe tk t : Int) : Bool := !(t.tdiv pe == tk.tdiv pe)
/-- what is used of the share at a tick -/
def usedAt (pe tk us t : Int) : Int := if fresh pe tk t = true then 0 else us
theorem out_no {x lo hi : Int} (h1 : lo ≤ x) (h2 : x ≤ hi) (w : World) : Calls Tryz.prog 52 #[.int .i64 x, .int .i64 lo, .int .i64 hi] w fun e w' => e = .returned (.bool false) ∧ w' = w := by
  have k1 : ¬ x < lo := by omega
  have k2 : ¬ hi < x := by omega
  go_enter Tryz.func52, Tryz.ntmps52
  go_wp2
  go_ret
  exact ⟨rfl, rfl⟩
theorem quo_wrap {a b : Int} (ha : 0 ≤ a ∧ a ≤ 1099511627776) (hb : 1 ≤ b ∧ b ≤ 1099511627776) : IntKind.i64.wrap (a.tdiv b) = a.tdiv b := by
  have e : a.tdiv b = a / b := Int.tdiv_eq_ediv_of_nonneg ha.1
  have h2 : 0 ≤ a / b := Int.ediv_nonneg ha.1 (by omega)
  have h3 : a / b ≤ a := Int.ediv_le_self b ha.1
  rw [e]
  exact wrapS (by omega) (by omega)
section
variable {w : World} {mb ub : Nat} {sh pe tk us : Int}
theorem MtAt.usedBd (h : MtAt w mb ub sh pe tk us) (t : Int) : 0 ≤ usedAt pe tk us t ∧ usedAt pe tk us t ≤ sh := by
  have := h.hus
  unfold usedAt; split <;> omega
end
end Go.Proofs.YtahmcjdddcbhnaaGreatDoor
namespace Go.Proofs.YtahmcjdddcbhnaaGreatDoor
open Go Go.RowKit

end Go.Proofs.YtahmcjdddcbhnaaGreatDoor
namespace Go.Proofs.YtahmcjdddcbhnaaGreatDoor
open Go Go.RowKit

theorem infoInt : (Tryz.prog.info? 3).map (fun i => (i.zero, i.size, i.bytes)) = some (some (.int .i64 0), 1, 8) := by kernel_rfl
theorem sees_one (w : World) (e : TypeId) (cs : Array Value) {size : Nat} (hs : cs.size = size) : Sees (w.alloc (.cells cs e)) size (.slice (some ⟨w.heap.size, 0, none⟩) 1 1) cs.toList :=
  Sees.row (World.ownsRow_lit (base := w.heap.size) (e := e) (size := size) w cs 1 (Nat.le_refl _) (by unfold maxLen; omega) (by omega))
theorem grown_bel0 {w wr w2 : World} {B : Nat} {e : TypeId} {size n : Nat} {v : Value} {xs : List Value} (hb : Below B w wr) (hown : wr.ownsRow B e size v n xs) (hB : B ≤ wr.heap.size) (hg : wr.grownBy w2 v.ownBlock) : Below B w w2 :=
  hb.grown hg hB fun k hk => (World.ownsRow.lt hown k hk).1
/-- what an operation on the reference's filter leaves -/
structure RPost (w : World) (B g : Nat) (v1 v2 : Value) (s : RF) (w' : World) : Prop where
  ex : ∃ u1 u2, RAt w' B g u1 u2 s ∧ ∀ k, RFt g u1 u2 k → RFt g v1 v2 k ∨ w.heap.size ≤ k
  chg : Chg (RFt g v1 v2) w w'
theorem RPost.same {w : World} {B g : Nat} {v1 v2 : Value} {s : RF} (h : RAt w B g v1 v2 s) : RPost w B g v1 v2 s w := ⟨⟨v1, v2, h, fun _ h => .inl h⟩, Chg.refl _ _⟩
end Go.Proofs.YtahmcjdddcbhnaaGreatDoor
namespace Go.Proofs.YtahmcjdddcbhnaaGreatDoor
open Go Go.RowKit

section
variable {α : Type} {w : World} {A : Option Addr} {n cp m : Nat} {l : List α}
theorem Sees.takeF (c : α → List Value) (hm : ∀ a, (c a).length = m) (h : Sees w m (.slice A n cp) (l.flatMap c)) (h0 : 0 < m) (j : Nat) (hj : j ≤ n) : Sees w m (.slice A j cp) ((l.take j).flatMap c) := by
  obtain ⟨A', n', cp', hv, h1, h2, h3⟩ := h
  cases hv
  have hn : n = l.length := by
    rw [flat_len c m hm] at h1
    exact (Nat.eq_of_mul_eq_mul_right h0 h1).symm
  subst hn
  refine ⟨_, _, _, rfl, by rw [flat_len c m hm, List.length_take, Nat.min_eq_left hj], by omega, fun hn => ?_⟩
  obtain ⟨b, s, hb, hlt, hcell⟩ := h3 (by omega)
  refine ⟨b, s, hb, hlt, fun k u hk => hcell k u ?_⟩
  have e : l.flatMap c = (l.take j).flatMap c ++ (l.drop j).flatMap c := by rw [← List.flatMap_append, List.take_append_drop]
  rw [e, List.getElem?_append_left (List.getElem?_eq_some_iff.1 hk).1]
  exact hk
theorem Sees.dropF (c : α → List Value) (hm : ∀ a, (c a).length = m) (h0 : 0 < m) (h : Sees w m (.slice A n cp) (l.flatMap c)) (j : Nat) (hj : j ≤ n) : Sees w m (.slice (if cp = j then A else A.map (·.add (j * m))) (n - j) (cp - j)) ((l.drop j).flatMap c) := by
  obtain ⟨A', n', cp', hv, h1, h2, h3⟩ := h
  cases hv
  have hn : n = l.length := by
    rw [flat_len c m hm] at h1
    exact (Nat.eq_of_mul_eq_mul_right h0 h1).symm
  subst hn
  refine ⟨_, _, _, rfl, by rw [flat_len c m hm, List.length_drop], by omega, fun hn => ?_⟩
  obtain ⟨b', s', hb, hlt, hcell⟩ := h3 (by omega)
  subst hb
  rw [if_neg (by omega)]
  refine ⟨b', s' + j * m, by simp [add_flat], hlt, fun k u hk => ?_⟩
  have e : l.flatMap c = (l.take j).flatMap c ++ (l.drop j).flatMap c := by rw [← List.flatMap_append, List.take_append_drop]
  have hlen : ((l.take j).flatMap c).length = j * m := by rw [flat_len c m hm, List.length_take, Nat.min_eq_left hj]
  have := hcell (j * m + k) u (by rw [e, List.getElem?_append_right (by omega), hlen, Nat.add_sub_cancel_left]; exact hk)
  rw [Nat.add_assoc]
  exact this
end
section
variable {P : Program} {w : World} {e : TypeId} {m n cp J : Nat} {A : Option Addr}
theorem wpList_sliceTo {ops : Array Oper} {rest : List Oper} {o : Oper} {a : Act} {Q : Exit → Act → World → Prop} (hgd : o.guard = none) (x j : Operand) (t : TypeId)
    (ho : o.op = .slice t x none (some j) none) (i : TypeInfo) (ht : P.underlying t = some (.slice e)) (hi : P.info? e = some i) (_hsz : i.size = m)
    (hx : a.eval x = .slice A n cp) (hj : a.eval j = .int .i64 (J : Int)) (hle : J ≤ cp) (h : wpList P ops Q rest (a.put o.dst (.slice A J cp)) w) :
    wpList P ops Q (o :: rest) a w := by
  refine wpList_plain hgd fun K hK => ?_
  unfold Oper.wp execOp
  have hr : (Instr.sliceAt t (a.eval x) none (some (a.eval j)) none).run P w = .ok (.slice A J cp) w := by
    rw [hx, hj]
    simp [Instr.sliceAt, Instr.slice, run_underlying ht, Instr.sliceBounds, Instr.sliceBound, asIntOf, sizeOf, typeInfo, hi, hle]
    intro _
    cases A with
    | none => rfl
    | some d => cases d; simp [Addr.add]
  simp only [ho, Option.map_none, Option.map_some, Sem.run_bind, hr, Result.andThen_ok, Sem.run_pure]
  exact hK _ _ h
theorem wpList_sliceFrom {ops : Array Oper} {rest : List Oper} {o : Oper} {a : Act} {Q : Exit → Act → World → Prop} (hgd : o.guard = none) (x j : Operand) (t : TypeId)
    (ho : o.op = .slice t x (some j) none none) (i : TypeInfo) (ht : P.underlying t = some (.slice e)) (hi : P.info? e = some i) (hsz : i.size = m)
    (hx : a.eval x = .slice A n cp) (hj : a.eval j = .int .i64 (J : Int)) (hle : J ≤ n) (B : Option Addr) (hB : (if cp = J then A else A.map (·.add (J * m))) = B) (h : wpList P ops Q rest (a.put o.dst (.slice B (n - J) (cp - J))) w) :
    wpList P ops Q (o :: rest) a w := by
  refine wpList_plain hgd fun K hK => ?_
  unfold Oper.wp execOp
  have hr : (Instr.sliceAt t (a.eval x) (some (a.eval j)) none none).run P w = .ok (.slice B (n - J) (cp - J)) w := by
    rw [hx, hj, ← hB]
    simp [Instr.sliceAt, Instr.slice, run_underlying ht, Instr.sliceBounds, Instr.sliceBound, asIntOf, sizeOf, typeInfo, hi, hle, hsz]
  simp only [ho, Option.map_none, Option.map_some, Sem.run_bind, hr, Result.andThen_ok, Sem.run_pure]
  exact hK _ _ h
end
end Go.Proofs.YtahmcjdddcbhnaaGreatDoor
namespace Go.Proofs.YtahmcjdddcbhnaaGreatDoor
open Go Go.RowKit

end Go.Proofs.YtahmcjdddcbhnaaGreatDoor
namespace Go.Proofs.YtahmcjdddcbhnaaGreatDoor
open Go Go.RowKit

theorem RPost.before {w W0 w' : World} {B g : Nat} {v1 v2 : Value} {s : RF} (h : Below w.heap.size w W0) (p : RPost W0 B g v1 v2 s w') : RPost w B g v1 v2 s w' :=
  ⟨by obtain ⟨u1, u2, h1, h2⟩ := p.ex; exact ⟨u1, u2, h1, fun k hk => (h2 k hk).imp id fun h' => Nat.le_trans h.size h'⟩, (Chg.of_below h).trans p.chg fun _ _ hi => hi⟩
end Go.Proofs.YtahmcjdddcbhnaaGreatDoor
namespace Go.Proofs.YtahmcjdddcbhnaaGreatDoor
open Go Go.RowKit

end Go.Proofs.YtahmcjdddcbhnaaGreatDoor
namespace Go.Proofs.YtahmcjdddcbhnaaGreatDoor
open Go Go.RowKit

theorem RPost.drew {w w' : World} {B g : Nat} {v1 v2 : Value} {s : RF} (p : RPost w B g v1 v2 s w') : RPost w B g v1 v2 s w'.drew :=
  ⟨by obtain ⟨u1, u2, h1, h2⟩ := p.ex; exact ⟨u1, u2, h1.bel (Below.refl _ _).drew, h2⟩, p.chg.drew⟩
end Go.Proofs.YtahmcjdddcbhnaaGreatDoor
namespace Go.Proofs.YtahmcjdddcbhnaaGreatDoor
open Go Go.RowKit

end Go.Proofs.YtahmcjdddcbhnaaGreatDoor
namespace Go.Proofs.YtahmcjdddcbhnaaGreatDoor
open Go Go.RowKit

structure RF.Few (s : RF) : Prop where
  vs : s.vs.length ≤ 64
  cs : s.cs.length ≤ 64
theorem RF.Ok.many {s : RF} (h : s.Ok) : ∀ c ∈ s.cs, 0 ≤ c.many ∧ c.many ≤ 65536 := fun c hc => (h.cs c hc).2.2
end Go.Proofs.YtahmcjdddcbhnaaGreatDoor
