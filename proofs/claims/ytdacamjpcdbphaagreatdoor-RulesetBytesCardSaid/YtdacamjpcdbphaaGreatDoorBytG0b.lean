/-
  Rules of any names and texts: their cells, their strings; what the walks over them use.
  Trees of patterns in memory: their nodes, what a slice of nodes reads as, and their shape.
  The generator of trees, walked: next, set, kids, rep, capture, tree.
  A slice of numbers and a slice of bytes that are arguments of a law: what they hold before the call, and that they read behind it as before.
  Size and Depth of trees, walked.
  The check of spans, walked at the sets that a generator chooses from.
  The generator of trees, walked: set, a random one of eight sets.
  The generator of trees, walked: kids.
  The generator of trees, walked: capture.
  A region that draws its order, by an invariant: what holds of the slots that have come up, shown operation by operation, whatever the order. (Of no program.)
  isName, walked at any text.
-/
import Derived.Test.YtdacamjpcdbphaaGreatDoorBytG0a
import Derived.Lib.ConvBytes
import Derived.Lib.Hide
import Derived.Laws.IdiomStrings
import Derived.Laws.BytesArg
import Derived.Deep.RegionHeld3
import Derived.Deep.RegionLaw
import Derived.Deep.AppendLies
import Derived.Laws.Rows
import Derived.WalkKit
import Derived.Carry
import Derived.ProofKit
import Derived.OpenShut
import Derived.Deep.Grids
import Derived.Deep.QuietTactic
import Derived.Orders
namespace Go.Proofs.YtdacamjpcdbphaaGreatDoor
open Go Go.RowKit Go.Smap

def toB (s : ByteArray) : List UInt8 := s.data.toList
theorem toB_len (s : ByteArray) : (toB s).length = s.size := by unfold toB; rw [Array.length_toList]; rfl
theorem below_bytes {n : Nat} (w : World) (e : TypeId) (s : ByteArray) (hn : n ≤ w.heap.size) : Below n w (Lib.bytesWorld w e s) :=
  ⟨rfl, rfl, rfl, by rw [Lib.bytesWorld_size]; omega, fun k hk => Lib.bytesWorld_at_old w e s k (by omega)⟩
theorem bytes_cell (w : World) (e : TypeId) (s : ByteArray) (i : Nat) (u : Value) (h : (bv (toB s))[i]? = some u) : (Lib.bytesWorld w e s).cell? ⟨w.heap.size, 0 + i, none⟩ = some u := by
  rw [Nat.zero_add]
  have hi : i < s.size := by
    have := (List.getElem?_eq_some_iff.1 h).1
    rw [bv_len, toB_len] at this
    exact this
  rw [Lib.bytesWorld_cell w e s i hi, ← h]
  unfold bv toB
  have hi' : i < s.data.toList.length := by simpa using hi
  rw [List.getElem?_map, List.getElem?_eq_getElem hi']
  simp [List.getD, List.getElem?_eq_getElem hi']
theorem conv_bytes (w : World) (s : ByteArray) : (convert 9 23 (.string s)).run Tryz.prog w = .ok (.slice (some ⟨w.heap.size, 0, none⟩) s.size (grownCap w s.size 0 5)) (Lib.bytesWorld w 5 s) :=
  Lib.run_convert_string_bytes w _ _ _ s Tryz.underlying9 Tryz.underlying23 Tryz.underlying5
theorem cap_le (w : World) (s : ByteArray) : s.size ≤ grownCap w s.size 0 5 := grownCap_ge _ _ _ _
/-- bytes as a string -/
def ofB (l : List UInt8) : ByteArray := ⟨l.toArray⟩
theorem toB_ofB (l : List UInt8) : toB (ofB l) = l := rfl
theorem ofB_toB (s : ByteArray) : ofB (toB s) = s := by
  unfold ofB toB
  exact ByteArray.ext (by simp)
theorem ofB_size (l : List UInt8) : (ofB l).size = l.length := by rw [← toB_len, toB_ofB]
theorem ofB_inj {a b : List UInt8} (h : ofB a = ofB b) : a = b := by
  have := congrArg toB h
  simpa [toB_ofB] using this
theorem strOf_bytes (x : List UInt8) : strOfNums (x.map fun b => (b.toNat : Int)) = ofB x := by
  unfold strOfNums ofB
  congr 1
  rw [List.map_map]
  have : (fun b : UInt8 => UInt8.ofNat ((b.toNat : Int)).toNat) = id := by funext b; simp
  show (x.map (fun b : UInt8 => UInt8.ofNat ((b.toNat : Int)).toNat)).toArray = _
  rw [this, List.map_id]
theorem conv_str {w : World} {v : Value} {x : List UInt8} (h : Sees w 1 v (bv x)) : (convert 23 9 v).run Tryz.prog w = .ok (.string (ofB x)) w := by
  obtain ⟨A, n, c, rfl, h1, h2, h3⟩ := h
  have hn : x.length = n := by rw [bv_len] at h1; omega
  cases A with
  | none =>
    have h0 : n = 0 := by
      rcases Nat.eq_zero_or_pos n with h0 | h0
      · exact h0
      · obtain ⟨b, s, hb, _⟩ := h3 (by omega)
        cases hb
    have hx : x = [] := List.length_eq_zero_iff.1 (by omega)
    subst hx
    exact run_convert_bytes_nil w _ _ Tryz.underlying23 Tryz.underlying5 _ _ _ Tryz.underlying9
  | some a =>
    by_cases h0 : n = 0
    · have hx : x = [] := List.length_eq_zero_iff.1 (by omega)
      subst hx
      subst h0
      rw [run_convert_bytes_string w _ _ _ _ _ _ Tryz.underlying23 Tryz.underlying5 Tryz.underlying9, run_bytesToString w a 0 c [] (run_loadCells_list w a [] fun j v hj => by simp at hj)]
      rfl
    · obtain ⟨b, s, hb, hlt, hc⟩ := h3 h0
      cases hb
      rw [← strOf_bytes]
      refine run_convert_bytes_arg w _ _ Tryz.underlying23 Tryz.underlying5 b s n c (x.map fun b => (b.toNat : Int)) (by rw [List.length_map]; exact hn) (fun i hi => ?_) _ Tryz.underlying9
      refine hc i _ ?_
      have hi' : i < x.length := by omega
      simp [bv, List.getElem?_eq_getElem hi', List.getD]
/-- a rule's cells -/
def Ru.cells (r : Ru) : List Value := [.string (ofB r.name), .string (ofB r.text), .bool r.runes]
theorem setBlock_other {w : World} {B : Nat} {o : Obj} {c : Nat} (h : c ≠ B) : (ChangeMaps.setBlock w B o).heap[c]? = w.heap[c]? := by
  simp only [ChangeMaps.setBlock, Array.getElem?_setIfInBounds]
  rw [if_neg (fun e => h e.symm)]
theorem zeroBool (w : World) : (zeroValue 4).run Tryz.prog w = .ok (.bool false) w := by kernel_rfl
theorem flat_at {α : Type} (c : α → List Value) (m : Nat) (hm : ∀ a, (c a).length = m) : ∀ (D : List α) (j : Nat) (h : j < D.length) (i : Nat), i < m → (D.flatMap c)[j * m + i]? = (c D[j])[i]?
  | a :: t, 0, _, i, hi => by
    rw [List.flatMap_cons, List.getElem?_append_left (by rw [hm]; omega)]
    simp
  | a :: t, j + 1, h, i, hi => by
    have e : (j + 1) * m + i = (c a).length + (j * m + i) := by rw [hm, Nat.succ_mul]; omega
    rw [List.flatMap_cons, e, List.getElem?_append_right (by omega), Nat.add_sub_cancel_left]
    exact flat_at c m hm t j (by simpa using h) i hi
theorem flat_len {α : Type} (c : α → List Value) (m : Nat) (hm : ∀ a, (c a).length = m) : ∀ D : List α, (D.flatMap c).length = D.length * m
  | [] => by simp
  | a :: t => by rw [List.flatMap_cons, List.length_append, hm, flat_len c m hm t, List.length_cons, Nat.succ_mul]; omega
theorem owns_shape {w : World} {base : Nat} {e : TypeId} {size : Nat} {v : Value} {n : Nat} {xs : List Value} (h : w.ownsRow base e size v n xs) : ∃ a c, v = .slice a n c ∧ (n ≠ 0 → ∃ g, a = some ⟨g, 0, none⟩) := by
  rcases h.2 with ⟨rfl, rfl⟩ | ⟨g, cap, cur, rfl, _⟩
  · exact ⟨none, 0, rfl, fun h => absurd rfl h⟩
  · exact ⟨_, _, rfl, fun _ => ⟨g, rfl⟩⟩
/-- a slice of rules, wherever it lies -/
def SeesR (w : World) (v : Value) (rs : List Ru) : Prop := Sees w 3 v (rs.flatMap Ru.cells)
theorem SeesR.shape {w : World} {v : Value} {rs : List Ru} (h : SeesR w v rs) : ∃ A c, v = .slice A rs.length c ∧ rs.length ≤ c ∧ (rs.length ≠ 0 → ∃ b s, A = some ⟨b, s, none⟩ ∧ b < w.heap.size ∧
    ∀ j (hj : j < rs.length), w.cell? ⟨b, s + j * 3, none⟩ = some (.string (ofB rs[j].name)) ∧ w.cell? ⟨b, s + j * 3 + 1, none⟩ = some (.string (ofB rs[j].text)) ∧ w.cell? ⟨b, s + j * 3 + 2, none⟩ = some (.bool rs[j].runes)) := by
  obtain ⟨A, n, c, rfl, h1, h2, h3⟩ := h
  have hn : n = rs.length := by
    rw [flat_len Ru.cells 3 (fun _ => rfl)] at h1
    omega
  subst hn
  refine ⟨A, c, rfl, h2, fun h0 => ?_⟩
  obtain ⟨b, s, rfl, hb, hc⟩ := h3 h0
  refine ⟨b, s, rfl, hb, fun j hj => ?_⟩
  have key : ∀ i, i < 3 → ∀ u, (Ru.cells rs[j])[i]? = some u → w.cell? ⟨b, s + (j * 3 + i), none⟩ = some u := fun i hi u hu => hc _ _ ((flat_at Ru.cells 3 (fun _ => rfl) rs j hj i hi).trans hu)
  exact ⟨key 0 (by omega) _ rfl, (by rw [Nat.add_assoc]; exact key 1 (by omega) _ rfl), (by rw [Nat.add_assoc]; exact key 2 (by omega) _ rfl)⟩
theorem SeesR.row {w : World} {base : Nat} {e : TypeId} {v : Value} {rs : List Ru} (h : w.ownsRow base e 3 v rs.length (rs.flatMap Ru.cells)) : SeesR w v rs := Sees.row h
theorem SeesR.bel {w w' : World} {v : Value} {rs : List Ru} (h : SeesR w v rs) (hb : Below w.heap.size w w') : SeesR w' v rs := Sees.bel h hb
theorem infoRule : (Tryz.prog.info? 65).map (fun i => (i.zero, i.size, i.bytes)) = some (some (.agg #[.string ByteArray.empty, .string ByteArray.empty, .bool false]), 3, 40) := by kernel_rfl
theorem infoRef : (Tryz.prog.info? 59).map (fun i => (i.zero, i.size, i.bytes)) = some (some (.agg #[.string ByteArray.empty, .string ByteArray.empty, .bool false]), 3, 40) := by kernel_rfl
theorem below_chg {w wr w1 : World} {B m : Nat} (h : Below B w wr) (hc : Chg (Only m) wr w1) (hm : B ≤ m) (hB : B ≤ wr.heap.size) : Below B w w1 := h.trans (hc.to_below hB fun k _ e => by have : k = m := e; omega)
theorem owns_bel {w w1 : World} {base : Nat} {e : TypeId} {size : Nat} {v : Value} {n : Nat} {xs : List Value} (h : w.ownsRow base e size v n xs) (hb : Below w.heap.size w w1) : w1.ownsRow base e size v n xs :=
  row_chg h (Chg.of_below (F := fun _ => False) hb) fun _ _ h => h
theorem own_ne {w : World} {B p : Nat} {e : TypeId} {size : Nat} {v : Value} {n : Nat} {xs : List Value} (h : w.ownsRow B e size v n xs) (hp : p < B) : v.ownBlock ≠ some p := fun he => by
  have := (World.ownsRow.lt h p he).1
  omega
theorem row_only {w w1 : World} {B p : Nat} {e : TypeId} {size : Nat} {v : Value} {n : Nat} {xs : List Value} (h : w.ownsRow B e size v n xs) (hc : Chg (Only p) w w1) (hne : v.ownBlock ≠ some p) : w1.ownsRow B e size v n xs :=
  row_chg h hc fun g hg e' => hne (by rw [hg, show g = p from e'])
theorem wrapS {x : Int} (h1 : -9223372036854775808 ≤ x) (h2 : x ≤ 9223372036854775807) : IntKind.i64.wrap x = x := by
  rw [IntKind.wrap_i64]
  omega
/-- rules whose names and texts have bounded lengths -/
structure Fits (rs : List Ru) : Prop where
  len : rs.length ≤ 600
  each : ∀ r ∈ rs, r.name.length ≤ 100 ∧ r.text.length ≤ 10000
theorem Fits.at {rs : List Ru} (h : Fits rs) {j : Nat} (hj : j < rs.length) : rs[j].name.length ≤ 100 ∧ rs[j].text.length ≤ 10000 := h.each _ (List.getElem_mem hj)
theorem encR_len {l : List UInt8} (h : l.length ≤ 100000) : (encR l).length ≤ l.length + 10 := by
  have := uv_ten (n := l.length) (by omega)
  unfold encR; rw [List.length_append]; omega
theorem encOne_len {r : Ru} (h : r.name.length ≤ 100 ∧ r.text.length ≤ 10000) : (encOne r).length ≤ 10200 := by
  have h1 := encR_len (l := r.name) (by omega)
  have h2 := encR_len (l := r.text) (by omega)
  unfold encOne encB
  simp only [List.length_append, List.length_singleton]
  omega
theorem encMany_len : ∀ {rs : List Ru}, (∀ r ∈ rs, (encOne r).length ≤ 10200) → (encMany rs).length ≤ 10200 * rs.length
  | [], _ => by simp [encMany]
  | r :: t, h => by
    have h1 := h r (List.mem_cons_self ..)
    have h2 := encMany_len (rs := t) fun x hx => h x (List.mem_cons_of_mem _ hx)
    have e : encMany (r :: t) = encOne r ++ encMany t := rfl
    rw [e, List.length_append, List.length_cons]
    omega
theorem Fits.many {rs : List Ru} (h : Fits rs) : (encMany rs).length ≤ 6120000 := by
  have h1 := encMany_len fun r hr => encOne_len (h.each r hr)
  have h2 := h.len
  omega
theorem Fits.encLen {rs : List Ru} (h : Fits rs) : (encL rs).length ≤ 6120010 := by
  have h1 := h.many
  have h2 := h.len
  have hin : In64 (rs.length : Int) := ⟨by omega, by omega⟩
  have h3 : (encI (rs.length : Int)).length ≤ 10 := uv_ten (zz_lt hin)
  show (encI (rs.length : Int) ++ encMany rs).length ≤ _
  rw [List.length_append]
  omega
theorem Fits.take {rs : List Ru} (h : Fits rs) (j : Nat) : (encMany (rs.take j)).length ≤ 6120000 :=
  Fits.many ⟨by have := h.len; rw [List.length_take]; omega, fun r hr => h.each r (List.mem_of_mem_take hr)⟩
theorem encL_pos (rs : List Ru) : 0 < (encL rs).length := by
  unfold encL
  rw [List.length_append]
  have := encI_pos (rs.length : Int)
  omega
theorem encMany_snoc (rs : List Ru) {j : Nat} (hj : j < rs.length) : encMany (rs.take (j + 1)) = encMany (rs.take j) ++ encR rs[j].name ++ encR rs[j].text ++ encB rs[j].runes := by
  unfold encMany
  rw [List.take_succ_eq_append_getElem hj, List.flatMap_append]
  simp [encOne]
end Go.Proofs.YtdacamjpcdbphaaGreatDoor
namespace Go.Proofs.YtdacamjpcdbphaaGreatDoor
open Go Go.RowKit

/-- a tree as it lies in memory: its node's fields with the slices of its set and kids, the spans and the kids themselves -/
inductive VT where
  | mk (op : Int) (set kidv : Value) (mn mx mo n : Int) (neg : Bool) (spans : List (Int × Int)) (kids : List VT)
namespace VT
def op : VT → Int | mk o _ _ _ _ _ _ _ _ _ => o
def set : VT → Value | mk _ s _ _ _ _ _ _ _ _ => s
def kidv : VT → Value | mk _ _ k _ _ _ _ _ _ _ => k
def mn : VT → Int | mk _ _ _ a _ _ _ _ _ _ => a
def mx : VT → Int | mk _ _ _ _ a _ _ _ _ _ => a
def mo : VT → Int | mk _ _ _ _ _ a _ _ _ _ => a
def n : VT → Int | mk _ _ _ _ _ _ a _ _ _ => a
def neg : VT → Bool | mk _ _ _ _ _ _ _ b _ _ => b
def spans : VT → List (Int × Int) | mk _ _ _ _ _ _ _ _ s _ => s
def kids : VT → List VT | mk _ _ _ _ _ _ _ _ _ k => k
def cells (t : VT) : List Value := [.int .i64 t.op, t.set, t.kidv, .int .i64 t.mn, .int .i64 t.mx, .int .i64 t.mo, .int .i64 t.n, .bool t.neg]
def val (t : VT) : Value := .agg #[.int .i64 t.op, t.set, t.kidv, .int .i64 t.mn, .int .i64 t.mx, .int .i64 t.mo, .int .i64 t.n, .bool t.neg]
theorem cells_len (t : VT) : t.cells.length = 8 := rfl
end VT
def spanCells (s : Int × Int) : List Value := [.int .i64 s.1, .int .i64 s.2]
/-- a slice of nodes -/
def SeesT (w : World) (v : Value) (ts : List VT) : Prop := Sees w 8 v (ts.flatMap VT.cells)
/-- a slice of spans -/
def SeesP (w : World) (v : Value) (l : List (Int × Int)) : Prop := Sees w 2 v (l.flatMap spanCells)
theorem sees_at {α : Type} {w : World} {m : Nat} {v : Value} (c : α → List Value) (hm : ∀ a, (c a).length = m) (h0 : 0 < m) {l : List α} (h : Sees w m v (l.flatMap c)) :
    ∃ A cp, v = .slice A l.length cp ∧ l.length ≤ cp ∧ (l.length ≠ 0 → ∃ b s, A = some ⟨b, s, none⟩ ∧ b < w.heap.size ∧ ∀ j (hj : j < l.length) i u, i < m → (c l[j])[i]? = some u → w.cell? ⟨b, s + j * m + i, none⟩ = some u) := by
  obtain ⟨A, n, cp, rfl, h1, h2, h3⟩ := h
  have hn : n = l.length := by
    rw [flat_len c m hm] at h1
    exact (Nat.eq_of_mul_eq_mul_right h0 h1).symm
  subst hn
  refine ⟨A, cp, rfl, h2, fun hn => ?_⟩
  obtain ⟨b, s, rfl, hb, hc⟩ := h3 hn
  refine ⟨b, s, rfl, hb, fun j hj i u hi hu => ?_⟩
  rw [Nat.add_assoc]
  exact hc _ _ ((flat_at c m hm l j hj i hi).trans hu)
theorem SeesT.bel {w w' : World} {v : Value} {l : List VT} (h : SeesT w v l) (hb : Below w.heap.size w w') : SeesT w' v l := Sees.bel h hb
theorem SeesP.bel {w w' : World} {v : Value} {l : List (Int × Int)} (h : SeesP w v l) (hb : Below w.heap.size w w') : SeesP w' v l := Sees.bel h hb
theorem SeesT.shape {w : World} {v : Value} {ts : List VT} (h : SeesT w v ts) : ∃ A cp, v = .slice A ts.length cp ∧ ts.length ≤ cp ∧ (ts.length ≠ 0 → ∃ b s, A = some ⟨b, s, none⟩ ∧ b < w.heap.size ∧ ∀ j (hj : j < ts.length),
    w.cell? ⟨b, s + j * 8, none⟩ = some (.int .i64 ts[j].op) ∧ w.cell? ⟨b, s + j * 8 + 1, none⟩ = some ts[j].set ∧ w.cell? ⟨b, s + j * 8 + 2, none⟩ = some ts[j].kidv ∧ w.cell? ⟨b, s + j * 8 + 3, none⟩ = some (.int .i64 ts[j].mn) ∧
    w.cell? ⟨b, s + j * 8 + 4, none⟩ = some (.int .i64 ts[j].mx) ∧ w.cell? ⟨b, s + j * 8 + 5, none⟩ = some (.int .i64 ts[j].mo) ∧ w.cell? ⟨b, s + j * 8 + 6, none⟩ = some (.int .i64 ts[j].n) ∧ w.cell? ⟨b, s + j * 8 + 7, none⟩ = some (.bool ts[j].neg)) := by
  obtain ⟨A, cp, rfl, h1, h2⟩ := sees_at VT.cells VT.cells_len (by omega) h
  refine ⟨A, cp, rfl, h1, fun h0 => ?_⟩
  obtain ⟨b, s, rfl, hb, hc⟩ := h2 h0
  exact ⟨b, s, rfl, hb, fun j hj => ⟨hc j hj 0 _ (by omega) rfl, hc j hj 1 _ (by omega) rfl, hc j hj 2 _ (by omega) rfl, hc j hj 3 _ (by omega) rfl, hc j hj 4 _ (by omega) rfl, hc j hj 5 _ (by omega) rfl, hc j hj 6 _ (by omega) rfl, hc j hj 7 _ (by omega) rfl⟩⟩
theorem SeesP.shape {w : World} {v : Value} {l : List (Int × Int)} (h : SeesP w v l) : ∃ A cp, v = .slice A l.length cp ∧ l.length ≤ cp ∧ (l.length ≠ 0 → ∃ b s, A = some ⟨b, s, none⟩ ∧ b < w.heap.size ∧ ∀ j (hj : j < l.length),
    w.cell? ⟨b, s + j * 2, none⟩ = some (.int .i64 l[j].1) ∧ w.cell? ⟨b, s + j * 2 + 1, none⟩ = some (.int .i64 l[j].2)) := by
  obtain ⟨A, cp, rfl, h1, h2⟩ := sees_at spanCells (fun _ => rfl) (by omega) h
  refine ⟨A, cp, rfl, h1, fun h0 => ?_⟩
  obtain ⟨b, s, rfl, hb, hc⟩ := h2 h0
  exact ⟨b, s, rfl, hb, fun j hj => ⟨hc j hj 0 _ (by omega) rfl, hc j hj 1 _ (by omega) rfl⟩⟩
/-- the sets that a generator of trees chooses from -/
def sets8 : List (List (Int × Int)) := [[(97, 97)], [(98, 98)], [(97, 98)], [(99, 99)], [(97, 99)], [(0, 96), (98, 255)], [(10, 10), (97, 97)], []]
theorem sets8_ok : ∀ l ∈ sets8, l.length ≤ 2 ∧ (∀ s ∈ l, 0 ≤ s.1 ∧ s.1 ≤ s.2 ∧ s.2 ≤ 255) ∧ ∀ j : Fin 2, ∀ (h : j.val + 1 < l.length), (l[j.val]'(by omega)).2 + 1 < l[j.val + 1].1 := by decide
/-- what a node's fields may be: operation, bounds, mode, number, sign, spans, how many kids -/
inductive Shape : Int → Int → Int → Int → Int → Bool → List (Int × Int) → Nat → Prop
  | empty : Shape 0 0 0 0 0 false [] 0
  | set (l : List (Int × Int)) (h1 : l ∈ sets8) : Shape 1 0 0 0 0 false l 0
  | cat (m : Nat) (h1 : 2 ≤ m) (h2 : m ≤ 3) : Shape 2 0 0 0 0 false [] m
  | alt (m : Nat) (h1 : 2 ≤ m) (h2 : m ≤ 3) : Shape 3 0 0 0 0 false [] m
  | rep (mn mx mo : Nat) (h1 : mn ≤ 2) (h2 : 1 ≤ mx) (h3 : mx ≤ 3) (h4 : mo ≤ 2) : Shape 4 mn mx mo 0 false [] 1
  | star (mn mo : Nat) (h1 : mn ≤ 2) (h4 : mo ≤ 2) : Shape 4 mn (-1) mo 0 false [] 1
  | cap (n : Nat) (h1 : 1 ≤ n) (h2 : n ≤ 4) : Shape 5 0 0 0 n false [] 1
  | ref (n : Nat) (h1 : 1 ≤ n) (h2 : n ≤ 4) : Shape 6 0 0 0 n false [] 0
  | ahead (b : Bool) : Shape 7 0 0 0 0 b [] 1
  | behind (b : Bool) : Shape 8 0 0 0 0 b [] 1
  | atom : Shape 9 0 0 0 0 false [] 1
  | cond (n : Nat) (h1 : 1 ≤ n) (h2 : n ≤ 4) : Shape 10 0 0 0 n false [] 2
  | assert (n : Nat) (h1 : n ≤ 5) : Shape 11 0 0 0 n false [] 0
theorem Shape.len {op mn mx mo n : Int} {b : Bool} {l : List (Int × Int)} {m : Nat} (h : Shape op mn mx mo n b l m) : m ≤ 3 := by cases h <;> omega
def Node (t : VT) : Prop := Shape t.op t.mn t.mx t.mo t.n t.neg t.spans t.kids.length
/-- a tree lies in memory, B holds of its blocks -/
inductive TreeAt (w : World) (B : Nat → Prop) : VT → Prop
  | mk (t : VT) (node : Node t) (set : SeesP w t.set t.spans) (kids : SeesT w t.kidv t.kids) (setB : ∀ g, Value.leads t.set = some g → B g) (kidB : ∀ g, Value.leads t.kidv = some g → B g) (rec : ∀ k ∈ t.kids, TreeAt w B k) : TreeAt w B t
section
variable {w w' : World} {B : Nat → Prop} {t : VT}
theorem TreeAt.node (h : TreeAt w B t) : Node t := by cases h; assumption
theorem TreeAt.len (h : TreeAt w B t) : t.kids.length ≤ 3 := Shape.len h.node
theorem TreeAt.set (h : TreeAt w B t) : SeesP w t.set t.spans := by cases h; assumption
theorem TreeAt.kids (h : TreeAt w B t) : SeesT w t.kidv t.kids := by cases h; assumption
theorem TreeAt.kid (h : TreeAt w B t) : ∀ k ∈ t.kids, TreeAt w B k := by cases h; assumption
theorem TreeAt.at (h : TreeAt w B t) {j : Nat} (hj : j < t.kids.length) : TreeAt w B t.kids[j] := h.kid _ (List.getElem_mem hj)
theorem TreeAt.chg {F : Nat → Prop} (h : TreeAt w B t) (hc : Chg F w w') (hF : ∀ g, B g → ¬ F g) : TreeAt w' B t := by
  induction h with
  | mk t node set kids setB kidB _ ih => exact .mk t node (Sees.chg set hc fun g hg => hF g (setB g hg)) (Sees.chg kids hc fun g hg => hF g (kidB g hg)) setB kidB ih
theorem TreeAt.bel (h : TreeAt w B t) (hb : Below w.heap.size w w') : TreeAt w' B t := h.chg (F := fun _ => False) (Chg.of_below hb) fun _ _ h => h
theorem TreeAt.low {B' : Nat → Prop} (h : TreeAt w B t) (hB : ∀ b, B b → B' b) : TreeAt w B' t := by
  induction h with
  | mk t node set kids setB kidB _ ih => exact .mk t node set kids (fun g hg => hB _ (setB g hg)) (fun g hg => hB _ (kidB g hg)) ih
theorem sees_lt {size : Nat} {v : Value} {xs : List Value} (h : Sees w size v xs) {g : Nat} (hg : Value.leads v = some g) : g < w.heap.size := by
  obtain ⟨A, n, c, rfl, h1, h2, h3⟩ := h
  cases n with
  | zero => cases A <;> cases hg
  | succ m =>
    obtain ⟨b, s, rfl, hb, _⟩ := h3 (by omega)
    cases hg
    exact hb
theorem TreeAt.lies (h : TreeAt w B t) : TreeAt w (fun b => B b ∧ b < w.heap.size) t := by
  induction h with
  | mk t node set kids setB kidB _ ih => exact .mk t node set kids (fun g hg => ⟨setB g hg, sees_lt set hg⟩) (fun g hg => ⟨kidB g hg, sees_lt kids hg⟩) ih
end
/-- how many nodes -/
def VT.num : VT → Nat
  | mk _ _ _ _ _ _ _ _ _ kids => 1 + (kids.attach.map fun k => k.1.num).sum
termination_by t => SizeOf.sizeOf t
decreasing_by
  have := List.sizeOf_lt_of_mem k.2
  simp_wf
  omega
def VT.sum (l : List VT) : Nat := (l.map VT.num).sum
theorem VT.num_eq (t : VT) : t.num = 1 + VT.sum t.kids := by
  cases t with
  | mk a b c d e f g h i kids =>
    rw [VT.num]
    show 1 + _ = 1 + _
    congr 1
    unfold VT.sum
    rw [List.attach_map_val (l := kids) (f := VT.num)]
    rfl
theorem VT.sum_take (l : List VT) {j : Nat} (hj : j < l.length) : VT.sum (l.take (j + 1)) = VT.sum (l.take j) + l[j].num := by
  unfold VT.sum
  rw [List.take_succ_eq_append_getElem hj, List.map_append, List.sum_append]
  simp
theorem VT.sum_le (l : List VT) (j : Nat) : VT.sum (l.take j) ≤ VT.sum l := by
  have : VT.sum l = VT.sum (l.take j) + VT.sum (l.drop j) := by
    unfold VT.sum
    rw [← List.sum_append, ← List.map_append, List.take_append_drop]
  omega
theorem VT.num_le {t : VT} {j : Nat} (hj : j < t.kids.length) : t.kids[j].num + 1 ≤ t.num := by
  have h1 := VT.sum_take t.kids hj
  have h2 := VT.sum_le t.kids (j + 1)
  have h3 := VT.num_eq t
  omega
theorem VT.num_pos (t : VT) : 1 ≤ t.num := by rw [VT.num_eq]; omega
theorem SeesT.load {w wr : World} {A : Option Addr} {cp : Nat} {ts : List VT} (h : SeesT w (.slice A ts.length cp) ts) (hB : Below w.heap.size w wr) {j : Nat} (hj : j < ts.length) :
    ∃ b s, A = some ⟨b, s, none⟩ ∧ wr.cell? ⟨b, s + j * 8, none⟩ = some (.int .i64 ts[j].op) ∧ wr.cell? ⟨b, s + j * 8 + 1, none⟩ = some ts[j].set ∧ wr.cell? ⟨b, s + j * 8 + 2, none⟩ = some ts[j].kidv ∧ wr.cell? ⟨b, s + j * 8 + 3, none⟩ = some (.int .i64 ts[j].mn) ∧
    wr.cell? ⟨b, s + j * 8 + 4, none⟩ = some (.int .i64 ts[j].mx) ∧ wr.cell? ⟨b, s + j * 8 + 5, none⟩ = some (.int .i64 ts[j].mo) ∧ wr.cell? ⟨b, s + j * 8 + 6, none⟩ = some (.int .i64 ts[j].n) ∧ wr.cell? ⟨b, s + j * 8 + 7, none⟩ = some (.bool ts[j].neg) := by
  obtain ⟨A', cp', hA, _, h2⟩ := (h.bel hB).shape
  cases hA
  obtain ⟨b, s, rfl, _, h3⟩ := h2 (by omega)
  exact ⟨b, s, rfl, h3 j hj⟩
theorem SeesP.load {w wr : World} {A : Option Addr} {cp : Nat} {l : List (Int × Int)} (h : SeesP w (.slice A l.length cp) l) (hB : Below w.heap.size w wr) {j : Nat} (hj : j < l.length) :
    ∃ b s, A = some ⟨b, s, none⟩ ∧ wr.cell? ⟨b, s + j * 2, none⟩ = some (.int .i64 l[j].1) ∧ wr.cell? ⟨b, s + j * 2 + 1, none⟩ = some (.int .i64 l[j].2) := by
  obtain ⟨A', cp', hA, _, h2⟩ := (h.bel hB).shape
  cases hA
  obtain ⟨b, s, rfl, _, h3⟩ := h2 (by omega)
  exact ⟨b, s, rfl, h3 j hj⟩
/-- the cells of a node's block -/
theorem Blk.eight {w : World} {R : Nat} {a0 a1 a2 a3 a4 a5 a6 a7 : Value} (h : Blk w R 51 #[a0, a1, a2, a3, a4, a5, a6, a7]) :
    w.cell? ⟨R, 0, none⟩ = some a0 ∧ w.cell? ⟨R, 1, none⟩ = some a1 ∧ w.cell? ⟨R, 2, none⟩ = some a2 ∧ w.cell? ⟨R, 3, none⟩ = some a3 ∧ w.cell? ⟨R, 4, none⟩ = some a4 ∧ w.cell? ⟨R, 5, none⟩ = some a5 ∧ w.cell? ⟨R, 6, none⟩ = some a6 ∧ w.cell? ⟨R, 7, none⟩ = some a7 :=
  ⟨h.at' 0, h.at' 1, h.at' 2, h.at' 3, h.at' 4, h.at' 5, h.at' 6, h.at' 7⟩
theorem Blk.thaw8 {w : World} {R : Nat} {cs : Array Value} {t : TypeId} (h : Blk w R t cs) :
    w.frozen? ⟨R, 0, none⟩ = false ∧ w.frozen? ⟨R, 1, none⟩ = false ∧ w.frozen? ⟨R, 2, none⟩ = false ∧ w.frozen? ⟨R, 3, none⟩ = false ∧ w.frozen? ⟨R, 4, none⟩ = false ∧ w.frozen? ⟨R, 5, none⟩ = false ∧ w.frozen? ⟨R, 6, none⟩ = false ∧ w.frozen? ⟨R, 7, none⟩ = false :=
  ⟨h.thaw 0, h.thaw 1, h.thaw 2, h.thaw 3, h.thaw 4, h.thaw 5, h.thaw 6, h.thaw 7⟩
theorem Blk.put8 {w : World} {R : Nat} {ty : TypeId} {a0 a1 a2 a3 a4 a5 a6 a7 : Value} (h : Blk w R ty #[a0, a1, a2, a3, a4, a5, a6, a7]) (b0 b1 b2 b3 b4 b5 b6 b7 : Value) :
    Blk ((((((((w.setCell ⟨R, 0, none⟩ b0).setCell ⟨R, 1, none⟩ b1).setCell ⟨R, 2, none⟩ b2).setCell ⟨R, 3, none⟩ b3).setCell ⟨R, 4, none⟩ b4).setCell ⟨R, 5, none⟩ b5).setCell ⟨R, 6, none⟩ b6).setCell ⟨R, 7, none⟩ b7) R ty #[b0, b1, b2, b3, b4, b5, b6, b7] := by
  have := (((((((h.put 0 b0).put 1 b1).put 2 b2).put 3 b3).put 4 b4).put 5 b5).put 6 b6).put 7 b7
  simpa using this
theorem Chg.put8 {F : Nat → Prop} {a w : World} {R : Nat} (h : Chg F a w) (hR : a.heap.size ≤ R ∨ F R) (b0 b1 b2 b3 b4 b5 b6 b7 : Value) :
    Chg F a ((((((((w.setCell ⟨R, 0, none⟩ b0).setCell ⟨R, 1, none⟩ b1).setCell ⟨R, 2, none⟩ b2).setCell ⟨R, 3, none⟩ b3).setCell ⟨R, 4, none⟩ b4).setCell ⟨R, 5, none⟩ b5).setCell ⟨R, 6, none⟩ b6).setCell ⟨R, 7, none⟩ b7) :=
  (((((((h.setCell (p := ⟨R, 0, none⟩) hR b0).setCell (p := ⟨R, 1, none⟩) hR b1).setCell (p := ⟨R, 2, none⟩) hR b2).setCell (p := ⟨R, 3, none⟩) hR b3).setCell (p := ⟨R, 4, none⟩) hR b4).setCell (p := ⟨R, 5, none⟩) hR b5).setCell (p := ⟨R, 6, none⟩) hR b6).setCell (p := ⟨R, 7, none⟩) hR b7
theorem sizeRe : (Tryz.prog.info? 51).map (·.size) = some 8 := by kernel_rfl
/-- a result that lies in a block of its own -/
theorem results_re {fn : Func} {p : Tmp} (h : fn.results = #[.cell p 51]) (tmps : Array Value) (w : World) (g : Nat) {a0 a1 a2 a3 a4 a5 a6 a7 : Value}
    (hp : tmps.getD p undef = .pointer (some ⟨g, 0, none⟩)) (hg : Blk w g 51 #[a0, a1, a2, a3, a4, a5, a6, a7]) :
    (results fn tmps).run Tryz.prog w = .ok (.agg #[a0, a1, a2, a3, a4, a5, a6, a7]) w :=
  results_cell_row h tmps w g 51 _ (0, 0) _ hp hg Tryz.underlying51 rfl sizeRe
end Go.Proofs.YtdacamjpcdbphaaGreatDoor
namespace Go.Proofs.YtdacamjpcdbphaaGreatDoor
open Go Go.RowKit

/-- an argument that is a slice of numbers -/
structure SlArg (w : World) (x : Value) (l : List Int) : Prop where
  val : ∃ a c, x = .slice a l.length c ∧ (l ≠ [] → ∃ b off, a = some ⟨b, off, none⟩ ∧ b < w.heap.size ∧ ∀ (i : Nat) (z : Int), l[i]? = some z → w.cell? ⟨b, off + i, none⟩ = some (.int .i64 z))
  len : l.length ≤ 9223372036854775807
  bd : ∀ z ∈ l, -9223372036854775808 ≤ z ∧ z ≤ 9223372036854775807
theorem SlArg.below {w w' : World} {x : Value} {l : List Int} (h : SlArg w x l) (hb : Below w.heap.size w w') : SlArg w' x l := by
  obtain ⟨a, c, hx, h1⟩ := h.val
  refine ⟨⟨a, c, hx, fun hl => ?_⟩, h.len, h.bd⟩
  obtain ⟨b, off, ha, hb1, h2⟩ := h1 hl
  exact ⟨b, off, ha, Nat.lt_of_lt_of_le hb1 hb.size, fun i z hz => (hb.cell (p := ⟨b, off + i, none⟩) hb1).trans (h2 i z hz)⟩
theorem SlArg.chg {F : Nat → Prop} {w w' : World} {x : Value} {l : List Int} (h : SlArg w x l) (hc : Chg F w w') (hF : ∀ g, Value.leads x = some g → ¬ F g) : SlArg w' x l := by
  obtain ⟨a, c, hx, h1⟩ := h.val
  refine ⟨⟨a, c, hx, fun hl => ?_⟩, h.len, h.bd⟩
  obtain ⟨b, off, rfl, hb1, h2⟩ := h1 hl
  subst hx
  refine ⟨b, off, rfl, Nat.lt_of_lt_of_le hb1 hc.size, fun i z hz => (hc.cell (p := ⟨b, off + i, none⟩) hb1 (hF b ?_)).trans (h2 i z hz)⟩
  cases l with
  | nil => exact absurd rfl hl
  | cons => rfl
def arnd (z : Int) (m : Nat) : Int := (if z < 0 then -(z + 1) else z) % (m : Int)
set_option maxRecDepth 1000000 in
theorem around_walk (z : Int) (m : Nat) (w : World) (hm : 0 < m) (h1 : -9223372036854775808 ≤ z) (h2 : z ≤ 9223372036854775807) (h3 : (m : Int) ≤ 100000000) :
    Calls Tryz.prog 16 #[.int .i64 z, .int .i64 (m : Int)] w fun e w' => e = .returned (.int .i64 (arnd z m)) ∧ w' = w := by
  go_enter Tryz.func16, Tryz.ntmps16
  go_wp2
  · rename_i hn
    go_ret
    refine ⟨?_, rfl⟩
    unfold arnd
    rw [if_pos hn, ← Int.neg_tmod, Int.tmod_eq_emod_of_nonneg (by omega)]; rfl
  · rename_i hn
    go_ret
    refine ⟨?_, rfl⟩
    unfold arnd
    rw [if_neg (by omega)]; rfl
theorem arnd_bd (z : Int) {m : Nat} (hm : 0 < m) : ∃ k : Nat, k < m ∧ arnd z m = (k : Int) := by
  unfold arnd
  obtain ⟨k, hk⟩ := Int.eq_ofNat_of_zero_le (Int.emod_nonneg (if z < 0 then -(z + 1) else z) (show (m : Int) ≠ 0 by omega))
  refine ⟨k, ?_, hk⟩
  have := Int.emod_lt_of_pos (if z < 0 then -(z + 1) else z) (show (0 : Int) < (m : Int) by omega)
  omega
set_option maxRecDepth 1000000 in
/-- Pick, at any place -/
theorem pick_any {w : World} {x : Value} {l : List Int} (h : SlArg w x l) (i : Int) (m : Nat) (hm : 0 < m) (hm2 : (m : Int) ≤ 100000000) :
    Calls Tryz.prog 18 #[x, .int .i64 i, .int .i64 (m : Int)] w fun e w' => ∃ k : Nat, k < m ∧ e = .returned (.int .i64 (k : Int)) ∧ w' = w := by
  obtain ⟨a, c, rfl, h1⟩ := h.val
  have hlen := h.len
  by_cases h0 : i < 0
  · go_enter Tryz.func18, Tryz.ntmps18
    go_wp2_with fail
    go_ret
    exact ⟨0, hm, rfl, rfl⟩
  obtain ⟨j, rfl⟩ : ∃ j : Nat, i = j := Int.eq_ofNat_of_zero_le (by omega)
  by_cases hil : j < l.length
  · obtain ⟨b, off, rfl, hb, h2⟩ := h1 (by intro e; rw [e] at hil; simp at hil)
    have hc := h2 j l[j] (List.getElem?_eq_getElem hil)
    have hbd := h.bd l[j] (List.getElem_mem hil)
    obtain ⟨z, hz⟩ : ∃ z, l[j] = z := ⟨_, rfl⟩
    rw [hz] at hc hbd
    clear hz h1 h2
    obtain ⟨k, hk, hkz⟩ := arnd_bd z hm
    have ha := fun w' => around_walk z m w' hm hbd.1 hbd.2 hm2
    rw [hkz] at ha
    clear hkz
    have hj : (j : Int) < (l.length : Int) := by omega
    go_enter Tryz.func18, Tryz.ntmps18
    go_wp2_with (first
      | (go_at_call 16; refine (ha _).mono ?_; rintro _ w1 ⟨rfl, rfl⟩)
      | go_in)
    go_ret
    exact ⟨k, hk, rfl, rfl⟩
  · have hj : (l.length : Int) ≤ (j : Int) := by omega
    go_enter Tryz.func18, Tryz.ntmps18
    go_wp2_with fail
    go_ret
    exact ⟨0, hm, rfl, rfl⟩
/-- a maker in the block mb, its numbers in a block ahead of it -/
def MkAt (w : World) (mb : Nat) : Prop := ∃ (A : Option Addr) (c : Nat) (l : List Int) (at' uses left : Int) (caps : Nat),
  Blk w mb 90 #[.slice A l.length c, .int .i64 at', .int .i64 uses, .int .i64 left, .int .i64 (caps : Int)] ∧ SlArg w (.slice A l.length c) l ∧ (∀ g, Value.leads (.slice A l.length c) = some g → g < mb) ∧ caps ≤ 4
theorem MkAt.lt {w : World} {mb : Nat} (h : MkAt w mb) : mb < w.heap.size := by
  obtain ⟨A, c, l, a1, a2, a3, a4, hb, _⟩ := h
  exact hb.lt
theorem MkAt.chg {F : Nat → Prop} {w w' : World} {mb : Nat} (h : MkAt w mb) (hc : Chg F w w') (hF : ∀ g, g ≤ mb → ¬ F g) : MkAt w' mb := by
  obtain ⟨A, c, l, a1, a2, a3, a4, hb, hs, hl, h4⟩ := h
  exact ⟨A, c, l, a1, a2, a3, a4, hb.chg hc (hF _ (Nat.le_refl _)), hs.chg hc (fun g hg => hF g (Nat.le_of_lt (hl g hg))), hl, h4⟩
theorem MkAt.bel {w w' : World} {mb : Nat} (h : MkAt w mb) (hb : Below w.heap.size w w') : MkAt w' mb := h.chg (F := fun _ => False) (Chg.of_below hb) fun _ _ h => h
theorem MkAt.put {w : World} {mb : Nat} {A : Option Addr} {c : Nat} {l : List Int} {cs : Array Value} {i : Nat} {u : Value} (hb : Blk w mb 90 cs) (hs : SlArg w (.slice A l.length c) l) (hl : ∀ g, Value.leads (.slice A l.length c) = some g → g < mb)
    (at' uses left : Int) (caps : Nat) (h4 : caps ≤ 4) (he : cs.setIfInBounds i u = #[.slice A l.length c, .int .i64 at', .int .i64 uses, .int .i64 left, .int .i64 (caps : Int)]) : MkAt (w.setCell ⟨mb, i, none⟩ u) mb := by
  refine ⟨A, c, l, at', uses, left, caps, he ▸ hb.put i u, hs.chg (F := Only mb) ((Chg.refl (Only mb) w).setCell (p := ⟨mb, i, none⟩) (.inr (show Only mb mb from rfl)) u) (fun g hg e => ?_), hl, h4⟩
  have := hl g hg
  have e' : g = mb := e
  omega
theorem Chg.only_put (w : World) (mb i : Nat) (u : Value) : Chg (Only mb) w (w.setCell ⟨mb, i, none⟩ u) := (Chg.refl (Only mb) w).setCell (p := ⟨mb, i, none⟩) (.inr (show Only mb mb from rfl)) u
set_option maxHeartbeats 4000000 in
set_option maxRecDepth 1000000 in
theorem next_walk {w : World} {mb : Nat} (h : MkAt w mb) (m : Nat) (hm : 0 < m) (hm2 : (m : Int) ≤ 1000) :
    Calls Tryz.prog 53 #[.pointer (some ⟨mb, 0, none⟩), .int .i64 (m : Int)] w fun e w' => ∃ k : Nat, k < m ∧ e = .returned (.int .i64 (k : Int)) ∧ MkAt w' mb ∧ Chg (Only mb) w w' := by
  obtain ⟨A, c, l, a1, a2, a3, a4, hb, hs, hl, h4⟩ := h
  have c0 := hb.at' 0
  have c1 := hb.at' 1
  have f1 := hb.thaw 1
  have hlt := hb.lt
  simp at c0 c1
  have hput := fun z => MkAt.put (i := 1) (u := .int .i64 z) hb hs hl z a2 a3 a4 h4 (by rfl)
  have hsl := fun z => hs.chg (F := Only mb) (Chg.only_put w mb 1 (.int .i64 z)) (fun g hg e => by have := hl g hg; have e' : g = mb := e; omega)
  have hpk := fun (z i : Int) => pick_any (w := (w.setCell ⟨mb, 1, none⟩ (.int .i64 z)).drew) ((hsl z).below (Below.refl _ _).drew) i m hm (by omega)
  go_enter Tryz.func53, Tryz.ntmps53
  go_wp2_with fail
  go_region_law
    (first
      | (go_simp; go_at_call 18; refine (hpk _ _).mono ?_; rintro _ w1 ⟨k, hk, rfl, rfl⟩))
  all_goals
    go_wp2
    go_ret
    exact ⟨k, hk, rfl, (hput _).bel (Below.refl _ _).drew, (Chg.only_put w mb 1 _).drew⟩
end Go.Proofs.YtdacamjpcdbphaaGreatDoor
namespace Go.Proofs.YtdacamjpcdbphaaGreatDoor
open Go Go.ChangeShapes Go.WideShapes Go.ChangeAt Go.RowKit Go.Deep

/-! ### A slice of numbers, read before the call and behind it -/
theorem cellsU8 : Tryz.prog.cellsOf 5 = 1 := by kernel_rfl
theorem cellsInt : Tryz.prog.cellsOf 3 = 1 := by kernel_rfl
section
variable {H : Type} {enc : TypeId × Value → H}
set_option maxRecDepth 100000 in
theorem read_ints {W : World} {base : Nat} {v : Value} {d : DataW H} {ps : List MemPlace} (hval : Value.okWide Tryz.prog W .any base 22 v) (h : DataW.Trod enc Tryz.prog W 0 (fun _ => true) true 22 v d ps) :
    ∃ l, SlArg W v l ∧ ∀ W' : World, (∀ b, b < W.heap.size → W'.heap[b]? = W.heap[b]?) → DataW.Trod enc Tryz.prog W' 0 (fun b => decide (b < W.heap.size)) true 22 v d ps := by
  obtain ⟨a0, len, cap, rfl⟩ := okWide_slice Tryz.underlying22 hval
  obtain ⟨fuel, hf⟩ := h
  rcases open_ints Tryz.underlying22 Tryz.underlying3 cellsInt hf with ⟨hcs, hx⟩ | ⟨a, len', cap', zs, hcs, _, hl, hm, hz, hx, hcell, hwz⟩
  · simp [Value.cells] at hcs
    obtain ⟨rfl, rfl, rfl⟩ := hcs
    simp only [Prod.mk.injEq] at hx
    obtain ⟨rfl, rfl⟩ := hx
    refine ⟨[], ⟨⟨none, 0, rfl, fun h => absurd rfl h⟩, by decide, fun z hz => by simp at hz⟩, fun W' _ => ⟨1, ?_⟩⟩
    simp [DataW.trod, Tryz.underlying22, Value.cells]
  · simp [Value.cells] at hcs
    obtain ⟨rfl, rfl, rfl⟩ := hcs
    simp only [Prod.mk.injEq] at hx
    obtain ⟨rfl, rfl⟩ := hx
    simp only [if_true] at hz
    have hmax : cap ≤ 9223372036854775807 := by unfold maxLen at hm; omega
    have hlt : (zs.take len).length = len := by simp; omega
    have hbd : ∀ z ∈ zs, -9223372036854775808 ≤ z ∧ z ≤ 9223372036854775807 := fun z hz => by
      have := hwz z hz
      simp [Lit.wf, IntKind.min, IntKind.max, IntKind.signed, IntKind.bits] at this
      omega
    refine ⟨zs.take len, ⟨⟨some a, cap, by rw [hlt], fun h => ?_⟩, by rw [hlt]; omega, fun z hz => hbd z (List.mem_of_mem_take hz)⟩, fun W' hW' => ?_⟩
    · have hpos : 0 < zs.length := by
        rcases Nat.eq_zero_or_pos zs.length with h0 | h0
        · rw [List.length_eq_zero_iff.1 h0] at h; simp at h
        · exact h0
      obtain ⟨b, off, rfl, hc⟩ := ints_at hcell hpos
      refine ⟨b, off, rfl, ?_, fun i z hi => ?_⟩
      · have := hc 0 hpos
        simp only [World.cell?] at this
        by_cases hb : b < W.heap.size
        · exact hb
        · rw [Array.getElem?_eq_none (by omega)] at this
          simp at this
      · have hi' : (zs.take len)[i]? = some z := hi
        have hil : i < len := by
          have := (List.getElem?_eq_some_iff.1 hi').1
          omega
        rw [List.getElem?_take, if_pos hil] at hi'
        rw [hc i (by have := (List.getElem?_eq_some_iff.1 hi').1; omega)]
        simp [List.getD, hi']
    · refine ⟨2, shut_ints 0 Tryz.underlying22 Tryz.underlying3 cellsInt (Nat.zero_le _) hl hm ?_ (fun i hi => ?_) hwz⟩
      · rcases Nat.eq_zero_or_pos zs.length with h0 | h0
        · split <;> omega
        · obtain ⟨b, off, rfl, hc⟩ := ints_at hcell h0
          have hb : b < W.heap.size := by
            have := hc 0 h0
            simp only [World.cell?] at this
            by_cases hb : b < W.heap.size
            · exact hb
            · rw [Array.getElem?_eq_none (by omega)] at this
              simp at this
          simp [hb, hz]
      · obtain ⟨b, off, rfl, hc⟩ := ints_at hcell (by omega)
        have hci := hcell i hi
        rw [Go.WideShapes.add_plain] at hci ⊢
        rw [← hci]
        have hb : b < W.heap.size := by
          have := hc 0 (by omega)
          simp only [World.cell?] at this
          by_cases hb : b < W.heap.size
          · exact hb
          · rw [Array.getElem?_eq_none (by omega)] at this
            simp at this
        simp only [World.cell?]
        rw [hW' b hb]
end
section
variable {H : Type} {enc : TypeId × Value → H}
/-- the numbers of bytes are bytes -/
theorem bv_ofInts (zs : List Int) (h : ∀ z ∈ zs, 0 ≤ z ∧ z ≤ 255) : bv (zs.map fun z => UInt8.ofNat z.toNat) = zs.map (Value.int .u8) := by
  unfold bv
  rw [List.map_map]
  refine List.map_congr_left fun z hz => ?_
  have := h z hz
  simp only [Function.comp_apply, UInt8.toNat_ofNat']
  congr 1
  omega
set_option maxRecDepth 100000 in
theorem read_bytes {W : World} {base : Nat} {v : Value} {d : DataW H} {ps : List MemPlace} (hval : Value.okWide Tryz.prog W .any base 23 v) (h : DataW.Trod enc Tryz.prog W 0 (fun _ => true) true 23 v d ps) :
    ∃ R, Sees W 1 v (bv R) ∧ ∀ W' : World, (∀ b, b < W.heap.size → W'.heap[b]? = W.heap[b]?) → DataW.Trod enc Tryz.prog W' 0 (fun b => decide (b < W.heap.size)) true 23 v d ps := by
  obtain ⟨a0, len, cap, rfl⟩ := okWide_slice Tryz.underlying23 hval
  obtain ⟨fuel, hf⟩ := h
  rcases open_ints Tryz.underlying23 Tryz.underlying5 cellsU8 hf with ⟨hcs, hx⟩ | ⟨a, len', cap', zs, hcs, _, hl, hm, hz, hx, hcell, hwz⟩
  · simp [Value.cells] at hcs
    obtain ⟨rfl, rfl, rfl⟩ := hcs
    simp only [Prod.mk.injEq] at hx
    obtain ⟨rfl, rfl⟩ := hx
    refine ⟨[], ⟨_, _, _, rfl, rfl, Nat.le_refl _, fun h => absurd rfl h⟩, fun W' _ => ⟨1, ?_⟩⟩
    simp [DataW.trod, Tryz.underlying23, Value.cells]
  · simp [Value.cells] at hcs
    obtain ⟨rfl, rfl, rfl⟩ := hcs
    simp only [Prod.mk.injEq] at hx
    obtain ⟨rfl, rfl⟩ := hx
    simp only [if_true] at hz
    have hlt : (zs.take len).length = len := by simp; omega
    have hbd : ∀ z ∈ zs, 0 ≤ z ∧ z ≤ 255 := fun z hz => by
      have := hwz z hz
      simp [Lit.wf, IntKind.min, IntKind.max, IntKind.signed, IntKind.bits] at this
      omega
    refine ⟨(zs.take len).map fun z => UInt8.ofNat z.toNat, ⟨_, _, _, rfl, ?_, hl, fun h => ?_⟩, fun W' hW' => ?_⟩
    · rw [bv_len, List.length_map, hlt, Nat.mul_one]
    · have hpos : 0 < zs.length := by omega
      obtain ⟨b, off, rfl, hc⟩ := ints_at hcell hpos
      refine ⟨b, off, rfl, ?_, fun i u hi => ?_⟩
      · have := hc 0 hpos
        simp only [World.cell?] at this
        by_cases hb : b < W.heap.size
        · exact hb
        · rw [Array.getElem?_eq_none (by omega)] at this
          simp at this
      · rw [bv_ofInts _ (fun z hz => hbd z (List.mem_of_mem_take hz)), List.getElem?_map] at hi
        cases hg : (zs.take len)[i]? with
        | none => rw [hg] at hi; cases hi
        | some z =>
          rw [hg] at hi
          obtain rfl : Value.int .u8 z = u := Option.some.inj hi
          have hil : i < len := by
            have := (List.getElem?_eq_some_iff.1 hg).1
            omega
          rw [List.getElem?_take, if_pos hil] at hg
          rw [hc i (by have := (List.getElem?_eq_some_iff.1 hg).1; omega)]
          simp [List.getD, hg]
    · refine ⟨2, shut_ints 0 Tryz.underlying23 Tryz.underlying5 cellsU8 (Nat.zero_le _) hl hm ?_ (fun i hi => ?_) hwz⟩
      · rcases Nat.eq_zero_or_pos zs.length with h0 | h0
        · split <;> omega
        · obtain ⟨b, off, rfl, hc⟩ := ints_at hcell h0
          have hb : b < W.heap.size := by
            have := hc 0 h0
            simp only [World.cell?] at this
            by_cases hb : b < W.heap.size
            · exact hb
            · rw [Array.getElem?_eq_none (by omega)] at this
              simp at this
          simp [hb, hz]
      · obtain ⟨b, off, rfl, hc⟩ := ints_at hcell (by omega)
        have hci := hcell i hi
        rw [Go.WideShapes.add_plain] at hci ⊢
        rw [← hci]
        have hb : b < W.heap.size := by
          have := hc 0 (by omega)
          simp only [World.cell?] at this
          by_cases hb : b < W.heap.size
          · exact hb
          · rw [Array.getElem?_eq_none (by omega)] at this
            simp at this
        simp only [World.cell?]
        rw [hW' b hb]
end
section
variable {H : Type} {enc : TypeId × Value → H} {P : Program} {w : World} {base : Nat} {spare : Nat → Bool} {held : Bool}
theorem trodAll_six {t0 t1 t2 t3 t4 t5 : TypeId} {args : Array Value} {ds : List (DataW H)} {ps : List MemPlace} (h : DataW.TrodAll enc P w base spare held [t0, t1, t2, t3, t4, t5] args.toList ds ps) :
    ∃ v0 v1 v2 v3 v4 v5 d0 d1 d2 d3 d4 d5 p0 p1 p2 p3 p4 p5, args = #[v0, v1, v2, v3, v4, v5] ∧ ds = [d0, d1, d2, d3, d4, d5] ∧ ps = p0 ++ p1 ++ p2 ++ p3 ++ p4 ++ p5 ∧ DataW.Trod enc P w base spare held t0 v0 d0 p0 ∧ DataW.Trod enc P w base spare held t1 v1 d1 p1 ∧ DataW.Trod enc P w base spare held t2 v2 d2 p2 ∧ DataW.Trod enc P w base spare held t3 v3 d3 p3 ∧ DataW.Trod enc P w base spare held t4 v4 d4 p4 ∧ DataW.Trod enc P w base spare held t5 v5 d5 p5 := by
  obtain ⟨v0, vs0, d0, e0, p0, q0, hargs, rfl, rfl, h0, r0⟩ := trodAll_cons h
  obtain ⟨v1, vs1, d1, e1, p1, q1, rfl, rfl, rfl, h1, r1⟩ := trodAll_cons r0
  obtain ⟨v2, vs2, d2, e2, p2, q2, rfl, rfl, rfl, h2, r2⟩ := trodAll_cons r1
  obtain ⟨v3, vs3, d3, e3, p3, q3, rfl, rfl, rfl, h3, r3⟩ := trodAll_cons r2
  obtain ⟨v4, vs4, d4, e4, p4, q4, rfl, rfl, rfl, h4, r4⟩ := trodAll_cons r3
  obtain ⟨v5, vs5, d5, e5, p5, q5, rfl, rfl, rfl, h5, r5⟩ := trodAll_cons r4
  obtain ⟨rfl, rfl, rfl⟩ := trodAll_nil r5
  exact ⟨v0, v1, v2, v3, v4, v5, d0, d1, d2, d3, d4, d5, p0, p1, p2, p3, p4, p5, by cases args; simp_all, rfl, by simp, h0, h1, h2, h3, h4, h5⟩
theorem trodAll_mk6 {t0 t1 t2 t3 t4 t5 : TypeId} {v0 v1 v2 v3 v4 v5 : Value} {d0 d1 d2 d3 d4 d5 : DataW H} {p0 p1 p2 p3 p4 p5 : List MemPlace} (h0 : DataW.Trod enc P w base spare held t0 v0 d0 p0) (h1 : DataW.Trod enc P w base spare held t1 v1 d1 p1) (h2 : DataW.Trod enc P w base spare held t2 v2 d2 p2) (h3 : DataW.Trod enc P w base spare held t3 v3 d3 p3) (h4 : DataW.Trod enc P w base spare held t4 v4 d4 p4) (h5 : DataW.Trod enc P w base spare held t5 v5 d5 p5) :
    DataW.TrodAll enc P w base spare held [t0, t1, t2, t3, t4, t5] [v0, v1, v2, v3, v4, v5] [d0, d1, d2, d3, d4, d5] (p0 ++ (p1 ++ (p2 ++ (p3 ++ (p4 ++ p5))))) := ⟨p0, _, h0, ⟨p1, _, h1, trodAll_mk4 h2 h3 h4 h5, rfl⟩, rfl⟩
end
end Go.Proofs.YtdacamjpcdbphaaGreatDoor
namespace Go.Proofs.YtdacamjpcdbphaaGreatDoor
open Go Go.RowKit

theorem bel_box {w wr : World} {o : Obj} (h : Below (w.heap.size + 1) (w.alloc o) wr) : Below w.heap.size w wr := ((Below.refl _ w).alloc (Nat.le_refl _) o).trans (h.mono (by omega))
set_option maxHeartbeats 4000000 in
set_option maxRecDepth 1000000 in
theorem size_walk {B : Nat → Prop} : ∀ (N : Nat) {w : World} {t : VT}, t.num = N → TreeAt w B t → N ≤ 100000 →
    Calls Tryz.prog 58 #[t.val] w fun e w' => e = .returned (.int .i64 (N : Int)) ∧ Below w.heap.size w w' := by
  intro N
  induction N using Nat.strongRecOn with
  | _ N ih =>
  intro w t hN hT hb
  have hnum := VT.num_eq t
  have hlt := fun j hj => VT.num_le (t := t) (j := j) hj
  have hl3 := hT.len
  obtain ⟨op, set, kidv, mn, mx, mo, n, neg, spans, kids⟩ := t
  have hl3 : kids.length ≤ 3 := hl3
  have hK : SeesT w kidv kids := hT.kids
  obtain ⟨A, cp, rfl, hcp, _⟩ := hK.shape
  have hnum' : N = 1 + VT.sum kids := by rw [← hN]; exact hnum
  have hlt' : ∀ (j : Nat) (hj : j < kids.length), kids[j].num < N := fun j hj => by have := hlt j hj; rw [hN] at this; exact this
  have hkid : ∀ k ∈ kids, TreeAt w B k := hT.kid
  clear hnum hlt hN
  show Calls Tryz.prog 58 #[.agg #[.int .i64 op, set, .slice A kids.length cp, .int .i64 mn, .int .i64 mx, .int .i64 mo, .int .i64 n, .bool neg]] w _
  go_enter Tryz.func58, Tryz.ntmps58
  go_wp2
  go_loopw [3, 4] (fun nv iv wr => ∃ j : Nat, j ≤ kids.length ∧ nv = .int .i64 ((1 + VT.sum (kids.take j) : Nat) : Int) ∧ iv = .int .i64 j ∧ Below (w.heap.size + 1) (w.alloc (.cells #[.int .i64 op, set, .slice A kids.length cp, .int .i64 mn, .int .i64 mx, .int .i64 mo, .int .i64 n, .bool neg] 51)) wr) (fun _ iv _ => kids.length - (intOf iv).toNat)
  case atStart => exact ⟨0, Nat.zero_le _, rfl, rfl, Below.refl _ _⟩
  case round =>
    obtain ⟨j, hj, rfl, rfl, hbel⟩ := hrel
    have hb0 := (Blk.made w 51 #[.int .i64 op, set, .slice A kids.length cp, .int .i64 mn, .int .i64 mx, .int .i64 mo, .int .i64 n, .bool neg]).bel hbel (by omega)
    have k2 := hb0.at' 2
    simp at k2
    have hBw := bel_box hbel
    have hs1 := VT.sum_le kids j
    by_cases hjl : j < kids.length
    · obtain ⟨b, s, rfl, q0, q1, q2, q3, q4, q5, q6, q7⟩ := hK.load hBw hjl
      have hs2 := VT.sum_take kids hjl
      have hs3 := VT.sum_le kids (j + 1)
      have hkT := (hkid _ (List.getElem_mem hjl)).bel hBw
      have hl := hlt' j hjl
      have hj1 : (j : Int) < (kids.length : Int) := by omega
      obtain ⟨k, hk⟩ : ∃ k, kids[j] = k := ⟨_, rfl⟩
      rw [hk] at q0 q1 q2 q3 q4 q5 q6 q7 hs2 hkT hl
      have hcall := ih k.num hl rfl hkT (by omega)
      have HS := Lib.hid hs2
      have hsz := hbel.size
      simp at hsz
      clear hk hs2 ih hkT hlt' hkid
      go_wp2_with (first
        | (go_at_call 58; refine hcall.mono ?_; rintro _ w1 ⟨rfl, hB1⟩)
        | go_in)
      go_roundw
      case rel => exact ⟨j + 1, hjl, by rw [HS.out]; go_num, by go_num, hbel.trans (hB1.mono (by omega))⟩
      case measure => simp [intOf]; omega
    · have hje : j = kids.length := by omega
      subst hje
      rw [List.take_length]
      go_wp2_with fail
      go_ret
      exact ⟨by rw [hnum']; rfl, hBw⟩
set_option maxHeartbeats 4000000 in
set_option maxRecDepth 1000000 in
theorem depth_walk {B : Nat → Prop} : ∀ (N : Nat) {w : World} {t : VT}, t.num = N → TreeAt w B t → N ≤ 100000 →
    Calls Tryz.prog 59 #[t.val] w fun e w' => ∃ d : Nat, d ≤ N ∧ e = .returned (.int .i64 (d : Int)) ∧ Below w.heap.size w w' := by
  intro N
  induction N using Nat.strongRecOn with
  | _ N ih =>
  intro w t hN hT hb
  have hnum := VT.num_pos t
  have hlt := fun j hj => VT.num_le (t := t) (j := j) hj
  have hl3 := hT.len
  obtain ⟨op, set, kidv, mn, mx, mo, n, neg, spans, kids⟩ := t
  have hl3 : kids.length ≤ 3 := hl3
  have hK : SeesT w kidv kids := hT.kids
  obtain ⟨A, cp, rfl, hcp, _⟩ := hK.shape
  have hnum' : 1 ≤ N := by rw [← hN]; exact hnum
  have hlt' : ∀ (j : Nat) (hj : j < kids.length), kids[j].num < N := fun j hj => by have := hlt j hj; rw [hN] at this; exact this
  have hkid : ∀ k ∈ kids, TreeAt w B k := hT.kid
  clear hnum hlt hN
  show Calls Tryz.prog 59 #[.agg #[.int .i64 op, set, .slice A kids.length cp, .int .i64 mn, .int .i64 mx, .int .i64 mo, .int .i64 n, .bool neg]] w _
  go_enter Tryz.func59, Tryz.ntmps59
  go_wp2
  go_loopw [3, 4] (fun nv iv wr => ∃ j d : Nat, j ≤ kids.length ∧ d + 1 ≤ N ∧ nv = .int .i64 (d : Int) ∧ iv = .int .i64 j ∧ Below (w.heap.size + 1) (w.alloc (.cells #[.int .i64 op, set, .slice A kids.length cp, .int .i64 mn, .int .i64 mx, .int .i64 mo, .int .i64 n, .bool neg] 51)) wr) (fun _ iv _ => kids.length - (intOf iv).toNat)
  case atStart => exact ⟨0, 0, Nat.zero_le _, hnum', rfl, rfl, Below.refl _ _⟩
  case round =>
    obtain ⟨j, d, hj, hd, rfl, rfl, hbel⟩ := hrel
    have hb0 := (Blk.made w 51 #[.int .i64 op, set, .slice A kids.length cp, .int .i64 mn, .int .i64 mx, .int .i64 mo, .int .i64 n, .bool neg]).bel hbel (by omega)
    have k2 := hb0.at' 2
    simp at k2
    have hBw := bel_box hbel
    by_cases hjl : j < kids.length
    · obtain ⟨b, s, rfl, q0, q1, q2, q3, q4, q5, q6, q7⟩ := hK.load hBw hjl
      have hkT := (hkid _ (List.getElem_mem hjl)).bel hBw
      have hl := hlt' j hjl
      have hj1 : (j : Int) < (kids.length : Int) := by omega
      obtain ⟨k, hk⟩ : ∃ k, kids[j] = k := ⟨_, rfl⟩
      rw [hk] at q0 q1 q2 q3 q4 q5 q6 q7 hkT hl
      have hcall := ih k.num hl rfl hkT (by omega)
      have hsz := hbel.size
      simp at hsz
      clear hk ih hkT hlt' hkid
      go_wp2_with (first
        | (go_at_call 59; refine hcall.mono ?_; rintro _ w1 ⟨d1, hd1, rfl, hB1⟩)
        | go_in)
      go_roundw
      case rel =>
        refine ⟨j + 1, max d d1, hjl, by omega, by go_num, by go_num, hbel.trans (hB1.mono (by omega))⟩
      case measure => simp [intOf]; omega
    · have hje : j = kids.length := by omega
      subst hje
      go_wp2_with fail
      go_ret
      exact ⟨d + 1, hd, by go_num, hBw⟩
end Go.Proofs.YtdacamjpcdbphaaGreatDoor
namespace Go.Proofs.YtdacamjpcdbphaaGreatDoor
open Go Go.RowKit

theorem _root_.Go.RowKit.Below.drewN {B : Nat} {a b : World} (h : Below B a b) (n : Nat) : Below B a (b.drewN n) := ⟨h.os, h.tape, h.output, h.size, h.block⟩
set_option maxHeartbeats 4000000 in
set_option maxRecDepth 1000000 in
theorem spans_walk {w : World} {v : Value} {l : List (Int × Int)} (h : SeesP w v l) (hl : l ∈ sets8) (top : Int) (ht : 255 ≤ top) :
    Calls Tryz.prog 104 #[v, .int .i64 top] w fun e w' => e = .returned (.bool true) ∧ Below w.heap.size w w' := by
  obtain ⟨h2, hin, hsep⟩ := sets8_ok l hl
  obtain ⟨A, cp, rfl, _, _⟩ := h.shape
  have hlen : ¬ (64 : Int) < (l.length : Int) := by omega
  go_enter Tryz.func104, Tryz.ntmps104
  go_wp2
  go_loopw [5] (fun iv wr => ∃ j : Nat, j ≤ l.length ∧ iv = .int .i64 j ∧ Below w.heap.size w wr) (fun iv _ => l.length - (intOf iv).toNat)
  case atStart => exact ⟨0, Nat.zero_le _, rfl, Below.refl _ _⟩
  case round =>
    obtain ⟨j, hj, rfl, hbel⟩ := hrel
    by_cases hjl : j < l.length
    · obtain ⟨b, s, rfl, q0, q1⟩ := h.load hbel hjl
      obtain ⟨i1, i2, i3⟩ := hin _ (List.getElem_mem hjl)
      obtain ⟨lo, hlo⟩ : ∃ x, l[j].1 = x := ⟨_, rfl⟩
      obtain ⟨hi, hhi⟩ : ∃ x, l[j].2 = x := ⟨_, rfl⟩
      rw [hlo] at q0 i1 i2
      rw [hhi] at q1 i2 i3
      have hj1 : (j : Int) < (l.length : Int) := by omega
      have n1 : ¬ lo < 0 := by omega
      have n2 : ¬ hi < lo := by omega
      have n3 : ¬ top < hi := by omega
      have n1' : decide (lo < 0) = false := decide_eq_false n1
      have n2' : decide (hi < lo) = false := decide_eq_false n2
      have n3' : decide (top < hi) = false := decide_eq_false n3
      by_cases hj0 : j = 0
      · subst hj0
        have q0' : wr.cell? ⟨b, s, none⟩ = some (.int .i64 lo) := by simpa using q0
        have q1' : wr.cell? ⟨b, s + 1, none⟩ = some (.int .i64 hi) := by simpa using q1
        have hj1' : 0 < l.length := hjl
        have hj2 : (0 : Int) < (l.length : Int) := by omega
        clear hsep hin hlo hhi q0 q1 hj1
        go_wp2_with fail
        refine wp_region_quiet_lit (by kernel_rfl) (by kernel_rfl) ?_
        repeat (with_reducible refine wpQuiet_step (fun K hK => ?_); go_simp; with_reducible refine hK _ ?_; clear hK K)
        with_reducible refine wpQuiet_nil ?_
        rintro _ ⟨nq, rfl⟩
        go_wp2
        go_roundw
        case rel => exact ⟨1, hjl, by go_num, hbel.drewN _⟩
        case measure => simp [intOf]; omega
      · have hj1e : j = 1 := by omega
        subst hj1e
        have hs := hsep ⟨0, by omega⟩ hjl
        obtain ⟨b', s', hA', p0, p1⟩ := h.load hbel (show 0 < l.length by omega)
        cases hA'
        have b1 := (hin _ (List.getElem_mem (show 0 < l.length by omega))).2.2
        obtain ⟨lo', hlo'⟩ : ∃ x, l[0].1 = x := ⟨_, rfl⟩
        obtain ⟨hi', hhi'⟩ : ∃ x, l[0].2 = x := ⟨_, rfl⟩
        rw [hlo'] at p0
        rw [hhi'] at p1 b1
        have hs' : hi' + 1 < lo := by
          have := hs
          simp only [hhi', hlo] at this
          exact this
        have n4 : ¬ lo ≤ hi' + 1 := by omega
        have n4' : decide (lo ≤ hi' + 1) = false := decide_eq_false n4
        have b0 : 0 ≤ hi' := by have h1 := (hin _ (List.getElem_mem (show 0 < l.length by omega))).1; have h2 := (hin _ (List.getElem_mem (show 0 < l.length by omega))).2.1; rw [hlo'] at h1 h2; rw [hhi'] at h2; omega
        have q0' : wr.cell? ⟨b, s + 2, none⟩ = some (.int .i64 lo) := by simpa using q0
        have q1' : wr.cell? ⟨b, s + 2 + 1, none⟩ = some (.int .i64 hi) := by simpa using q1
        have p1' : wr.cell? ⟨b, s + 1, none⟩ = some (.int .i64 hi') := by simpa using p1
        have hj2 : (1 : Int) < (l.length : Int) := by omega
        have hj3 : (0 : Int) < (l.length : Int) := by omega
        have hj4 : 0 < l.length := by omega
        have hw0 : IntKind.i64.wrap 0 = 0 := by decide
        have hw1 : IntKind.i64.wrap (hi' + 1) = hi' + 1 := wrapS (by omega) (by omega)
        clear hsep hin hlo hhi hlo' hhi' hs q0 q1 p0 p1 hj1 hj0
        go_wp2_with fail
        refine wp_region_quiet_lit (by kernel_rfl) (by kernel_rfl) ?_
        repeat (with_reducible refine wpQuiet_step (fun K hK => ?_); go_simp; with_reducible refine hK _ ?_; clear hK K)
        with_reducible refine wpQuiet_nil ?_
        rintro _ ⟨nq, rfl⟩
        go_wp2
        go_roundw
        case rel => exact ⟨2, by omega, by go_num, hbel.drewN _⟩
        case measure => simp [intOf]; omega
    · have hje : j = l.length := by omega
      subst hje
      go_wp2_with fail
      go_ret
      exact ⟨rfl, hbel⟩
end Go.Proofs.YtdacamjpcdbphaaGreatDoor
namespace Go.Proofs.YtdacamjpcdbphaaGreatDoor
open Go Go.RowKit

/-- what a generator's function leaves: a tree of new blocks, and its maker -/
structure Made (w : World) (mb : Nat) (N : Nat) (t : VT) (w' : World) : Prop where
  tree : TreeAt w' (fun b => w.heap.size ≤ b) t
  num : t.num ≤ N
  maker : MkAt w' mb
  chg : Chg (Only mb) w w'
def treeOf (op : Int) (n : Int) (b : Bool) : VT := .mk op (.slice none 0 0) (.slice none 0 0) 0 0 0 n b [] []
theorem treeAt_leaf (w : World) (B : Nat → Prop) (op n : Int) (b : Bool) (h : Shape op 0 0 0 n b [] 0) : TreeAt w B (treeOf op n b) :=
  .mk _ h (Sees.nil w 2) (Sees.nil w 8) (fun g hg => by cases hg) (fun g hg => by cases hg) (fun k hk => by cases hk)
theorem num_leaf (op n : Int) (b : Bool) : (treeOf op n b).num = 1 := by rw [VT.num_eq]; rfl
def i64s (l : List Int) : Array Value := (l.map fun z => Value.int .i64 z).toArray
/-- set's world ahead of its choice: its result's block, eight sets, the table -/
def setW (w : World) : World :=
  (((((((((w.alloc (.cells #[.int .i64 0, .slice none 0 0, .slice none 0 0, .int .i64 0, .int .i64 0, .int .i64 0, .int .i64 0, .bool false] 51)).alloc
    (.cells #[.int .i64 97, .int .i64 97] 158)).alloc (.cells #[.int .i64 98, .int .i64 98] 158)).alloc (.cells #[.int .i64 97, .int .i64 98] 158)).alloc
    (.cells #[.int .i64 99, .int .i64 99] 158)).alloc (.cells #[.int .i64 97, .int .i64 99] 158)).alloc (.cells #[.int .i64 0, .int .i64 96, .int .i64 98, .int .i64 255] 158)).alloc
    (.cells #[.int .i64 10, .int .i64 10, .int .i64 97, .int .i64 97] 158)).alloc (.cells #[] 158)).alloc
    (.cells #[.slice (some ⟨w.heap.size + 1, 0, none⟩) 1 1, .slice (some ⟨w.heap.size + 1 + 1, 0, none⟩) 1 1, .slice (some ⟨w.heap.size + 1 + 1 + 1, 0, none⟩) 1 1, .slice (some ⟨w.heap.size + 1 + 1 + 1 + 1, 0, none⟩) 1 1, .slice (some ⟨w.heap.size + 1 + 1 + 1 + 1 + 1, 0, none⟩) 1 1, .slice (some ⟨w.heap.size + 1 + 1 + 1 + 1 + 1 + 1, 0, none⟩) 2 2, .slice (some ⟨w.heap.size + 1 + 1 + 1 + 1 + 1 + 1 + 1, 0, none⟩) 2 2, .slice (some ⟨w.heap.size + 1 + 1 + 1 + 1 + 1 + 1 + 1 + 1, 0, none⟩) 0 0] 48)
theorem setW_size (w : World) : (setW w).heap.size = w.heap.size + 10 := by simp [setW]
theorem setW_below (w : World) : Below w.heap.size w (setW w) := by
  unfold setW
  refine Below.alloc (Below.alloc (Below.alloc (Below.alloc (Below.alloc (Below.alloc (Below.alloc (Below.alloc (Below.alloc (Below.alloc (Below.refl _ w) ?_ _) ?_ _) ?_ _) ?_ _) ?_ _) ?_ _) ?_ _) ?_ _) ?_ _) ?_ _ <;> simp <;> omega
theorem push_at {w : World} {o : Obj} {i : Nat} (h : i < w.heap.size) : (w.alloc o).heap[i]? = w.heap[i]? := Below.heap_alloc w o i h
theorem push_new {w : World} {o : Obj} {i : Nat} (h : i = w.heap.size) : (w.alloc o).heap[i]? = some o := by
  subst h; exact heap_alloc_new w o
theorem setW_res (w : World) : Blk (setW w) w.heap.size 51 #[.int .i64 0, .slice none 0 0, .slice none 0 0, .int .i64 0, .int .i64 0, .int .i64 0, .int .i64 0, .bool false] := by
  unfold Blk setW
  repeat (first | exact push_new (by simp) | refine (push_at (by first | (simp; done) | (simp; omega))).trans ?_)
/-- one of the eight sets, and where it lies -/
theorem setW_at (w : World) : ∀ q, q < 8 → ∃ sl l g, (setW w).cell? ⟨w.heap.size + 9, q, none⟩ = some (.slice (some ⟨g, 0, none⟩) sl sl) ∧ l ∈ sets8 ∧ l.length = sl ∧ Blk (setW w) g 158 (l.flatMap spanCells).toArray ∧ w.heap.size < g ∧ g < w.heap.size + 10 := by
  have ht : (setW w).heap[w.heap.size + 9]? = some (.cells #[.slice (some ⟨w.heap.size + 1, 0, none⟩) 1 1, .slice (some ⟨w.heap.size + 1 + 1, 0, none⟩) 1 1, .slice (some ⟨w.heap.size + 1 + 1 + 1, 0, none⟩) 1 1, .slice (some ⟨w.heap.size + 1 + 1 + 1 + 1, 0, none⟩) 1 1, .slice (some ⟨w.heap.size + 1 + 1 + 1 + 1 + 1, 0, none⟩) 1 1, .slice (some ⟨w.heap.size + 1 + 1 + 1 + 1 + 1 + 1, 0, none⟩) 2 2, .slice (some ⟨w.heap.size + 1 + 1 + 1 + 1 + 1 + 1 + 1, 0, none⟩) 2 2, .slice (some ⟨w.heap.size + 1 + 1 + 1 + 1 + 1 + 1 + 1 + 1, 0, none⟩) 0 0] 48 (0, 0)) := by
    unfold setW
    exact push_new (by simp)
  intro q hq
  have hc : (setW w).cell? ⟨w.heap.size + 9, q, none⟩ = (#[Value.slice (some ⟨w.heap.size + 1, 0, none⟩) 1 1, .slice (some ⟨w.heap.size + 1 + 1, 0, none⟩) 1 1, .slice (some ⟨w.heap.size + 1 + 1 + 1, 0, none⟩) 1 1, .slice (some ⟨w.heap.size + 1 + 1 + 1 + 1, 0, none⟩) 1 1, .slice (some ⟨w.heap.size + 1 + 1 + 1 + 1 + 1, 0, none⟩) 1 1, .slice (some ⟨w.heap.size + 1 + 1 + 1 + 1 + 1 + 1, 0, none⟩) 2 2, .slice (some ⟨w.heap.size + 1 + 1 + 1 + 1 + 1 + 1 + 1, 0, none⟩) 2 2, .slice (some ⟨w.heap.size + 1 + 1 + 1 + 1 + 1 + 1 + 1 + 1, 0, none⟩) 0 0])[q]? := by
    simp [World.cell?, ht]
  match q, hq with
  | 0, _ => exact ⟨1, [(97, 97)], _, hc, by decide, rfl, by unfold Blk setW; repeat (first | exact push_new (by simp) | refine (push_at (by first | (simp; done) | (simp; omega))).trans ?_), by omega, by omega⟩
  | 1, _ => exact ⟨1, [(98, 98)], _, hc, by decide, rfl, by unfold Blk setW; repeat (first | exact push_new (by simp) | refine (push_at (by first | (simp; done) | (simp; omega))).trans ?_), by omega, by omega⟩
  | 2, _ => exact ⟨1, [(97, 98)], _, hc, by decide, rfl, by unfold Blk setW; repeat (first | exact push_new (by simp) | refine (push_at (by first | (simp; done) | (simp; omega))).trans ?_), by omega, by omega⟩
  | 3, _ => exact ⟨1, [(99, 99)], _, hc, by decide, rfl, by unfold Blk setW; repeat (first | exact push_new (by simp) | refine (push_at (by first | (simp; done) | (simp; omega))).trans ?_), by omega, by omega⟩
  | 4, _ => exact ⟨1, [(97, 99)], _, hc, by decide, rfl, by unfold Blk setW; repeat (first | exact push_new (by simp) | refine (push_at (by first | (simp; done) | (simp; omega))).trans ?_), by omega, by omega⟩
  | 5, _ => exact ⟨2, [(0, 96), (98, 255)], _, hc, by decide, rfl, by unfold Blk setW; repeat (first | exact push_new (by simp) | refine (push_at (by first | (simp; done) | (simp; omega))).trans ?_), by omega, by omega⟩
  | 6, _ => exact ⟨2, [(10, 10), (97, 97)], _, hc, by decide, rfl, by unfold Blk setW; repeat (first | exact push_new (by simp) | refine (push_at (by first | (simp; done) | (simp; omega))).trans ?_), by omega, by omega⟩
  | 7, _ => exact ⟨0, [], _, hc, by decide, rfl, by unfold Blk setW; repeat (first | exact push_new (by simp) | refine (push_at (by first | (simp; done) | (simp; omega))).trans ?_), by omega, by omega⟩
  | n + 8, h => exact absurd h (by omega)
theorem sees_blk {w : World} {g : Nat} {t : TypeId} {xs : List Value} {n size : Nat} (h : Blk w g t xs.toArray) (hl : xs.length = n * size) : Sees w size (.slice (some ⟨g, 0, none⟩) n n) xs :=
  ⟨_, _, _, rfl, hl, Nat.le_refl _, fun _ => ⟨g, 0, rfl, h.lt, fun i u hi => by rw [Nat.zero_add, h.at' i]; simpa using hi⟩⟩
set_option maxHeartbeats 4000000 in
set_option maxRecDepth 1000000 in
theorem set_walk {w : World} {mb : Nat} (h : MkAt w mb) :
    Calls Tryz.prog 54 #[.pointer (some ⟨mb, 0, none⟩)] w fun e w' => ∃ t, e = .returned t.val ∧ Made w mb 1 t w' := by
  have hlt := h.lt
  have hn := next_walk (h.bel (setW_below w)) 15 (by omega) (by omega)
  have hat := setW_at w
  have hres := setW_res w
  have hsz := setW_size w
  have hbel := setW_below w
  go_enter Tryz.func54, Tryz.ntmps54
  go_wp2_with fail
  refine (show Calls Tryz.prog 53 #[.pointer (some ⟨mb, 0, none⟩), .int .i64 15] (setW w) _ from hn).mono ?_
  clear hn
  rintro _ w1 ⟨k, hk, rfl, hM1, hC1⟩
  obtain ⟨sl, l, g, hc, hl8, hll, hblk, hg1, hg2⟩ := hat (k / 2) (by omega)
  have hne : ∀ g, w.heap.size ≤ g → ¬ Only mb g := fun g hg e => by have e' : g = mb := e; omega
  have hc1 := (hC1.cell (p := ⟨w.heap.size + 9, k / 2, none⟩) (by simp; omega) (hne _ (by simp))).trans hc
  have hblk1 := hblk.chg hC1 (hne _ (by omega))
  have hgR : g ≠ w.heap.size := by omega
  have hres1 := hres.chg hC1 (hne _ (Nat.le_refl _))
  have hs1 := hC1.size
  rw [hsz] at hs1
  have hk2 : (0 : Int) ≤ (k : Int) / 2 := by omega
  have hk3 : (k : Int) / 2 < 8 := by omega
  obtain ⟨z0, z1, z2, z3, z4, z5, z6, z7⟩ := hres1.eight
  obtain ⟨y0, y1, y2, y3, y4, y5, y6, y7⟩ := hres1.thaw8
  have hR : w.heap.size < w1.heap.size := by omega
  clear hat hc hblk hres
  go_wp2
  have hfin := hres1.put8 (.int .i64 1) (.slice (some ⟨g, 0, none⟩) sl sl) (.slice none 0 0) (.int .i64 0) (.int .i64 0) (.int .i64 0) (.int .i64 0) (.bool false)
  have hchg : Chg (Only mb) w w1 := (Chg.of_below hbel).trans hC1 fun _ _ h => h
  have hc8 := (Chg.refl (fun b => b = w.heap.size) w1).put8 (R := w.heap.size) (.inr rfl) (.int .i64 1) (.slice (some ⟨g, 0, none⟩) sl sl) (.slice none 0 0) (.int .i64 0) (.int .i64 0) (.int .i64 0) (.int .i64 0) (.bool false)
  refine bodyPost_ret (results_re rfl _ _ w.heap.size rfl hfin) rfl ?_
  subst hll
  have hb2 := hblk1.chg hc8 (fun e => hgR e)
  refine ⟨.mk 1 (.slice (some ⟨g, 0, none⟩) l.length l.length) (.slice none 0 0) 0 0 0 0 false l [], rfl, ⟨.mk _ (Shape.set l hl8) (sees_blk hb2 (by rw [flat_len spanCells 2 fun _ => rfl]; rfl)) (Sees.nil _ 8) (fun b hb => ?_) (fun b hb => by cases hb) (fun k hk => by cases hk), ?_, hM1.chg hc8 (fun b hb e => by have e' : b = w.heap.size := e; omega), ?_⟩⟩
  · have : b = g := by
      cases hq : l.length with
      | zero => rw [show VT.set _ = .slice (some ⟨g, 0, none⟩) l.length l.length from rfl, hq] at hb; cases hb
      | succ n => rw [show VT.set _ = .slice (some ⟨g, 0, none⟩) l.length l.length from rfl, hq] at hb; cases hb; rfl
    omega
  · rw [VT.num_eq]; exact Nat.le_refl _
  · exact hchg.put8 (.inl (Nat.le_refl _)) _ _ _ _ _ _ _ _
end Go.Proofs.YtdacamjpcdbphaaGreatDoor
namespace Go.Proofs.YtdacamjpcdbphaaGreatDoor
open Go Go.RowKit

theorem infoRe : (Tryz.prog.info? 51).map (fun i => (i.zero, i.size, i.bytes)) = some (some (.agg #[.int .i64 0, .slice none 0 0, .slice none 0 0, .int .i64 0, .int .i64 0, .int .i64 0, .int .i64 0, .bool false]), 8, 96) := by kernel_rfl
theorem TreeAt.one {w : World} {B : Nat → Prop} {t : VT} (h : TreeAt w B t) : ∀ u ∈ t.cells, u.oneCell' = true := by
  obtain ⟨A, c, h1, _⟩ := h.set.shape
  obtain ⟨A2, c2, h2, _⟩ := h.kids.shape
  intro u hu
  simp only [VT.cells, List.mem_cons, List.not_mem_nil, or_false] at hu
  rcases hu with rfl | rfl | rfl | rfl | rfl | rfl | rfl | rfl
  · rfl
  · rw [h1]; rfl
  · rw [h2]; rfl
  all_goals rfl
/-- tree's contract, down to a depth -/
def TreeSpec (d : Nat) : Prop := ∀ (w : World) (mb : Nat), MkAt w mb → Calls Tryz.prog 38 #[.pointer (some ⟨mb, 0, none⟩), .int .i64 (d : Int)] w fun e w' => ∃ t, e = .returned t.val ∧ Made w mb (4 ^ d) t w'
/-- trees in a row that is new -/
structure Trees (w wr : World) (mb N : Nat) (v : Value) (ts : List VT) : Prop where
  row : wr.ownsRow w.heap.size 51 8 v ts.length (ts.flatMap VT.cells)
  each : ∀ t ∈ ts, TreeAt wr (fun b => w.heap.size ≤ b ∧ v.ownBlock ≠ some b) t ∧ t.num ≤ N
  maker : MkAt wr mb
  chg : Chg (Only mb) w wr
theorem Trees.step {w wr w1 : World} {mb N : Nat} {v : Value} {ts : List VT} (h : Trees w wr mb N v ts) (hmb : mb < w.heap.size) (hM : MkAt w1 mb) (hc : Chg (Only mb) wr w1) : Trees w w1 mb N v ts :=
  ⟨row_only h.row hc (own_ne h.row hmb), fun t ht => ⟨(h.each t ht).1.chg hc fun g hg e => by have e' : g = mb := e; have := hg.1; omega, (h.each t ht).2⟩, hM, h.chg.trans hc fun _ _ h => h⟩
set_option maxHeartbeats 4000000 in
set_option maxRecDepth 1000000 in
theorem kids_walk {d : Nat} (ih : TreeSpec d) (hd : d ≤ 10) {w : World} {mb : Nat} (h : MkAt w mb) :
    Calls Tryz.prog 55 #[.pointer (some ⟨mb, 0, none⟩), .int .i64 ((d : Int) + 1)] w fun e w' => ∃ v ts, e = .returned v ∧ Trees w w' mb (4 ^ d) v ts ∧ 2 ≤ ts.length ∧ ts.length ≤ 3 := by
  obtain ⟨i0, hi0, hz0, hz1, hz2⟩ := info_parts infoRe
  have hlt := h.lt
  have hd1 : IntKind.i64.wrap ((d : Int) + 1 - 1) = (d : Int) := by rw [wrapS (by omega) (by omega)]; omega
  go_enter Tryz.func55, Tryz.ntmps55
  go_wp2
  go_loopw [5, 6] (fun v iv wr => ∃ (j : Nat) (ts : List VT), j ≤ 3 ∧ ts.length = j ∧ iv = .int .i64 j ∧ Trees w wr mb (4 ^ d) v ts) (fun _ iv _ => 3 - (intOf iv).toNat)
  case atStart => exact ⟨0, [], by omega, rfl, rfl, World.ownsRow_nil _ _ _ _, (fun t ht => by cases ht), h, Chg.refl _ _⟩
  case round =>
    obtain ⟨j, ts, hj, hts, rfl, hT⟩ := hrel
    have hn := next_walk hT.maker 2 (by omega) (by omega)
    go_wp2_with fail
    refine hn.mono ?_
    clear hn
    rintro _ w1 ⟨k, hk, rfl, hM1, hC1⟩
    have hT1 := hT.step hlt hM1 hC1
    clear hT hC1
    by_cases hjl : j < 2 + k
    · have hj1 : (j : Int) < 2 + (k : Int) := by omega
      have hi := ih w1 mb hM1
      obtain ⟨A, c, rfl, _⟩ := row_form hT1.row
      go_wp2_with fail
      refine (show Calls Tryz.prog 38 #[.pointer (some ⟨mb, 0, none⟩), .int .i64 (d : Int)] w1 _ from hi).mono ?_
      clear hi
      rintro _ w2 ⟨t, rfl, hMd⟩
      have hT2 := hT1.step hlt hMd.maker hMd.chg
      have ht2 := hMd.tree
      have htn := hMd.num
      have s1 := hT1.chg.size
      have s2 := hT2.chg.size
      have hone := ht2.one
      have hT1r := hT1.row
      clear hT1 hMd
      subst hts
      have h63 : ts.length + 1 ≤ maxLen := by unfold maxLen; omega
      have hby : (ts.length + 1) * 96 ≤ 140737488355328 := by omega
      have hrow := row_chg hT2.row ((Chg.refl (fun _ => False) w2).alloc (.cells #[.int .i64 t.op, t.set, t.kidv, .int .i64 t.mn, .int .i64 t.mx, .int .i64 t.mo, .int .i64 t.n, .bool t.neg] 51)) fun _ _ h => h
      have hsee : Sees (w2.alloc (.cells #[.int .i64 t.op, t.set, t.kidv, .int .i64 t.mn, .int .i64 t.mx, .int .i64 t.mo, .int .i64 t.n, .bool t.neg] 51)) 8 (.slice (some ⟨w2.heap.size, 0, none⟩) 1 1) t.cells := sees_blk (Blk.made w2 51 _) rfl
      have hbs : w.heap.size ≤ (w2.alloc (.cells #[.int .i64 t.op, t.set, t.kidv, .int .i64 t.mn, .int .i64 t.mx, .int .i64 t.mo, .int .i64 t.n, .bool t.neg] 51)).heap.size := by simp; omega
      rw [show t.val = .agg #[.int .i64 t.op, t.set, t.kidv, .int .i64 t.mn, .int .i64 t.mx, .int .i64 t.mo, .int .i64 t.n, .bool t.neg] from rfl]
      go_wp2_with (first
        | (at_builtin; refine wpList_append_sees rfl _ _ 49 rfl i0 _ 96 Tryz.underlying49 hi0 hz0 hz1 hz2 rfl (by decide) _ _ _ rfl hrow _ 1 _ rfl hsee rfl hone h63 hby hbs ?_; intro v3 w3 hrow3 hgrow3 hown3)
        | go_in)
      have hcg := Chg.grown (F := fun g => Value.ownBlock (.slice A ts.length c) = some g) ((Chg.refl (fun g => Value.ownBlock (.slice A ts.length c) = some g) w2).alloc (.cells #[.int .i64 t.op, t.set, t.kidv, .int .i64 t.mn, .int .i64 t.mx, .int .i64 t.mo, .int .i64 t.n, .bool t.neg] 51)) hgrow3 (fun k hk => .inr hk)
      have hlo := fun g hg => (World.ownsRow.lt hT2.row g hg).1
      go_roundw
      case rel =>
        refine ⟨ts.length + 1, ts ++ [t], by omega, by simp, by go_num, by rw [List.length_append, List.flatMap_append]; simpa using hrow3, fun u hu => ?_, hT2.maker.chg hcg fun g hg e => by have := hlo g e; omega, hT2.chg.trans hcg fun g hg e => by have := hlo g e; omega⟩
        rcases List.mem_append.1 hu with hu | hu
        · obtain ⟨u1, u2⟩ := hT2.each u hu
          refine ⟨(u1.lies.chg hcg fun g hg e => hg.1.2 e).low fun b hb => ⟨hb.1.1, fun e => ?_⟩, u2⟩
          rcases hown3 with e3 | ⟨g3, e3, hg3⟩
          · rw [e3] at e; exact hb.1.2 e
          · rw [e3] at e; cases e; have := hb.2; simp at hg3; omega
        · have hut : u = t := by simpa using hu
          subst hut
          refine ⟨(ht2.lies.chg hcg fun g hg e => by have h1 := (World.ownsRow.lt hT1r g e).2; have := hg.1; omega).low fun b hb => ⟨by have := hb.1; omega, fun e => ?_⟩, htn⟩
          rcases hown3 with e3 | ⟨g3, e3, hg3⟩
          · rw [e3] at e; have h1 := (World.ownsRow.lt hT1r b e).2; have := hb.1; omega
          · rw [e3] at e; cases e; have := hb.2; simp at hg3; omega
      case measure => simp [intOf]; omega
    · have hje : ¬ (j : Int) < 2 + (k : Int) := by omega
      subst hts
      obtain ⟨A, c, rfl, _⟩ := row_form hT1.row
      go_wp2_with fail
      go_ret
      exact ⟨_, ts, rfl, hT1, by omega, by omega⟩
end Go.Proofs.YtdacamjpcdbphaaGreatDoor
namespace Go.Proofs.YtdacamjpcdbphaaGreatDoor
open Go Go.RowKit

/-- a node over one new tree -/
theorem Made.one {w w1 w2 : World} {t : VT} {op mn mx mo n : Int} {neg : Bool} {g : Nat} (ht : TreeAt w2 (fun b => w1.heap.size ≤ b) t) (hb : Blk w2 g 51 t.cells.toArray) (hw : w.heap.size ≤ w1.heap.size) (hg : w.heap.size ≤ g)
    (hs : Shape op mn mx mo n neg [] 1) : TreeAt w2 (fun b => w.heap.size ≤ b) (.mk op (.slice none 0 0) (.slice (some ⟨g, 0, none⟩) 1 1) mn mx mo n neg [] [t]) :=
  .mk _ hs (Sees.nil _ 2) (sees_blk hb (by simp [VT.kids, VT.cells])) (fun b hb => by cases hb) (fun b hb => by cases hb; exact hg) (fun k hk => by
    have : k = t := by simpa [VT.kids] using hk
    subst this
    exact ht.low fun b hb => Nat.le_trans hw hb)
theorem num_one (op mn mx mo n : Int) (neg : Bool) (s v : Value) (l : List (Int × Int)) (t : VT) : (VT.mk op s v mn mx mo n neg l [t]).num = 1 + t.num := by
  rw [VT.num_eq]
  show 1 + VT.sum [t] = _
  simp [VT.sum]
/-- the maker's captures -/
theorem MkAt.caps {w : World} {mb : Nat} (h : MkAt w mb) : ∃ (A : Option Addr) (c : Nat) (l : List Int) (a1 a2 a3 : Int) (caps : Nat), Blk w mb 90 #[.slice A l.length c, .int .i64 a1, .int .i64 a2, .int .i64 a3, .int .i64 (caps : Int)] ∧ caps ≤ 4 ∧
    ∀ z : Int, 0 ≤ z → z ≤ 4 → MkAt (w.setCell ⟨mb, 4, none⟩ (.int .i64 z)) mb := by
  obtain ⟨A, c, l, a1, a2, a3, caps, hb, hs, hl, h4⟩ := h
  refine ⟨A, c, l, a1, a2, a3, caps, hb, h4, fun z h0 hn => ?_⟩
  obtain ⟨n, rfl⟩ := Int.eq_ofNat_of_zero_le h0
  exact MkAt.put (i := 4) (u := .int .i64 (n : Int)) hb hs hl a1 a2 a3 n (by omega) (by rfl)
theorem Shape.capZ {z : Int} (h1 : 1 ≤ z) (h2 : z ≤ 4) : Shape 5 0 0 0 z false [] 1 := by
  obtain ⟨n, rfl⟩ := Int.eq_ofNat_of_zero_le (show 0 ≤ z by omega)
  exact .cap n (by omega) (by omega)
/-- how things stand inside a generator's function: its maker, and the block of its result, not yet written -/
structure Mid3 (w wr : World) (mb : Nat) : Prop where
  maker : MkAt wr mb
  chg : Chg (Only mb) w wr
  res : Blk wr w.heap.size 51 #[.int .i64 0, .slice none 0 0, .slice none 0 0, .int .i64 0, .int .i64 0, .int .i64 0, .int .i64 0, .bool false]
theorem Mid3.size {w wr : World} {mb : Nat} (h : Mid3 w wr mb) : w.heap.size + 1 ≤ wr.heap.size := h.res.lt
theorem Mid3.step {w wr w1 : World} {mb : Nat} (h : Mid3 w wr mb) (hmb : mb < w.heap.size) (hM : MkAt w1 mb) (hc : Chg (Only mb) wr w1) : Mid3 w w1 mb :=
  ⟨hM, h.chg.trans hc fun _ _ h => h, h.res.chg hc fun e => by have e' : w.heap.size = mb := e; omega⟩
theorem Mid3.start {w : World} {mb : Nat} (h : MkAt w mb) : Mid3 w (w.alloc (.cells #[.int .i64 0, .slice none 0 0, .slice none 0 0, .int .i64 0, .int .i64 0, .int .i64 0, .int .i64 0, .bool false] 51)) mb :=
  ⟨h.bel ((Below.refl _ w).alloc (Nat.le_refl _) _), Chg.of_below ((Below.refl _ w).alloc (Nat.le_refl _) _), Blk.made w 51 _⟩
/-- a node's cells, as an object -/
def nodeO (t : VT) : Obj := .cells #[.int .i64 t.op, t.set, t.kidv, .int .i64 t.mn, .int .i64 t.mx, .int .i64 t.mo, .int .i64 t.n, .bool t.neg] 51
theorem Mid3.fin {w w4 : World} {mb : Nat} (h : Mid3 w w4 mb) (o : Obj) (b0 b1 b2 b3 b4 b5 b6 b7 : Value) :
    Blk (((((((((w4.alloc o).setCell ⟨w.heap.size, 0, none⟩ b0).setCell ⟨w.heap.size, 1, none⟩ b1).setCell ⟨w.heap.size, 2, none⟩ b2).setCell ⟨w.heap.size, 3, none⟩ b3).setCell ⟨w.heap.size, 4, none⟩ b4).setCell ⟨w.heap.size, 5, none⟩ b5).setCell ⟨w.heap.size, 6, none⟩ b6).setCell ⟨w.heap.size, 7, none⟩ b7) w.heap.size 51 #[b0, b1, b2, b3, b4, b5, b6, b7] :=
  (h.res.alloc o).put8 b0 b1 b2 b3 b4 b5 b6 b7
/-- a node over one new tree, written into the result's block -/
theorem Made.close {w w3 w4 : World} {mb N : Nat} {t : VT} {op mn mx mo n : Int} {neg : Bool} (hlt : mb < w.heap.size) (h2 : Mid3 w w3 mb) (hMd : Made w3 mb N t w4) (hs : Shape op mn mx mo n neg [] 1) :
    Made w mb (N + 1) (.mk op (.slice none 0 0) (.slice (some ⟨w4.heap.size, 0, none⟩) 1 1) mn mx mo n neg [] [t])
      (((((((((w4.alloc (nodeO t)).setCell ⟨w.heap.size, 0, none⟩ (.int .i64 op)).setCell ⟨w.heap.size, 1, none⟩ (.slice none 0 0)).setCell ⟨w.heap.size, 2, none⟩ (.slice (some ⟨w4.heap.size, 0, none⟩) 1 1)).setCell ⟨w.heap.size, 3, none⟩ (.int .i64 mn)).setCell ⟨w.heap.size, 4, none⟩ (.int .i64 mx)).setCell ⟨w.heap.size, 5, none⟩ (.int .i64 mo)).setCell ⟨w.heap.size, 6, none⟩ (.int .i64 n)).setCell ⟨w.heap.size, 7, none⟩ (.bool neg)) := by
  have h5 := h2.step hlt hMd.maker hMd.chg
  have s3 := h2.size
  have s4 := hMd.chg.size
  have hch := (Chg.refl (fun b => b = w.heap.size) (w4.alloc (nodeO t))).put8 (R := w.heap.size) (.inr rfl) (.int .i64 op) (.slice none 0 0) (.slice (some ⟨w4.heap.size, 0, none⟩) 1 1) (.int .i64 mn) (.int .i64 mx) (.int .i64 mo) (.int .i64 n) (.bool neg)
  have hbt := (Blk.made w4 51 #[.int .i64 t.op, t.set, t.kidv, .int .i64 t.mn, .int .i64 t.mx, .int .i64 t.mo, .int .i64 t.n, .bool t.neg]).chg hch (fun e => by have e' : w4.heap.size = w.heap.size := e; omega)
  have hct := ((Chg.refl (fun b => b = w.heap.size) w4).alloc (nodeO t)).trans hch fun _ _ h => h
  have hne : ∀ b, w3.heap.size ≤ b → ¬ (fun b => b = w.heap.size) b := fun b hb e => by have e' : b = w.heap.size := e; omega
  exact ⟨Made.one (w1 := w3) (hMd.tree.chg hct hne) hbt (by omega) (by omega) hs, by rw [num_one]; have := hMd.num; omega,
    hMd.maker.chg hct (fun b hb e => by have e' : b = w.heap.size := e; omega), h5.chg.trans hct fun b hb e => by have e' : b = w.heap.size := e; omega⟩
theorem tree_put {d : Nat} (ih : TreeSpec d) {w wq : World} {mb : Nat} (hlt : mb < w.heap.size) (hq : Mid3 w wq mb) (hput : ∀ z : Int, 0 ≤ z → z ≤ 4 → MkAt (wq.setCell ⟨mb, 4, none⟩ (.int .i64 z)) mb) {z : Int} (h0 : 0 ≤ z) (h4 : z ≤ 4) :
    Calls Tryz.prog 38 #[.pointer (some ⟨mb, 0, none⟩), .int .i64 (d : Int)] (wq.setCell ⟨mb, 4, none⟩ (.int .i64 z)) fun e w4 => ∃ t, e = .returned t.val ∧ Made (wq.setCell ⟨mb, 4, none⟩ (.int .i64 z)) mb (4 ^ d) t w4 ∧ Mid3 w (wq.setCell ⟨mb, 4, none⟩ (.int .i64 z)) mb := by
  refine (ih _ mb (hput z h0 h4)).mono ?_
  rintro _ w4 ⟨t, rfl, hM⟩
  exact ⟨t, rfl, hM, hq.step hlt (hput z h0 h4) (Chg.only_put _ mb 4 _)⟩
set_option maxHeartbeats 8000000 in
set_option maxRecDepth 1000000 in
theorem capture_walk {d : Nat} (ih : TreeSpec d) (hd : d ≤ 10) {w : World} {mb : Nat} (h : MkAt w mb) :
    Calls Tryz.prog 57 #[.pointer (some ⟨mb, 0, none⟩), .int .i64 ((d : Int) + 1)] w fun e w' => ∃ t, e = .returned t.val ∧ Made w mb (4 ^ d + 1) t w' := by
  have hlt := h.lt
  have hd1 : IntKind.i64.wrap ((d : Int) + 1 - 1) = (d : Int) := by rw [wrapS (by omega) (by omega)]; omega
  have h0 := Mid3.start h
  obtain ⟨W0, hW0⟩ : ∃ x, w.alloc (.cells #[.int .i64 0, .slice none 0 0, .slice none 0 0, .int .i64 0, .int .i64 0, .int .i64 0, .int .i64 0, .bool false] 51) = x := ⟨_, rfl⟩
  rw [hW0] at h0
  obtain ⟨A, c, l, a1, a2, a3, caps, hb, h4, hput⟩ := h0.maker.caps
  have c4 := hb.at' 4
  have f4 := hb.thaw 4
  have hltb := hb.lt
  simp at c4
  have hn9 := next_walk h0.maker 9 (by omega) (by omega)
  by_cases hc0 : caps = 0
  · subst hc0
    have hq := h0
    have hqput := hput
    go_enter Tryz.func57, Tryz.ntmps57
    go_wp2_with fail
    all_goals
      refine (tree_put ih hlt hq hqput ?_ ?_).mono ?_
      · omega
      · omega
      rintro _ w4 ⟨t, rfl, hMd, h2⟩
      have h5 := h2.step hlt hMd.maker hMd.chg
      rw [show t.val = .agg #[.int .i64 t.op, t.set, t.kidv, .int .i64 t.mn, .int .i64 t.mx, .int .i64 t.mo, .int .i64 t.n, .bool t.neg] from rfl]
      have hRa := h5.res.alloc (.cells #[.int .i64 t.op, t.set, t.kidv, .int .i64 t.mn, .int .i64 t.mx, .int .i64 t.mo, .int .i64 t.n, .bool t.neg] 51)
      obtain ⟨z0, z1, z2, z3, z4, z5, z6, z7⟩ := hRa.eight
      obtain ⟨y0, y1, y2, y3, y4, y5, y6, y7⟩ := hRa.thaw8
      have hRl := hRa.lt
      go_wp2
      refine bodyPost_ret (results_re rfl _ _ w.heap.size rfl (h5.fin _ _ _ _ _ _ _ _ _)) rfl ?_
      exact ⟨_, rfl, Made.close hlt h2 hMd (Shape.capZ (by omega) (by omega))⟩
  by_cases hc4 : caps = 4
  · subst hc4
    have hq := h0
    have hqput := hput
    have hn4 := next_walk h0.maker 4 (by omega) (by omega)
    go_enter Tryz.func57, Tryz.ntmps57
    go_wp2_with fail
    refine hn4.mono ?_
    clear hn4 hn9
    rintro _ w1 ⟨k, hk, rfl, hM1, hC1⟩
    clear hq hqput
    have hq := h0.step hlt hM1 hC1
    obtain ⟨Aq, cq, lq, q1, q2, q3, capq, hbq, h4q, hqput⟩ := hM1.caps
    have c4q := hbq.at' 4
    have f4q := hbq.thaw 4
    have hltq := hbq.lt
    simp at c4q
    go_wp2_with fail
    all_goals
      refine (tree_put ih hlt hq hqput ?_ ?_).mono ?_
      · omega
      · omega
      rintro _ w4 ⟨t, rfl, hMd, h2⟩
      have h5 := h2.step hlt hMd.maker hMd.chg
      rw [show t.val = .agg #[.int .i64 t.op, t.set, t.kidv, .int .i64 t.mn, .int .i64 t.mx, .int .i64 t.mo, .int .i64 t.n, .bool t.neg] from rfl]
      have hRa := h5.res.alloc (.cells #[.int .i64 t.op, t.set, t.kidv, .int .i64 t.mn, .int .i64 t.mx, .int .i64 t.mo, .int .i64 t.n, .bool t.neg] 51)
      obtain ⟨z0, z1, z2, z3, z4, z5, z6, z7⟩ := hRa.eight
      obtain ⟨y0, y1, y2, y3, y4, y5, y6, y7⟩ := hRa.thaw8
      have hRl := hRa.lt
      go_wp2
      refine bodyPost_ret (results_re rfl _ _ w.heap.size rfl (h5.fin _ _ _ _ _ _ _ _ _)) rfl ?_
      exact ⟨_, rfl, Made.close hlt h2 hMd (Shape.capZ (by omega) (by omega))⟩
  · have hc1 : (0 : Int) < (caps : Int) := by omega
    have hc5 : ¬ (4 : Int) < (caps : Int) + 1 := by omega
    have hc6 : (caps : Int) + 1 ≤ 4 := by omega
    go_enter Tryz.func57, Tryz.ntmps57
    go_wp2_with fail
    refine hn9.mono ?_
    clear hn9
    rintro _ w1 ⟨k9, hk9, rfl, hM1, hC1⟩
    have hq := h0.step hlt hM1 hC1
    obtain ⟨Aq, cq, lq, q1, q2, q3, capq, hbq, h4q, hqput⟩ := hM1.caps
    have c4q := hbq.at' 4
    have f4q := hbq.thaw 4
    have hltq := hbq.lt
    simp at c4q
    by_cases hk0 : k9 = 0
    · subst hk0
      have hnx : ∀ m : Nat, 0 < m → m ≤ 4 → Calls Tryz.prog 53 #[.pointer (some ⟨mb, 0, none⟩), .int .i64 (m : Int)] w1 fun e w' => ∃ k : Nat, k < 4 ∧ e = .returned (.int .i64 (k : Int)) ∧ MkAt w' mb ∧ Chg (Only mb) w1 w' := fun m h1 h2 => by
        refine (next_walk hM1 m h1 (by omega)).mono ?_
        rintro _ w2 ⟨k, hk, rfl, hM2, hC2⟩
        exact ⟨k, by omega, rfl, hM2, hC2⟩
      by_cases hcq : capq ≤ 1
      · have hcq1 : (capq : Int) ≤ 1 := by omega
        go_wp2_with fail
        refine (show Calls Tryz.prog 53 #[.pointer (some ⟨mb, 0, none⟩), .int .i64 1] w1 _ from hnx 1 (by omega) (by omega)).mono ?_
        clear hnx
        rintro _ w2 ⟨k, hk, rfl, hM2, hC2⟩
        have hq2 := hq.step hlt hM2 hC2
        clear hq hqput
        have hq := hq2
        obtain ⟨Ar, cr, lr, r1, r2, r3, capr, hbr, h4r, hqput⟩ := hM2.caps
        have c4r := hbr.at' 4
        have f4r := hbr.thaw 4
        have hltr := hbr.lt
        simp at c4r
        go_wp2_with fail
        all_goals
          refine (tree_put ih hlt hq hqput ?_ ?_).mono ?_
          · omega
          · omega
          rintro _ w4 ⟨t, rfl, hMd, h2⟩
          have h5 := h2.step hlt hMd.maker hMd.chg
          rw [show t.val = .agg #[.int .i64 t.op, t.set, t.kidv, .int .i64 t.mn, .int .i64 t.mx, .int .i64 t.mo, .int .i64 t.n, .bool t.neg] from rfl]
          have hRa := h5.res.alloc (.cells #[.int .i64 t.op, t.set, t.kidv, .int .i64 t.mn, .int .i64 t.mx, .int .i64 t.mo, .int .i64 t.n, .bool t.neg] 51)
          obtain ⟨z0, z1, z2, z3, z4, z5, z6, z7⟩ := hRa.eight
          obtain ⟨y0, y1, y2, y3, y4, y5, y6, y7⟩ := hRa.thaw8
          have hRl := hRa.lt
          go_wp2
          refine bodyPost_ret (results_re rfl _ _ w.heap.size rfl (h5.fin _ _ _ _ _ _ _ _ _)) rfl ?_
          exact ⟨_, rfl, Made.close hlt h2 hMd (Shape.capZ (by omega) (by omega))⟩
      · have hcq1 : ¬ (capq : Int) ≤ 1 := by omega
        go_wp2_with fail
        refine (hnx capq (by omega) (by omega)).mono ?_
        clear hnx
        rintro _ w2 ⟨k, hk, rfl, hM2, hC2⟩
        have hq2 := hq.step hlt hM2 hC2
        clear hq hqput
        have hq := hq2
        obtain ⟨Ar, cr, lr, r1, r2, r3, capr, hbr, h4r, hqput⟩ := hM2.caps
        have c4r := hbr.at' 4
        have f4r := hbr.thaw 4
        have hltr := hbr.lt
        simp at c4r
        go_wp2_with fail
        all_goals
          refine (tree_put ih hlt hq hqput ?_ ?_).mono ?_
          · omega
          · omega
          rintro _ w4 ⟨t, rfl, hMd, h2⟩
          have h5 := h2.step hlt hMd.maker hMd.chg
          rw [show t.val = .agg #[.int .i64 t.op, t.set, t.kidv, .int .i64 t.mn, .int .i64 t.mx, .int .i64 t.mo, .int .i64 t.n, .bool t.neg] from rfl]
          have hRa := h5.res.alloc (.cells #[.int .i64 t.op, t.set, t.kidv, .int .i64 t.mn, .int .i64 t.mx, .int .i64 t.mo, .int .i64 t.n, .bool t.neg] 51)
          obtain ⟨z0, z1, z2, z3, z4, z5, z6, z7⟩ := hRa.eight
          obtain ⟨y0, y1, y2, y3, y4, y5, y6, y7⟩ := hRa.thaw8
          have hRl := hRa.lt
          go_wp2
          refine bodyPost_ret (results_re rfl _ _ w.heap.size rfl (h5.fin _ _ _ _ _ _ _ _ _)) rfl ?_
          exact ⟨_, rfl, Made.close hlt h2 hMd (Shape.capZ (by omega) (by omega))⟩
    · have hk1 : ¬ (k9 : Int) = 0 := by omega
      have hk2 : ((k9 : Int) == 0) = false := by simpa using hk0
      go_wp2_with fail
      all_goals
        refine (tree_put ih hlt hq hqput ?_ ?_).mono ?_
        · omega
        · omega
        rintro _ w4 ⟨t, rfl, hMd, h2⟩
        have h5 := h2.step hlt hMd.maker hMd.chg
        rw [show t.val = .agg #[.int .i64 t.op, t.set, t.kidv, .int .i64 t.mn, .int .i64 t.mx, .int .i64 t.mo, .int .i64 t.n, .bool t.neg] from rfl]
        have hRa := h5.res.alloc (.cells #[.int .i64 t.op, t.set, t.kidv, .int .i64 t.mn, .int .i64 t.mx, .int .i64 t.mo, .int .i64 t.n, .bool t.neg] 51)
        obtain ⟨z0, z1, z2, z3, z4, z5, z6, z7⟩ := hRa.eight
        obtain ⟨y0, y1, y2, y3, y4, y5, y6, y7⟩ := hRa.thaw8
        have hRl := hRa.lt
        go_wp2
        refine bodyPost_ret (results_re rfl _ _ w.heap.size rfl (h5.fin _ _ _ _ _ _ _ _ _)) rfl ?_
        exact ⟨_, rfl, Made.close hlt h2 hMd (Shape.capZ (by omega) (by omega))⟩
end Go.Proofs.YtdacamjpcdbphaaGreatDoor
namespace Go.RegInv
open Go

/-- which operations have come up -/
def seen (listed : Array Bool) (j : Nat) : Bool := listed.getD j false
/-- and one more -/
def more (s : Nat → Bool) (i : Nat) : Nat → Bool := fun j => if j = i then true else s j
theorem seen_more {listed : Array Bool} {i : Nat} (hi : i < listed.size) : seen (listed.setIfInBounds i true) = more (seen listed) i := by
  funext j
  unfold seen more
  by_cases h : j = i
  · subst h
    rw [if_pos rfl]
    simp [hi]
  · rw [if_neg h]
    simp [Array.getElem?_setIfInBounds_ne (Ne.symm h)]
/-- how many have not come up -/
def rest (listed : Array Bool) : Nat := listed.toList.countP fun b => !b
theorem rest_more {listed : Array Bool} {i : Nat} (hi : i < listed.size) (h : listed[i] = false) : rest (listed.setIfInBounds i true) + 1 = rest listed := by
  unfold rest
  rw [Array.toList_setIfInBounds]
  have hl : i < listed.toList.length := by simpa using hi
  have hg : listed.toList[i] = false := by simpa using h
  have h1 : listed.toList = listed.toList.take i ++ listed.toList[i] :: listed.toList.drop (i + 1) := by rw [List.getElem_cons_drop, List.take_append_drop]
  have h2 : listed.toList.set i true = listed.toList.take i ++ true :: listed.toList.drop (i + 1) := by rw [List.set_eq_take_append_cons_drop, if_pos hl]
  rw [h2]
  conv => rhs; rw [h1]
  rw [List.countP_append, List.countP_append, List.countP_cons, List.countP_cons, hg]
  simp
  omega
section
variable {P : Program} {ops : Array Oper} {Q : Exit → Act → World → Prop} {md : Region.Mode} {I : (Nat → Bool) → Act → World → Prop}
/-- every operation waits for earlier ones alone -/
def early (ops : Array Oper) : Bool := (List.range ops.size).all fun i => match ops[i]? with | none => true | some o => o.after.all fun e => decide (e.on < i)
theorem early_spec (h : early ops = true) {i : Nat} {o : Oper} (ho : ops[i]? = some o) : ∀ e ∈ o.after, e.on < i := by
  have hi := (Array.getElem?_eq_some_iff.1 ho).1
  have h1 := List.all_eq_true.1 h i (List.mem_range.2 hi)
  rw [ho] at h1
  intro e he
  exact of_decide_eq_true (Array.all_eq_true_iff_forall_mem.1 h1 e he)
theorem all_seen (h : early ops = true) {listed : Array Bool} (hs : listed.size = ops.size) (hr : Region.ready md ops listed = []) : ∀ n, ∀ i, i < n → i < ops.size → seen listed i = true
  | 0, i, hi, _ => absurd hi (Nat.not_lt_zero _)
  | n + 1, i, hi, hlt => by
    have ih := all_seen h hs hr n
    rcases Nat.lt_or_ge i n with h1 | h1
    · exact ih i h1 hlt
    · have hin : i = n := by omega
      subst hin
      cases hsi : seen listed i with
      | true => rfl
      | false =>
        exfalso
        obtain ⟨o, ho⟩ : ∃ o, ops[i]? = some o := ⟨ops[i], Array.getElem?_eq_getElem hlt⟩
        have hmem : i ∈ Region.ready md ops listed := mem_ready.2 ⟨by
          unfold seen at hsi
          have hl : i < listed.size := by omega
          simpa [hl] using hsi, o, ho, fun e he _ => by
            have hlt' := early_spec h ho e he
            exact ih e.on hlt' (by omega)⟩
        rw [hr] at hmem
        cases hmem
theorem wpAny_inv (hE : early ops = true)
    (step : ∀ (s : Nat → Bool) (a : Act) (w : World) (i : Nat) (o : Oper), ops[i]? = some o → s i = false → (∀ e ∈ o.after, Region.binds md e = true → s e.on = true) → I s a w → wpOp P ops Q i (I (more s i)) a w)
    (done : ∀ (s : Nat → Bool) (a : Act) (w : World), (∀ i, i < ops.size → s i = true) → I s a w → Q .normal a w) :
    ∀ (fuel : Nat) (listed : Array Bool) (a : Act) (w : World), listed.size = ops.size → rest listed ≤ fuel → I (seen listed) a w → wpAny P md ops Q fuel listed a w := by
  intro fuel
  induction fuel with
  | zero =>
    intro listed a w hs hf hI
    have hr : Region.ready md ops listed = [] := by
      cases h : Region.ready md ops listed with
      | nil => rfl
      | cons i l =>
        exfalso
        have hi : i ∈ Region.ready md ops listed := by rw [h]; exact List.mem_cons_self ..
        obtain ⟨h0, o, ho, _⟩ := mem_ready.1 hi
        have hlt : i < listed.size := by rw [hs]; exact (Array.getElem?_eq_some_iff.1 ho).1
        have hg : listed[i] = false := by simpa [hlt] using h0
        have := rest_more hlt hg
        omega
    exact ⟨hr, done _ a w (fun i hi => all_seen hE hs hr (i + 1) i (by omega) hi) hI⟩
  | succ fuel ih =>
    intro listed a w hs hf hI
    refine ⟨fun hr => done _ a w (fun i hi => all_seen hE hs hr (i + 1) i (by omega) hi) hI, fun i hi => ?_⟩
    obtain ⟨h0, o, ho, hall⟩ := mem_ready.1 hi
    have hlt : i < listed.size := by rw [hs]; exact (Array.getElem?_eq_some_iff.1 ho).1
    have hg : listed[i] = false := by simpa [hlt] using h0
    have hc := rest_more hlt hg
    have hs1 : seen listed i = false := by unfold seen; simpa [hlt] using hg
    refine wpOp_mono (fun a' w' h' => ih (listed.setIfInBounds i true) a' w' (by simpa using hs) (by omega) (by rw [seen_more hlt]; exact h')) (step (seen listed) a w i o ho hs1 (fun e he hb => hall e he hb) hI)
/-- a region by an invariant -/
theorem wp_region_inv {id : Nat} {a : Act} {w : World} (hm : P.follows .mixedOrders = true) (hE : early ops = true) (I : (Nat → Bool) → Act → World → Prop)
    (start : I (fun _ => false) a { w with drawn := w.drawn + 1 })
    (step : ∀ (s : Nat → Bool) (a : Act) (w : World) (i : Nat) (o : Oper), ops[i]? = some o → s i = false → (∀ e ∈ o.after, Region.binds .any e = true → s e.on = true) → I s a w → wpOp P ops Q i (I (more s i)) a w)
    (done : ∀ (s : Nat → Bool) (a : Act) (w : World), (∀ i, i < ops.size → s i = true) → I s a w → Q .normal a w) : (Code.region id ops true).wp P Q a w := by
  refine wp_region_any hm (wpAny_inv (I := I) hE step done ops.size _ a _ (by simp) ?_ ?_)
  · unfold rest
    have := List.countP_le_length (p := fun b => !b) (l := (Array.replicate ops.size false).toList)
    simpa using this
  · have e : seen (Array.replicate ops.size false) = fun _ => false := by
      funext j
      unfold seen
      simp only [Array.getD_eq_getD_getElem?, Array.getElem?_replicate]
      split <;> rfl
    rw [e]
    exact start
end
end Go.RegInv
namespace Go.Proofs.YtdacamjpcdbphaaGreatDoor
open Go Go.RowKit Go.Smap

set_option maxRecDepth 1000000 in
theorem within_walk (b lo hi : Nat) (hb : b < 256) (hl : lo < 256) (hh : hi < 256) (w : World) :
    Calls Tryz.prog 86 #[.int .u8 (b : Int), .int .u8 (lo : Int), .int .u8 (hi : Int)] w fun e w' => e = .returned (.bool (decide (lo ≤ b) && decide (b ≤ hi))) ∧ w' = w := by
  by_cases h1 : lo ≤ b
  · by_cases h2 : b ≤ hi
    · have h1' : (lo : Int) ≤ (b : Int) := by omega
      have h2' : (b : Int) ≤ (hi : Int) := by omega
      go_enter Tryz.func86, Tryz.ntmps86
      go_wp2
      go_ret
      exact ⟨by simp [h1, h2], rfl⟩
    · have h1' : (lo : Int) ≤ (b : Int) := by omega
      have h2' : ¬ (b : Int) ≤ (hi : Int) := by omega
      go_enter Tryz.func86, Tryz.ntmps86
      go_wp2
      go_ret
      exact ⟨by simp [h1, h2], rfl⟩
  · have h1' : ¬ (lo : Int) ≤ (b : Int) := by omega
    go_enter Tryz.func86, Tryz.ntmps86
    go_wp2
    go_ret
    exact ⟨by simp [h1], rfl⟩
theorem str_at {s : ByteArray} {l : List UInt8} (hl : toB s = l) {j : Nat} (hj : j < l.length) (w : World) (t : TypeId) (ht : Tryz.prog.underlying t = some .string) :
    (Instr.index t (.string s) (.int .i64 (j : Int))).run Tryz.prog w = .ok (.int .u8 ((l[j].toNat : Nat) : Int)) w := by
  have hsz : s.size = l.length := by rw [← hl, toB_len]
  rw [run_index_string w t s .i64 j ht, dif_pos ⟨by omega, by omega⟩]
  subst hl
  rfl
theorem nameFrom_at {l : List UInt8} {j : Nat} (hj : j < l.length) : nameFrom j (l.drop j) = ((lower l[j] || (j != 0 && other l[j])) && nameFrom (j + 1) (l.drop (j + 1))) := by
  rw [List.drop_eq_getElem_cons hj]; rfl
set_option maxHeartbeats 4000000 in
set_option maxRecDepth 1000000 in
theorem isName_walk (s : ByteArray) (hs : s.size ≤ 100000000) (w : World) :
    Calls Tryz.prog 65 #[.string s] w fun e w' => e = .returned (.bool (named (toB s))) ∧ w' = w := by
  obtain ⟨l, hl⟩ : ∃ l, toB s = l := ⟨_, rfl⟩
  have hsz : s.size = l.length := by rw [← hl, toB_len]
  rw [hl]
  by_cases h1 : s.size < 1
  · have hx : (s.size : Int) < 1 := by omega
    have hn : named l = false := by unfold named; rw [show decide (1 ≤ l.length) = false from decide_eq_false (by omega)]; rfl
    rw [hn]
    clear hn hl hsz
    go_enter Tryz.func65, Tryz.ntmps65
    go_wp2
    go_ret
    exact ⟨rfl, rfl⟩
  by_cases h2 : 16 < s.size
  · have hx : ¬ (s.size : Int) < 1 := by omega
    have hy : (16 : Int) < (s.size : Int) := by omega
    have hn : named l = false := by unfold named; rw [show decide (l.length ≤ 16) = false from decide_eq_false (by omega)]; simp
    rw [hn]
    clear hn hl hsz
    go_enter Tryz.func65, Tryz.ntmps65
    go_wp2
    go_ret
    exact ⟨rfl, rfl⟩
  have hx : ¬ (s.size : Int) < 1 := by omega
  have hy : ¬ (16 : Int) < (s.size : Int) := by omega
  have hn : named l = nameFrom 0 l := by
    unfold named
    rw [show decide (1 ≤ l.length) = true from decide_eq_true (by omega), show decide (l.length ≤ 16) = true from decide_eq_true (by omega)]
    rfl
  rw [hn]
  clear hn
  have hin := fun b lo hi h1 h2 h3 w' => within_walk b lo hi h1 h2 h3 w'
  have hixs := fun (j : Nat) (hj : j < l.length) (w' : World) => str_at hl hj w' 9 Tryz.underlying9
  have hszH := Lib.hid hsz
  obtain ⟨N, hN⟩ : ∃ N, nameFrom 0 l = N := ⟨_, rfl⟩
  have hN0 := Lib.hid (show nameFrom 0 (l.drop 0) = N from hN)
  rw [hN]
  clear hN hl hsz hs h1 h2
  go_enter Tryz.func65, Tryz.ntmps65
  go_wp2
  go_loopw [16] (fun iv wr => ∃ j : Nat, j ≤ l.length ∧ iv = .int .i64 j ∧ wr = w ∧ Hid (nameFrom j (l.drop j) = N)) (fun iv _ => l.length - (intOf iv).toNat)
  case atStart => exact ⟨0, Nat.zero_le _, rfl, rfl, hN0⟩
  case round =>
    obtain ⟨j, hj, rfl, rfl, hM⟩ := hrel
    by_cases hjl : j < l.length
    · have hix := hixs j hjl wr
      have hf := nameFrom_at hjl
      have hb := l[j].toNat_lt
      have hlo : lower l[j] = (decide (97 ≤ l[j].toNat) && decide (l[j].toNat ≤ 122)) := rfl
      have hot : other l[j] = (decide (48 ≤ l[j].toNat) && decide (l[j].toNat ≤ 57) || l[j].toNat == 45) := rfl
      rw [hlo, hot] at hf
      obtain ⟨m, hm⟩ : ∃ m, l[j].toNat = m := ⟨_, rfl⟩
      obtain ⟨X, hX⟩ : ∃ X, nameFrom (j + 1) (l.drop (j + 1)) = X := ⟨_, rfl⟩
      rw [hm, hX] at hf
      rw [hm] at hix hb
      have hfN := hf.symm.trans hM.out
      have HX := Lib.hid hX
      have c1 := hin m 97 122 hb (by omega) (by omega) wr
      have c2 := hin m 48 57 hb (by omega) (by omega) wr
      have hjs : (j : Int) < (s.size : Int) := by have := hszH.out; omega
      clear hf hM hlo hot hm hX hin hixs
      by_cases k1 : (decide (97 ≤ m) && decide (m ≤ 122)) = true
      · rw [k1] at c1 hfN
        have hfN' := Lib.hid (show X = N by simpa using hfN)
        clear hfN c2 k1
        go_wp2_with (first
          | (go_at_call 86; refine c1.mono ?_; rintro _ w1 ⟨rfl, rfl⟩)
          | go_in)
        go_roundw
        case rel => exact ⟨j + 1, hjl, by go_num, by trivial, Lib.hid (HX.out.trans hfN'.out)⟩
        case measure => simp [intOf]; omega
      · rw [Bool.not_eq_true] at k1
        rw [k1] at c1 hfN
        clear k1
        by_cases hj0 : j = 0
        · have hj0' : ((j : Int) == 0) = true := by simp; exact hj0
          have hjb : (j != 0) = false := by simp; exact hj0
          rw [hjb] at hfN
          have hfN' := Lib.hid (show N = false by simpa using hfN.symm)
          clear hfN c2 hj0 hjb
          go_wp2_with (first
            | (go_at_call 86; refine c1.mono ?_; rintro _ w1 ⟨rfl, rfl⟩)
            | go_in)
          rw [hfN'.out]
          go_ret
          exact ⟨rfl, rfl⟩
        · have hj0' : ((j : Int) == 0) = false := by simp; omega
          have hjb : (j != 0) = true := by simp; omega
          rw [hjb] at hfN
          by_cases k2 : m = 45
          · subst k2
            have hfN' := Lib.hid (show X = N by simpa using hfN)
            clear hfN c2
            go_wp2_with (first
              | (go_at_call 86; refine c1.mono ?_; rintro _ w1 ⟨rfl, rfl⟩)
              | go_in)
            go_roundw
            case rel => exact ⟨j + 1, hjl, by go_num, by trivial, Lib.hid (HX.out.trans hfN'.out)⟩
            case measure => simp [intOf]; omega
          · have k2' : ((m : Int) == 45) = false := by simp; omega
            have k2b : (m == 45) = false := by simp; omega
            rw [k2b] at hfN
            by_cases k3 : (decide (48 ≤ m) && decide (m ≤ 57)) = true
            · rw [k3] at c2 hfN
              have hfN' := Lib.hid (show X = N by simpa using hfN)
              clear hfN k3
              go_wp2_with (first
                | (go_at_call 86; first | (refine c1.mono ?_; clear c1; rintro _ w1 ⟨rfl, rfl⟩) | (refine c2.mono ?_; rintro _ w1 ⟨rfl, rfl⟩))
                | go_in)
              go_roundw
              case rel => exact ⟨j + 1, hjl, by go_num, by trivial, Lib.hid (HX.out.trans hfN'.out)⟩
              case measure => simp [intOf]; omega
            · rw [Bool.not_eq_true] at k3
              rw [k3] at c2 hfN
              have hfN' := Lib.hid (show N = false by simpa using hfN.symm)
              clear hfN k3
              go_wp2_with (first
                | (go_at_call 86; first | (refine c1.mono ?_; clear c1; rintro _ w1 ⟨rfl, rfl⟩) | (refine c2.mono ?_; rintro _ w1 ⟨rfl, rfl⟩))
                | go_in)
              rw [hfN'.out]
              go_ret
              exact ⟨rfl, rfl⟩
    · have hje : j = l.length := by omega
      subst hje
      have hfin : N = true := by have := hM.out; rw [List.drop_length] at this; exact this.symm
      subst hfin
      have hjs : ¬ (l.length : Int) < (s.size : Int) := by have := hszH.out; omega
      clear hM hin hixs
      go_wp2
      go_ret
      exact ⟨rfl, rfl⟩
end Go.Proofs.YtdacamjpcdbphaaGreatDoor
