/-
  The reference's filter: what may be said of it is kept by every operation.
  The reference's Script, walked: a list of operations, each as it may be.
  A range over a function whose iterator tells, when it is done, what then lies in memory: the law for bodies that are never left early. (Of no program.)
  slices.Concat and slices.Clone of bytes, walked (slices.Grow by the library's contract).
  text.Decode of bytes, walked: the symbols are the bytes.
  text.Decode of bytes, walked: the symbols are the bytes.
  A call's contract out of an evaluation whose heap is a symbolic state: what comes out fits another symbolic state.
  text.Valid, walked at symbols of a text.
  A block's cells, whatever its tag: what comes out of an evaluation is one.
  append of what a slice reads as, inside a region whose order is drawn.
  A map keyed by small numbers, said as a function: what a look-up gives, what a store and a delete leave. (Of no program.)
  The filter, walked: late, New.
  A map keyed by small numbers: the look-up that says whether it found, also at -1. (Of no program.)
  The filter, walked: Use.
  The filter, walked: End where it is refused.
-/
import Derived.Test.YtahmcjdddcbhnaaGreatDoorRunG0a
import Derived.RangeFuncNested
import Derived.RangeFuncBound
import Derived.RangeFuncCalls
import Derived.RangeFuncLeaves
import Derived.RangeFuncFrom
import Derived.RangeFuncBox
import Derived.Shelf.Abstract
import Derived.Shelf.RegionOpen
import Derived.OwnWalkIn
import Derived.TacticsInMore
import Derived.LoopNIn
import Derived.LoopIn
import Derived.Shelf.Spec.SlicesGrow
import Derived.Laws.OwnMore
import Derived.Laws.ResultCell
import Derived.Test.YtahmcjdddcbhnaaGreatDoorEvD
import Derived.Test.YtahmcjdddcbhnaaGreatDoorProg
import Derived.KernelRfl
import Derived.Deep.RegionHeld3
import Derived.Deep.QuietTactic
import Derived.Deep.AppendLies
import Derived.Maps.Own
import Derived.WalkKit
namespace Go.Proofs.YtahmcjdddcbhnaaGreatDoor
open Go Go.RowKit

end Go.Proofs.YtahmcjdddcbhnaaGreatDoor
namespace Go.Proofs.YtahmcjdddcbhnaaGreatDoor
open Go Go.RowKit

theorem around_in {z : Int} (h1 : IntKind.i64.min ≤ z) (h2 : z ≤ IntKind.i64.max) (w : World) :
    Calls Tryz.prog 25 #[.int .i64 z, .int .i64 1048576] w fun e w' => ∃ r : Int, (0 ≤ r ∧ r < 1048576) ∧ e = .returned (.int .i64 r) ∧ w' = w := by
  have l1 : -9223372036854775808 ≤ z := h1
  have l2 : z ≤ 9223372036854775807 := h2
  clear h1 h2
  go_enter Tryz.func25, Tryz.ntmps25
  go_wp2
  · go_ret
    refine ⟨_, ?_, rfl, rfl⟩
    rw [← Int.neg_tmod, Int.tmod_eq_emod_of_nonneg (by omega)]
    omega
  · go_ret
    refine ⟨_, ?_, rfl, rfl⟩
    omega
theorem sees_oneN (w : World) (e : TypeId) (cs : Array Value) {size N : Nat} (hs : cs.size = size) (hN : w.heap.size = N) : Sees (w.alloc (.cells cs e)) size (.slice (some ⟨N, 0, none⟩) 1 1) cs.toList := by
  subst hN
  exact sees_one w e cs hs
theorem ops_ok {ops : List ROp} {o : ROp} (h : ∀ x ∈ ops, x.Ok) (ho : o.Ok) : ∀ x ∈ ops ++ [o], x.Ok := fun x hx => by
  rw [List.mem_append, List.mem_singleton] at hx
  rcases hx with hx | rfl
  · exact h x hx
  · exact ho
end Go.Proofs.YtahmcjdddcbhnaaGreatDoor
namespace Go.Says
open Go Go.RowKit Go.Shelf

section
variable {F : Fence} {n : Nat} {P : Program} {α : Type}
end
end Go.Says
namespace Go.Proofs
open Go.RowKit Go.Shelf

def YtahmcjdddcbhnaaGreatDoor.growA_ren : Go.Shelf.Ren := ⟨fun | 4 => 370 | n => n, fun | 22 => 23 | 25 => 5 | 3 => 3 | 4 => 4 | 9 => 9 | 20 => 20 | 0 => 0 | n => n, fun | n => n⟩
theorem YtahmcjdddcbhnaaGreatDoor.growA : Go.Proofs.Lays8.n4 Tryz.prog YtahmcjdddcbhnaaGreatDoor.growA_ren :=
  { mixed := by kernel_rfl
    f4 := ⟨Tryz.f370.name, by decide, Tryz.func370.trans (congrArg some (by kernel_rfl))⟩
    t0 := Tryz.underlying0
    a0 := Tryz.isAgg0
    z0 := Tryz.sizeOf0
    v0 := Tryz.zeroValue0
    t3 := Tryz.underlying3
    a3 := Tryz.isAgg3
    z3 := Tryz.sizeOf3
    v3 := Tryz.zeroValue3
    t4 := Tryz.underlying4
    a4 := Tryz.isAgg4
    z4 := Tryz.sizeOf4
    v4 := Tryz.zeroValue4
    t9 := Tryz.underlying9
    a9 := Tryz.isAgg9
    z9 := Tryz.sizeOf9
    v9 := Tryz.zeroValue9
    t20 := Tryz.underlying20
    a20 := Tryz.isAgg20
    z20 := Tryz.sizeOf20
    v20 := Tryz.zeroValue20
    t22 := Tryz.underlying23
    a22 := Tryz.isAgg23
    z22 := Tryz.sizeOf23
    v22 := Tryz.zeroValue23 }
namespace YtahmcjdddcbhnaaGreatDoor
open Go Go.RowKit

theorem infoU8 : (Tryz.prog.info? 5).map (fun i => (i.zero, i.size, i.bytes)) = some (some (.int .u8 0), 1, 1) := by kernel_rfl
set_option maxHeartbeats 4000000 in
set_option maxRecDepth 1000000 in
theorem grow_walk (n : Nat) (hn : n ≤ 1000000) (w : World) : Calls Tryz.prog 370 #[.slice none 0 0, .int .i64 (n : Int)] w fun e w' => ∃ v, e = .returned v ∧ w'.ownsRow w.heap.size 5 1 v 0 [] ∧ Below w.heap.size w w' := by
  obtain ⟨i0, hi0, hz0, hz1, hz2⟩ := info_parts' infoU8
  by_cases h0 : n = 0
  · subst h0
    refine Calls.mono (Any8.slices_Grow_room (ρ := YtahmcjdddcbhnaaGreatDoor.growA_ren) YtahmcjdddcbhnaaGreatDoor.growA none 0 0 0 w (Nat.le_refl _) (by omega) (by omega) (by omega)) ?_
    rintro e w' ⟨rfl, rfl⟩
    exact ⟨_, rfl, World.ownsRow_nil _ _ _ _, Below.refl _ _⟩
  · refine Calls.mono (Any8.slices_Grow_grow (ρ := YtahmcjdddcbhnaaGreatDoor.growA_ren) YtahmcjdddcbhnaaGreatDoor.growA i0 _ hi0 hz0 (by omega) none 0 0 n [] w (Nat.le_refl _) (by omega) (by rw [hz2]; omega) (by omega) (by simp) (fun _ => rfl) (fun a h => by cases h)) ?_
    rintro e w' ⟨rfl, rfl⟩
    have hge := grownCap_ge w (0 + n) 0 5
    refine ⟨_, rfl, ⟨by simp, .inr ⟨w.heap.size, grownCap w (0 + n) 0 5, _, rfl, Nat.le_refl _, heap_alloc_new w.drew _, Nat.zero_le _, grownCap_le_maxLen _ _ _ _ (by unfold maxLen; omega), ?_, by simp⟩⟩, ((Below.refl _ _).drew).alloc (Nat.le_refl _) _⟩
    show _ = grownCap w (0 + n) 0 5 * 1
    simp only [Array.size_append, size_zeroCells]
    have hs3 : (Value.cells (.int .u8 0)).size = 1 := rfl
    rw [hs3]
    have e25 : YtahmcjdddcbhnaaGreatDoor.growA_ren.t 25 = 5 := rfl
    rw [e25]
    simp only [List.size_toArray, List.length_nil]
    omega
set_option maxHeartbeats 8000000 in
set_option maxRecDepth 1000000 in
/-- slices.Concat of two slices of bytes -/
theorem concat_walk {w : World} {vb : Nat} {v1 v2 : Value} {x y : List UInt8} (h1 : Sees w 1 v1 (bv x)) (h2 : Sees w 1 v2 (bv y)) (hn1 : x.length ≤ 100000) (hn2 : y.length ≤ 100000)
    (c0 : w.cell? ⟨vb, 0, none⟩ = some v1) (c1 : w.cell? ⟨vb, 1, none⟩ = some v2) (hvb : vb < w.heap.size) :
    Calls Tryz.prog 358 #[.slice (some ⟨vb, 0, none⟩) 2 2] w fun e w' => ∃ v, e = .returned v ∧ w'.ownsRow w.heap.size 5 1 v (x ++ y).length (bv (x ++ y)) ∧ Below w.heap.size w w' := by
  obtain ⟨i0, hi0, hz0, hz1, hz2⟩ := info_parts' infoU8
  have H1 := h1
  have H2 := h2
  obtain ⟨a1, n1, k1, rfl, e1, -, -⟩ := h1
  obtain ⟨a2, n2, k2, rfl, e2, -, -⟩ := h2
  have hx : x.length = n1 := by rw [bv_len] at e1; omega
  have hy : y.length = n2 := by rw [bv_len] at e2; omega
  have hg := grow_walk (n1 + n2) (by omega)
  have hw1 : IntKind.i64.wrap (n1 : Int) = (n1 : Int) := wrapS (by omega) (by omega)
  have hw2 : IntKind.i64.wrap ((n1 : Int) + (n2 : Int)) = ((n1 + n2 : Nat) : Int) := by rw [wrapS (by omega) (by omega)]; omega
  have hp1 : ¬ (n1 : Int) < 0 := by omega
  have hp2 : ¬ ((n1 + n2 : Nat) : Int) < 0 := by omega
  have s1 := fun (w1 : World) (hb : Below w.heap.size w w1) => H1.bel hb
  have s2 := fun (w1 : World) (hb : Below w.heap.size w w1) => H2.bel hb
  clear H1 H2
  go_enter Tryz.func358, Tryz.ntmps358
  go_wp2
  refine wp_loop_rounds 3 ?_
  rw [rounds_succ]
  go_wp2
  rw [rounds_succ]
  go_wp2
  rw [rounds_succ]
  go_wp2_with (first
    | (go_at_call 370; refine (hg _).mono ?_; rintro _ w1 ⟨v0, rfl, hown, hb1⟩; have d0 := (hb1.cell (p := ⟨vb, 0, none⟩) hvb).trans c0; have d1 := (hb1.cell (p := ⟨vb, 1, none⟩) hvb).trans c1)
    | go_in)
  refine wp_loop_rounds 3 ?_
  rw [rounds_succ]
  have hsz := hb1.size
  have hby1 : (0 + n1) * 1 ≤ 140737488355328 := by omega
  have h631 : 0 + n1 ≤ maxLen := by unfold maxLen; omega
  have hby2 : (n1 + n2) * 1 ≤ 140737488355328 := by omega
  have h632 : n1 + n2 ≤ maxLen := by unfold maxLen; omega
  have t1 := s1 w1 hb1
  go_wp2_with (first
    | (at_builtin; refine wpList_append_sees rfl _ _ 23 rfl i0 _ 1 Tryz.underlying23 hi0 hz0 hz1 hz2 rfl (by decide) v0 0 [] rfl hown _ n1 _ rfl t1 e1 (bv_one x) h631 hby1 hsz ?_; intro u2 w2 hown2 hgrow2 hat2; rw [Nat.zero_add, List.nil_append] at hown2; have e0 := (hgrow2.cell_far ⟨vb, 0, none⟩ (by { show vb < w1.heap.size; omega }) (fun e => by { have := (World.ownsRow.lt hown _ e.symm).1; simp at this; omega })).trans d0; have e1' := (hgrow2.cell_far ⟨vb, 1, none⟩ (by { show vb < w1.heap.size; omega }) (fun e => by { have := (World.ownsRow.lt hown _ e.symm).1; simp at this; omega })).trans d1)
    | go_in)
  rw [rounds_succ]
  have hsz2 := hgrow2.size
  have hb2 : Below w.heap.size w w2 := hb1.grown hgrow2 hsz fun k hk => (World.ownsRow.lt hown k hk).1
  have t2 := s2 w2 hb2
  go_wp2_with (first
    | (at_builtin; refine wpList_append_sees rfl _ _ 23 rfl i0 _ 1 Tryz.underlying23 hi0 hz0 hz1 hz2 rfl (by decide) u2 n1 _ rfl hown2 _ n2 _ rfl t2 e2 (bv_one y) h632 hby2 (by omega) ?_; intro u3 w3 hown3 hgrow3 hat3)
    | go_in)
  rw [rounds_succ]
  go_wp2_with fail
  go_ret
  refine ⟨_, rfl, ?_, hb2.grown hgrow3 (by omega) fun k hk => (World.ownsRow.lt hown2 k hk).1⟩
  rw [List.length_append, hx, hy, bv_app]
  exact hown3
end YtahmcjdddcbhnaaGreatDoor
end Go.Proofs
namespace Go.Proofs.YtahmcjdddcbhnaaGreatDoor
open Go Go.RowKit Go.Shelf Go.Says
attribute [local go_sem] Oper.semAt_some

/-- what a round keeps: two boxes, and every block of bytes -/
structure KD (tb rb : Nat) (W W' : World) : Prop where
  size : W.heap.size ≤ W'.heap.size
  box1 : W'.heap[tb]? = W.heap[tb]?
  box2 : W'.heap[rb]? = W.heap[rb]?
  bytes : ∀ (g : Nat) (cs : Array Value) (fr : Nat × Nat), W.heap[g]? = some (.cells cs 5 fr) → W'.heap[g]? = W.heap[g]?
theorem KD.refl (tb rb : Nat) (W : World) : KD tb rb W W := ⟨Nat.le_refl _, rfl, rfl, fun _ _ _ _ => rfl⟩
theorem KD.trans {tb rb : Nat} {A B C : World} (h : KD tb rb A B) (k : KD tb rb B C) : KD tb rb A C :=
  ⟨Nat.le_trans h.size k.size, k.box1.trans h.box1, k.box2.trans h.box2, fun g cs fr hg => (k.bytes g cs fr ((h.bytes g cs fr hg).trans hg)).trans (h.bytes g cs fr hg)⟩
theorem KD.of_below {tb rb n : Nat} {A B : World} (h : Below n A B) (htb : tb < n) (hrb : rb < n) (hn : A.heap.size ≤ n) : KD tb rb A B :=
  ⟨h.size, h.block tb htb, h.block rb hrb, fun g cs fr hg => h.block g (by have := (Array.getElem?_eq_some_iff.1 hg).1; omega)⟩
/-- a slice of bytes whose block is a block of bytes -/
def SeesB (w : World) (v : Value) (l : List UInt8) : Prop := ∃ A n c, v = .slice A n c ∧ l.length = n ∧ n ≤ c ∧ ((A = none ∧ n = 0) ∨ ∃ b s cs fr, A = some ⟨b, s, none⟩ ∧ w.heap[b]? = some (.cells cs 5 fr) ∧ ∀ i u, (bv l)[i]? = some u → w.cell? ⟨b, s + i, none⟩ = some u)
theorem SeesB.sees {w : World} {v : Value} {l : List UInt8} (h : SeesB w v l) : Sees w 1 v (bv l) := by
  obtain ⟨A, n, c, rfl, h1, h2, h3⟩ := h
  refine ⟨_, _, _, rfl, by rw [bv_len]; omega, h2, fun hn => ?_⟩
  rcases h3 with ⟨_, h0⟩ | ⟨b, s, cs, fr, rfl, hb, hc⟩
  · exact absurd h0 hn
  · exact ⟨b, s, rfl, (Array.getElem?_eq_some_iff.1 hb).1, hc⟩
theorem SeesB.row {w : World} {B n : Nat} {v : Value} {l : List UInt8} (h : w.ownsRow B 5 1 v n (bv l)) : SeesB w v l := by
  have hn : n = l.length := by have := h.1; rw [bv_len] at this; omega
  subst hn
  rcases h.2 with ⟨rfl, h0⟩ | ⟨g, cap, cur, rfl, h2, h3, h4, _⟩
  · exact ⟨_, _, _, rfl, h0, Nat.le_refl _, .inl ⟨rfl, rfl⟩⟩
  · refine ⟨_, _, _, rfl, rfl, h4, .inr ⟨g, 0, cur, _, rfl, h3, fun i u hi => ?_⟩⟩
    have := h.cells (g := g) rfl i u hi
    rw [add_flat] at this
    simpa using this
theorem SeesB.kd {tb rb : Nat} {w w' : World} {v : Value} {l : List UInt8} (h : SeesB w v l) (hk : KD tb rb w w') : SeesB w' v l := by
  obtain ⟨A, n, c, rfl, h1, h2, h3⟩ := h
  refine ⟨_, _, _, rfl, h1, h2, h3.imp id ?_⟩
  rintro ⟨b, s, cs, fr, rfl, hb, hc⟩
  have hk2 := hk.bytes b cs fr hb
  exact ⟨b, s, cs, fr, rfl, hk2.trans hb, fun i u hi => (World.cell?_of_block (w := w) hk2).trans (hc i u hi)⟩
theorem below_grown {A B : World} (h : Below A.heap.size A B) : A.grownBy B none := ⟨h.os, h.tape, h.output, h.size, fun k hk _ => h.block k hk⟩
set_option maxRecDepth 1000000 in
theorem syms_walk (v : Value) (A : Option Addr) (n c : Nat) (hv : v = .slice A n c) (r : Bool) (w : World) : Calls Tryz.prog 26 #[v, .bool r] w fun e w' => e = .returned (.func (.func 45) #[] #[.pointer (some ⟨w.heap.size, 0, none⟩), .pointer (some ⟨w.heap.size + 1, 0, none⟩)]) ∧
    w' = (w.alloc (.cells #[v] 23)).alloc (.cells #[.bool r] 4) := by
  subst hv
  go_enter Tryz.func26, Tryz.ntmps26
  go_wp2
  go_ret
  exact ⟨rfl, rfl⟩
theorem KD.set {tb rb : Nat} {W : World} {p : Nat} {cs : Array Value} {t : TypeId} {fr : Nat × Nat} (hp : W.heap[p]? = some (.cells cs t fr)) (ht : 5 ≠ t) (h1 : tb ≠ p) (h2 : rb ≠ p) (v : Value) : KD tb rb W (W.setCell ⟨p, 0, none⟩ v) :=
  ⟨by simp [World.setCell], Below.heap_setCell _ _ _ _ h1, Below.heap_setCell _ _ _ _ h2, fun g cs' fr' hg => Below.heap_setCell _ _ _ _ (fun e => by
    have e' : g = p := e
    subst e'
    rw [hp] at hg
    cases hg
    exact ht rfl)⟩
theorem KD.grown {tb rb n₀ : Nat} {W w1 : World} {e : TypeId} {size k : Nat} {v : Value} {xs : List Value} {tmp : Obj} (hrow : W.ownsRow n₀ e size v k xs) (he : 5 ≠ e) (htb : tb < n₀) (hrb : rb < n₀) (htl : tb < W.heap.size) (hrl : rb < W.heap.size) (hgrow : (W.alloc tmp).grownBy w1 v.ownBlock) : KD tb rb W w1 := by
  have h0 : ∀ q, q < n₀ → q < W.heap.size → w1.heap[q]? = W.heap[q]? := fun q h1 h2 =>
    (hgrow.block q (by simp; omega) (fun e => by have := (World.ownsRow.lt hrow q e.symm).1; omega)).trans (Below.heap_alloc _ _ _ h2)
  refine ⟨by have := hgrow.size; simp at this; omega, h0 tb htb htl, h0 rb hrb hrl, fun g cs fr hg => ?_⟩
  have hlt := (Array.getElem?_eq_some_iff.1 hg).1
  refine (hgrow.block g (by simp; omega) (fun e' => ?_)).trans (Below.heap_alloc _ _ _ hlt)
  rcases hrow.2 with ⟨rfl, _⟩ | ⟨g', cap, cur, rfl, _, h3, _⟩
  · cases e'
  · cases e'
    rw [h3] at hg
    cases hg
    exact he rfl
end Go.Proofs.YtahmcjdddcbhnaaGreatDoor
namespace Go.Proofs.YtahmcjdddcbhnaaGreatDoor
open Go Go.RowKit Go.Shelf Go.Says
attribute [local go_sem] Oper.semAt_some

/-- numbers as cells -/
def natI (l : List Nat) : List Value := l.map fun z : Nat => .int .i64 (z : Int)
theorem natI_len (l : List Nat) : (natI l).length = l.length := List.length_map ..
theorem below_put {n B : Nat} (hb : n ≤ B) (W : World) (l : Nat) (o' : Obj) (hl : B ≤ l) : Below n W (W.putObj l o') :=
  ⟨rfl, rfl, rfl, by simp [World.putObj], fun k hk => World.putObj_heap_other (by omega)⟩
theorem boxed_app3 {W w1 : World} {n₀ B : Nat} {t e : TypeId} {size : Nat} {v v' : Value} {k m : Nat} {xs ys : List Value} {tmp : Obj}
    (hv : Boxed W B t v) (hrow : W.ownsRow n₀ e size v k xs) (hB : B < n₀) (hown' : w1.ownsRow n₀ e size v' m ys) (hgrow : (W.alloc tmp).grownBy w1 v.ownBlock) :
    Boxed w1 B t v ∧ Boxed (w1.setCell ⟨B, 0, none⟩ v') B t v' ∧ (w1.setCell ⟨B, 0, none⟩ v').ownsRow n₀ e size v' m ys ∧ KeepsOthers W (w1.setCell ⟨B, 0, none⟩ v') := by
  have hne : some B ≠ v.ownBlock := fun e => by have := (World.ownsRow.lt hrow B e.symm).1; omega
  have hv1 : Boxed w1 B t v := (hv.alloc _).kept hgrow hne
  refine ⟨hv1, ?_, row_set hown' (fun e => by have := (World.ownsRow.lt hown' B e).1; omega) v', ?_⟩
  · exact hv1.set v'
  · refine ((KeepsOthers.alloc W tmp).trans (KeepsOthers.of_grownBy hgrow fun j o ej hj => ?_)).trans (KeepsOthers.setCell _ _ _)
    rcases (hrow.alloc tmp).2 with ⟨rfl, _⟩ | ⟨g, cap, cur, rfl, _, hgb, _⟩
    · simp [Value.ownBlock] at ej
    · obtain rfl : g = j := by simpa [Value.ownBlock] using ej
      rw [hgb] at hj; cases hj; rfl
theorem results_cells2 {P : Program} {fn : Func} {p q : Tmp} {t1 t2 : TypeId} (h : fn.results = #[.cell p t1, .cell q t2]) (tmps : Array Value) (w : World) (a b : Addr) (u1 u2 : Value) (hp : tmps.getD p undef = .pointer (some a)) (hq : tmps.getD q undef = .pointer (some b))
    (h1 : (isAgg t1).run P w = .ok false w) (h2 : (isAgg t2).run P w = .ok false w) (c1 : w.cell? a = some u1) (c2 : w.cell? b = some u2) : (results fn tmps).run P w = .ok (.tuple #[u1, u2]) w := by
  have hp' : tmps[p]?.getD undef = .pointer (some a) := by simpa using hp
  have hq' : tmps[q]?.getD undef = .pointer (some b) := by simpa using hq
  simp [results, h, hp', hq', asAddr, loadVar, h1, h2, c1, c2]
end Go.Proofs.YtahmcjdddcbhnaaGreatDoor
namespace Go.Proofs.YtahmcjdddcbhnaaGreatDoor
open Go Go.Ev Go.RowKit

theorem mix : Tryz.prog.follows .mixedOrders = true := by kernel_rfl
theorem noName : Tryz.prog.funcs.all (fun fn => !(fn.name == "runtime.NumGoroutine")) = true := by kernel_rfl
theorem notNamed (f : Nat) (fn : Func) (h : Tryz.prog.funcs[f]? = some fn) : (fn.name == "runtime.NumGoroutine") = false := by
  have h1 := Array.all_eq_true_iff_forall_mem.1 noName fn (Array.mem_of_getElem? h)
  simpa using h1
/-- calls, however deep within bounds that suffice -/
noncomputable def cal0 : Cal := evCal (funIR Tryz.prog) Γ0 1000000 1000
theorem cal0_ok : CalOK Tryz.prog Γ0 cal0 := Go.Ev.cal_ok mix notNamed 1000

/-- the blocks A lie where ι says, their numbers being σ; nothing else has a name -/
structure Lies (w : World) (A : List (Pth × O)) (σ : Nat → Int) (ι : Emb) : Prop where
  sym : ι.sym = σ
  hok : HOK Tryz.prog ι (hp A) w
  dom : ∀ p, ι p ≠ none → p ∈ names A
/-- where they lie -/
def foot (ι : Emb) (A : List (Pth × O)) (b : Nat) : Prop := ∃ p t, Live (hp A) p ∧ ι p = some (b, t)
section
variable {w w' : World} {A : List (Pth × O)} {σ : Nat → Int} {ι : Emb}
theorem Lies.lt (h : Lies w A σ ι) {b : Nat} (hb : foot ι A b) : b < w.heap.size := by
  obtain ⟨p, t, _, hp⟩ := hb
  exact h.hok.lt p b t hp
theorem Lies.chg {F : Nat → Prop} (h : Lies w A σ ι) (hc : Chg F w w') (hf : ∀ b, foot ι A b → ¬ F b) : Lies w' A σ ι :=
  ⟨h.sym, ⟨fun p o hp => O.ok_mono (h.hok.obj p o hp) (Emb.le.refl _) fun b s hd hp' => hc.block b (h.hok.lt p b s hp') (hf b ⟨p, s, ⟨o, hp, hd⟩, hp'⟩), h.hok.inj, fun p b s hp => Nat.lt_of_lt_of_le (h.hok.lt p b s hp) hc.size⟩, h.dom⟩
theorem Lies.bel (h : Lies w A σ ι) (hb : Below w.heap.size w w') : Lies w' A σ ι := h.chg (F := fun _ => False) (Chg.of_below hb) fun _ _ h => h
/-- a cell of a block that is named -/
theorem Lies.cell (h : Lies w A σ ι) {p : Pth} {c : List V} (hp : (hp A).get p = some (.cells c)) {b t : Nat} (hb : ι p = some (b, t)) {j : Nat} {v : V} (hj : c[j]? = some v) :
    ∃ x, w.cell? ⟨b, j, none⟩ = some x ∧ V.rel ι v x := by
  have h0 := cells_zero h.hok hp hb
  subst h0
  obtain ⟨z, hz, hzr, hlt⟩ := cell_nth h.hok hp hb (j := j) (v := v) (by rw [nth_eq]; exact hj)
  exact ⟨z, by simpa using hz, hzr⟩
end
/-- the blocks A2 are found in H' -/
noncomputable def fitA (H' : Heap) (A2 : List (Pth × O)) (l0 : Asc) : Asc := uniB 40 H' A2 l0
noncomputable def extA (l : Asc) (l0 : Asc) : Bool := List.rec true (fun e _ ih => match hasA l e.1 e.2 with | true => ih | false => false) l0
theorem extA_ok {l : Asc} : ∀ {l0 : Asc}, extA l l0 = true → ∀ e ∈ l0, asc l e.1 = some e.2
  | [], _, e, he => by simp at he
  | x :: t, h, e, he => by
    have h' : (match hasA l x.1 x.2 with | true => extA l t | false => false) = true := h
    cases h1 : hasA l x.1 x.2 with
    | false => simp [h1] at h'
    | true =>
      simp only [h1] at h'
      rcases List.mem_cons.1 he with rfl | he
      · exact hasA_ok h1
      · exact extA_ok h' e he
noncomputable def fitF (asg : Asg) (spec : Ev.Spec) (l0 : Asc) (A2 : List (Pth × O)) (H' : Heap) : Bool :=
  match premtchS (mtchS asg spec (imgs (fitA H' A2 l0) (names A2)) (fitA H' A2 l0) 40) (fitA H' A2 l0) H' A2, nodupP (imgs (fitA H' A2 l0) (names A2)), subP (fstOf (fitA H' A2 l0)) (names A2), extA (fitA H' A2 l0) l0 with
  | true, true, true, true => true
  | _, _, _, _ => false
theorem fit_core {H H' : Heap} {A2 : List (Pth × O)} {asg : Asg} {spec : Ev.Spec} {l0 : Asc} (hfit : fitF asg spec l0 A2 H' = true) {σ τ : Nat → Int} (hn : Num asg spec σ τ) {w w' : World} {ι ι' : Emb} (hs : ι.sym = σ) (st : Step Tryz.prog ι H w ι' H' w') :
    ∃ ι2, Lies w' A2 τ ι2 ∧ (∀ b, foot ι2 A2 b → (∃ q s, Live H q ∧ ι q = some (b, s)) ∨ w.heap.size ≤ b) ∧ ∀ e ∈ l0, ι2 e.1 = ι' e.2 := by
  unfold fitF at hfit
  generalize hl : fitA H' A2 l0 = l at hfit
  generalize hzs : imgs l (names A2) = zs at hfit
  cases h2 : premtchS (mtchS asg spec zs l 40) l H' A2 <;> cases h3 : nodupP zs <;> cases h7 : subP (fstOf l) (names A2) <;> cases h6 : extA l l0 <;> simp only [h2, h3, h7, h6] at hfit <;> try (cases hfit; done)
  have hsym : ι'.sym = σ := st.ext.syms.trans hs
  have hn' : Num asg spec ι'.sym τ := by rw [hsym]; exact hn
  have hself := extA_ok h6
  have hz : ∀ q b s, q ∈ zs → ι' q = some (b, s) → s = 0 := fun q b s hq hb => by
    rw [← hzs] at hq
    have : ∀ ps : List Pth, q ∈ imgs l ps → ∃ p ∈ ps, asc l p = some q := by
      intro ps
      induction ps with
      | nil => intro hh; cases hh
      | cons x t ih =>
        intro hh
        have hi : imgs l (x :: t) = (match asc l x with | some q => q :: imgs l t | none => imgs l t) := rfl
        rw [hi] at hh
        cases hx : asc l x with
        | none => rw [hx] at hh; obtain ⟨p, g1, g2⟩ := ih hh; exact ⟨p, List.mem_cons_of_mem _ g1, g2⟩
        | some y =>
          rw [hx] at hh
          rcases List.mem_cons.1 hh with rfl | hh
          · exact ⟨x, List.mem_cons_self .., hx⟩
          · obtain ⟨p, g1, g2⟩ := ih hh; exact ⟨p, List.mem_cons_of_mem _ g1, g2⟩
    obtain ⟨p, g1, g2⟩ := this _ hq
    rw [names_eq] at g1
    obtain ⟨e, g3, rfl⟩ := List.mem_map.1 g1
    obtain ⟨q', o, e1, e2, e3⟩ := premtchS_ok h2 e g3
    rw [g2] at e1; cases e1
    have ho := st.hok.obj q o e2
    cases o with
    | cells c => obtain ⟨b', s', cs, el, fr, f1, f2, f3, f4, f5, f6⟩ := ho; rw [hb] at f1; cases f1; exact f6
    | map es kk => obtain ⟨b', es', f1, f2, f3⟩ := ho; rw [hb] at f1; cases f1; rfl
    | _ => exfalso; cases hx : e.2 <;> rw [hx] at e3 <;> cases e3
  have hmt := fun v x y => mtchS_ok (l := l) (ι := ι') hn' hz 40 v x y
  have hok2 : HOK Tryz.prog (viaS l τ ι') (hp A2) w' := fit_ok hmt h2 (by rw [hzs]; exact h3) st.hok
  refine ⟨viaS l τ ι', ⟨rfl, hok2, fun p hp => ?_⟩, ?_, fun e he => viaS_some (hself e he)⟩
  · cases hv' : viaS l τ ι' p with
    | none => exact absurd hv' hp
    | some z =>
      obtain ⟨q, g1, _⟩ := viaS_inv hv'
      exact subP_ok h7 p (fstOf_mem g1)
  · rintro b ⟨p, t, ⟨o, hl1, hl2⟩, hp⟩
    obtain ⟨q, a, e1, e2, e3⟩ := premtchS_ok h2 _ (hp_mem hl1)
    have ha := (omtchS_ok (P := Tryz.prog) (w := w') hmt e3 e1 (st.hok.obj q a e2)).2
    rw [viaS_some e1] at hp
    by_cases hb : b < w.heap.size
    · obtain ⟨q', s', g1, g2⟩ := st.back q b t ⟨a, e2, ha⟩ hp hb
      exact .inl ⟨q', s', g1, g2⟩
    · exact .inr (by omega)
/-- a call from the blocks A to the blocks A2 -/
theorem call_fit {f : Nat} {args : List V} {v : V} {H' : Heap} {n m : Pth} {A A2 : List (Pth × O)} {asg : Asg} {spec : Ev.Spec} {l0 : Asc} (h : cal0.fn f args (hp A) m = .ok v H' n) (hfit : fitF asg spec l0 A2 H' = true) {σ τ : Nat → Int} (hn : Num asg spec σ τ)
    {w : World} {ι : Emb} (hL : Lies w A σ ι) {xs : Array Value} (hxs : V.rels ι args xs.toList) :
    Calls Tryz.prog f xs w fun e w' => ∃ x ι' ι2, e = .returned x ∧ V.rel ι' v x ∧ Lies w' A2 τ ι2 ∧ Chg (foot ι A) w w' ∧ (∀ b, foot ι2 A2 b → foot ι A b ∨ w.heap.size ≤ b) ∧ ∀ e ∈ l0, ι2 e.1 = ι' e.2 ∧ ∀ z, ι e.2 = some z → ι2 e.1 = some z := by
  obtain ⟨hmono, _, hk⟩ := cal0_ok.fn _ _ _ _ _ _ _ h
  refine (hk ι w xs hL.hok GOK.none (fun p h1 _ => ?_) hxs).mono fun e w' he => ?_
  · cases hp : ι p with
    | none => rfl
    | some z => exact absurd h1 (hp_in (hL.dom p (by rw [hp]; simp)))
  obtain ⟨x, rfl, ι', hv, st⟩ := he
  obtain ⟨ι2, h1, h2, h3⟩ := fit_core hfit hn hL.sym st
  refine ⟨x, ι', ι2, rfl, hv, h1, ⟨st.os, st.tape, st.out, st.size, fun b hb hf => st.kept b hb fun p s hl' hp => hf ⟨p, s, hl', hp⟩⟩, fun b hb => ?_, fun e he => ⟨h3 e he, fun z hz => (h3 e he).trans (st.ext.name _ z hz)⟩⟩
  rcases h2 b hb with ⟨q, s, g1, g2⟩ | g
  · exact .inl ⟨q, s, g1, g2⟩
  · exact .inr g
end Go.Proofs.YtahmcjdddcbhnaaGreatDoor
namespace Go.Proofs.YtahmcjdddcbhnaaGreatDoor
open Go Go.RowKit

/-- the greatest symbol -/
def topSym (r : Bool) : Int := if r then 1114111 else 255
/-- a symbol of a text -/
structure okSym (r : Bool) (z : Int) : Prop where
  lo : 0 ≤ z
  hi : z ≤ topSym r
  no : r = true → ¬ (55296 ≤ z ∧ z ≤ 57343)
section
variable {w : World}
theorem surr_no {z : Int} (h : ¬ (55296 ≤ z ∧ z ≤ 57343)) (w : World) : Calls Tryz.prog 59 #[.int .i64 z] w fun e w' => e = .returned (.bool false) ∧ w' = w := by
  by_cases h1 : 55296 ≤ z
  · have h2 : ¬ z ≤ 57343 := fun h2 => h ⟨h1, h2⟩
    go_enter Tryz.func59, Tryz.ntmps59
    go_wp2
    go_ret
    exact ⟨rfl, rfl⟩
  · go_enter Tryz.func59, Tryz.ntmps59
    go_wp2
    go_ret
    exact ⟨rfl, rfl⟩
set_option maxHeartbeats 4000000 in
set_option maxRecDepth 1000000 in
theorem outs_walk {r : Bool} {z : Int} (h : okSym r z) {p3 p1 : Nat} (c3 : w.cell? ⟨p3, 0, none⟩ = some (.int .i64 (topSym r))) (c1 : w.cell? ⟨p1, 0, none⟩ = some (.bool r)) :
    Calls Tryz.prog 58 #[.int .i64 z, .pointer (some ⟨p3, 0, none⟩), .pointer (some ⟨p1, 0, none⟩)] w fun e w' => e = .returned (.bool false) ∧ w' = w := by
  have h1 := h.lo
  have h2 := h.hi
  have h3 := h.no
  obtain ⟨t, ht⟩ : ∃ t, topSym r = t := ⟨_, rfl⟩
  rw [ht] at h2 c3
  have k1 : ¬ z < 0 := by omega
  have k2 : ¬ t < z := by omega
  clear h ht
  cases r with
  | false =>
    clear h3
    go_enter Tryz.func58, Tryz.ntmps58
    go_wp2
    go_ret
    exact ⟨rfl, rfl⟩
  | true =>
    have hs := surr_no (h3 rfl) w
    clear h3
    go_enter Tryz.func58, Tryz.ntmps58
    go_wp2_with (first | (go_at_call 59; refine hs.mono ?_; clear hs; rintro _ w1 ⟨rfl, rfl⟩) | fail)
    go_ret
    exact ⟨rfl, rfl⟩
set_option maxHeartbeats 4000000 in
set_option maxRecDepth 1000000 in
theorem index_walk {r : Bool} {v : Value} {l : List Int} (h : Sees w 1 v (ints l)) (hl : l.length ≤ 1000000) (hok : ∀ z ∈ l, okSym r z) {p3 p1 : Nat} (c3 : w.cell? ⟨p3, 0, none⟩ = some (.int .i64 (topSym r))) (c1 : w.cell? ⟨p1, 0, none⟩ = some (.bool r)) :
    Calls Tryz.prog 57 #[v, .func (.func 58) #[] #[.pointer (some ⟨p3, 0, none⟩), .pointer (some ⟨p1, 0, none⟩)]] w fun e w' => e = .returned (.int .i64 (-1)) ∧ w' = w := by
  obtain ⟨A, n, c, rfl, h1, h2, h3⟩ := h
  have hn : n = l.length := by rw [ints_len] at h1; omega
  subst hn
  clear h1
  have HO := Lib.hid hok
  have hcall : ∀ z, okSym r z → Calls Tryz.prog 58 #[.int .i64 z, .pointer (some ⟨p3, 0, none⟩), .pointer (some ⟨p1, 0, none⟩)] w fun e w' => e = .returned (.bool false) ∧ w' = w := fun z hz => outs_walk hz c3 c1
  clear hok c3 c1
  go_enter Tryz.func57, Tryz.ntmps57
  go_wp2_with fail
  go_loopw [8] (fun iv wr => ∃ j : Nat, j ≤ l.length ∧ iv = .int .i64 j ∧ wr = w) (fun iv _ => l.length - (intOf iv).toNat)
  case atStart => exact ⟨0, Nat.zero_le _, rfl, rfl⟩
  case round =>
    obtain ⟨j, hj, rfl, rfl⟩ := hrel
    by_cases hjl : j < l.length
    · obtain ⟨b, off, rfl, hb, hcc⟩ := h3 (by omega)
      have hc := hcc j (.int .i64 l[j]) (by unfold ints; rw [List.getElem?_map, List.getElem?_eq_getElem hjl]; rfl)
      have ho := hcall _ (HO.out _ (List.getElem_mem hjl))
      obtain ⟨y, hy⟩ : ∃ y, l[j] = y := ⟨_, rfl⟩
      rw [hy] at hc ho
      have hj1 : (j : Int) < (l.length : Int) := by omega
      clear hy hcc h3 hcall
      go_wp2_with (first | (go_at_call 58; refine ho.mono ?_; clear ho; rintro _ w1 ⟨rfl, rfl⟩) | fail)
      go_roundw
      case rel => exact ⟨j + 1, hjl, by go_num, trivial⟩
      case measure => simp [intOf]; omega
    · have hj1 : ¬ (j : Int) < (l.length : Int) := by omega
      clear hj hjl
      go_wp2_with fail
      go_ret
      exact ⟨rfl, rfl⟩
set_option maxHeartbeats 4000000 in
set_option maxRecDepth 1000000 in
theorem contains_walk {r : Bool} {v : Value} {l : List Int} (h : Sees w 1 v (ints l)) (hl : l.length ≤ 1000000) (hok : ∀ z ∈ l, okSym r z) {p3 p1 : Nat} (c3 : w.cell? ⟨p3, 0, none⟩ = some (.int .i64 (topSym r))) (c1 : w.cell? ⟨p1, 0, none⟩ = some (.bool r)) :
    Calls Tryz.prog 43 #[v, .func (.func 58) #[] #[.pointer (some ⟨p3, 0, none⟩), .pointer (some ⟨p1, 0, none⟩)]] w fun e w' => e = .returned (.bool false) ∧ w' = w := by
  have hi := index_walk h hl hok c3 c1
  clear h hl hok c3 c1
  go_enter Tryz.func43, Tryz.ntmps43
  go_wp2_with (first | (go_at_call 57; refine hi.mono ?_; clear hi; rintro _ w1 ⟨rfl, rfl⟩) | fail)
  go_ret
  exact ⟨rfl, rfl⟩
set_option maxHeartbeats 4000000 in
set_option maxRecDepth 1000000 in
theorem outside_walk (r : Bool) (w : World) : Calls Tryz.prog 44 #[.bool r] w fun e w' => ∃ p3 p1, e = .returned (.func (.func 58) #[] #[.pointer (some ⟨p3, 0, none⟩), .pointer (some ⟨p1, 0, none⟩)]) ∧
    w'.cell? ⟨p3, 0, none⟩ = some (.int .i64 (topSym r)) ∧ w'.cell? ⟨p1, 0, none⟩ = some (.bool r) ∧ Below w.heap.size w w' := by
  cases r with
  | false =>
    go_enter Tryz.func44, Tryz.ntmps44
    go_wp2_with fail
    go_ret
    have b1 := Blk.made (w.alloc (.cells #[.bool false] 4)) 3 #[.int .i64 255]
    have b0 := (Blk.made w 4 #[.bool false]).alloc (.cells #[.int .i64 255] 3)
    refine ⟨_, _, rfl, ?_, ?_, ((Below.refl _ _).alloc (Nat.le_refl _) _).alloc (by simp) _⟩
    · simp [topSym]
    · simp [b0.at' 0]
  | true =>
    go_enter Tryz.func44, Tryz.ntmps44
    go_wp2_with fail
    go_ret
    have b1 := Blk.made (w.alloc (.cells #[.bool true] 4)) 3 #[.int .i64 1114111]
    have b0 := (Blk.made w 4 #[.bool true]).alloc (.cells #[.int .i64 1114111] 3)
    refine ⟨_, _, rfl, ?_, ?_, ((Below.refl _ _).alloc (Nat.le_refl _) _).alloc (by simp) _⟩
    · simp [topSym]
    · simp [b0.at' 0]
set_option maxHeartbeats 4000000 in
set_option maxRecDepth 1000000 in
theorem valid_walk {r : Bool} {v : Value} {l : List Int} (h : Sees w 1 v (ints l)) (hl : l.length ≤ 65536) (hok : ∀ z ∈ l, okSym r z) :
    Calls Tryz.prog 24 #[v, .bool r] w fun e w' => e = .returned (.int .i64 0) ∧ Below w.heap.size w w' := by
  have ho := outside_walk r w
  have hc := fun (w1 : World) (hb : Below w.heap.size w w1) (p3 p1 : Nat) (c3 : w1.cell? ⟨p3, 0, none⟩ = some (.int .i64 (topSym r))) (c1 : w1.cell? ⟨p1, 0, none⟩ = some (.bool r)) => contains_walk (h.bel hb) (by omega) hok c3 c1
  obtain ⟨A, n, c, rfl, h1, -, -⟩ := h
  have hn : n = l.length := by rw [ints_len] at h1; omega
  subst hn
  have hlI : ¬ (65536 : Int) < (l.length : Int) := by omega
  clear h1 hok hl
  go_enter Tryz.func24, Tryz.ntmps24
  go_wp2_with (first
    | (go_at_call 44; refine ho.mono ?_; clear ho; rintro _ w1 ⟨p3, p1, rfl, c3, c1, hb1⟩; have hc1 := hc w1 hb1 p3 p1 c3 c1; clear hc)
    | (go_at_call 43; refine hc1.mono ?_; clear hc1; rintro _ w2 ⟨rfl, rfl⟩)
    | fail)
  go_ret
  exact ⟨rfl, hb1⟩
end
end Go.Proofs.YtahmcjdddcbhnaaGreatDoor
namespace Go.Proofs.YtahmcjdddcbhnaaGreatDoor
open Go Go.Ev Go.RowKit

/-- block g begins with the cells cs, which can be written -/
def Cel (w : World) (g : Nat) (cs : Array Value) : Prop := ∃ c t fr, w.heap[g]? = some (.cells c t fr) ∧ (fr.1 = fr.2 ∨ c.size ≤ fr.1) ∧ cs.size ≤ c.size ∧ ∀ i, i < cs.size → c[i]? = cs[i]?
section
variable {F : Nat → Prop} {w w' : World} {g : Nat} {cs : Array Value}
theorem Cel.lt (h : Cel w g cs) : g < w.heap.size := by
  obtain ⟨c, t, fr, h1, -⟩ := h
  exact (Array.getElem?_eq_some_iff.1 h1).1
theorem Cel.at' (h : Cel w g cs) (i : Nat) (hi : i < cs.size := by simp) : w.cell? ⟨g, i, none⟩ = cs[i]? := by
  obtain ⟨c, t, fr, h1, -, -, h4⟩ := h
  simp only [World.cell?, h1]
  exact h4 i hi
theorem Cel.thaw (h : Cel w g cs) (i : Nat) (hi : i < cs.size := by simp) : w.frozen? ⟨g, i, none⟩ = false := by
  obtain ⟨c, t, fr, h1, h2, h3, -⟩ := h
  exact frozen_of h1 h2 (by omega)
theorem Cel.same (h : Cel w g cs) (e : w'.heap[g]? = w.heap[g]?) : Cel w' g cs := by
  obtain ⟨c, t, fr, h1, h2⟩ := h
  exact ⟨c, t, fr, e.trans h1, h2⟩
theorem Cel.chg (h : Cel w g cs) (hc : Chg F w w') (hf : ¬ F g) : Cel w' g cs := h.same (hc.block g h.lt hf)
theorem Cel.bel {B : Nat} (h : Cel w g cs) (hc : Below B w w') (hf : g < B) : Cel w' g cs := h.same (hc.block g hf)
theorem Cel.alloc (h : Cel w g cs) (o : Obj) : Cel (w.alloc o) g cs := h.same (Below.heap_alloc w o g h.lt)
theorem Cel.away (h : Cel w g cs) {p : Addr} (hp : g ≠ p.block) (u : Value) : Cel (w.setCell p u) g cs := h.same (Below.heap_setCell w p u g hp)
theorem Cel.grown {row : Option Nat} (h : Cel w g cs) (hb : w.grownBy w' row) (hg : some g ≠ row) : Cel w' g cs := h.same (hb.block g h.lt hg)
theorem Cel.put (h : Cel w g cs) (i : Nat) (u : Value) : Cel (w.setCell ⟨g, i, none⟩ u) g (cs.setIfInBounds i u) := by
  obtain ⟨c, t, fr, h1, h2, h3, h4⟩ := h
  refine ⟨c.setIfInBounds i u, t, fr, ?_, by simpa using h2, by simpa using h3, fun j hj => ?_⟩
  · simp [World.setCell, Array.getElem?_modify, h1]
  · simp at hj
    have := h4 j hj
    rw [Array.getElem?_setIfInBounds, Array.getElem?_setIfInBounds]
    by_cases e : i = j
    · subst e
      rw [if_pos rfl, if_pos rfl, if_pos (by omega), if_pos hj]
    · rw [if_neg e, if_neg e]
      exact this
theorem Cel.of_blk {t : TypeId} (h : Blk w g t cs) : Cel w g cs := ⟨cs, t, (0, 0), h, .inl rfl, Nat.le_refl _, fun _ _ => rfl⟩
end
end Go.Proofs.YtahmcjdddcbhnaaGreatDoor
namespace Go.Proofs.YtahmcjdddcbhnaaGreatDoor
open Go Go.RowKit

section
variable {P : Program} {w : World} {base : Nat} {e : TypeId} {size : Nat}
theorem step_append_sees {ops : Array Oper} {o : Oper} {a : Act} {K : Act → World → Prop} {Q : Exit → Act → World → Prop} {E : Prop} (hgd : o.guard = none) (s x : Operand) (t : TypeId)
    (ho : o.op = .call { callee := .builtin .append, args := #[s, x], argTypes := #[t, t] })
    (i : TypeInfo) (z : Value) (bytes : Nat) (ht : P.underlying t = some (.slice e)) (hi : P.info? e = some i) (hz : i.zero = some z)
    (hsize : i.size = size) (hby : i.bytes = bytes) (hzs : z.cells.size = size) (hsz : 0 < size)
    (v : Value) (n : Nat) (xs : List Value) (hs : a.eval s = v) (hown : w.ownsRow base e size v n xs)
    (u : Value) (m : Nat) (news : List Value) (hx : a.eval x = u) (hrow : Sees w size u news) (hm : news.length = m * size) (h1 : ∀ u ∈ news, u.oneCell' = true)
    (h63 : n + m ≤ maxLen) (hbytes : (n + m) * bytes ≤ 140737488355328) (hbase : base ≤ w.heap.size)
    (h : ∀ v' w', w'.ownsRow base e size v' (n + m) (xs ++ news) → w.grownBy w' v.ownBlock → (v'.ownBlock = v.ownBlock ∨ ∃ g, v'.ownBlock = some g ∧ w.heap.size ≤ g) → K (a.put o.dst v') w') :
    if Region.wanted o (yielded ops a.tmps) = true then Oper.wp P o a w K Q else E := by
  have key : ∃ v' w', (Builtin.append_ #[t, t] o.type #[v, u]).run P w = .ok v' w' ∧ w'.ownsRow base e size v' (n + m) (xs ++ news) ∧ w.grownBy w' v.ownBlock ∧ (v'.ownBlock = v.ownBlock ∨ ∃ g, v'.ownBlock = some g ∧ w.heap.size ≤ g) := by
    obtain ⟨A, m', c, rfl, k1, k2, k3⟩ := hrow
    have hmm : m' = m := Nat.eq_of_mul_eq_mul_right hsz (k1.symm.trans hm)
    subst hmm
    cases A with
    | none =>
      have hm0 : m' = 0 := by
        rcases Nat.eq_zero_or_pos m' with h0 | h0
        · exact h0
        · obtain ⟨b, s, hb, _⟩ := k3 (by omega)
          cases hb
      subst hm0
      have hn : news = [] := List.length_eq_zero_iff.1 (by simpa using k1)
      subst hn
      refine ⟨v, w, ?_, by simpa using hown, grown_refl _ _, .inl rfl⟩
      rcases hown.2 with ⟨rfl, rfl⟩ | ⟨g, cap, cur, rfl, _, _, hnc, _⟩
      · simp [Builtin.append_, run_underlying ht, sizeOf, typeInfo, hi, Builtin.lenOf, Builtin.firstCells]
      · simp [Builtin.append_, run_underlying ht, sizeOf, typeInfo, hi, Builtin.lenOf, Builtin.firstCells, hnc, storeCells]
    | some ad =>
      have hcells : ∀ j u, news[j]? = some u → w.cell? (ad.add j) = some u := by
        intro j u hj
        have hlen := (List.getElem?_eq_some_iff.1 hj).1
        obtain ⟨b, s, hb, _, hc⟩ := k3 (fun e => by subst e; rw [Nat.zero_mul] at k1; omega)
        cases hb
        rw [add_flat]
        exact hc j u hj
      obtain ⟨v', w', h2, h3, h4, _, h5⟩ := run_append_own_at w base t o.type e i z size bytes ht hi hz hsize hby hzs hsz v n xs hown ad m' c news k1 hcells h1 h63 hbytes hbase
      exact ⟨v', w', h2, h3, h4, h5.imp id fun h => ⟨_, h, Nat.le_refl _⟩⟩
  obtain ⟨v', w', hr, h3, h4, h5⟩ := key
  have hw : Region.wanted o (yielded ops a.tmps) = true := by simp [Region.wanted, hgd]
  rw [if_pos hw]
  unfold Oper.wp execOp
  simp only [ho, resolve, invoke, builtin, Sem.run_bind, Sem.run_pure, Result.andThen_ok, List.map_toArray, List.map_cons, List.map_nil, hs, hx, hr]
  exact h v' w' h3 h4 h5
end
end Go.Proofs.YtahmcjdddcbhnaaGreatDoor
namespace Go.Imap
open Go Go.Maps Go.RowKit Go.WideMaps

/-- numbers below a bound that all differ are no more than it -/
theorem few_below : ∀ (K : Nat) (l : List Nat), l.Nodup → (∀ a ∈ l, a < K) → l.length ≤ K
  | 0, l, _, h => by
    cases l with
    | nil => simp
    | cons a t => exact absurd (h a (List.mem_cons_self ..)) (by omega)
  | K + 1, l, hn, h => by
    by_cases hk : K ∈ l
    · have h1 := few_below K (l.erase K) (hn.erase K) fun a ha => by
        have h2 := (List.Nodup.mem_erase_iff hn).1 ha
        have := h a h2.2
        have := h2.1
        omega
      rw [List.length_erase_of_mem hk] at h1
      omega
    · have h1 := few_below K l hn fun a ha => by
        have := h a ha
        have : a ≠ K := fun e => hk (e ▸ ha)
        omega
      omega
/-- block B is a map keyed by numbers below 64, that holds what f says -/
def IMap (w : World) (B : Nat) (f : Nat → Option Value) : Prop :=
  ∃ ms cl, w.heap[B]? = some (.map ms cl) ∧ (∀ x ∈ ms.toList, x.born < cl) ∧ (ms.toList.map (·.born)).Nodup ∧ (ms.toList.map (·.key)).Nodup ∧
    (∀ x ∈ ms.toList, ∃ s : Nat, s < 64 ∧ x.key = .int .i64 (s : Int) ∧ f s = some x.val) ∧ ∀ s v, f s = some v → ∃ x ∈ ms.toList, x.key = .int .i64 (s : Int)
theorem IMap.same {w w' : World} {B : Nat} {f : Nat → Option Value} (h : IMap w B f) (hb : w'.heap[B]? = w.heap[B]?) : IMap w' B f := by
  obtain ⟨ms, cl, h0, h1⟩ := h
  exact ⟨ms, cl, hb.trans h0, h1⟩
theorem IMap.lt {w : World} {B : Nat} {f : Nat → Option Value} (h : IMap w B f) : B < w.heap.size := by
  obtain ⟨ms, cl, h0, _⟩ := h
  exact (Array.getElem?_eq_some_iff.1 h0).1
theorem IMap.alloc {w : World} {B : Nat} {f : Nat → Option Value} (h : IMap w B f) (o : Obj) : IMap (w.alloc o) B f := h.same (Below.heap_alloc _ _ _ h.lt)
theorem wf64 {s : Nat} (h : s < 64) : (Lit.int .i64 (s : Int)).wf = true := by
  have key : ∀ x : Fin 64, (Lit.int .i64 ((x.val : Nat) : Int)).wf = true := by decide
  exact key ⟨s, h⟩
section
variable {P : Program} {t k e : TypeId} {w : World} {B : Nat} {f : Nat → Option Value}
theorem IMap.keys (hk : P.underlying k = some (.int .i64)) {ms : Array MapEntry} (h : ∀ x ∈ ms.toList, ∃ s : Nat, s < 64 ∧ x.key = .int .i64 (s : Int) ∧ f s = some x.val) : ∀ x ∈ ms.toList, ∃ l, keyOf P k x.key = some l := fun x hx => by
  obtain ⟨s, hs, hkey, _⟩ := h x hx
  exact ⟨_, by rw [hkey]; exact keyOf_int_mk hk (wf64 hs)⟩
theorem IMap.size {ms : Array MapEntry} (hnd : (ms.toList.map (·.key)).Nodup) (h1 : ∀ x ∈ ms.toList, ∃ s : Nat, s < 64 ∧ x.key = .int .i64 (s : Int) ∧ f s = some x.val) : ms.size ≤ 64 := by
  let g : Value → Nat := fun v => match v with | .int _ a => a.toNat | _ => 0
  have hl : (ms.toList.map fun x => g x.key).length ≤ 64 := by
    refine few_below 64 _ ?_ ?_
    · have e : (ms.toList.map fun x => g x.key) = (ms.toList.map (·.key)).map g := by rw [List.map_map]; rfl
      rw [e]
      refine List.Pairwise.map (R := fun a b => a ≠ b ∧ a ∈ ms.toList.map (·.key) ∧ b ∈ ms.toList.map (·.key)) g ?_ ?_
      · rintro a b ⟨hne, ha, hb⟩ he
        obtain ⟨x, hx, rfl⟩ := List.mem_map.1 ha
        obtain ⟨y, hy, rfl⟩ := List.mem_map.1 hb
        obtain ⟨s, hs, kx, _⟩ := h1 x hx
        obtain ⟨s', hs', ky, _⟩ := h1 y hy
        apply hne
        show x.key = y.key
        rw [kx, ky] at he ⊢
        simp [g] at he
        rw [he]
      · exact List.Pairwise.imp_of_mem (fun ha hb h => ⟨h, ha, hb⟩) hnd
    · intro a ha
      obtain ⟨x, hx, rfl⟩ := List.mem_map.1 ha
      obtain ⟨s, hs, kx, _⟩ := h1 x hx
      simp [kx, g]
      exact hs
  simpa using hl
theorem IMap.lookup (h : IMap w B f) (ht : P.underlying t = some (.map k e)) (hk : P.underlying k = some (.int .i64)) {z : Value} (hz : (zeroValue e).run P w = .ok z w) {s : Nat} (hs : s < 64) :
    (Instr.lookup t (.map (some B)) (.int .i64 (s : Int)) false).run P w = .ok ((f s).getD z) w := by
  obtain ⟨ms, cl, hb, _, _, hnd, h1, h2⟩ := h
  have K := int_keyed hk
  have hkey := keyOf_int_mk hk (wf64 hs)
  rcases K.find w hkey ms.toList (IMap.keys hk h1) with ⟨hf, hn⟩ | ⟨j, e0, hf, hj, he⟩
  · have : f s = none := by
      cases hfs : f s with
      | none => rfl
      | some v => obtain ⟨x, hx, hxk⟩ := h2 s v hfs; exact absurd hxk (hn x hx)
    rw [this]
    simp [Instr.lookup, run_underlying ht, MapKept.run_getObj_map hb, K.check w _ hkey, hf, hz, Result.andThen]
  · obtain ⟨s', _, hk', hv⟩ := h1 e0 (List.mem_of_getElem? hj)
    rw [he] at hk'
    have e1 : s = s' := by cases hk'; omega
    subst e1
    rw [hv]
    simp [Instr.lookup, run_underlying ht, MapKept.run_getObj_map hb, K.check w _ hkey, hf, Result.andThen]
theorem IMap.delete (h : IMap w B f) (ht : P.underlying t = some (.map k e)) (hk : P.underlying k = some (.int .i64)) {s : Nat} (hs : s < 64) (ty : TypeId) :
    ∃ o, (Builtin.delete_ #[t, k] ty #[.map (some B), .int .i64 (s : Int)]).run P w = .ok (.tuple #[]) (ChangeMaps.setBlock w B o) ∧ IMap (ChangeMaps.setBlock w B o) B fun u => if u = s then none else f u := by
  obtain ⟨ms, cl, hb, hb1, hb2, hnd, h1, h2⟩ := h
  have K := int_keyed hk
  have hkey := keyOf_int_mk hk (wf64 hs)
  have hlt : B < w.heap.size := (Array.getElem?_eq_some_iff.1 hb).1
  have hnew : ∀ o, (ChangeMaps.setBlock w B o).heap[B]? = some o := fun o => by simp [ChangeMaps.setBlock, hlt]
  rcases K.find w hkey ms.toList (IMap.keys hk h1) with ⟨hf, hno⟩ | ⟨j, e0, hf, hj, he⟩
  · refine ⟨.map ms cl, ?_, ms, cl, hnew _, hb1, hb2, hnd, ?_, ?_⟩
    · simp [Builtin.delete_, run_underlying ht, MapKept.run_getObj_map hb, K.check w _ hkey, hf, MapKept.run_setObj_map _ hb, Result.andThen, ChangeMaps.setBlock]
    · intro x hx
      obtain ⟨u, hu, hxk, hv⟩ := h1 x hx
      refine ⟨u, hu, hxk, ?_⟩
      show (if u = s then none else f u) = _
      rw [if_neg (fun e' => hno x hx (by rw [hxk, e']))]
      exact hv
    · intro u y hu
      have hu' : (if u = s then none else f u) = some y := hu
      split at hu'
      · cases hu'
      · exact h2 u y hu'
  · have hjl : j < ms.toList.length := (List.getElem?_eq_some_iff.1 hj).1
    have hlist : (ms.eraseIdxIfInBounds j).toList = ms.toList.eraseIdx j := by simp [Array.eraseIdxIfInBounds]; split <;> simp_all
    have hsub : (ms.toList.eraseIdx j).Sublist ms.toList := List.eraseIdx_sublist _ _
    have hne : ∀ x ∈ ms.toList.eraseIdx j, x.key ≠ .int .i64 (s : Int) := by
      intro x hx hxk
      obtain ⟨i, hi1, hi2⟩ := List.mem_eraseIdx_iff_getElem?.1 hx
      have a1 : (ms.toList.map (·.key))[i]? = some (.int .i64 (s : Int)) := by rw [List.getElem?_map, hi2]; simp [hxk]
      have a2 : (ms.toList.map (·.key))[j]? = some (.int .i64 (s : Int)) := by rw [List.getElem?_map, hj]; simp [he]
      exact hi1 ((List.getElem?_inj (i := i) (j := j) (by simpa using (List.getElem?_eq_some_iff.1 hi2).1) hnd).1 (a1.trans a2.symm))
    refine ⟨.map (ms.eraseIdxIfInBounds j) cl, ?_, ms.eraseIdxIfInBounds j, cl, hnew _, ?_, ?_, ?_, ?_, ?_⟩
    · simp [Builtin.delete_, run_underlying ht, MapKept.run_getObj_map hb, K.check w _ hkey, hf, MapKept.run_setObj_map _ hb, Result.andThen, ChangeMaps.setBlock]
    · rw [hlist]; exact fun x hx => hb1 x (hsub.subset hx)
    · rw [hlist]; exact hb2.sublist (hsub.map _)
    · rw [hlist]; exact hnd.sublist (hsub.map _)
    · rw [hlist]
      intro x hx
      obtain ⟨u, hu, hxk, hv⟩ := h1 x (hsub.subset hx)
      refine ⟨u, hu, hxk, ?_⟩
      show (if u = s then none else f u) = _
      rw [if_neg (fun e' => hne x hx (by rw [hxk, e']))]
      exact hv
    · rw [hlist]
      intro u y hu
      have hu' : (if u = s then none else f u) = some y := hu
      split at hu'
      · cases hu'
      · rename_i hus
        obtain ⟨x, hx, hxk⟩ := h2 u y hu'
        refine ⟨x, ?_, hxk⟩
        obtain ⟨i, hi, hxi⟩ := List.getElem_of_mem hx
        refine List.mem_eraseIdx_iff_getElem?.2 ⟨i, fun e1 => ?_, by rw [List.getElem?_eq_getElem hi, hxi]⟩
        subst e1
        rw [List.getElem?_eq_getElem hi, hxi] at hj
        cases hj
        rw [hxk] at he
        cases he
        omega
end
end Go.Imap
namespace Go.Proofs.YtahmcjdddcbhnaaGreatDoor
open Go Go.RowKit Go.Imap

end Go.Proofs.YtahmcjdddcbhnaaGreatDoor
namespace Go.Imap
open Go Go.Maps Go.RowKit Go.WideMaps

/-- what a map holds at a number -/
def atI (f : Nat → Option Value) (x : Int) : Option Value := if x < 0 then none else f x.toNat
theorem wfI {x : Int} (h : -1 ≤ x ∧ x < 64) : (Lit.int .i64 x).wf = true := by
  by_cases h0 : x = -1
  · subst h0; decide
  · have e : x = ((x.toNat : Nat) : Int) := by omega
    rw [e]
    exact wf64 (by omega)
section
variable {P : Program} {w : World} {B : Nat} {f : Nat → Option Value} {t k e : TypeId}
theorem IMap.lookup2 (h : IMap w B f) (ht : P.underlying t = some (.map k e)) (hk : P.underlying k = some (.int .i64)) {z : Value} (hz : (zeroValue e).run P w = .ok z w) {x : Int} (hx : -1 ≤ x ∧ x < 64) :
    (Instr.lookup t (.map (some B)) (.int .i64 x) true).run P w = .ok (.tuple #[(atI f x).getD z, .bool (atI f x).isSome]) w := by
  obtain ⟨ms, cl, hb, _, _, hnd, h1, h2⟩ := h
  have K := int_keyed hk
  have hkey := keyOf_int_mk hk (wfI hx)
  rcases K.find w hkey ms.toList (IMap.keys hk h1) with ⟨hf, hn⟩ | ⟨j, e0, hf, hj, he⟩
  · have : atI f x = none := by
      unfold atI
      split
      · rfl
      · cases hfs : f x.toNat with
        | none => rfl
        | some v =>
          obtain ⟨y, hy, hyk⟩ := h2 _ v hfs
          have ex : ((x.toNat : Nat) : Int) = x := by omega
          rw [ex] at hyk
          exact absurd hyk (hn y hy)
    rw [this]
    simp [Instr.lookup, run_underlying ht, MapKept.run_getObj_map hb, K.check w _ hkey, hf, hz, Result.andThen]
  · obtain ⟨s', _, hk', hv⟩ := h1 e0 (List.mem_of_getElem? hj)
    rw [he] at hk'
    have e1 : x = (s' : Int) := by cases hk'; rfl
    subst e1
    have ea : atI f (s' : Int) = some e0.val := by
      unfold atI
      rw [if_neg (by omega), Int.toNat_natCast]
      exact hv
    rw [ea]
    simp [Instr.lookup, run_underlying ht, MapKept.run_getObj_map hb, K.check w _ hkey, hf, Result.andThen]
end
end Go.Imap
namespace Go.Proofs.YtahmcjdddcbhnaaGreatDoor
open Go Go.RowKit Go.Imap

theorem zeroConn (w : World) : (zeroValue 108).run Tryz.prog w = .ok (.pointer none) w := by kernel_rfl
end Go.Proofs.YtahmcjdddcbhnaaGreatDoor
namespace Go.Proofs.YtahmcjdddcbhnaaGreatDoor
open Go Go.RowKit Go.Imap

section
variable {w : World} {g cm : Nat} {sh pe tk cu : Int} {m1 : Value} {f : Nat → Option Value}
end
end Go.Proofs.YtahmcjdddcbhnaaGreatDoor
