/-
  text.Decode of bytes, walked: the symbols are the bytes.
  text.Decode of bytes, walked: the symbols are the bytes.
  Blocks that lie somewhere: another pattern for them, one block more, a cell stored anew; a call that was run, from blocks to blocks.
  The stream of the rule zz, walked: Feed of zeros.
  The stream of the rule zz: how it begins.
  The stream of the rule zz, walked: Feed of zeros.
  The stream of bytes of the rule zz, walked: Feed and Close.
  The stream of bytes of the rule zz, walked: Feed of zeros.
  A rule that flows, walked: feed and end, and the closures that call them.
  A connection's ask, walked: for a piece, and for the end.
  The filter, walked: End where it is taken.
  The filter, walked: Data where it is taken.
  The filter, walked: Open where it is refused.
  The filter, walked: Remove where the version is not there or is in use.
-/
import Derived.Test.YtahmcjdddcbhnaaGreatDoorErrG0a
import Derived.Test.YtahmcjdddcbhnaaGreatDoorConcWW
import Derived.Laws.ResultCell
import Derived.Test.YtahmcjdddcbhnaaGreatDoorStrSW
import Derived.LoopN
import Derived.Test.YtahmcjdddcbhnaaGreatDoorErrG0b
import Derived.Deep.RegionLaw
namespace Go.Proofs.YtahmcjdddcbhnaaGreatDoor
open Go Go.RowKit Go.Shelf Go.Says
attribute [local go_sem] Oper.semAt_some

/-- what a round keeps: two boxes, and every block of bytes -/
structure KD (tb rb : Nat) (W W' : World) : Prop where
  size : W.heap.size ≤ W'.heap.size
  box1 : W'.heap[tb]? = W.heap[tb]?
  box2 : W'.heap[rb]? = W.heap[rb]?
  bytes : ∀ (g : Nat) (cs : Array Value) (fr : Nat × Nat), W.heap[g]? = some (.cells cs 5 fr) → W'.heap[g]? = W.heap[g]?
theorem KD.refl (tb rb : Nat) (W : World) : KD tb rb W W := ⟨Nat.le_refl _, rfl, rfl, fun _ _ _ _ => rfl⟩
theorem KD.trans {tb rb : Nat} {A B C : World} (h : KD tb rb A B) (k : KD tb rb B C) : KD tb rb A C :=
  ⟨Nat.le_trans h.size k.size, k.box1.trans h.box1, k.box2.trans h.box2, fun g cs fr hg => (k.bytes g cs fr ((h.bytes g cs fr hg).trans hg)).trans (h.bytes g cs fr hg)⟩
theorem KD.of_below {tb rb n : Nat} {A B : World} (h : Below n A B) (htb : tb < n) (hrb : rb < n) (hn : A.heap.size ≤ n) : KD tb rb A B :=
  ⟨h.size, h.block tb htb, h.block rb hrb, fun g cs fr hg => h.block g (by have := (Array.getElem?_eq_some_iff.1 hg).1; omega)⟩
theorem kd_put {tb rb B : Nat} (ht : tb < B) (hr : rb < B) (W : World) (l : Nat) (o o' : Obj) (hl : B ≤ l) (h : W.heap[l]? = some o) (hc : o.isCells = false) : KD tb rb W (W.putObj l o') :=
  ⟨by simp [World.putObj], World.putObj_heap_other (by omega), World.putObj_heap_other (by omega), fun g cs fr hg => World.putObj_heap_other (fun e => by subst e; rw [h] at hg; cases hg; cases hc)⟩
/-- a slice of bytes whose block is a block of bytes -/
def SeesB (w : World) (v : Value) (l : List UInt8) : Prop := ∃ A n c, v = .slice A n c ∧ l.length = n ∧ n ≤ c ∧ ((A = none ∧ n = 0) ∨ ∃ b s cs fr, A = some ⟨b, s, none⟩ ∧ w.heap[b]? = some (.cells cs 5 fr) ∧ ∀ i u, (bv l)[i]? = some u → w.cell? ⟨b, s + i, none⟩ = some u)
theorem SeesB.sees {w : World} {v : Value} {l : List UInt8} (h : SeesB w v l) : Sees w 1 v (bv l) := by
  obtain ⟨A, n, c, rfl, h1, h2, h3⟩ := h
  refine ⟨_, _, _, rfl, by rw [bv_len]; omega, h2, fun hn => ?_⟩
  rcases h3 with ⟨_, h0⟩ | ⟨b, s, cs, fr, rfl, hb, hc⟩
  · exact absurd h0 hn
  · exact ⟨b, s, rfl, (Array.getElem?_eq_some_iff.1 hb).1, hc⟩
theorem SeesB.row {w : World} {B n : Nat} {v : Value} {l : List UInt8} (h : w.ownsRow B 5 1 v n (bv l)) : SeesB w v l := by
  have hn : n = l.length := by have := h.1; rw [bv_len] at this; omega
  subst hn
  rcases h.2 with ⟨rfl, h0⟩ | ⟨g, cap, cur, rfl, h2, h3, h4, _⟩
  · exact ⟨_, _, _, rfl, h0, Nat.le_refl _, .inl ⟨rfl, rfl⟩⟩
  · refine ⟨_, _, _, rfl, rfl, h4, .inr ⟨g, 0, cur, _, rfl, h3, fun i u hi => ?_⟩⟩
    have := h.cells (g := g) rfl i u hi
    rw [add_flat] at this
    simpa using this
theorem SeesB.kd {tb rb : Nat} {w w' : World} {v : Value} {l : List UInt8} (h : SeesB w v l) (hk : KD tb rb w w') : SeesB w' v l := by
  obtain ⟨A, n, c, rfl, h1, h2, h3⟩ := h
  refine ⟨_, _, _, rfl, h1, h2, h3.imp id ?_⟩
  rintro ⟨b, s, cs, fr, rfl, hb, hc⟩
  have hk2 := hk.bytes b cs fr hb
  exact ⟨b, s, cs, fr, rfl, hk2.trans hb, fun i u hi => (World.cell?_of_block (w := w) hk2).trans (hc i u hi)⟩
theorem below_grown {A B : World} (h : Below A.heap.size A B) : A.grownBy B none := ⟨h.os, h.tape, h.output, h.size, fun k hk _ => h.block k hk⟩
/-- the symbols of bytes -/
def symsB (x : List UInt8) : List Nat := x.map UInt8.toNat
theorem symsB_take {x : List UInt8} {j : Nat} (hj : j < x.length) : symsB (x.take j) ++ [x[j].toNat] = symsB (x.take (j + 1)) := by
  unfold symsB
  rw [List.take_succ_eq_append_getElem hj, List.map_append]
  rfl
set_option maxRecDepth 1000000 in
set_option maxHeartbeats 4000000 in
theorem syms1_in (n : Nat) (hn : 1 ≤ n) (l' tb rb : Nat) (v : Value) (x : List UInt8) (hlen : x.length ≤ 70000000) (J : List Nat → World → Prop) (W : World)
    (hJ : AbidesFrom W.heap.size J) (htb : tb < W.heap.size) (hrb : rb < W.heap.size)
    (hY : ∀ pre (z : Nat) W1, J pre W1 → pre.length < x.length → YieldAt Fence.wide (n - 1) Tryz.prog l' #[.int .i64 ((z : Nat) : Int)] W1 fun e W' => e = .returned (.bool true) ∧ J (pre ++ [z]) W' ∧ KD tb rb W1 W')
    (hbox : Boxed W tb 23 v) (hbox2 : Boxed W rb 4 (.bool false)) (hv : SeesB W v x) (h0 : J [] W) :
    CallsIn Fence.wide n Tryz.prog 45 #[.func (.yield l') #[] #[], .pointer (some ⟨tb, 0, none⟩), .pointer (some ⟨rb, 0, none⟩)] W fun e W' => (∃ v, e = .returned v) ∧ ∃ xs, xs = symsB x ∧ J xs W' := by
  obtain ⟨A, m, c, rfl, hxm, hmc, hA⟩ := id hv
  subst hxm
  refine callsIn_of_wp Tryz.func45 rfl trivial ?_ rfl
  simp only [Tryz.ntmps45, List.size_toArray, List.length_cons, List.length_nil, Nat.reduceAdd, Nat.reduceSub, Array.replicate_succ, Array.replicate_zero, List.push_toArray, List.append_toArray, List.nil_append, List.cons_append]
  gi_wp2
  gi_loopw [4] (fun jv wr => ∃ j : Nat, j ≤ x.length ∧ jv = .int .i64 (j : Int) ∧ J (symsB (x.take j)) wr ∧ KD tb rb W wr) (fun jv _ => x.length - (intOf jv).toNat)
  case atStart => exact ⟨0, Nat.zero_le _, rfl, by simpa [symsB] using h0, KD.refl _ _ _⟩
  case round =>
    obtain ⟨j, hj, rfl, hJp, hK⟩ := hrel
    have hbx : Boxed wr tb 23 (.slice A x.length c) := hK.box1.trans hbox
    have hbx2 : Boxed wr rb 4 (.bool false) := hK.box2.trans hbox2
    have hbc := hbx.cell
    have hbc2 := hbx2.cell
    by_cases hjl : j < x.length
    · have hsees := (hv.kd hK).sees
      obtain ⟨A', n', c', e1, e2, e3, e4⟩ := hsees
      cases e1
      obtain ⟨b, s, rfl, hb, hcell⟩ := e4 (by omega)
      have hc := hcell j (.int .u8 (x[j].toNat : Int)) (by unfold bv; rw [List.getElem?_map, List.getElem?_eq_getElem hjl]; rfl)
      have hst := symsB_take hjl
      have hy0 := hY (symsB (x.take j)) x[j].toNat wr hJp (by unfold symsB; rw [List.length_map, List.length_take]; omega)
      have hlt := x[j].toNat_lt
      obtain ⟨z, hz⟩ : ∃ z : Nat, x[j].toNat = z := ⟨_, rfl⟩
      rw [hz] at hc hst hy0 hlt
      obtain ⟨fn, tmps, assign, body, hy, hR⟩ := hy0
      have hjI : (j : Int) < (x.length : Int) := by omega
      have hwz : IntKind.i64.wrap (z : Int) = (z : Int) := by rw [IntKind.wrap_i64]; omega
      have HST := Lib.hid hst
      clear hz hcell e4 e2 hst hA
      gi_wp2
      refine hR.mono ?_
      rintro e W3 ⟨rfl, hJ3, hk3⟩
      gi_wp2
      go_roundw
      case rel => exact ⟨j + 1, hjl, by go_num, by rw [← HST.out]; exact hJ3, hK.trans hk3⟩
      case measure => simp [intOf]; omega
    · have hje : j = x.length := by omega
      have hjI : ¬ (j : Int) < (x.length : Int) := by omega
      rw [hje, List.take_length] at hJp
      have HJ := Lib.hid hJp
      clear hje hJp hj
      gi_wp2
      refine bodyPost_end (results_none rfl _ _ _) rfl ?_
      exact ⟨⟨_, rfl⟩, HJ.out⟩
theorem syms_says (n : Nat) (hn : 1 ≤ n) (tb rb : Nat) (v : Value) (x : List UInt8) (hlen : x.length ≤ 70000000) (w : World) (hbox : Boxed w tb 23 v) (hbox2 : Boxed w rb 4 (.bool false)) (hv : SeesB w v x) :
    SeqSays Fence.wide n Tryz.prog 45 #[.pointer (some ⟨tb, 0, none⟩), .pointer (some ⟨rb, 0, none⟩)] (fun z : Nat => #[.int .i64 (z : Int)]) (KD tb rb) (fun xs _ => xs = symsB x) x.length w := by
  intro l' J W hW hJ hY h0
  have hk : KD tb rb w W := KD.of_below hW hbox.lt hbox2.lt (Nat.le_refl _)
  exact syms1_in n hn l' tb rb v x hlen J W hJ (by have := hbox.lt; have := hW.size; omega) (by have := hbox2.lt; have := hW.size; omega) hY (hk.box1.trans hbox) (hk.box2.trans hbox2) (hv.kd hk) h0
set_option maxRecDepth 1000000 in
theorem syms_walk (v : Value) (A : Option Addr) (n c : Nat) (hv : v = .slice A n c) (r : Bool) (w : World) : Calls Tryz.prog 26 #[v, .bool r] w fun e w' => e = .returned (.func (.func 45) #[] #[.pointer (some ⟨w.heap.size, 0, none⟩), .pointer (some ⟨w.heap.size + 1, 0, none⟩)]) ∧
    w' = (w.alloc (.cells #[v] 23)).alloc (.cells #[.bool r] 4) := by
  subst hv
  go_enter Tryz.func26, Tryz.ntmps26
  go_wp2
  go_ret
  exact ⟨rfl, rfl⟩
theorem KD.set {tb rb : Nat} {W : World} {p : Nat} {cs : Array Value} {t : TypeId} {fr : Nat × Nat} (hp : W.heap[p]? = some (.cells cs t fr)) (ht : 5 ≠ t) (h1 : tb ≠ p) (h2 : rb ≠ p) (v : Value) : KD tb rb W (W.setCell ⟨p, 0, none⟩ v) :=
  ⟨by simp [World.setCell], Below.heap_setCell _ _ _ _ h1, Below.heap_setCell _ _ _ _ h2, fun g cs' fr' hg => Below.heap_setCell _ _ _ _ (fun e => by
    have e' : g = p := e
    subst e'
    rw [hp] at hg
    cases hg
    exact ht rfl)⟩
theorem KD.grown {tb rb n₀ : Nat} {W w1 : World} {e : TypeId} {size k : Nat} {v : Value} {xs : List Value} {tmp : Obj} (hrow : W.ownsRow n₀ e size v k xs) (he : 5 ≠ e) (htb : tb < n₀) (hrb : rb < n₀) (htl : tb < W.heap.size) (hrl : rb < W.heap.size) (hgrow : (W.alloc tmp).grownBy w1 v.ownBlock) : KD tb rb W w1 := by
  have h0 : ∀ q, q < n₀ → q < W.heap.size → w1.heap[q]? = W.heap[q]? := fun q h1 h2 =>
    (hgrow.block q (by simp; omega) (fun e => by have := (World.ownsRow.lt hrow q e.symm).1; omega)).trans (Below.heap_alloc _ _ _ h2)
  refine ⟨by have := hgrow.size; simp at this; omega, h0 tb htb htl, h0 rb hrb hrl, fun g cs fr hg => ?_⟩
  have hlt := (Array.getElem?_eq_some_iff.1 hg).1
  refine (hgrow.block g (by simp; omega) (fun e' => ?_)).trans (Below.heap_alloc _ _ _ hlt)
  rcases hrow.2 with ⟨rfl, _⟩ | ⟨g', cap, cur, rfl, _, h3, _⟩
  · cases e'
  · cases e'
    rw [h3] at hg
    cases hg
    exact he rfl
end Go.Proofs.YtahmcjdddcbhnaaGreatDoor
namespace Go.Proofs.YtahmcjdddcbhnaaGreatDoor
open Go Go.RowKit Go.Shelf Go.Says
attribute [local go_sem] Oper.semAt_some

/-- numbers as cells -/
def natI (l : List Nat) : List Value := l.map fun z : Nat => .int .i64 (z : Int)
theorem natI_len (l : List Nat) : (natI l).length = l.length := List.length_map ..
theorem below_put {n B : Nat} (hb : n ≤ B) (W : World) (l : Nat) (o' : Obj) (hl : B ≤ l) : Below n W (W.putObj l o') :=
  ⟨rfl, rfl, rfl, by simp [World.putObj], fun k hk => World.putObj_heap_other (by omega)⟩
theorem boxed_app3 {W w1 : World} {n₀ B : Nat} {t e : TypeId} {size : Nat} {v v' : Value} {k m : Nat} {xs ys : List Value} {tmp : Obj}
    (hv : Boxed W B t v) (hrow : W.ownsRow n₀ e size v k xs) (hB : B < n₀) (hown' : w1.ownsRow n₀ e size v' m ys) (hgrow : (W.alloc tmp).grownBy w1 v.ownBlock) :
    Boxed w1 B t v ∧ Boxed (w1.setCell ⟨B, 0, none⟩ v') B t v' ∧ (w1.setCell ⟨B, 0, none⟩ v').ownsRow n₀ e size v' m ys ∧ KeepsOthers W (w1.setCell ⟨B, 0, none⟩ v') := by
  have hne : some B ≠ v.ownBlock := fun e => by have := (World.ownsRow.lt hrow B e.symm).1; omega
  have hv1 : Boxed w1 B t v := (hv.alloc _).kept hgrow hne
  refine ⟨hv1, ?_, row_set hown' (fun e => by have := (World.ownsRow.lt hown' B e).1; omega) v', ?_⟩
  · exact hv1.set v'
  · refine ((KeepsOthers.alloc W tmp).trans (KeepsOthers.of_grownBy hgrow fun j o ej hj => ?_)).trans (KeepsOthers.setCell _ _ _)
    rcases (hrow.alloc tmp).2 with ⟨rfl, _⟩ | ⟨g, cap, cur, rfl, _, hgb, _⟩
    · simp [Value.ownBlock] at ej
    · obtain rfl : g = j := by simpa [Value.ownBlock] using ej
      rw [hgb] at hj; cases hj; rfl
theorem results_cells2 {P : Program} {fn : Func} {p q : Tmp} {t1 t2 : TypeId} (h : fn.results = #[.cell p t1, .cell q t2]) (tmps : Array Value) (w : World) (a b : Addr) (u1 u2 : Value) (hp : tmps.getD p undef = .pointer (some a)) (hq : tmps.getD q undef = .pointer (some b))
    (h1 : (isAgg t1).run P w = .ok false w) (h2 : (isAgg t2).run P w = .ok false w) (c1 : w.cell? a = some u1) (c2 : w.cell? b = some u2) : (results fn tmps).run P w = .ok (.tuple #[u1, u2]) w := by
  have hp' : tmps[p]?.getD undef = .pointer (some a) := by simpa using hp
  have hq' : tmps[q]?.getD undef = .pointer (some b) := by simpa using hq
  simp [results, h, hp', hq', asAddr, loadVar, h1, h2, c1, c2]
set_option maxRecDepth 1000000 in
set_option maxHeartbeats 4000000 in
theorem dec_walk {w : World} {v : Value} {x : List UInt8} (hlen : x.length ≤ 65536) (hv : SeesB w v x) :
    Calls Tryz.prog 8 #[v, .bool false] w fun e w' => ∃ u, e = .returned (.tuple #[u, .int .i64 0]) ∧ w'.ownsRow w.heap.size 3 1 u x.length (natI (symsB x)) ∧ Below w.heap.size w w' := by
  obtain ⟨i0, hi0, hz0, hz1, hz2⟩ := info_parts' infoInt
  obtain ⟨A, m, c, rfl, hxm, hmc, hA⟩ := id hv
  subst hxm
  obtain ⟨S, hS⟩ : ∃ S, w.heap.size = S := ⟨_, rfl⟩
  refine (callsIn_wide (n := 4)).1 ?_
  refine callsIn_of_wp_marks Tryz.func8 rfl trivial ?_ rfl
  simp only [Tryz.ntmps8, List.size_toArray, List.length_cons, List.length_nil, Nat.reduceAdd, Nat.reduceSub, Array.replicate_succ, Array.replicate_zero, List.push_toArray, List.append_toArray, List.nil_append, List.cons_append]
  gi_wp2_with (first
    | (refine ⟨trivial, ?_⟩; gi_at_call 26; refine (callsIn_wide.2 (syms_walk _ A x.length c rfl false _)).mono ?_; rintro e w' ⟨rfl, rfl⟩)
    | gi_in)
  obtain ⟨W0, hW0⟩ : ∃ W0, (((((w.alloc (.cells #[.slice none 0 0] 22)).alloc (.cells #[.int .i64 0] 26)).alloc (.cells #[.slice none 0 0] 22)).alloc (.cells #[.int .i64 0] 3)).alloc (.cells #[.slice A x.length c] 23)).alloc (.cells #[.bool false] 4) = W0 := ⟨_, rfl⟩
  have b0 : Boxed W0 S 22 (.slice none 0 0) := by
    rw [← hW0, ← hS]
    exact (((((Boxed.new w 22 (.slice none 0 0)).alloc _).alloc _).alloc _).alloc _).alloc _
  have b1 : Boxed W0 (S + 1) 26 (.int .i64 0) := by
    have := ((((Boxed.new (w.alloc (.cells #[.slice none 0 0] 22)) 26 (.int .i64 0)).alloc (.cells #[.slice none 0 0] 22)).alloc (.cells #[.int .i64 0] 3)).alloc (.cells #[.slice A x.length c] 23)).alloc (.cells #[.bool false] 4)
    rwa [hW0, World.size_alloc, hS] at this
  have b2 : Boxed W0 (S + 2) 22 (.slice none 0 0) := by
    have := (((Boxed.new ((w.alloc (.cells #[.slice none 0 0] 22)).alloc (.cells #[.int .i64 0] 26)) 22 (.slice none 0 0)).alloc (.cells #[.int .i64 0] 3)).alloc (.cells #[.slice A x.length c] 23)).alloc (.cells #[.bool false] 4)
    rwa [hW0, World.size_alloc, World.size_alloc, hS] at this
  have b3 : Boxed W0 (S + 3) 3 (.int .i64 0) := by
    have := ((Boxed.new (((w.alloc (.cells #[.slice none 0 0] 22)).alloc (.cells #[.int .i64 0] 26)).alloc (.cells #[.slice none 0 0] 22)) 3 (.int .i64 0)).alloc (.cells #[.slice A x.length c] 23)).alloc (.cells #[.bool false] 4)
    rwa [hW0, World.size_alloc, World.size_alloc, World.size_alloc, hS] at this
  have b4 : Boxed W0 (S + 4) 23 (.slice A x.length c) := by
    have := (Boxed.new ((((w.alloc (.cells #[.slice none 0 0] 22)).alloc (.cells #[.int .i64 0] 26)).alloc (.cells #[.slice none 0 0] 22)).alloc (.cells #[.int .i64 0] 3)) 23 (.slice A x.length c)).alloc (.cells #[.bool false] 4)
    rwa [hW0, World.size_alloc, World.size_alloc, World.size_alloc, World.size_alloc, hS] at this
  have b5 : Boxed W0 (S + 5) 4 (.bool false) := by
    have := Boxed.new (((((w.alloc (.cells #[.slice none 0 0] 22)).alloc (.cells #[.int .i64 0] 26)).alloc (.cells #[.slice none 0 0] 22)).alloc (.cells #[.int .i64 0] 3)).alloc (.cells #[.slice A x.length c] 23)) 4 (.bool false)
    rwa [hW0, World.size_alloc, World.size_alloc, World.size_alloc, World.size_alloc, World.size_alloc, hS] at this
  have hB0 : Below S w W0 := by
    rw [← hW0]
    exact ((((((Below.refl S w).alloc (by omega) _).alloc (by simp; omega) _).alloc (by simp; omega) _).alloc (by simp; omega) _).alloc (by simp; omega) _).alloc (by simp; omega) _
  have hsz : W0.heap.size = S + 6 := by rw [← hW0, World.size_alloc, World.size_alloc, World.size_alloc, World.size_alloc, World.size_alloc, World.size_alloc, hS]
  have hv0 : SeesB W0 (.slice A x.length c) x := by
    obtain ⟨A', n', c', e1, e2, e3, e4⟩ := hv
    refine ⟨A', n', c', e1, e2, e3, e4.imp id ?_⟩
    rintro ⟨b, s, cs, fr, rfl, hb, hc⟩
    have hbl := (Array.getElem?_eq_some_iff.1 hb).1
    exact ⟨b, s, cs, fr, rfl, (hB0.block b (by omega)).trans hb, fun i u hi => (hB0.cell (p := ⟨b, s + i, none⟩) (by show b < S; omega)).trans (hc i u hi)⟩
  rw [hW0]
  clear hW0 hA hv
  refine wpIn_rangeFunc_says rfl (by omega) (gf := 45) (lb := #[.pointer (some ⟨S + 4, 0, none⟩), .pointer (some ⟨S + 5, 0, none⟩)]) rfl trivial (enters_of Tryz.func45 (by kernel_rfl) rfl)
    (syms_says 3 (by omega) (S + 4) (S + 5) (.slice A x.length c) x (by omega) W0 b4 b5 hv0) (fun h k => h.trans k) (fun W l o o' h1 h2 h3 _ => kd_put (B := W0.heap.size) (by omega) (by omega) W l o o' h1 h2 h3)
    (fun xs W l o o' h1 h2 h3 hs => hs) (fun _ => rfl)
    (fun pre W => (((∃ u, Boxed W (S + 2) 22 u ∧ W.ownsRow (S + 6) 3 1 u pre.length (natI pre) ∧ True) ∧ Boxed W (S + 3) 3 (.int .i64 (pre.length : Int))) ∧ (Boxed W S 22 (.slice none 0 0) ∧ Boxed W (S + 1) 26 (.int .i64 0))) ∧ (Below S w W ∧ S + 6 ≤ W.heap.size))
    (OwnFrom.and (Own.from (fun s X Y row hs hg hr => ⟨⟨holdsRow_own (S + 6) (S + 2) 22 3 1 (fun pre : List Nat => pre.length) (fun pre => natI pre) (fun _ _ => True) s X Y row hs.1.1 hg hr, boxed_own (S + 3) 3 (fun pre : List Nat => .int .i64 (pre.length : Int)) s X Y row hs.1.2 hg hr⟩,
      boxed_own S 22 (fun _ : List Nat => .slice none 0 0) s X Y row hs.2.1 hg hr, boxed_own (S + 1) 26 (fun _ : List Nat => .int .i64 0) s X Y row hs.2.2 hg hr⟩) _) (OwnFrom.and (ownFrom_below (by omega) (by omega)) (fun _ X Y row hs hg _ => Nat.le_trans hs hg.size)))
    ⟨⟨⟨⟨_, b2, World.ownsRow_nil _ _ _ _, trivial⟩, b3⟩, b0, b1⟩, hB0, by omega⟩
    (fun z : Nat => { tmps := #[.slice A x.length c, .bool false, undef, undef, .pointer (some ⟨S, 0, none⟩), .pointer (some ⟨S + 1, 0, none⟩), .pointer (some ⟨S + 2, 0, none⟩), .pointer (some ⟨S + 3, 0, none⟩), .int .i64 (z : Int), .slice A x.length c, .bool false, .func (.func 45) #[] #[.pointer (some ⟨S + 4, 0, none⟩), .pointer (some ⟨S + 5, 0, none⟩)],
      .int .i64 (z : Int), undef, undef, undef, undef, undef, undef, undef, undef, undef, undef, undef, undef, undef], defers := [] }) ?assign ?body ?done
  case assign =>
    intro l z W K hK
    gi_wp2
    exact hK
  case body =>
    rintro l pre z W ⟨⟨⟨⟨v, hv, hrow, _⟩, hn⟩, hr0, hr1⟩, hB, hz3⟩ hlt
    have hc2 := hv.cell
    have hc3 := hn.cell
    have hf3 := hn.frozen
    have hl2 := hv.lt
    have hl3 := hn.lt
    obtain ⟨y0, hy0⟩ : ∃ y : Int, (pre.length : Int) = y := ⟨_, rfl⟩
    obtain ⟨y1, hy1⟩ : ∃ y : Int, ((pre.length + 1 : Nat) : Int) = y := ⟨_, rfl⟩
    have hW1 : IntKind.i64.wrap (y0 + 1) = y1 := by rw [← hy0, ← hy1, wrapS (by omega) (by omega)]; omega
    have hle : y1 ≤ 65536 := by omega
    have hzd : decide ((z : Int) < 0) = false := decide_eq_false (by omega)
    rw [hy0] at hn hc3
    have hn1 : Boxed (W.setCell ⟨S + 3, 0, none⟩ (.int .i64 y1)) (S + 3) 3 (.int .i64 y1) := hn.set _
    have hv1 := hv.other (B' := S + 3) (by omega) (.int .i64 y1)
    have hc3' := hn1.cell
    have hc2' := hv1.cell
    have HY := Lib.hid (And.intro hy0 hy1)
    clear hy0 hy1 hc2
    have hrow1 := row_set hrow (p := ⟨S + 3, 0, none⟩) (fun e => by have := (World.ownsRow.lt hrow (S + 3) e).1; omega) (.int .i64 y1)
    have hk0 : KD (S + 4) (S + 5) W (W.setCell ⟨S + 3, 0, none⟩ (.int .i64 y1)) := KD.set hn (by decide) (by omega) (by omega) _
    have hB1 := hB.setCell (p := ⟨S + 3, 0, none⟩) (by show S ≤ S + 3; omega) (.int .i64 y1)
    have hr0' := hr0.other (B' := S + 3) (by omega) (.int .i64 y1)
    have hr1' := hr1.other (B' := S + 3) (by omega) (.int .i64 y1)
    have hsz1 : (W.setCell ⟨S + 3, 0, none⟩ (.int .i64 y1)).heap.size = W.heap.size := by simp [World.setCell]
    have hko := KeepsOthers.setCell W ⟨S + 3, 0, none⟩ (.int .i64 y1)
    obtain ⟨W1, hW1e⟩ : ∃ x, W.setCell ⟨S + 3, 0, none⟩ (.int .i64 y1) = x := ⟨_, rfl⟩
    rw [hW1e] at hn1 hv1 hc3' hc2' hrow1 hk0 hB1 hr0' hr1' hsz1 hko
    have hl2' := hv1.lt
    obtain ⟨vA, vc, rfl, _⟩ := row_form hrow1
    have hc0 : (W.setCell ⟨S + 3, 0, none⟩ (.int .i64 y1)).cell? ⟨S + 3, 0, none⟩ = some (.int .i64 y1) := by rw [hW1e]; exact hc3'
    have hc0' : (W.setCell ⟨S + 3, 0, none⟩ (.int .i64 y1)).cell? ⟨S + 2, 0, none⟩ = some (.slice vA pre.length vc) := by rw [hW1e]; exact hc2'
    have hre : (W.setCell ⟨S + 3, 0, none⟩ (.int .i64 y1)).alloc (.cells #[.int .i64 (z : Int)] 3) = W1.alloc (.cells #[.int .i64 (z : Int)] 3) := by rw [hW1e]
    have hB1s := hB1.size
    clear hW1e hc3' hc2'
    gi_wp2_with (gi_at_builtin; refine wpListIn_append_own _ rfl _ _ 22 rfl (S + 6) 3 i0 (.int .i64 0) 1 8 Tryz.underlying22 hi0 hz0 hz1 hz2 rfl (by decide) _ _ _ rfl (hrow1.alloc _) ⟨W.heap.size, 0, none⟩ 1 1 [.int .i64 (z : Int)] rfl rfl (by rw [← hsz1]; exact cell_one_new _ _ _) (by simp [Value.oneCell']) (by unfold maxLen; omega) (by omega) (by simp; omega) ?_; intro v' w1 hown' hgrow _; obtain ⟨g', cap', rfl⟩ := ownsRow_succ hown'; obtain ⟨hv2, hv3, hr2, hk2⟩ := boxed_app3 hv1 hrow1 (by omega) hown' hgrow; have hc1 := hv2.cell; have hf1 := hv2.frozen)
    have hlen2 : (pre ++ [z]).length = pre.length + 1 := by simp
    have hnat : natI (pre ++ [z]) = natI pre ++ [.int .i64 (z : Int)] := by unfold natI; rw [List.map_append]; rfl
    have hy1 := HY.out.2
    have hne : ∀ q, q < S + 6 → some q ≠ Value.ownBlock (.slice vA pre.length vc) := fun q hq e => by have := (World.ownsRow.lt hrow1 q e.symm).1; omega
    have hnn := ((hn1.alloc _).kept hgrow (hne (S + 3) (by omega))).other (B' := S + 2) (by omega) (.slice (some ⟨g', 0, none⟩) (pre.length + 1) cap')
    have hq0 := ((hr0'.alloc _).kept hgrow (hne S (by omega))).other (B' := S + 2) (by omega) (.slice (some ⟨g', 0, none⟩) (pre.length + 1) cap')
    have hq1 := ((hr1'.alloc _).kept hgrow (hne (S + 1) (by omega))).other (B' := S + 2) (by omega) (.slice (some ⟨g', 0, none⟩) (pre.length + 1) cap')
    have hkd := (hk0.trans (KD.grown (tb := S + 4) (rb := S + 5) hrow1 (by decide) (by omega) (by omega) (by omega) (by omega) hgrow)).trans (KD.set (tb := S + 4) (rb := S + 5) hv2 (by decide) (by omega) (by omega) (.slice (some ⟨g', 0, none⟩) (pre.length + 1) cap'))
    have hBf : Below S w w1 := (hB1.alloc (by have := hB1.size; omega) _).grown hgrow (by simp; omega) (fun k e => by have := (World.ownsRow.lt hrow1 k e).1; omega)
    refine ⟨hko.trans hk2, hkd, ⟨⟨⟨_, hv3, ?_, trivial⟩, ?_⟩, hq0, hq1⟩, hBf.setCell (p := ⟨S + 2, 0, none⟩) (by show S ≤ S + 2; omega) _, by have := hkd.size; omega⟩
    · rw [hlen2, hnat]; exact hr2
    · rw [hlen2, hy1]; exact hnn
  case done =>
    rintro D ys W hD hT ⟨⟨⟨⟨v, hv, hrow, _⟩, hn⟩, hr0, hr1⟩, hB, hz3⟩ hK
    subst hT
    have c2 := hv.cell
    have c3 := hn.cell
    have f0 := hr0.frozen
    have f1 := hr1.frozen
    have hlx : (symsB x).length = x.length := List.length_map ..
    rw [hlx] at hrow hn c3
    obtain ⟨vA, vc, rfl, _⟩ := row_form hrow
    have hle : ¬ (65536 : Int) < (x.length : Int) := by omega
    have f1' : ∀ u, (W.setCell ⟨S, 0, none⟩ u).frozen? ⟨S + 1, 0, none⟩ = false := fun u => (hr1.other (B' := S) (by omega) u).frozen
    have c0 := hr0.cell
    have c1' : (W.setCell ⟨S, 0, none⟩ (.slice vA x.length vc)).cell? ⟨S + 1, 0, none⟩ = some (.int .i64 0) := (hr1.other (B' := S) (by omega) _).cell
    have f1'' := f1' (.slice vA x.length vc)
    clear f1' f1
    gi_wp2
    have q0 := ((hr0.set (.slice vA x.length vc)).other (B' := S + 1) (by omega) (.int .i64 0))
    have q1 := ((hr1.other (B' := S) (by omega) (.slice vA x.length vc)).set (.int .i64 0))
    have hrw := row_set (row_set hrow (p := ⟨S, 0, none⟩) (fun e => by have := (World.ownsRow.lt hrow S e).1; omega) (.slice vA x.length vc)) (p := ⟨S + 1, 0, none⟩) (fun e => by have := (World.ownsRow.lt hrow (S + 1) e).1; omega) (.int .i64 0)
    have hBf := (hB.setCell (p := ⟨S, 0, none⟩) (Nat.le_refl _) (.slice vA x.length vc)).setCell (p := ⟨S + 1, 0, none⟩) (by show S ≤ S + 1; omega) (.int .i64 0)
    have hKd : ((W.setCell ⟨S, 0, none⟩ (.slice vA x.length vc)).setCell ⟨S + 1, 0, none⟩ (.int .i64 0)).heap[D]? = some (.deferred (some [])) :=
      (Below.heap_setCell _ ⟨S + 1, 0, none⟩ _ D (by show D ≠ S + 1; omega)).trans ((Below.heap_setCell _ ⟨S, 0, none⟩ _ D (by show D ≠ S; omega)).trans hK)
    obtain ⟨W2, hW2⟩ : ∃ V, (W.setCell ⟨S, 0, none⟩ (.slice vA x.length vc)).setCell ⟨S + 1, 0, none⟩ (.int .i64 0) = V := ⟨_, rfl⟩
    rw [hW2] at q0 q1 hrw hBf hKd ⊢
    refine ⟨by simp, .inl ⟨_, _, rfl, run_takeDeferred hKd, ?_⟩⟩
    refine ⟨_, results_cells2 (by rfl) _ _ ⟨S, 0, none⟩ ⟨S + 1, 0, none⟩ (.slice vA x.length vc) (.int .i64 0) (by rfl) (by rfl) (by rfl) (by rfl) ?_ ?_, _, rfl, ?_, ?_⟩
    · exact (World.cell?_of_block (World.putObj_heap_other (by show S ≠ D; omega))).trans q0.cell
    · exact (World.cell?_of_block (World.putObj_heap_other (by show S + 1 ≠ D; omega))).trans q1.cell
    · exact row_base (ownsRow_putObj hrw _ hKd rfl) (by omega)
    · exact hBf.trans (below_put (n := S) (B := D) (by omega) W2 D _ (Nat.le_refl _))
end Go.Proofs.YtahmcjdddcbhnaaGreatDoor
namespace Go.Proofs.YtahmcjdddcbhnaaGreatDoor
open Go Go.Ev Go.RowKit

section
variable {w w' : World} {A A2 : List (Pth × O)} {σ τ : Nat → Int} {ι : Emb}
/-- the same blocks, looked at through another pattern -/
theorem Lies.fit {asg : Asg} {spec : Ev.Spec} {l0 : Asc} (h : Lies w A σ ι) (hfit : fitF asg spec l0 A2 (hp A) = true) (hn : Num asg spec σ τ) :
    ∃ ι2, Lies w A2 τ ι2 ∧ (∀ b, foot ι2 A2 b → foot ι A b) ∧ ∀ e ∈ l0, ι2 e.1 = ι e.2 := by
  obtain ⟨ι2, h1, h2, h3⟩ := fit_core hfit hn h.sym (Step.refl h.hok)
  refine ⟨ι2, h1, fun b hb => ?_, h3⟩
  rcases h2 b hb with ⟨q, s, g1, g2⟩ | g
  · exact ⟨q, s, g1, g2⟩
  · have := h1.lt hb
    omega
theorem hok_fit {H : Heap} {asg : Asg} {spec : Ev.Spec} {l0 : Asc} (h : HOK Tryz.prog ι H w) (hs : ι.sym = σ) (hfit : fitF asg spec l0 A2 H = true) (hn : Num asg spec σ τ) :
    ∃ ι2, Lies w A2 τ ι2 ∧ (∀ b, foot ι2 A2 b → ∃ q s, Live H q ∧ ι q = some (b, s)) ∧ ∀ e ∈ l0, ι2 e.1 = ι e.2 := by
  obtain ⟨ι2, h1, h2, h3⟩ := fit_core hfit hn hs (Step.refl h)
  refine ⟨ι2, h1, fun b hb => ?_, h3⟩
  rcases h2 b hb with ⟨q, s, g1, g2⟩ | g
  · exact ⟨q, s, g1, g2⟩
  · have := h1.lt hb
    omega
/-- one block more -/
theorem Lies.add (h : Lies w A σ ι) {p : Pth} (hp : p ∉ names A) {c : List V} {cs : Array Value} (t : TypeId) (hc : V.rels ι c cs.toList) :
    ∃ ι2, Lies (w.alloc (.cells cs t)) ((p, .cells c) :: A) σ ι2 ∧ ι2 p = some (w.heap.size, 0) ∧ ι2.size w.heap.size = cs.size ∧ (∀ q z, ι q = some z → ι2 q = some z) ∧ ∀ b, foot ι2 ((p, .cells c) :: A) b → foot ι A b ∨ b = w.heap.size := by
  have hι : ι p = none := by
    cases h0 : ι p with
    | none => rfl
    | some z => exact absurd (h.dom p (by rw [h0]; simp)) hp
  have hn : (Ev.hp A).get p = none := hp_none hp
  have bel : Below w.heap.size w (w.alloc (.cells cs t)) := (Below.refl _ _).alloc (Nat.le_refl _) _
  have hle := upd_le_new (T := cs.size) hι h.hok
  have st : Step Tryz.prog ι (Ev.hp A) w (upd ι p (w.heap.size, 0) cs.size) (Tr.set p (.cells c) (Ev.hp A)) (w.alloc (.cells cs t)) := by
    refine Step.fresh h.hok hn hι (Nat.le_refl _) (by rw [World.size_alloc]; omega) bel ⟨w.heap.size, 0, cs, t, (0, 0), upd_same _ _ _ _, heap_alloc_new w _, .inl rfl, ?_, upd_size _ _ _ _, rfl⟩
    rw [List.drop_zero, List.take_of_length_le (by rw [rels_length hc]; exact Nat.le_refl _)]
    exact V.rels.mono hle _ _ hc
  refine ⟨upd ι p (w.heap.size, 0) cs.size, ⟨h.sym, ?_, fun q hq => ?_⟩, upd_same _ _ _ _, upd_size _ _ _ _, fun q z hz => st.ext.name q z hz, fun b hb => ?_⟩
  · show HOK Tryz.prog _ (Ev.hp ((p, .cells c) :: A)) _
    rw [hp_cons]; exact st.hok
  · show q ∈ p :: names A
    by_cases e : p = q
    · exact e ▸ List.mem_cons_self ..
    · rw [upd_other e] at hq
      exact List.mem_cons_of_mem _ (h.dom q hq)
  · obtain ⟨q, s, ⟨o, hl1, hl2⟩, hq⟩ := hb
    rw [hp_cons, Tr.get_set] at hl1
    by_cases e : p = q
    · subst e
      rw [upd_same] at hq
      cases hq
      exact .inr rfl
    · rw [if_neg e] at hl1
      rw [upd_other e] at hq
      exact .inl ⟨q, s, ⟨o, hl1, hl2⟩, hq⟩
theorem rels_set : ∀ {c : List V} {xs : List Value} {j : Nat} {v : V} {x : Value}, V.rels ι c xs → V.rel ι v x → V.rels ι (c.set j v) (xs.set j x)
  | [], xs, j, v, x, h, _ => by rw [rels_nil_inv h]; exact rels_nil
  | a :: c, xs, j, v, x, h, hx => by
    obtain ⟨y, ys, rfl, hy, ht⟩ := rels_cons_inv h
    cases j with
    | zero => exact rels_cons hx ht
    | succ j => exact rels_cons hy (rels_set ht hx)
/-- a cell stored anew -/
theorem Lies.put (h : Lies w A σ ι) {p : Pth} {c : List V} (hp : (Ev.hp A).get p = some (.cells c)) {b : Nat} (hb : ι p = some (b, 0)) {j : Nat} {v : V} {x : Value} (hj : j < c.length) (hx : V.rel ι v x) :
    HOK Tryz.prog ι (Tr.set p (.cells (c.set j v)) (Ev.hp A)) (w.setCell ⟨b, j, none⟩ x) := by
  have lv : ∀ {q}, Live (Tr.set p (.cells (c.set j v)) (Ev.hp A)) q → Live (Ev.hp A) q := fun {q} hl => by
    obtain ⟨o, h1, h2⟩ := hl
    rw [Tr.get_set] at h1
    by_cases e : p = q
    · subst e; exact ⟨_, hp, by simp⟩
    · rw [if_neg e] at h1; exact ⟨o, h1, h2⟩
  have hlp : Live (Ev.hp A) p := ⟨_, hp, by simp⟩
  obtain ⟨b', s', cs, el, fr, g1, g2, g3, g4, g5, g6⟩ := h.hok.obj p _ hp
  rw [hb] at g1
  cases g1
  refine ⟨fun q o hq => ?_, fun q r d s s' hq hr eq er => h.hok.inj q r d s s' (lv hq) (lv hr) eq er, fun q d s hq => ?_⟩
  · rw [Tr.get_set] at hq
    by_cases e : p = q
    · subst e
      rw [if_pos rfl] at hq
      cases hq
      refine ⟨b, 0, cs.setIfInBounds j x, el, fr, hb, (setCell_block g2 j x).2, by simpa using g3, ?_, by simpa using g5, rfl⟩
      rw [List.drop_zero, List.length_set, Array.toList_setIfInBounds, List.take_set]
      rw [List.drop_zero] at g4
      exact rels_set g4 hx
    · rw [if_neg e] at hq
      refine O.ok_mono (h.hok.obj q o hq) (Emb.le.refl _) fun d s hd hq' => ?_
      refine Below.heap_setCell w ⟨b, j, none⟩ x d fun e2 => ?_
      have e3 : d = b := e2
      subst e3
      exact e (h.hok.inj p q d 0 s hlp ⟨o, hq, hd⟩ hb hq')
  · simp only [World.setCell, Array.size_modify]
    exact h.hok.lt q d s hq
theorem Live.of_set {H : Heap} {p q : Pth} {o : O} (hp : Live H p) (h : Live (Tr.set p o H) q) : Live H q := by
  obtain ⟨o', h1, h2⟩ := h
  rw [Tr.get_set] at h1
  by_cases e : p = q
  · subst e; exact hp
  · rw [if_neg e] at h1; exact ⟨o', h1, h2⟩
/-- a call that was run -/
theorem runs_ok {f : Nat} {args : List V} {asg : Asg} {spec : Ev.Spec} {l0 : V → Asc} {pv : V → Bool} (h : runs f args A A2 asg spec l0 pv = true) (hn : Num asg spec σ τ) (hL : Lies w A σ ι) {xs : Array Value} (hxs : V.rels ι args xs.toList) :
    Calls Tryz.prog f xs w fun e w' => ∃ x v ι' ι2, e = .returned x ∧ pv v = true ∧ V.rel ι' v x ∧ Lies w' A2 τ ι2 ∧ Chg (foot ι A) w w' ∧ (∀ b, foot ι2 A2 b → foot ι A b ∨ w.heap.size ≤ b) ∧ ∀ e ∈ l0 v, ι2 e.1 = ι' e.2 ∧ ∀ z, ι e.2 = some z → ι2 e.1 = some z := by
  unfold runs at h
  split at h
  · rename_i v H' n hc
    cases hp : pv v with
    | false => simp [hp] at h
    | true =>
      simp only [hp] at h
      refine (call_fit hc h hn hL hxs).mono ?_
      rintro e w' ⟨x, ι', ι2, rfl, h1, h2, h3, h4, h5⟩
      exact ⟨x, v, ι', ι2, rfl, hp, h1, h2, h3, h4, h5⟩
  · cases h
end
end Go.Proofs.YtahmcjdddcbhnaaGreatDoor
namespace Go.Proofs.YtahmcjdddcbhnaaGreatDoor
open Go Go.Ev Go.RowKit

/-- a cell that is named may be stored into -/
theorem Lies.thaw {w : World} {A : List (Pth × O)} {σ : Nat → Int} {ι : Emb} (h : Lies w A σ ι) {p : Pth} {c : List V} (hp : (Ev.hp A).get p = some (.cells c)) {b t : Nat} (hb : ι p = some (b, t)) {j : Nat} (hj : j < c.length) : w.frozen? ⟨b, j, none⟩ = false := by
  obtain ⟨b', s', cs, el, fr, g1, g2, g3, g4, g5, g6⟩ := h.hok.obj p _ hp
  rw [hb] at g1
  cases g1
  have := rels_length g4
  rw [g6, List.drop_zero, List.length_take] at this
  have hs : cs.toList.length = cs.size := Array.length_toList
  exact frozen_of g2 g3 (by omega)
theorem num_none {σ τ : Nat → Int} : Num [] [] σ τ := ⟨fun i u h => (by cases h), fun i lo hi h => (by cases h)⟩
theorem num_L {V0 : V} {σ τ : Nat → Int} (h : τ 0 = numV σ V0) (hb : 1 ≤ τ 0 ∧ τ 0 ≤ 65536) : Num [(0, V0)] spL σ τ := by
  refine ⟨fun i u hi => ?_, fun i lo hi h2 => ?_⟩
  · cases i with
    | zero => cases hi; exact h
    | succ i => cases hi
  · cases i with
    | zero => cases h2; exact hb
    | succ i => cases h2
/-- a stream of zz: fresh, begun, with L symbols -/
structure StrAt (w : World) (sb : Nat) (k : Nat) (L : Int) (ι : Emb) : Prop where
  lies : Lies w (strZ k) (fun _ => L) ι
  root : ι (nm 1) = some (sb, 0)
  st : (k = 0 ∧ L = 0) ∨ (k = 1 ∧ L = 0) ∨ (k = 2 ∧ 1 ≤ L ∧ L ≤ 65536)
/-- .. and the results of a Feed -/
structure StrR (w : World) (sb rp : Nat) (k : Nat) (L : Int) (ι : Emb) : Prop where
  lies : Lies w (resZ ++ strZ k) (fun _ => L) ι
  root : ι (nm 1) = some (sb, 0)
  res : ι (nm 18) = some (rp, 0)
  st : (k = 0 ∧ L = 0) ∨ (k = 1 ∧ L = 0) ∨ (k = 2 ∧ 1 ≤ L ∧ L ≤ 65536)
noncomputable def lenV (k : Nat) : V := match k with | 0 => J 0 | 1 => J 0 | _ => sL
noncomputable def runsV (k : Nat) : V := match k with | 0 => .nilsl | _ => .sl (nm 14) 0 1 1 2
def begunB (k : Nat) : Bool := match k with | 0 => false | _ => true
theorem strZ_get1 {k : Nat} (h : k = 0 ∨ k = 1 ∨ k = 2) : (hp (strZ k)).get (nm 1) = some (.cells [.ptr (nm 2) 0, runsV k, lenV k, J 1, .bool (begunB k), .bool false]) := by
  rcases h with rfl | rfl | rfl <;> rfl
theorem strZ_get2 {k : Nat} (h : k = 0 ∨ k = 1 ∨ k = 2) : ∃ a, (hp (strZ k)).get (nm 2) = some (.cells (.ptr (nm 3) 0 :: a)) := by
  rcases h with rfl | rfl | rfl <;> exact ⟨_, rfl⟩
theorem strZ_get3 {k : Nat} (h : k = 0 ∨ k = 1 ∨ k = 2) : ∃ a b, (hp (strZ k)).get (nm 3) = some (.cells (a :: .bool false :: b)) := by
  rcases h with rfl | rfl | rfl <;> exact ⟨_, _, rfl⟩
section
variable {w w' : World} {sb rp k : Nat} {L : Int} {ι : Emb}
/-- what is read of a stream -/
theorem StrAt.cells (h : StrAt w sb k L ι) : ∃ mb cb, w.cell? ⟨sb, 0, none⟩ = some (.pointer (some ⟨mb, 0, none⟩)) ∧ w.cell? ⟨sb, 2, none⟩ = some (.int .i64 L) ∧ w.cell? ⟨sb, 4, none⟩ = some (.bool (begunB k)) ∧ w.cell? ⟨sb, 5, none⟩ = some (.bool false) ∧
    w.cell? ⟨mb, 0, none⟩ = some (.pointer (some ⟨cb, 0, none⟩)) ∧ w.cell? ⟨cb, 1, none⟩ = some (.bool false) := by
  have hk : k = 0 ∨ k = 1 ∨ k = 2 := by rcases h.st with h | h | h <;> omega
  have g1 := strZ_get1 hk
  obtain ⟨a2, g2⟩ := strZ_get2 hk
  obtain ⟨a3, b3, g3⟩ := strZ_get3 hk
  obtain ⟨x0, c0, r0⟩ := h.lies.cell g1 h.root (j := 0) rfl
  obtain ⟨x2, c2, r2⟩ := h.lies.cell g1 h.root (j := 2) rfl
  obtain ⟨x4, c4, r4⟩ := h.lies.cell g1 h.root (j := 4) rfl
  obtain ⟨x5, c5, r5⟩ := h.lies.cell g1 h.root (j := 5) rfl
  simp only [V.rel] at r0 r4 r5
  obtain ⟨mb, s, q0, rfl⟩ := r0
  have e0 := cells_zero h.lies.hok g2 q0
  subst e0
  obtain ⟨y0, d0, t0⟩ := h.lies.cell g2 q0 (j := 0) rfl
  simp only [V.rel] at t0
  obtain ⟨cb, s, p0, rfl⟩ := t0
  have e0 := cells_zero h.lies.hok g3 p0
  subst e0
  obtain ⟨z1, f1, u1⟩ := h.lies.cell g3 p0 (j := 1) rfl
  simp only [V.rel] at u1
  subst r4 r5 u1
  refine ⟨mb, cb, by simpa using c0, ?_, c4, c5, by simpa using d0, f1⟩
  rw [c2]
  have hsym : ι.sym 0 = L := by rw [h.lies.sym]
  rcases h.st with ⟨rfl, rfl⟩ | ⟨rfl, rfl⟩ | ⟨rfl, h1, h2⟩
  · simp only [lenV, J, V.rel] at r2; rw [r2]
  · simp only [lenV, J, V.rel] at r2; rw [r2]
  · simp only [lenV, sL, V.rel] at r2
    rw [r2.1, hsym]
theorem StrR.drop (h : StrR w sb rp k L ι) : ∃ ι2, StrAt w sb k L ι2 ∧ ∀ b, foot ι2 (strZ k) b → foot ι (resZ ++ strZ k) b := by
  rcases h.st with ⟨rfl, rfl⟩ | ⟨rfl, rfl⟩ | ⟨rfl, h1, h2⟩
  · obtain ⟨ι2, a, b, c⟩ := h.lies.fit fit_drop0 (num_none (τ := fun _ => 0))
    exact ⟨ι2, ⟨a, (c (nm 1, nm 1) (by simp [idl])).trans h.root, .inl ⟨rfl, rfl⟩⟩, b⟩
  · obtain ⟨ι2, a, b, c⟩ := h.lies.fit fit_drop1 (num_none (τ := fun _ => 0))
    exact ⟨ι2, ⟨a, (c (nm 1, nm 1) (by simp [idl])).trans h.root, .inr (.inl ⟨rfl, rfl⟩)⟩, b⟩
  · obtain ⟨ι2, a, b, c⟩ := h.lies.fit fit_drop2 (num_L (τ := fun _ => L) rfl ⟨h1, h2⟩)
    exact ⟨ι2, ⟨a, (c (nm 1, nm 1) (by simp [idl])).trans h.root, .inr (.inr ⟨rfl, h1, h2⟩)⟩, b⟩
theorem StrAt.chg {F : Nat → Prop} (h : StrAt w sb k L ι) (hc : Chg F w w') (hf : ∀ b, foot ι (strZ k) b → ¬ F b) : StrAt w' sb k L ι := ⟨h.lies.chg hc hf, h.root, h.st⟩
theorem StrR.res0 (h : StrR w sb rp k L ι) : w.cell? ⟨rp, 0, none⟩ = some (.slice none 0 0) := by
  obtain ⟨x, c, r⟩ := h.lies.cell (p := nm 18) (c := [.nilsl]) (by rcases h.st with ⟨rfl, _⟩ | ⟨rfl, _⟩ | ⟨rfl, _⟩ <;> rfl) h.res (j := 0) rfl
  simp only [V.rel] at r
  rw [c, r]
theorem unit_of {ι : Emb} {v : V} {x : Value} (hp : isUnit v = true) (hr : V.rel ι v x) : x = .tuple #[] := by
  unfold isUnit at hp
  split at hp
  · simp only [V.rel] at hr
    obtain ⟨cs, rfl, hc⟩ := hr
    have := rels_nil_inv hc
    rw [show cs = #[] from Array.toList_inj.1 this]
  · cases hp
theorem ptr_rel {p : Pth} {b : Nat} (h : ι p = some (b, 0)) : V.rel ι (.ptr p 0) (.pointer (some ⟨b, 0, none⟩)) := by
  simp only [V.rel]
  exact ⟨b, 0, h, by simp⟩
theorem step_walk (h : StrR w sb rp k L ι) (hk : 1 ≤ k) (hL : L ≤ 65535) : Calls Tryz.prog 374 #[.pointer (some ⟨sb, 0, none⟩), .int .i64 0, .pointer (some ⟨rp, 0, none⟩)] w fun e w' => e = .returned (.tuple #[]) ∧
    ∃ ι2, StrR w' sb rp 2 (L + 1) ι2 ∧ Chg (foot ι (resZ ++ strZ k)) w w' ∧ ∀ b, foot ι2 (resZ ++ strZ 2) b → foot ι (resZ ++ strZ k) b ∨ w.heap.size ≤ b := by
  have hxs : V.rels ι [.ptr (nm 1) 0, J 0, .ptr (nm 18) 0] [.pointer (some ⟨sb, 0, none⟩), .int .i64 0, .pointer (some ⟨rp, 0, none⟩)] :=
    rels_cons (ptr_rel h.root) (rels_cons (by simp only [J, V.rel]) (rels_cons (ptr_rel h.res) rels_nil))
  rcases h.st with ⟨rfl, rfl⟩ | ⟨rfl, rfl⟩ | ⟨rfl, h1, h2⟩
  · omega
  · refine (runs_ok run_step1 (num_L (τ := fun _ => (0 : Int) + 1) rfl (by omega)) h.lies (xs := #[.pointer (some ⟨sb, 0, none⟩), .int .i64 0, .pointer (some ⟨rp, 0, none⟩)]) hxs).mono ?_
    rintro e w' ⟨x, v, ι', ι2, rfl, hp, hv, hL2, hc, hf, hr⟩
    exact ⟨by rw [unit_of hp hv], ι2, ⟨hL2, (hr (nm 1, nm 1) (by simp [idl])).2 _ h.root, (hr (nm 18, nm 18) (by simp [idl])).2 _ h.res, .inr (.inr ⟨rfl, by omega, by omega⟩)⟩, hc, hf⟩
  · refine (runs_ok run_step2 (num_L (τ := fun _ => L + 1) rfl (by omega)) h.lies (xs := #[.pointer (some ⟨sb, 0, none⟩), .int .i64 0, .pointer (some ⟨rp, 0, none⟩)]) hxs).mono ?_
    rintro e w' ⟨x, v, ι', ι2, rfl, hp, hv, hL2, hc, hf, hr⟩
    exact ⟨by rw [unit_of hp hv], ι2, ⟨hL2, (hr (nm 1, nm 1) (by simp [idl])).2 _ h.root, (hr (nm 18, nm 18) (by simp [idl])).2 _ h.res, .inr (.inr ⟨rfl, by omega, by omega⟩)⟩, hc, hf⟩
end
end Go.Proofs.YtahmcjdddcbhnaaGreatDoor
namespace Go.Proofs.YtahmcjdddcbhnaaGreatDoor
open Go Go.Ev Go.RowKit

/-- begun, without its first run -/
structure StrBt (w : World) (sb rp : Nat) (ι : Emb) : Prop where
  lies : Lies w (resZ ++ strB) (fun _ => 0) ι
  root : ι (nm 1) = some (sb, 0)
  res : ι (nm 18) = some (rp, 0)
/-- its first run made -/
structure StrCt (w : World) (sb rp fb gb : Nat) (ι : Emb) : Prop where
  lies : Lies w strC (fun _ => 0) ι
  root : ι (nm 1) = some (sb, 0)
  res : ι (nm 18) = some (rp, 0)
  fst : ι (nm 6) = some (fb, 0)
  grp : ι (nm 15) = some (gb, 0)
section
variable {w w' : World} {sb rp fb gb k : Nat} {L : Int} {ι : Emb}
/-- the results' block is made -/
theorem StrAt.withRes (h : StrAt w sb k L ι) : ∃ ι2, StrR (w.alloc (.cells #[.slice none 0 0] 63)) sb w.heap.size k L ι2 ∧ ∀ b, foot ι2 (resZ ++ strZ k) b → foot ι (strZ k) b ∨ b = w.heap.size := by
  have hn : nm 18 ∉ names (strZ k) := by
    rcases h.st with ⟨rfl, _⟩ | ⟨rfl, _⟩ | ⟨rfl, _⟩ <;> decide
  obtain ⟨ι2, a, b, -, c, d⟩ := h.lies.add hn (c := [.nilsl]) (cs := #[.slice none 0 0]) 63 (rels_cons (by simp only [V.rel]) rels_nil)
  exact ⟨ι2, ⟨a, c _ _ h.root, b, h.st⟩, d⟩
theorem begin_put (h : StrR w sb rp 0 L ι) : ∃ ι2, StrBt (w.setCell ⟨sb, 4, none⟩ (.bool true)) sb rp ι2 ∧ ∀ b, foot ι2 (resZ ++ strB) b → foot ι (resZ ++ strZ 0) b := by
  have hg : (hp (resZ ++ strZ 0)).get (nm 1) = some (.cells cell1) := by rfl
  have hput := h.lies.put hg h.root (j := 4) (v := .bool true) (x := .bool true) (by decide) (by simp only [V.rel])
  obtain ⟨ι2, a, b, c⟩ := hok_fit hput h.lies.sym fit_begun (num_none (τ := fun _ => 0))
  refine ⟨ι2, ⟨a, (c (nm 1, nm 1) (by simp [idl])).trans h.root, (c (nm 18, nm 18) (by simp [idl])).trans h.res⟩, fun d hd => ?_⟩
  obtain ⟨q, s, g1, g2⟩ := b d hd
  exact ⟨q, s, Live.of_set ⟨_, hg, by simp⟩ g1, g2⟩
theorem run_of {ι' ι2 : Emb} {v : V} {x : Value} (hp : isRun v = true) (hr : V.rel ι' v x) (hL : Lies w' strC (fun _ => 0) ι2) (h : ∀ e ∈ runA v, ι2 e.1 = ι' e.2) :
    ∃ fb gb, x = .agg #[.pointer (some ⟨fb, 0, none⟩), .pointer (some ⟨gb, 0, none⟩)] ∧ ι2 (nm 6) = some (fb, 0) ∧ ι2 (nm 15) = some (gb, 0) := by
  unfold isRun at hp
  split at hp
  · rename_i p q
    have hpe := (Pth.beq_iff _ _).1 hp
    subst hpe
    have e6 := h (nm 6, nm 6) (by simp [runA])
    have e15 := h (nm 15, q) (by simp [runA])
    simp only [V.rel] at hr
    obtain ⟨cs, rfl, hc⟩ := hr
    obtain ⟨x1, t1, e1, h1, hc⟩ := rels_cons_inv hc
    obtain ⟨x2, t2, e2, h2, hc⟩ := rels_cons_inv hc
    have := rels_nil_inv hc
    subst this
    simp only [V.rel] at h1 h2
    obtain ⟨b1, s1, g1, rfl⟩ := h1
    obtain ⟨b2, s2, g2, rfl⟩ := h2
    have f1 : ι2 (nm 6) = some (b1, s1) := e6.trans g1
    have f2 : ι2 (nm 15) = some (b2, s2) := e15.trans g2
    have z1 := cells_zero hL.hok (p := nm 6) (l := [.sl (nm 10) 0 1 1 1, .bool false, .bool false, .mp (nm 11), J 0, J 0]) (by rfl) f1
    have z2 := cells_zero hL.hok (p := nm 15) (l := [J 0, J (-1), .nilsl]) (by rfl) f2
    subst z1 z2
    refine ⟨b1, b2, ?_, f1, f2⟩
    congr 1
    apply Array.toList_inj.1
    rw [e1, e2]
  · cases hp
theorem start_walk (h : StrBt w sb rp ι) : Calls Tryz.prog 354 #[.pointer (some ⟨sb, 0, none⟩)] w fun e w' => ∃ fb gb ι2, e = .returned (.agg #[.pointer (some ⟨fb, 0, none⟩), .pointer (some ⟨gb, 0, none⟩)]) ∧ StrCt w' sb rp fb gb ι2 ∧
    Chg (foot ι (resZ ++ strB)) w w' ∧ ∀ b, foot ι2 strC b → foot ι (resZ ++ strB) b ∨ w.heap.size ≤ b := by
  refine (runs_ok run_start (num_none (τ := fun _ => 0)) h.lies (xs := #[.pointer (some ⟨sb, 0, none⟩)]) (rels_cons (ptr_rel h.root) rels_nil)).mono ?_
  rintro e w' ⟨x, v, ι', ι2, rfl, hp, hv, hL2, hc, hf, hr⟩
  obtain ⟨fb, gb, rfl, h6, h15⟩ := run_of hp hv hL2 fun e he => (hr e he).1
  have hm : ∀ e ∈ [(nm 1, nm 1), (nm 18, nm 18)], e ∈ runA v := by
    intro e he
    unfold isRun at hp
    split at hp
    · simp only [runA]
      simp only [List.mem_cons, List.not_mem_nil, or_false] at he ⊢
      rcases he with rfl | rfl
      · exact .inl rfl
      · exact .inr (.inr (.inl rfl))
    · cases hp
  exact ⟨fb, gb, ι2, rfl, ⟨hL2, (hr _ (hm (nm 1, nm 1) (by simp))).2 _ h.root, (hr _ (hm (nm 18, nm 18) (by simp))).2 _ h.res, h6, h15⟩, hc, hf⟩
theorem adv_walk (h : StrCt w sb rp fb gb ι) {w2 : World} (hw : w2 = w.alloc (.cells #[.pointer (some ⟨fb, 0, none⟩), .pointer (some ⟨gb, 0, none⟩)] 524)) :
    Calls Tryz.prog 373 #[.pointer (some ⟨sb, 0, none⟩), .slice (some ⟨w.heap.size, 0, none⟩) 1 1, .pointer (some ⟨rp, 0, none⟩)] w2 fun e w' => e = .returned (.tuple #[]) ∧ ∃ ι2, StrR w' sb rp 1 0 ι2 ∧
      Chg (fun b => foot ι strC b ∨ w.heap.size ≤ b) w2 w' ∧ ∀ b, foot ι2 (resZ ++ strZ 1) b → foot ι strC b ∨ w.heap.size ≤ b := by
  subst hw
  have hn : nm 14 ∉ names strC := by decide
  obtain ⟨ι2, a, b, sz, c, d⟩ := h.lies.add hn (c := [.ptr (nm 6) 0, .ptr (nm 15) 0]) (cs := #[.pointer (some ⟨fb, 0, none⟩), .pointer (some ⟨gb, 0, none⟩)]) 524 (rels_cons (ptr_rel h.fst) (rels_cons (ptr_rel h.grp) rels_nil))
  have hsl : V.rel ι2 (.sl (nm 14) 0 1 1 2) (.slice (some ⟨w.heap.size, 0, none⟩) 1 1) := by
    simp only [V.rel]
    exact ⟨w.heap.size, 0, 1, b, by simp, by omega, by omega, fun _ => by rw [sz]; rfl⟩
  refine (runs_ok run_adv (num_none (τ := fun _ => 0)) a (xs := #[.pointer (some ⟨sb, 0, none⟩), .slice (some ⟨w.heap.size, 0, none⟩) 1 1, .pointer (some ⟨rp, 0, none⟩)]) (rels_cons (ptr_rel (c _ _ h.root)) (rels_cons hsl (rels_cons (ptr_rel (c _ _ h.res)) rels_nil)))).mono ?_
  rintro e w' ⟨x, v, ι', ι3, rfl, hp, hv, hL2, hc, hf, hr⟩
  have hd : ∀ b, foot ι2 ((nm 14, O.cells [.ptr (nm 6) 0, .ptr (nm 15) 0]) :: strC) b → foot ι strC b ∨ w.heap.size ≤ b := fun b hb => (d b hb).imp id fun e => by omega
  refine ⟨by rw [unit_of hp hv], ι3, ⟨hL2, (hr (nm 1, nm 1) (by simp [idl])).2 _ (c _ _ h.root), (hr (nm 18, nm 18) (by simp [idl])).2 _ (c _ _ h.res), .inr (.inl ⟨rfl, rfl⟩)⟩, hc.more fun i _ hi => hd i hi, fun b hb => ?_⟩
  rcases hf b hb with h1 | h1
  · exact hd b h1
  · rw [World.size_alloc] at h1
    exact .inr (by omega)
end
end Go.Proofs.YtahmcjdddcbhnaaGreatDoor
namespace Go.Proofs.YtahmcjdddcbhnaaGreatDoor
open Go Go.Ev Go.RowKit

theorem sorted_nil (w : World) : Calls Tryz.prog 356 #[.slice none 0 0] w fun e w' => e = .returned (.slice none 0 0) ∧ Below w.heap.size w w' := by
  have h := run_sorted
  split at h
  · rename_i H n hc
    refine (call1 cal0_ok hc (fun _ => 0) w #[.slice none 0 0] (rels_cons (by simp only [V.rel]) rels_nil)).mono ?_
    rintro e w' ⟨x, ι, rfl, hx, _, hb, _⟩
    simp only [V.rel] at hx
    exact ⟨by rw [hx], hb⟩
  · cases h
set_option maxHeartbeats 8000000 in
set_option maxRecDepth 1000000 in
theorem sfeed_walk {w : World} {sb k n : Nat} {L : Int} {ι : Emb} {v : Value} (h : StrAt w sb k L ι) (hv : Sees w 1 v (ints (List.replicate n 0))) (hn : L + n ≤ 65536) (hd : ∀ g, Value.leads v = some g → ¬ foot ι (strZ k) g) :
    Calls Tryz.prog 360 #[.pointer (some ⟨sb, 0, none⟩), v] w fun e w' => e = .returned (.tuple #[.slice none 0 0, .int .i64 0]) ∧ ∃ k2 ι2, StrAt w' sb k2 (L + n) ι2 ∧ Chg (foot ι (strZ k)) w w' ∧
      ∀ b, foot ι2 (strZ k2) b → foot ι (strZ k) b ∨ w.heap.size ≤ b := by
  have hL0 : 0 ≤ L := by rcases h.st with h | h | h <;> omega
  have hva := valid_walk (r := false) hv (by rw [List.length_replicate]; omega) (fun z hz => by rw [(List.mem_replicate.1 hz).2]; exact ⟨by omega, by decide, fun e => by cases e⟩)
  obtain ⟨mb, cb, c0, c2, c4, c5, d0, f1⟩ := h.cells
  obtain ⟨A, m, cp, rfl, h1, h2, h3⟩ := hv
  have hm : n = m := by rw [ints_len, List.length_replicate] at h1; omega
  subst hm
  have hlt : ∀ b, foot ι (strZ k) b → b < w.heap.size := fun b hb => h.lies.lt hb
  have hnI : ¬ (65536 - L : Int) < (n : Int) := by omega
  have hnw : IntKind.i64.wrap (65536 - L) = 65536 - L := wrapS (by omega) (by omega)
  have hS1 := fun (w1 : World) (hb : Below w.heap.size w w1) => (h.chg (F := fun _ => False) (Chg.of_below hb) (fun _ _ h => h))
  clear h1
  obtain ⟨F0, hF0⟩ : ∃ F0, F0 = foot ι (strZ k) := ⟨_, rfl⟩
  rw [← hF0]
  rw [← hF0] at hd
  go_enter Tryz.func360, Tryz.ntmps360
  have hk : k = 0 ∨ 1 ≤ k := by omega
  rcases hk with rfl | hk
  · have hb0 : begunB 0 = false := rfl
    rw [hb0] at c4
    have hrl := h.lies.hok.lt (nm 1) sb 0 h.root
    have hroot : foot ι (strZ 0) sb := ⟨nm 1, 0, ⟨_, strZ_get1 (.inl rfl), by simp⟩, h.root⟩
    go_wp2_with (first
      | (go_at_call 24; refine hva.mono ?_; clear hva; rintro _ w1 ⟨rfl, hb1⟩; have h1 := hS1 w1 hb1; clear hS1; obtain ⟨ι2, hR2, hF2⟩ := h1.withRes; obtain ⟨_, _, _, _, cB, _⟩ := h1.cells; rw [hb0] at cB; have cB2 := (((Below.refl w1.heap.size w1).alloc (Nat.le_refl _) (.cells #[.slice none 0 0] 63)).cell (p := ⟨sb, 4, none⟩) (by { have := hb1.size; show sb < w1.heap.size; omega })).trans cB; have fB2 := hR2.lies.thaw (c := cell1) (by rfl) hR2.root (j := 4) (by decide); obtain ⟨ι3, hB3, hF3⟩ := begin_put hR2; have hst3 := start_walk hB3)
      | (go_at_call 354; refine hst3.mono ?_; clear hst3; rintro _ w4 ⟨fb, gb, ι4, rfl, hC4, hc4, hf4⟩; have had := adv_walk hC4 rfl)
      | (go_at_call 373; refine had.mono ?_; clear had; rintro _ w6 ⟨rfl, ι6, hS6, hc6, hf6⟩)
      | fail)
    have hL : L = 0 := by rcases h.st with h | h | h <;> omega
    have HS := Lib.hid (show StrR w6 sb w1.heap.size 1 L ι6 by rw [hL]; exact hS6)
    have s1 := hb1.size
    have hb2 : ∀ i, foot ι2 (resZ ++ strZ 0) i → foot ι (strZ 0) i ∨ w.heap.size ≤ i := fun i hi => (hF2 i hi).imp id fun e => by omega
    have k1 : Chg (fun i => foot ι (strZ 0) i ∨ w.heap.size ≤ i) w w1 := Chg.of_below hb1
    have k3 := (k1.alloc (.cells #[.slice none 0 0] 63)).setCell (p := ⟨sb, 4, none⟩) (.inr (.inl hroot)) (.bool true)
    have k4 := k3.trans hc4 fun i _ hi => hb2 i (hF3 i hi)
    have hb4 : ∀ i, foot ι4 strC i → foot ι (strZ 0) i ∨ w.heap.size ≤ i := fun i hi => (hf4 i hi).elim (fun e => hb2 i (hF3 i e)) fun e => .inr (Nat.le_trans k3.size e)
    have k6c := (k4.alloc (.cells #[.pointer (some ⟨fb, 0, none⟩), .pointer (some ⟨gb, 0, none⟩)] 524)).trans hc6 fun i _ hi => hi.elim (hb4 i) fun e => .inr (Nat.le_trans k4.size e)
    have hC : Chg (foot ι (strZ 0)) w w6 := k6c.more fun i hi h => h.resolve_right (by omega)
    have hFx : ∀ b, foot ι6 (resZ ++ strZ 1) b → foot ι (strZ 0) b ∨ w.heap.size ≤ b := fun b hb => (hf6 b hb).elim (hb4 b) fun e => .inr (Nat.le_trans k4.size e)
    rw [← hF0] at hC
    have hF : ∀ b, foot ι6 (resZ ++ strZ 1) b → F0 b ∨ w.heap.size ≤ b := fun b hb => by rw [hF0]; exact hFx b hb
    obtain ⟨k6, hk6⟩ : ∃ x : Nat, x = 1 := ⟨_, rfl⟩
    rw [← hk6] at HS hF
    replace hk6 : 1 ≤ k6 := by omega
    clear k1 k3 k4 k6c hb2 hb4 hc4 hf4 hc6 hf6 hC4 hF2 hF3 hB3 hR2 fB2 cB2 cB h1 hS6 hL c0 c2 c4 c5 d0 f1 hb0 hroot h hnI hnw hlt h2 hFx hF0 hrl s1
    have hn1 : (n : Int) ≤ 65536 := by omega
    go_loopw [52] (fun iv wr => ∃ j : Nat, j ≤ n ∧ iv = .int .i64 j ∧ Hid (∃ kj ιj, StrR wr sb w1.heap.size kj (L + j) ιj ∧ 1 ≤ kj ∧ Chg (F0) w wr ∧ ∀ b, foot ιj (resZ ++ strZ kj) b → F0 b ∨ w.heap.size ≤ b)) (fun iv _ => n - (intOf iv).toNat)
    case atStart => exact ⟨0, Nat.zero_le _, rfl, Lib.hid ⟨k6, ι6, by simpa using HS.out, hk6, hC, hF⟩⟩
    case round =>
      obtain ⟨j, hj, rfl, hX⟩ := hrel
      obtain ⟨kj, ιj, hSj, hkj, hCj, hFj⟩ := hX.out
      by_cases hjl : j < n
      · obtain ⟨b, off, rfl, hb, hcc⟩ := h3 (by omega)
        have hcell := (hCj.cell (p := ⟨b, off + j, none⟩) hb (hd b (by obtain ⟨m, rfl⟩ : ∃ m, n = m + 1 := ⟨n - 1, by omega⟩; rfl))).trans (hcc j (.int .i64 0) (by unfold ints; rw [List.getElem?_map, List.getElem?_replicate, if_pos hjl]; rfl))
        have hst := step_walk hSj hkj (by omega)
        have hj1 : (j : Int) < (n : Int) := by omega
        have HCJ := Lib.hid hCj
        have HFJ := Lib.hid hFj
        clear hcc hX hSj hCj hFj h3 hC hF hd
        go_wp2_with (first | (go_at_call 374; refine hst.mono ?_; clear hst; rintro _ w8 ⟨rfl, ι8, hS8, hC8, hF8⟩) | fail)
        go_roundw
        case rel =>
          refine ⟨j + 1, hjl, by go_num, Lib.hid ⟨2, ι8, by rw [show L + ((j + 1 : Nat) : Int) = L + (j : Int) + 1 by omega]; exact hS8, by omega, HCJ.out.trans hC8 fun i hi h => ?_, fun b hb => ?_⟩⟩
          · exact (HFJ.out i h).resolve_right (by omega)
          · have := HCJ.out.size
            rcases hF8 b hb with h1 | h1
            · exact HFJ.out b h1
            · exact .inr (by omega)
        case measure => simp [intOf]; omega
      · have hje : j = n := by omega
        have hj1 : ¬ (j : Int) < (n : Int) := by omega
        have cr := hSj.res0
        have hso := sorted_nil wr
        subst hje
        obtain ⟨ι9, hS9, hF9⟩ := hSj.drop
        have HX := Lib.hid (And.intro hS9 (And.intro hCj (fun b hb => hFj b (hF9 b hb))))
        clear hX hSj hCj hFj h3 hC hF hd hj hjl hS9 hF9
        go_wp2_with (first | (go_at_call 356; refine hso.mono ?_; clear hso; rintro _ w9 ⟨rfl, hb9⟩) | fail)
        go_ret2
        obtain ⟨hS9, hC9, hF9⟩ := HX.out
        exact ⟨rfl, kj, ι9, hS9.chg (F := fun _ => False) (Chg.of_below hb9) fun _ _ h => h, hC9.trans (Chg.of_below (F := fun _ => False) hb9) fun _ _ h => h.elim, hF9⟩
  · have hb0 : begunB k = true := by
      obtain ⟨m, rfl⟩ : ∃ m, k = m + 1 := ⟨k - 1, by omega⟩
      rfl
    rw [hb0] at c4
    have hrl := h.lies.hok.lt (nm 1) sb 0 h.root
    go_wp2_with (first
      | (go_at_call 24; refine hva.mono ?_; clear hva; rintro _ w1 ⟨rfl, hb1⟩; have h1 := hS1 w1 hb1; clear hS1; obtain ⟨ι6, hR2, hF2⟩ := h1.withRes; obtain ⟨_, _, _, _, cB, _⟩ := h1.cells; rw [hb0] at cB; have cB2 := (((Below.refl w1.heap.size w1).alloc (Nat.le_refl _) (.cells #[.slice none 0 0] 63)).cell (p := ⟨sb, 4, none⟩) (by { have := hb1.size; show sb < w1.heap.size; omega })).trans cB)
      | fail)
    have s1 := hb1.size
    have HS := Lib.hid hR2
    have hC : Chg F0 w (w1.alloc (.cells #[.slice none 0 0] 63)) := (Chg.of_below hb1).alloc _
    have hF : ∀ b, foot ι6 (resZ ++ strZ k) b → F0 b ∨ w.heap.size ≤ b := fun b hb => by
      rw [hF0]
      exact (hF2 b hb).imp id fun e => by omega
    obtain ⟨k6, hk6⟩ : ∃ x : Nat, x = k := ⟨_, rfl⟩
    rw [← hk6] at HS hF
    replace hk6 : 1 ≤ k6 := by omega
    clear hF2 hR2 cB2 cB h1 c0 c2 c4 c5 d0 f1 hb0 h hnI hnw hlt h2 hF0 hrl s1
    have hn1 : (n : Int) ≤ 65536 := by omega
    go_loopw [52] (fun iv wr => ∃ j : Nat, j ≤ n ∧ iv = .int .i64 j ∧ Hid (∃ kj ιj, StrR wr sb w1.heap.size kj (L + j) ιj ∧ 1 ≤ kj ∧ Chg (F0) w wr ∧ ∀ b, foot ιj (resZ ++ strZ kj) b → F0 b ∨ w.heap.size ≤ b)) (fun iv _ => n - (intOf iv).toNat)
    case atStart => exact ⟨0, Nat.zero_le _, rfl, Lib.hid ⟨k6, ι6, by simpa using HS.out, hk6, hC, hF⟩⟩
    case round =>
      obtain ⟨j, hj, rfl, hX⟩ := hrel
      obtain ⟨kj, ιj, hSj, hkj, hCj, hFj⟩ := hX.out
      by_cases hjl : j < n
      · obtain ⟨b, off, rfl, hb, hcc⟩ := h3 (by omega)
        have hcell := (hCj.cell (p := ⟨b, off + j, none⟩) hb (hd b (by obtain ⟨m, rfl⟩ : ∃ m, n = m + 1 := ⟨n - 1, by omega⟩; rfl))).trans (hcc j (.int .i64 0) (by unfold ints; rw [List.getElem?_map, List.getElem?_replicate, if_pos hjl]; rfl))
        have hst := step_walk hSj hkj (by omega)
        have hj1 : (j : Int) < (n : Int) := by omega
        have HCJ := Lib.hid hCj
        have HFJ := Lib.hid hFj
        clear hcc hX hSj hCj hFj h3 hC hF hd
        go_wp2_with (first | (go_at_call 374; refine hst.mono ?_; clear hst; rintro _ w8 ⟨rfl, ι8, hS8, hC8, hF8⟩) | fail)
        go_roundw
        case rel =>
          refine ⟨j + 1, hjl, by go_num, Lib.hid ⟨2, ι8, by rw [show L + ((j + 1 : Nat) : Int) = L + (j : Int) + 1 by omega]; exact hS8, by omega, HCJ.out.trans hC8 fun i hi h => ?_, fun b hb => ?_⟩⟩
          · exact (HFJ.out i h).resolve_right (by omega)
          · have := HCJ.out.size
            rcases hF8 b hb with h1 | h1
            · exact HFJ.out b h1
            · exact .inr (by omega)
        case measure => simp [intOf]; omega
      · have hje : j = n := by omega
        have hj1 : ¬ (j : Int) < (n : Int) := by omega
        have cr := hSj.res0
        have hso := sorted_nil wr
        subst hje
        obtain ⟨ι9, hS9, hF9⟩ := hSj.drop
        have HX := Lib.hid (And.intro hS9 (And.intro hCj (fun b hb => hFj b (hF9 b hb))))
        clear hX hSj hCj hFj h3 hC hF hd hj hjl hS9 hF9
        go_wp2_with (first | (go_at_call 356; refine hso.mono ?_; clear hso; rintro _ w9 ⟨rfl, hb9⟩) | fail)
        go_ret2
        obtain ⟨hS9, hC9, hF9⟩ := HX.out
        exact ⟨rfl, kj, ι9, hS9.chg (F := fun _ => False) (Chg.of_below hb9) fun _ _ h => h, hC9.trans (Chg.of_below (F := fun _ => False) hb9) fun _ _ h => h.elim, hF9⟩
end Go.Proofs.YtahmcjdddcbhnaaGreatDoor
namespace Go.Proofs.YtahmcjdddcbhnaaGreatDoor
open Go Go.Ev Go.RowKit

set_option maxRecDepth 1000000 in
theorem cloneb_walk {w : World} {v : Value} {x : List UInt8} (hv : Sees w 1 v (bv x)) (hx : x.length ≤ 100000000) :
    Calls Tryz.prog 361 #[v] w fun e w' => ∃ u, e = .returned u ∧ w'.ownsRow w.heap.size 5 1 u x.length (bv x) ∧ Below w.heap.size w w' := by
  obtain ⟨i0, hi0, hz0, hz1, hz2⟩ := info_parts' infoU8
  obtain ⟨A, n, c, rfl, h1, h2, h3⟩ := id hv
  have hn : n = x.length := by rw [bv_len] at h1; omega
  subst hn
  cases A with
  | none =>
    have hx0 : x = [] := by
      rcases Nat.eq_zero_or_pos x.length with h | h
      · exact List.length_eq_zero_iff.1 h
      · obtain ⟨b, s, e, _⟩ := h3 (by omega)
        cases e
    subst hx0
    have heq : (binOp BinOp.eql 23 (.slice none 0 c) (.slice none 0 0)).run Tryz.prog w = .ok (.bool true) w := by kernel_rfl
    go_enter Tryz.func361, Tryz.ntmps361
    go_wp2
    go_ret
    exact ⟨_, rfl, World.ownsRow_nil _ _ _ _, Below.refl _ _⟩
  | some a =>
    have h63 : 0 + x.length ≤ maxLen := by unfold maxLen; omega
    have hby : (0 + x.length) * 1 ≤ 140737488355328 := by omega
    have hs1 := hv.alloc (.cells #[] 5)
    have hmade := World.ownsRow_made (e := 5) (size := 1) (base := w.heap.size) w #[] 0 (Nat.le_refl _) (Nat.zero_le _) rfl
    have hxl : (bv x).length = x.length * 1 := by rw [bv_len]; omega
    have heq : (binOp BinOp.eql 23 (.slice (some a) x.length c) (.slice none 0 0)).run Tryz.prog w = .ok (.bool false) w := by kernel_rfl
    go_enter Tryz.func361, Tryz.ntmps361
    go_wp2_with (first
      | (at_builtin; refine wpList_append_sees rfl _ _ 23 rfl i0 _ 1 Tryz.underlying23 hi0 hz0 hz1 hz2 rfl (by decide) _ 0 [] rfl hmade _ x.length _ rfl hs1 hxl (bv_one x) h63 hby (by simp) ?_; intro v2 w2 hrow2 hgrow2 hown2; obtain ⟨A2, k2, rfl, _⟩ := row_form hrow2; rw [Nat.zero_add] at hrow2)
      | go_in)
    go_ret
    have hb2 : Below w.heap.size w w2 := ((Below.refl _ _).alloc (Nat.le_refl _) _).grown hgrow2 (by simp) fun k hk => by cases hk; exact Nat.le_refl _
    rw [List.nil_append] at hrow2
    exact ⟨_, rfl, by simpa using hrow2, hb2⟩
/-- a stream of bytes -/
structure BytAt (w : World) (bb sb k : Nat) (L : Int) (ι : Emb) (A : Option Addr) (c : Nat) : Prop where
  blk : Blk w bb 198 #[.pointer (some ⟨sb, 0, none⟩), .slice A 0 c]
  str : StrAt w sb k L ι
  out : ¬ foot ι (strZ k) bb
/-- where it lies -/
def BFt (bb k : Nat) (ι : Emb) (b : Nat) : Prop := b = bb ∨ foot ι (strZ k) b
section
variable {w w' : World} {bb sb k : Nat} {L : Int} {ι : Emb} {A : Option Addr} {c : Nat}
theorem BytAt.lt (h : BytAt w bb sb k L ι A c) {b : Nat} (hb : BFt bb k ι b) : b < w.heap.size := by
  rcases hb with rfl | hb
  · exact h.blk.lt
  · exact h.str.lies.lt hb
theorem BytAt.chg {F : Nat → Prop} (h : BytAt w bb sb k L ι A c) (hc : Chg F w w') (hf : ∀ b, BFt bb k ι b → ¬ F b) : BytAt w' bb sb k L ι A c :=
  ⟨h.blk.chg hc (hf bb (.inl rfl)), h.str.chg hc fun b hb => hf b (.inr hb), h.out⟩
theorem BytAt.bel (h : BytAt w bb sb k L ι A c) (hb : Below w.heap.size w w') : BytAt w' bb sb k L ι A c := h.chg (F := fun _ => False) (Chg.of_below hb) fun _ _ h => h
theorem done_of {ι : Emb} {v : V} {x : Value} (hp : isDone v = true) (hr : V.rel ι v x) : x = .tuple #[.slice none 0 0, .int .i64 0] := by
  unfold isDone at hp
  split at hp
  · simp only [V.rel] at hr
    obtain ⟨cs, rfl, hc⟩ := hr
    obtain ⟨x1, t1, e1, h1, hc⟩ := rels_cons_inv hc
    obtain ⟨x2, t2, e2, h2, hc⟩ := rels_cons_inv hc
    have := rels_nil_inv hc
    subst this
    simp only [V.rel] at h1 h2
    subst h1 h2
    rw [show cs = #[.slice none 0 0, .int .i64 0] from Array.toList_inj.1 (by rw [e1, e2])]
  · cases hp
theorem sclose_walk (h : StrAt w sb k L ι) : Calls Tryz.prog 350 #[.pointer (some ⟨sb, 0, none⟩)] w fun e w' => e = .returned (.tuple #[.slice none 0 0, .int .i64 0]) ∧ Chg (foot ι (strZ k)) w w' := by
  have hxs : V.rels ι [.ptr (nm 1) 0] (#[.pointer (some ⟨sb, 0, none⟩)] : Array Value).toList := rels_cons (ptr_rel h.root) rels_nil
  rcases h.st with ⟨rfl, rfl⟩ | ⟨rfl, rfl⟩ | ⟨rfl, h1, h2⟩
  · refine (runs_ok run_close0 (num_none (τ := fun _ => 0)) h.lies hxs).mono ?_
    rintro e w' ⟨x, v, ι', ι2, rfl, hp, hv, -, hc, -, -⟩
    exact ⟨by rw [done_of hp hv], hc⟩
  · refine (runs_ok run_close1 (num_none (τ := fun _ => 0)) h.lies hxs).mono ?_
    rintro e w' ⟨x, v, ι', ι2, rfl, hp, hv, -, hc, -, -⟩
    exact ⟨by rw [done_of hp hv], hc⟩
  · refine (runs_ok run_close2 (num_none (τ := fun _ => 0)) h.lies hxs).mono ?_
    rintro e w' ⟨x, v, ι', ι2, rfl, hp, hv, -, hc, -, -⟩
    exact ⟨by rw [done_of hp hv], hc⟩
set_option maxHeartbeats 4000000 in
set_option maxRecDepth 1000000 in
theorem bclose_walk (h : BytAt w bb sb k L ι A c) : Calls Tryz.prog 347 #[.pointer (some ⟨bb, 0, none⟩)] w fun e w' => e = .returned (.tuple #[.slice none 0 0, .int .i64 0]) ∧ Chg (foot ι (strZ k)) w w' := by
  have hcl := sclose_walk h.str
  obtain ⟨mb, cb, c0, c2, c4, c5, d0, f1⟩ := h.str.cells
  have b0 := h.blk.at' 0
  have b1 := h.blk.at' 1
  simp at b0 b1
  clear h c0 c2 c4 d0 f1
  go_enter Tryz.func347, Tryz.ntmps347
  go_wp2_with (first | (go_at_call 350; refine hcl.mono ?_; clear hcl; rintro _ w1 ⟨rfl, hc1⟩) | fail)
  go_ret2
  exact ⟨rfl, hc1⟩
end
end Go.Proofs.YtahmcjdddcbhnaaGreatDoor
namespace Go.Proofs.YtahmcjdddcbhnaaGreatDoor
open Go Go.Ev Go.RowKit

theorem leads_own {w : World} {base : Nat} {e : TypeId} {size : Nat} {v : Value} {n : Nat} {xs : List Value} (h : w.ownsRow base e size v n xs) {g : Nat} (hg : Value.leads v = some g) : v.ownBlock = some g := by
  obtain ⟨A, c, rfl, _⟩ := row_form h
  cases n with
  | zero => cases A <;> cases hg
  | succ m =>
    cases A with
    | none => cases hg
    | some a => cases hg; rfl
theorem syms_zero (n : Nat) : natI (symsB (List.replicate n 0)) = ints (List.replicate n 0) := by
  unfold natI symsB ints
  simp
set_option maxHeartbeats 8000000 in
set_option maxRecDepth 1000000 in
theorem bfeed_walk {w : World} {bb sb k n : Nat} {L : Int} {ι : Emb} {A : Option Addr} {c : Nat} {v : Value} (h : BytAt w bb sb k L ι A c) (hv : Sees w 1 v (bv (List.replicate n 0))) (hn : L + n ≤ 65536) :
    Calls Tryz.prog 352 #[.pointer (some ⟨bb, 0, none⟩), v] w fun e w' => e = .returned (.tuple #[.slice none 0 0, .int .i64 0]) ∧ ∃ k2 ι2 A2 c2, BytAt w' bb sb k2 (L + n) ι2 A2 c2 ∧ Chg (BFt bb k ι) w w' ∧
      ∀ b, BFt bb k2 ι2 b → BFt bb k ι b ∨ w.heap.size ≤ b := by
  have hL0 : 0 ≤ L := by rcases h.str.st with h | h | h <;> omega
  obtain ⟨mb, cb, c0, c2, c4, c5, d0, f1⟩ := h.str.cells
  have b0 := h.blk.at' 0
  have b1 := h.blk.at' 1
  simp at b0 b1
  have hlt : ∀ b, BFt bb k ι b → b < w.heap.size := fun b hb => h.lt hb
  obtain ⟨W1, hW1⟩ : ∃ W1, w.alloc (.cells #[.slice A 0 c, v] 23) = W1 := ⟨_, rfl⟩
  have hB1 : Below w.heap.size w W1 := by rw [← hW1]; exact (Below.refl _ w).alloc (Nat.le_refl _) _
  have m0 : W1.cell? ⟨w.heap.size, 0, none⟩ = some (.slice A 0 c) := by rw [← hW1]; simp
  have m1 : W1.cell? ⟨w.heap.size, 1, none⟩ = some v := by rw [← hW1]; simp
  have hcon := concat_walk (x := []) (y := List.replicate n 0) (w := W1) (vb := w.heap.size) (v1 := .slice A 0 c) (v2 := v) ⟨_, _, _, rfl, rfl, Nat.zero_le _, fun h => absurd rfl h⟩ (hv.bel hB1) (by simp) (by rw [List.length_replicate]; omega) m0 m1 (by rw [← hW1, World.size_alloc]; omega)
  rw [List.nil_append, List.length_replicate] at hcon
  have hbel := fun w' (hb : Below w.heap.size w w') => h.bel hb
  obtain ⟨vA, vn, vc, rfl, -, -, -⟩ := hv
  go_enter Tryz.func352, Tryz.ntmps352
  go_wp2_with (first
    | (go_at_call 358; refine hcon.mono ?_; clear hcon; rintro _ w2 ⟨u2, rfl, hrow2, hb2⟩)
    | fail)
  have hb2w : Below w.heap.size w w2 := hB1.trans (hb2.mono hB1.size)
  have h2 := hbel w2 hb2w
  obtain ⟨mb2, cb2, e0, e2, e4, e5, g0, g1⟩ := h2.str.cells
  have p0 := h2.blk.at' 0
  simp at p0
  obtain ⟨A2, k2, rfl, hle2⟩ := row_form hrow2
  clear c0 c2 c4 c5 d0 f1 b0 b1 m0 m1 e2 e4 e5 hb2
  go_wp2_with fail
  (refine wp_region_quiet_lit (by kernel_rfl) (by kernel_rfl) ?_; (repeat (with_reducible refine wpQuiet_step (fun K hK => ?_); go_simp; with_reducible refine hK _ ?_; clear hK K)); with_reducible refine wpQuiet_nil ?_; rintro _ ⟨nq, rfl⟩)
  obtain ⟨w3, hw3⟩ : ∃ x, w2.drewN nq = x := ⟨_, rfl⟩
  have hb3 : Below w.heap.size w w3 := by rw [← hw3]; exact hb2w.trans ((belowN w2 nq).mono hb2w.size)
  have hrow3 : w3.ownsRow W1.heap.size 5 1 (.slice A2 n k2) n (bv (List.replicate n 0)) := by rw [← hw3]; exact row_chg hrow2 (Chg.of_below (F := fun _ => False) (belowN w2 nq)) fun _ _ h => h
  rw [hw3]
  have hde := dec_walk (x := List.replicate n 0) (w := w3) (v := .slice A2 n k2) (by rw [List.length_replicate]; omega) (SeesB.row hrow3)
  rw [List.length_replicate, syms_zero] at hde
  have hkI : (n : Int) ≤ (k2 : Int) := by omega
  clear e0 g0 g1 p0 h2 hw3 hrow2 hb2w
  go_wp2_with (first
    | (go_at_call 8; refine hde.mono ?_; clear hde; rintro _ w4 ⟨u4, rfl, hrow4, hb4⟩; have hb4w := hb3.trans (hb4.mono hb3.size); have h4 := hbel w4 hb4w; have q0 := h4.blk.at' 0; simp at q0; have hfe := sfeed_walk (n := n) h4.str (Sees.row hrow4) hn (fun g hg hf => by { have h5 := (World.ownsRow.lt hrow4 g (leads_own hrow4 hg)).1; have h6 := hlt g (.inr hf); have := hb3.size; omega }))
    | (go_at_call 360; refine hfe.mono ?_; clear hfe; rintro _ w5 ⟨rfl, k5, ι5, hS5, hC5, hF5⟩; have hB5 := h4.blk.chg hC5 h4.out; have hcl := cloneb_walk (w := w5) (x := []) (v := .slice (if k2 = n then A2 else Option.map (fun x => x.add n) A2) 0 (k2 - n)) ⟨_, _, _, rfl, rfl, Nat.zero_le _, fun h => absurd rfl h⟩ (by simp))
    | (go_at_call 361; refine hcl.mono ?_; clear hcl; rintro _ w6 ⟨u6, rfl, hrow6, hb6⟩; obtain ⟨A6, c6, rfl, -⟩ := row_form hrow6; have hB6 := hB5.bel hb6 hB5.lt; have r1 := hB6.at' 1; have r2 := hB6.thaw 1; simp at r1)
    | fail)
  all_goals go_ret2
  all_goals
    refine ⟨rfl, k5, ι5, ⟨A6, c6, ?_, ?_, ?_⟩, ?_, ?_⟩
    · simpa using hB6.put 1 (.slice A6 0 c6)
    · have h6 := hS5.chg (F := fun _ => False) (Chg.of_below hb6) fun _ _ h => h
      refine h6.chg (F := fun i => i = bb) ((Chg.refl (fun i => i = bb) w6).setCell (p := ⟨bb, 1, none⟩) (.inr (show bb = bb from rfl)) (.slice A6 0 c6)) fun b hb e => ?_
      subst e
      rcases hF5 _ hb with h1 | h1
      · exact h4.out h1
      · have := h4.blk.lt; omega
    · intro hf
      rcases hF5 _ hf with h1 | h1
      · exact h4.out h1
      · have := h4.blk.lt; omega
    · have k4 : Chg (BFt bb k ι) w w4 := Chg.of_below hb4w
      have k5c := (k4.trans hC5 fun i _ hi => .inr hi).trans (Chg.of_below (F := fun _ => False) hb6) fun _ _ h => h.elim
      exact k5c.setCell (.inr (.inl rfl)) _
    · rintro b (rfl | hb)
      · exact .inl (.inl rfl)
      · have := hb4w.size
        rcases hF5 b hb with h1 | h1
        · exact .inl (.inr h1)
        · exact .inr (by omega)
end Go.Proofs.YtahmcjdddcbhnaaGreatDoor
namespace Go.Proofs.YtahmcjdddcbhnaaGreatDoor
open Go Go.Ev Go.RowKit

section
variable {w : World} {mb ub bb sb k n : Nat} {sh pe tk us L : Int} {ι : Emb} {A : Option Addr} {c : Nat} {v : Value}
/-- what a piece leaves: the meter, the stream -/
structure Fed (w : World) (mb ub bb sb k : Nat) (sh pe t us' L' : Int) (ι : Emb) (w' : World) : Prop where
  met : MtAt w' mb ub sh pe t us'
  byt : ∃ k2 ι2 A2 c2, BytAt w' bb sb k2 L' ι2 A2 c2 ∧ ∀ b, BFt bb k2 ι2 b → BFt bb k ι b ∨ w.heap.size ≤ b
  chg : Chg (fun b => MFt mb ub b ∨ BFt bb k ι b) w w'
theorem Fed.pre {w0 w' : World} {t us' L' : Int} (h : Fed w0 mb ub bb sb k sh pe t us' L' ι w') (hb : Below w.heap.size w w0) : Fed w mb ub bb sb k sh pe t us' L' ι w' := by
  obtain ⟨k2, ι2, A2, c2, h1, h2⟩ := h.byt
  have := hb.size
  exact ⟨h.met, ⟨k2, ι2, A2, c2, h1, fun b hb => (h2 b hb).imp id fun e => by omega⟩, (Chg.of_below hb).trans h.chg fun _ _ h => h⟩
set_option maxHeartbeats 4000000 in
set_option maxRecDepth 1000000 in
theorem flowfeed_walk (hM : MtAt w mb ub sh pe tk us) (hB : BytAt w bb sb k L ι A c) (hd : ∀ b, BFt bb k ι b → ¬ MFt mb ub b) {t : Int} (ht : tk ≤ t ∧ t ≤ 1099511627776) (hv : Sees w 1 v (bv (List.replicate n 0))) (hvl : ∀ g, Value.leads v = some g → ¬ MFt mb ub g)
    (hn : L + n ≤ 65536) (hsuf : (n : Int) ≤ sh - usedAt pe tk us t) :
    Calls Tryz.prog 349 #[.agg #[.pointer (some ⟨bb, 0, none⟩)], shareV mb t, v] w fun e w' => e = .returned (.tuple #[.slice none 0 0, .bool true]) ∧ Fed w mb ub bb sb k sh pe t (usedAt pe tk us t + n) (L + n) ι w' := by
  have hus := hM.usedBd t
  have hsh := hM.hsh
  have hl := fun w1 (hb : Below w.heap.size w w1) => qleft_walk (hM.bel hb) ht
  have htk := fun w1 (hb : Below w.heap.size w w1) => qtake_walk (n := (n : Int)) (hM.bel hb) ht (by omega)
  have hbf := fun w1 (hb : Below w.heap.size w w1) (w2 : World) (hc : Chg (MFt mb ub) w1 w2) => bfeed_walk (n := n) ((hB.bel hb).chg hc hd) ((hv.bel hb).chg hc hvl) hn
  obtain ⟨r, hr⟩ : ∃ r, sh - usedAt pe tk us t = r := ⟨_, rfl⟩
  obtain ⟨u', hu'⟩ : ∃ u', usedAt pe tk us t + (n : Int) = u' := ⟨_, rfl⟩
  rw [hr] at hl hsuf
  rw [hu'] at htk ⊢
  have hrn : ¬ r < (n : Int) := by omega
  obtain ⟨vA, vn, vc, rfl, hvn, -, -⟩ := id hv
  have hvn' : n = vn := by rw [bv_len, List.length_replicate] at hvn; omega
  subst hvn'
  have hmlt : ∀ b, MFt mb ub b → b < w.heap.size := fun b hb => by rcases hb with rfl | rfl; exact hM.blk.lt; exact hM.used.lt
  unfold shareV at hl htk ⊢
  clear hM hr hu' hus hsh hvn
  obtain ⟨W0, hW0⟩ : ∃ x, (w.alloc (.cells #[.pointer (some ⟨bb, 0, none⟩)] 153)).alloc (.cells #[.pointer (some ⟨mb, 0, none⟩), .int .i64 0, .int .i64 t] 118) = x := ⟨_, rfl⟩
  have hB0 : Below w.heap.size w W0 := by rw [← hW0]; exact ((Below.refl _ _).alloc (Nat.le_refl _) _).alloc (by simp) _
  have hz0 : W0.heap.size = w.heap.size + 2 := by rw [← hW0]; simp
  have x1 : Blk W0 w.heap.size 153 #[.pointer (some ⟨bb, 0, none⟩)] := by rw [← hW0]; exact (Blk.made w _ _).alloc _
  have x2 : Blk W0 (w.heap.size + 1) 118 #[.pointer (some ⟨mb, 0, none⟩), .int .i64 0, .int .i64 t] := by
    have := Blk.made (w.alloc (.cells #[.pointer (some ⟨bb, 0, none⟩)] 153)) 118 #[.pointer (some ⟨mb, 0, none⟩), .int .i64 0, .int .i64 t]
    rw [hW0, World.size_alloc] at this
    exact this
  have y0 := x2.at' 0
  have y1 := x2.at' 1
  have y2 := x2.at' 2
  simp at y0 y1 y2
  have hl0 := hl W0 hB0
  have hrd : decide (r < (n : Int)) = false := decide_eq_false hrn
  clear hl
  go_enter Tryz.func349, Tryz.ntmps349
  go_wp2_with (first
    | (go_at_call 345; refine hl0.mono ?_; clear hl0; rintro _ w1 ⟨rfl, hb1⟩; have hb1w := hB0.trans (hb1.mono hB0.size); have htk1 := htk w1 hb1w; have x1' := x1.bel hb1 x1.lt; have x2' := x2.bel hb1 x2.lt; have z0 := x2'.at' 0; have z1 := x2'.at' 1; have z2 := x2'.at' 2; simp at z0 z1 z2)
    | (go_at_call 351; refine htk1.mono ?_; clear htk1; rintro _ w2 ⟨rfl, hM2, hC2⟩; have hbf2 := hbf w1 hb1w w2 hC2; have x1'' := x1'.chg hC2 (fun hf => by { have h1 := hmlt _ hf; omega }); have v0 := x1''.at' 0; simp at v0)
    | (go_at_call 352; refine hbf2.mono ?_; clear hbf2; rintro _ w3 ⟨rfl, k3, ι3, A3, c3, hB3, hC3, hF3⟩)
    | fail)
  go_ret2
  have s1 := hb1w.size
  have s2 := hC2.size
  refine ⟨rfl, hM2.chg hC3 (fun hf => hd _ hf (.inl rfl)) (fun hf => hd _ hf (.inr rfl)), ⟨k3, ι3, A3, c3, hB3, fun b hb => (hF3 b hb).imp id fun e => by omega⟩, ?_⟩
  exact ((Chg.of_below (F := fun b => MFt mb ub b ∨ BFt bb k ι b) hb1w).trans hC2 fun _ _ h => .inl h).trans hC3 fun _ _ h => .inr h
set_option maxHeartbeats 4000000 in
set_option maxRecDepth 1000000 in
theorem flowend_walk (hB : BytAt w bb sb k L ι A c) {t : Int} {u : Value} (hu : u.oneCell' = true) :
    Calls Tryz.prog 348 #[.agg #[.pointer (some ⟨bb, 0, none⟩)], shareV mb t, u] w fun e w' => e = .returned (.tuple #[.slice none 0 0, .bool true]) ∧ Chg (BFt bb k ι) w w' := by
  have hcl := fun w1 (hb : Below w.heap.size w w1) => bclose_walk (hB.bel hb)
  unfold shareV
  obtain ⟨W0, hW0⟩ : ∃ x, (w.alloc (.cells #[.pointer (some ⟨bb, 0, none⟩)] 153)).alloc (.cells #[.pointer (some ⟨mb, 0, none⟩), .int .i64 0, .int .i64 t] 118) = x := ⟨_, rfl⟩
  have hB0 : Below w.heap.size w W0 := by rw [← hW0]; exact ((Below.refl _ _).alloc (Nat.le_refl _) _).alloc (by simp) _
  have x1 : Blk W0 w.heap.size 153 #[.pointer (some ⟨bb, 0, none⟩)] := by rw [← hW0]; exact (Blk.made w _ _).alloc _
  have y0 := x1.at' 0
  simp at y0
  have hl0 := hcl W0 hB0
  clear hcl hB
  go_enter Tryz.func348, Tryz.ntmps348
  go_wp2_with (first
    | (go_at_call 347; refine hl0.mono ?_; clear hl0; rintro _ w1 ⟨rfl, hC1⟩)
    | fail)
  go_ret2
  exact ⟨rfl, (Chg.of_below hB0).trans hC1 fun _ _ h => .inr h⟩
/-- a rule that flows, as what it does for a connection -/
def flowV (bb : Nat) : Value := .iface 153 (.agg #[.pointer (some ⟨bb, 0, none⟩)])
theorem meth_feed : methAt Tryz.prog "rexmill/filter.feed" 153 = some 349 := by kernel_rfl
theorem meth_end : methAt Tryz.prog "rexmill/filter.end" 153 = some 348 := by kernel_rfl
set_option maxHeartbeats 4000000 in
set_option maxRecDepth 1000000 in
theorem data1_walk (hM : MtAt w mb ub sh pe tk us) (hB : BytAt w bb sb k L ι A c) (hd : ∀ b, BFt bb k ι b → ¬ MFt mb ub b) {t : Int} (ht : tk ≤ t ∧ t ≤ 1099511627776) (hv : Sees w 1 v (bv (List.replicate n 0))) (hvl : ∀ g, Value.leads v = some g → ¬ MFt mb ub g)
    (hn : L + n ≤ 65536) (hsuf : (n : Int) ≤ sh - usedAt pe tk us t) {q : Nat} (hq : w.cell? ⟨q, 0, none⟩ = some v) (hql : q < w.heap.size) :
    Calls Tryz.prog 39 #[flowV bb, shareV mb t, .pointer (some ⟨q, 0, none⟩)] w fun e w' => e = .returned (.tuple #[.slice none 0 0, .bool true]) ∧ Fed w mb ub bb sb k sh pe t (usedAt pe tk us t + n) (L + n) ι w' := by
  obtain ⟨W0, hW0⟩ : ∃ x, w.alloc (.cells #[.pointer (some ⟨mb, 0, none⟩), .int .i64 0, .int .i64 t] 118) = x := ⟨_, rfl⟩
  have hB0 : Below w.heap.size w W0 := by rw [← hW0]; exact (Below.refl _ _).alloc (Nat.le_refl _) _
  have hff := flowfeed_walk (n := n) (hM.bel hB0) (hB.bel hB0) hd ht (hv.bel hB0) hvl hn hsuf
  have x2 : Blk W0 w.heap.size 118 #[.pointer (some ⟨mb, 0, none⟩), .int .i64 0, .int .i64 t] := by rw [← hW0]; exact Blk.made w _ _
  have y0 := x2.at' 0
  have y1 := x2.at' 1
  have y2 := x2.at' 2
  simp at y0 y1 y2
  have hq0 := (hB0.cell (p := ⟨q, 0, none⟩) hql).trans hq
  obtain ⟨u', hu'⟩ : ∃ u', usedAt pe tk us t + (n : Int) = u' := ⟨_, rfl⟩
  rw [hu'] at hff ⊢
  obtain ⟨vA, vn, vc, rfl, -, -, -⟩ := hv
  have hme : (method 664 153 (.agg #[.pointer (some ⟨bb, 0, none⟩)]) "rexmill/filter.feed").run Tryz.prog W0 = .ok (349, .agg #[.pointer (some ⟨bb, 0, none⟩)]) W0 := Go.Ev.run_method meth_feed (664 - 1)
  unfold shareV at hff ⊢
  unfold flowV
  clear hM hB hd hvl hsuf hu' hq
  go_enter Tryz.func39, Tryz.ntmps39
  go_wp2_with (first
    | (go_at_call 349; refine hff.mono ?_; clear hff; rintro _ w1 ⟨rfl, hX⟩)
    | fail)
  go_ret2
  exact ⟨rfl, hX.pre hB0⟩
set_option maxHeartbeats 4000000 in
set_option maxRecDepth 1000000 in
theorem end1_walk (hB : BytAt w bb sb k L ι A c) {t : Int} {q cb : Nat} {u : Value} (hq : w.cell? ⟨q, 0, none⟩ = some (.pointer (some ⟨cb, 0, none⟩))) (hql : q < w.heap.size) (hc : w.cell? ⟨cb, 2, none⟩ = some u) (hcl : cb < w.heap.size) (hu : ∃ a n c, u = .slice a n c) (hqn : ¬ BFt bb k ι q) (hcn : ¬ BFt bb k ι cb) :
    Calls Tryz.prog 40 #[flowV bb, shareV mb t, .pointer (some ⟨q, 0, none⟩)] w fun e w' => e = .returned (.tuple #[.slice none 0 0, .bool true]) ∧ Chg (BFt bb k ι) w w' := by
  obtain ⟨uA, un, uc, rfl⟩ := hu
  obtain ⟨W0, hW0⟩ : ∃ x, w.alloc (.cells #[.pointer (some ⟨mb, 0, none⟩), .int .i64 0, .int .i64 t] 118) = x := ⟨_, rfl⟩
  have hB0 : Below w.heap.size w W0 := by rw [← hW0]; exact (Below.refl _ _).alloc (Nat.le_refl _) _
  have hB1 := hB0.drew
  have hff := flowend_walk (mb := mb) (hB.bel hB1) (t := t) (u := .slice uA un uc) rfl
  have x2 : Blk W0.drew w.heap.size 118 #[.pointer (some ⟨mb, 0, none⟩), .int .i64 0, .int .i64 t] := by rw [← hW0]; exact Blk.made w _ _
  have y0 := x2.at' 0
  have y1 := x2.at' 1
  have y2 := x2.at' 2
  simp at y0 y1 y2
  have hq0 := (hB1.cell (p := ⟨q, 0, none⟩) hql).trans hq
  have hc0 := (hB1.cell (p := ⟨cb, 2, none⟩) hcl).trans hc
  have hna : ∀ W, (nilAhead 664 153 (.agg #[.pointer (some ⟨bb, 0, none⟩)]) "rexmill/filter.end").run Tryz.prog W = .ok (some false) W := fun W => Go.Ev.run_nilAhead meth_end (664 - 1)
  have hme : ∀ W, (method 664 153 (.agg #[.pointer (some ⟨bb, 0, none⟩)]) "rexmill/filter.end").run Tryz.prog W = .ok (348, .agg #[.pointer (some ⟨bb, 0, none⟩)]) W := fun W => Go.Ev.run_method meth_end (664 - 1)
  unfold shareV at hff ⊢
  unfold flowV
  have hlt := fun b (hb : BFt bb k ι b) => hB.lt hb
  have hS : ∀ w1, Chg (BFt bb k ι) W0.drew w1 → ((w1.cell? ⟨w.heap.size, 0, none⟩ = some (.pointer (some ⟨mb, 0, none⟩)) ∧ w1.cell? ⟨w.heap.size, 1, none⟩ = some (.int .i64 0)) ∧ w1.cell? ⟨w.heap.size, 2, none⟩ = some (.int .i64 t)) ∧ w1.cell? ⟨q, 0, none⟩ = some (.pointer (some ⟨cb, 0, none⟩)) ∧ w1.cell? ⟨cb, 2, none⟩ = some (.slice uA un uc) := fun w1 hC => by
    have hx := x2.chg hC (fun hf => by have := hlt _ hf; omega)
    have k0 := hx.at' 0
    have k1 := hx.at' 1
    have k2 := hx.at' 2
    simp at k0 k1 k2
    have hz : W0.drew.heap.size = w.heap.size + 1 := by rw [← hW0]; simp
    exact ⟨⟨⟨k0, k1⟩, k2⟩, (hC.cell (p := ⟨q, 0, none⟩) (by show q < W0.drew.heap.size; omega) hqn).trans hq0, (hC.cell (p := ⟨cb, 2, none⟩) (by show cb < W0.drew.heap.size; omega) hcn).trans hc0⟩
  have HS := Lib.hid hS
  have hS0 := hS _ (Chg.refl _ _)
  clear hB hq hc hS x2 y0 y1 y2 hq0 hc0 hlt
  go_enter Tryz.func40, Tryz.ntmps40
  go_wp2_with fail
  go_region_held3 (fun w' => ((w'.cell? ⟨w.heap.size, 0, none⟩ = some (.pointer (some ⟨mb, 0, none⟩)) ∧ w'.cell? ⟨w.heap.size, 1, none⟩ = some (.int .i64 0)) ∧ w'.cell? ⟨w.heap.size, 2, none⟩ = some (.int .i64 t)) ∧ w'.cell? ⟨q, 0, none⟩ = some (.pointer (some ⟨cb, 0, none⟩)) ∧ w'.cell? ⟨cb, 2, none⟩ = some (.slice uA un uc))
    (first | exact hS0 | exact HS.out _ hC1 | go_keep)
    (first
      | (go_simp; go_at_call 348; refine hff.mono ?_; clear hff; rintro _ w1 ⟨rfl, hC1⟩))
  go_wp2_with fail
  go_ret2
  exact ⟨rfl, (Chg.of_below hB1).trans hC1 fun _ _ h => h⟩
end
end Go.Proofs.YtahmcjdddcbhnaaGreatDoor
namespace Go.Proofs.YtahmcjdddcbhnaaGreatDoor
open Go Go.Ev Go.RowKit

set_option maxHeartbeats 8000000 in
set_option maxRecDepth 1000000 in
theorem ask_data {w : World} {cb vb mb bb q : Nat} {ver t : Int} {wv rv : Value} {A : Option Addr} {ac : Nat} {G : Nat → Prop} {X : World → World → Prop} (hc : Blk w cb 111 #[.int .i64 ver, .pointer (some ⟨vb, 0, none⟩), wv, .slice A 1 ac]) (ha : Sees w 1 (.slice A 1 ac) [flowV bb])
    (hv : Blk w vb 92 #[.pointer (some ⟨mb, 0, none⟩), rv]) (hX : ∀ w1 w2, X w1 w2 → Chg G w1 w2) (hG : ∀ b, G b → b < w.heap.size)
    (hdo : ∀ w1, Below w.heap.size w w1 → Calls Tryz.prog 39 #[flowV bb, shareV mb t, .pointer (some ⟨q, 0, none⟩)] w1 fun e w' => e = .returned (.tuple #[.slice none 0 0, .bool true]) ∧ X w1 w') :
    Calls Tryz.prog 38 #[.pointer (some ⟨cb, 0, none⟩), .int .i64 t, .func (.func 39) #[] #[.pointer (some ⟨q, 0, none⟩)]] w fun e w' => e = .returned (.slice none 0 0) ∧ ∃ w1 w2, Below w.heap.size w w1 ∧ X w1 w2 ∧ w' = w2 := by
  obtain ⟨W0, hW0⟩ : ∃ x, w.alloc (.cells #[.slice none 0 0] 36) = x := ⟨_, rfl⟩
  have hB0 : Below w.heap.size w W0 := by rw [← hW0]; exact (Below.refl _ _).alloc (Nat.le_refl _) _
  have xb : Blk W0 w.heap.size 36 #[.slice none 0 0] := by rw [← hW0]; exact Blk.made w _ _
  have c0 := (hc.bel hB0 hc.lt).at' 3
  have c1 := (hc.bel hB0 hc.lt).at' 1
  have v0 := (hv.bel hB0 hv.lt).at' 0
  simp at c0 c1 v0
  obtain ⟨A', n', cc', e1, e2, e3, e4⟩ := ha
  cases e1
  obtain ⟨ab, s, rfl, habl, hcell⟩ := e4 (by omega)
  have a0 := (hB0.cell (p := ⟨ab, s, none⟩) habl).trans (hcell 0 _ rfl)
  have hdo0 := hdo W0 hB0
  have heq : ∀ W, (binOp .eql 114 (flowV bb) .nilIface).run Tryz.prog W = .ok (.bool false) W := fun W => by unfold flowV; kernel_rfl
  have hres : ∀ w2, X W0 w2 → w2.cell? ⟨w.heap.size, 0, none⟩ = some (.slice none 0 0) := fun w2 h => by
    have := (xb.chg (hX _ _ h) (fun hf => by have := hG _ hf; omega)).at' 0
    simpa using this
  unfold shareV at hdo0
  unfold flowV at a0 heq hdo0
  clear hc hv hcell e2 e3 e4 hdo
  go_enter Tryz.func38, Tryz.ntmps38
  go_wp2_with fail
  refine wp_loop_rounds 2 ?_
  rw [rounds_succ]
  go_wp2_with (first
    | (go_at_call 39; refine hdo0.mono ?_; clear hdo0; rintro _ w2 ⟨rfl, hx⟩; have r0 := hres _ hx)
    | fail)
  refine wp_loop_rounds 1 ?_
  rw [rounds_succ]
  go_wp2_with fail
  rw [rounds_succ]
  go_wp2_with fail
  go_ret
  exact ⟨rfl, W0, w2, hB0, hx, rfl⟩
set_option maxHeartbeats 8000000 in
set_option maxRecDepth 1000000 in
theorem ask_end {w : World} {cb vb mb bb q : Nat} {ver t : Int} {wv rv : Value} {A : Option Addr} {ac : Nat} {G : Nat → Prop} {X : World → World → Prop} (hc : Blk w cb 111 #[.int .i64 ver, .pointer (some ⟨vb, 0, none⟩), wv, .slice A 1 ac]) (ha : Sees w 1 (.slice A 1 ac) [flowV bb])
    (hv : Blk w vb 92 #[.pointer (some ⟨mb, 0, none⟩), rv]) (hX : ∀ w1 w2, X w1 w2 → Chg G w1 w2) (hG : ∀ b, G b → b < w.heap.size)
    (hdo : ∀ w1, Below w.heap.size w w1 → Calls Tryz.prog 40 #[flowV bb, shareV mb t, .pointer (some ⟨q, 0, none⟩)] w1 fun e w' => e = .returned (.tuple #[.slice none 0 0, .bool true]) ∧ X w1 w') :
    Calls Tryz.prog 38 #[.pointer (some ⟨cb, 0, none⟩), .int .i64 t, .func (.func 40) #[] #[.pointer (some ⟨q, 0, none⟩)]] w fun e w' => e = .returned (.slice none 0 0) ∧ ∃ w1 w2, Below w.heap.size w w1 ∧ X w1 w2 ∧ w' = w2 := by
  obtain ⟨W0, hW0⟩ : ∃ x, w.alloc (.cells #[.slice none 0 0] 36) = x := ⟨_, rfl⟩
  have hB0 : Below w.heap.size w W0 := by rw [← hW0]; exact (Below.refl _ _).alloc (Nat.le_refl _) _
  have xb : Blk W0 w.heap.size 36 #[.slice none 0 0] := by rw [← hW0]; exact Blk.made w _ _
  have c0 := (hc.bel hB0 hc.lt).at' 3
  have c1 := (hc.bel hB0 hc.lt).at' 1
  have v0 := (hv.bel hB0 hv.lt).at' 0
  simp at c0 c1 v0
  obtain ⟨A', n', cc', e1, e2, e3, e4⟩ := ha
  cases e1
  obtain ⟨ab, s, rfl, habl, hcell⟩ := e4 (by omega)
  have a0 := (hB0.cell (p := ⟨ab, s, none⟩) habl).trans (hcell 0 _ rfl)
  have hdo0 := hdo W0 hB0
  have heq : ∀ W, (binOp .eql 114 (flowV bb) .nilIface).run Tryz.prog W = .ok (.bool false) W := fun W => by unfold flowV; kernel_rfl
  have hres : ∀ w2, X W0 w2 → w2.cell? ⟨w.heap.size, 0, none⟩ = some (.slice none 0 0) := fun w2 h => by
    have := (xb.chg (hX _ _ h) (fun hf => by have := hG _ hf; omega)).at' 0
    simpa using this
  unfold shareV at hdo0
  unfold flowV at a0 heq hdo0
  clear hc hv hcell e2 e3 e4 hdo
  go_enter Tryz.func38, Tryz.ntmps38
  go_wp2_with fail
  refine wp_loop_rounds 2 ?_
  rw [rounds_succ]
  go_wp2_with (first
    | (go_at_call 40; refine hdo0.mono ?_; clear hdo0; rintro _ w2 ⟨rfl, hx⟩; have r0 := hres _ hx)
    | fail)
  refine wp_loop_rounds 1 ?_
  rw [rounds_succ]
  go_wp2_with fail
  rw [rounds_succ]
  go_wp2_with fail
  go_ret
  exact ⟨rfl, W0, w2, hB0, hx, rfl⟩
end Go.Proofs.YtahmcjdddcbhnaaGreatDoor
namespace Go.Proofs.YtahmcjdddcbhnaaGreatDoor
open Go Go.Ev Go.RowKit Go.Imap

theorem map_not_blk {w : World} {mb db : Nat} {f : Nat → Option Value} {t : TypeId} {cs : Array Value} (h : IMap w mb f) (hb : Blk w db t cs) : db ≠ mb := by
  intro e
  subst e
  obtain ⟨ms, cl, h0, _⟩ := h
  have e2 := h0.symm.trans hb
  cases e2
theorem chg_setBlock' (w : World) (b : Nat) (o : Obj) : Chg (fun k => k = b) w (ChangeMaps.setBlock w b o) :=
  ⟨rfl, rfl, rfl, by simp [ChangeMaps.setBlock], fun k _ hk => by simp [ChangeMaps.setBlock, Array.getElem?_setIfInBounds, Ne.symm hk]⟩
section
variable {w : World} {g cm s cb vb mb bb sb k : Nat} {sh pe tk cu ver L : Int} {m1 rv wv : Value} {f : Nat → Option Value} {A B : Option Addr} {ac c : Nat} {ι : Emb}
set_option maxHeartbeats 8000000 in
set_option maxRecDepth 1000000 in
theorem qend_ok (h : Blk w g 80 #[.int .i64 sh, .int .i64 pe, .int .i64 tk, .int .i64 cu, m1, .map (some cm)]) (hm : IMap w cm f) {t : Int} (hs : s < 64) (hf : f s = some (.pointer (some ⟨cb, 0, none⟩))) (ht : lateE tk t = 0)
    (hc : Blk w cb 111 #[.int .i64 ver, .pointer (some ⟨vb, 0, none⟩), wv, .slice A 1 ac]) (hwv : ∃ a n c, wv = .slice a n c) (ha : Sees w 1 (.slice A 1 ac) [flowV bb]) (hv : Blk w vb 92 #[.pointer (some ⟨mb, 0, none⟩), rv])
    (hB : BytAt w bb sb k L ι B c) (hcb : ¬ BFt bb k ι cb) (hgb : ¬ BFt bb k ι g) (hmb : ¬ BFt bb k ι cm) (hAl : ∀ b, Value.leads (.slice A 1 ac) = some b → b ≠ g ∧ b ≠ cm) :
    Calls Tryz.prog 22 #[.pointer (some ⟨g, 0, none⟩), .int .i64 (s : Int), .int .i64 t] w fun e w' => e = .returned (.tuple #[.slice none 0 0, .int .i64 0]) ∧
      Blk w' g 80 #[.int .i64 sh, .int .i64 pe, .int .i64 t, .int .i64 cu, m1, .map (some cm)] ∧ IMap w' cm (fun u => if u = s then none else f u) ∧ Chg (fun b => b = g ∨ b = cm ∨ BFt bb k ι b) w w' := by
  have hla := qlate_walk h t
  rw [ht] at hla
  have c5 := h.at' 5
  have c2 := h.at' 2
  have f2 := h.thaw 2
  simp at c5 c2
  have hlk := hm.lookup2 Tryz.underlying78 Tryz.underlying3 (zeroConn w) (x := (s : Int)) (by omega)
  have hat : atI f (s : Int) = some (.pointer (some ⟨cb, 0, none⟩)) := by unfold atI; rw [if_neg (by omega), Int.toNat_natCast]; exact hf
  rw [hat] at hlk
  simp only [Option.getD_some, Option.isSome_some] at hlk
  obtain ⟨W0, hW0⟩ : ∃ x, w.alloc (.cells #[.pointer (some ⟨cb, 0, none⟩)] 108) = x := ⟨_, rfl⟩
  have hB0 : Below w.heap.size w W0 := by rw [← hW0]; exact (Below.refl _ _).alloc (Nat.le_refl _) _
  have qb : Blk W0 w.heap.size 108 #[.pointer (some ⟨cb, 0, none⟩)] := by rw [← hW0]; exact Blk.made w _ _
  obtain ⟨W1, hW1⟩ : ∃ x, W0.setCell ⟨g, 2, none⟩ (.int .i64 t) = x := ⟨_, rfl⟩
  have hg0 := h.bel hB0 h.lt
  have hgm := map_not_blk hm h
  have hC1 : Chg (fun b => b = g) w W1 := by rw [← hW1]; exact Chg.setCell (F := fun b => b = g) (Chg.of_below hB0) (p := ⟨g, 2, none⟩) (.inr rfl) _
  have hm1 : IMap W1 cm f := hm.same (hC1.block cm hm.lt fun e => hgm e.symm)
  have hg1 : Blk W1 g 80 #[.int .i64 sh, .int .i64 pe, .int .i64 t, .int .i64 cu, m1, .map (some cm)] := by
    rw [← hW1]
    have := hg0.put 2 (.int .i64 t)
    simpa using this
  have qb1 : Blk W1 w.heap.size 108 #[.pointer (some ⟨cb, 0, none⟩)] := by rw [← hW1]; exact qb.away (p := ⟨g, 2, none⟩) (fun e : w.heap.size = g => absurd h.lt (by omega)) _
  obtain ⟨o, hrun, hm2⟩ := hm1.delete Tryz.underlying78 Tryz.underlying3 hs 0
  obtain ⟨W2, hW2⟩ : ∃ x, ChangeMaps.setBlock W1 cm o = x := ⟨_, rfl⟩
  rw [hW2] at hrun hm2
  have hC2' : Chg (fun b => b = cm) W1 W2 := by rw [← hW2]; exact chg_setBlock' _ _ _
  have hC2 : Chg (fun b => b = g ∨ b = cm) w W2 := (hC1.more fun _ _ e => .inl e).trans hC2' fun _ _ e => .inr e
  have hg2 := hg1.chg hC2' fun e => map_not_blk hm1 hg1 e
  have qb2 := qb1.chg hC2' fun e => map_not_blk hm1 qb1 e
  have hcg : cb ≠ g := Blk.two hc h (by decide)
  have hvg : vb ≠ g := Blk.two hv h (by decide)
  have hc2 := hc.chg hC2 fun e => e.elim hcg (map_not_blk hm hc)
  have hv2 := hv.chg hC2 fun e => e.elim hvg (map_not_blk hm hv)
  have ha2 := ha.chg hC2 fun b hb e => e.elim (hAl b hb).1 (hAl b hb).2
  have hB2 := hB.chg hC2 fun b hb e => by
    rcases e with rfl | rfl
    · exact hgb hb
    · exact hmb hb
  have hqn : ¬ BFt bb k ι w.heap.size := fun e => Nat.lt_irrefl _ (hB.lt e)
  have q0 := qb2.at' 0
  simp at q0
  have hc22 := hc2.at' 2
  simp at hc22
  have hask := ask_end (q := w.heap.size) (t := t) (G := BFt bb k ι) (X := fun w1 w2 => Chg (BFt bb k ι) w1 w2) hc2 ha2 hv2 (fun _ _ h => h) (fun b hb => hB2.lt hb) fun w1 hb1 => by
    have hq1 := (hb1.cell (p := ⟨w.heap.size, 0, none⟩) qb2.lt).trans q0
    have hc1 := (hb1.cell (p := ⟨cb, 2, none⟩) hc2.lt).trans hc22
    exact end1_walk (hB2.bel hb1) hq1 (Nat.lt_of_lt_of_le qb2.lt hb1.size) hc1 (Nat.lt_of_lt_of_le hc2.lt hb1.size) hwv hqn hcb
  have d5 := hg1.at' 5
  have e2 := hg0.at' 2
  have e2f := hg0.thaw 2
  simp at d5 e2
  have HR := Lib.hid (And.intro hg2 (And.intro hm2 hC2))
  clear hg2 hm2 hC2 hm1 hg1 hm h hc hc2 hv hv2 ha ha2 hB hB2 hC1 hC2' hg0 qb qb1 hf hat ht hwv hc22 hB0
  go_enter Tryz.func22, Tryz.ntmps22
  go_wp2_with (first | (go_at_call 36; refine hla.mono ?_; clear hla; rintro _ w1 ⟨rfl, rfl⟩) | (go_at_call 38; refine hask.mono ?_; clear hask; rintro _ w3 ⟨rfl, w1', w2', hb1, hx, rfl⟩) | fail)
  go_ret2
  obtain ⟨r1, r2, r3⟩ := HR.out
  refine ⟨rfl, (r1.bel hb1 r1.lt).chg hx hgb, r2.same ((hx.block cm (Nat.lt_of_lt_of_le r2.lt hb1.size) hmb).trans (hb1.block cm r2.lt)), ?_⟩
  have k1 : Chg (fun b => b = g ∨ b = cm ∨ BFt bb k ι b) w1 W2 := r3.more fun _ _ e => e.elim .inl fun e => .inr (.inl e)
  exact (k1.then_below hb1 r3.size).trans hx fun _ _ e => .inr (.inr e)
end
end Go.Proofs.YtahmcjdddcbhnaaGreatDoor
namespace Go.Proofs.YtahmcjdddcbhnaaGreatDoor
open Go Go.Ev Go.RowKit Go.Imap

theorem infoByte : (Tryz.prog.info? 5).map (fun i => (i.zero, i.size, i.bytes)) = some (some (.int .u8 0), 1, 1) := by kernel_rfl
theorem row_not_map {w : World} {B size n mb : Nat} {e : TypeId} {v : Value} {xs : List Value} {f : Nat → Option Value} (h : w.ownsRow B e size v n xs) (hm : IMap w mb f) : ¬ v.ownBlock = some mb := fun he => by
  rcases h.2 with ⟨rfl, _⟩ | ⟨q, cap, cur, rfl, _, hb, _⟩
  · cases he
  cases he
  obtain ⟨ms, cl, h0, _⟩ := hm
  have := h0.symm.trans hb
  cases this
section
variable {w : World} {g cm cb vb mb ub bb sb k B0 L n s pc wc : Nat} {sh pe tk cu ver msh mpe mtk us SL : Int} {m1 rv : Value} {f : Nat → Option Value} {A B wA pA : Option Addr} {ac c : Nat} {ι : Emb}
set_option maxHeartbeats 8000000 in
set_option maxRecDepth 1000000 in
theorem qdata_ok (h : Blk w g 80 #[.int .i64 sh, .int .i64 pe, .int .i64 tk, .int .i64 cu, m1, .map (some cm)]) (hm : IMap w cm f) {t : Int} (hs : s < 64) (hf : f s = some (.pointer (some ⟨cb, 0, none⟩))) (ht : lateE tk t = 0)
    (hc : Blk w cb 111 #[.int .i64 ver, .pointer (some ⟨vb, 0, none⟩), .slice wA L wc, .slice A 1 ac]) (hw : w.ownsRow B0 5 1 (.slice wA L wc) L (bv (List.replicate L 0))) (hB0 : B0 ≤ w.heap.size)
    (hp : Sees w 1 (.slice pA n pc) (bv (List.replicate n 0))) (hsum : L + n ≤ 65536)
    (ha : Sees w 1 (.slice A 1 ac) [flowV bb]) (hv : Blk w vb 92 #[.pointer (some ⟨mb, 0, none⟩), rv]) (hM : MtAt w mb ub msh mpe mtk us) (hB : BytAt w bb sb k SL ι B c) (hd : ∀ b, BFt bb k ι b → ¬ MFt mb ub b) (htm : mtk ≤ t ∧ t ≤ 1099511627776)
    (hsuf : (n : Int) ≤ msh - usedAt mpe mtk us t) (hsl : SL + n ≤ 65536)
    (hF : ∀ b, MFt mb ub b ∨ BFt bb k ι b → ¬ (b = g ∨ b = cb ∨ (Value.slice wA L wc).ownBlock = some b)) (hFa : ∀ b, Value.leads (.slice A 1 ac) = some b → ¬ (b = g ∨ b = cb ∨ (Value.slice wA L wc).ownBlock = some b))
    (hFp : ∀ b, Value.leads (.slice pA n pc) = some b → ¬ (b = g ∨ b = cb ∨ (Value.slice wA L wc).ownBlock = some b) ∧ ¬ MFt mb ub b) :
    Calls Tryz.prog 21 #[.pointer (some ⟨g, 0, none⟩), .int .i64 (s : Int), .slice pA n pc, .int .i64 t] w fun e w' => e = .returned (.tuple #[.slice none 0 0, .int .i64 0]) ∧
      ∃ A4 c4 w5, Blk w5 g 80 #[.int .i64 sh, .int .i64 pe, .int .i64 t, .int .i64 cu, m1, .map (some cm)] ∧ IMap w5 cm f ∧ Blk w5 cb 111 #[.int .i64 ver, .pointer (some ⟨vb, 0, none⟩), .slice A4 (L + n) c4, .slice A 1 ac] ∧
        w5.ownsRow B0 5 1 (.slice A4 (L + n) c4) (L + n) (bv (List.replicate (L + n) 0)) ∧ ((Value.slice A4 (L + n) c4).ownBlock = (Value.slice wA L wc).ownBlock ∨ ∃ q, (Value.slice A4 (L + n) c4).ownBlock = some q ∧ w.heap.size ≤ q) ∧
        Chg (fun b => b = g ∨ b = cb ∨ (Value.slice wA L wc).ownBlock = some b) w w5 ∧ Fed w5 mb ub bb sb k msh mpe t (usedAt mpe mtk us t + n) (SL + n) ι w' := by
  obtain ⟨i0, hi0, hz0, hz1, hz2⟩ := info_parts' infoByte
  obtain ⟨W0, hW0⟩ : ∃ x, w.alloc (.cells #[.slice pA n pc] 23) = x := ⟨_, rfl⟩
  have hBb : Below w.heap.size w W0 := by rw [← hW0]; exact (Below.refl _ _).alloc (Nat.le_refl _) _
  have pb : Blk W0 w.heap.size 23 #[.slice pA n pc] := by rw [← hW0]; exact Blk.made w _ _
  have hla := qlate_walk (h.bel hBb h.lt) t
  rw [ht] at hla
  have c5 := (h.bel hBb h.lt).at' 5
  simp at c5
  have hlk := (hm.same (hBb.block _ hm.lt)).lookup2 Tryz.underlying78 Tryz.underlying3 (zeroConn W0) (x := (s : Int)) (by omega)
  have hat : atI f (s : Int) = some (.pointer (some ⟨cb, 0, none⟩)) := by unfold atI; rw [if_neg (by omega), Int.toNat_natCast]; exact hf
  rw [hat] at hlk
  simp only [Option.getD_some, Option.isSome_some] at hlk
  have hc0 := hc.bel hBb hc.lt
  have d2 := fun k => (hc0.bel (belowN W0 k) hc0.lt).at' 2
  have p0 := fun k => (pb.bel (belowN W0 k) pb.lt).at' 0
  have e2 := fun k => ((h.bel hBb h.lt).bel (belowN W0 k) (h.bel hBb h.lt).lt).at' 2
  have e2f := fun k => ((h.bel hBb h.lt).bel (belowN W0 k) (h.bel hBb h.lt).lt).thaw 2
  simp at d2 p0 e2
  have hwr : IntKind.i64.wrap (65536 - (L : Int)) = 65536 - (L : Int) := wrapS (by omega) (by omega)
  have hgt : ¬ (65536 : Int) - (L : Int) < (n : Int) := by omega
  have HO := Lib.hid (And.intro h (And.intro hm (And.intro hc (And.intro hw (And.intro hp (And.intro pb hBb))))))
  clear h hm hf hat ht hc hc0 pb hw hp
  go_enter Tryz.func21, Tryz.ntmps21
  go_wp2_with (first | (go_at_call 36; refine hla.mono ?_; clear hla; rintro _ w1 ⟨rfl, rfl⟩) | fail)
  go_quiet (fail)
  go_wp2_with fail
  obtain ⟨r1, r2, r3, r4, r5, r6, r7⟩ := HO.out
  obtain ⟨W2, hW2⟩ : ∃ x, (w1.drewN nq).setCell ⟨g, 2, none⟩ (.int .i64 t) = x := ⟨_, rfl⟩
  have hb1 : Below w.heap.size w (w1.drewN nq) := r7.trans ((belowN w1 nq).mono r7.size)
  have hC2 : Chg (fun b => b = g) w W2 := by rw [← hW2]; exact Chg.setCell (F := fun b => b = g) (Chg.of_below hb1) (p := ⟨g, 2, none⟩) (.inr rfl) _
  have hcg : cb ≠ g := Blk.two r3 r1 (by decide)
  have hc2 := r3.chg hC2 hcg
  have hw2 := row_chg r4 hC2 fun b hb e => row_blk r4 r1 (by decide) (by rw [← e]; exact hb)
  have hlg : ∀ b, Value.leads (.slice pA n pc) = some b → ¬ b = g := fun b hb e => (hFp b hb).1 (.inl e)
  have hp2 := r5.chg hC2 hlg
  have x2 := hc2.at' 2
  have x2f := hc2.thaw 2
  have pb2 : Blk W2 w.heap.size 23 #[.slice pA n pc] := by rw [← hW2]; exact (r6.bel (belowN w1 nq) r6.lt).away (p := ⟨g, 2, none⟩) (fun e : w.heap.size = g => absurd r1.lt (by omega)) _
  have p2 := pb2.at' 0
  have hne2 := row_blk hw2 hc2 (by decide)
  have hcl := hc2.lt
  have hbs : B0 ≤ W2.heap.size := Nat.le_trans hB0 hC2.size
  simp at x2 p2
  rw [hW2]
  clear d2 p0 e2 e2f hlk c5 HO
  have hone : ∀ u ∈ bv (List.replicate n 0), u.oneCell' = true := bv_one _
  have hm1 : (bv (List.replicate n 0)).length = n * 1 := by rw [bv_len, List.length_replicate, Nat.mul_one]
  go_region_law
    (refine step_append_sees (base := B0) (by rfl) _ _ _ (by rfl) i0 _ 1 Tryz.underlying23 hi0 hz0 hz1 hz2 rfl (by omega) (.slice wA L wc) L (bv (List.replicate L 0)) (by rfl) (by first | exact hw2 | exact hw2.drew) (.slice pA n pc) n (bv (List.replicate n 0)) (by rfl) (by first | exact hp2 | exact hp2.bel (Below.refl _ _).drew) hm1 hone (by unfold maxLen; omega) (by omega) hbs ?_; intro v4 w4 hown4 hgrow4 hat4; obtain ⟨A4, c4, rfl, _⟩ := row_form hown4; have hfz4 := (hgrow4.frozen_far ⟨cb, 2, none⟩ hcl (fun e => hne2 e.symm)).trans x2f; have hnz4 := hgrow4.cell_far ⟨cb, 2, none⟩ hcl (fun e => hne2 e.symm))
  all_goals
    have hG4 : Chg (fun b => (Value.slice wA L wc).ownBlock = some b) W2 w4 := ((Chg.refl _ W2).drew).grown hgrow4 fun k hk => .inr hk
    have hC4 : Chg (fun b => b = g ∨ b = cb ∨ (Value.slice wA L wc).ownBlock = some b) w w4 := (hC2.more fun _ _ e => .inl e).trans hG4 fun _ _ e => .inr (.inr e)
    obtain ⟨W5, hW5⟩ : ∃ x, w4.setCell ⟨cb, 2, none⟩ (.slice A4 (L + n) c4) = x := ⟨_, rfl⟩
    have hC5 : Chg (fun b => b = g ∨ b = cb ∨ (Value.slice wA L wc).ownBlock = some b) w W5 := by rw [← hW5]; exact hC4.setCell (p := ⟨cb, 2, none⟩) (.inr (.inr (.inl rfl))) _
    rw [hW5]
    have hcw : ¬ (Value.slice wA L wc).ownBlock = some cb := hne2
    have y5 : Blk W5 cb 111 #[.int .i64 ver, .pointer (some ⟨vb, 0, none⟩), .slice A4 (L + n) c4, .slice A 1 ac] := by
      rw [← hW5]
      have := (hc2.chg hG4 hcw).put 2 (.slice A4 (L + n) c4)
      simpa using this
    have hgw : ¬ (Value.slice wA L wc).ownBlock = some g := row_blk r4 r1 (by decide)
    have g2 : Blk W2 g 80 #[.int .i64 sh, .int .i64 pe, .int .i64 t, .int .i64 cu, m1, .map (some cm)] := by
      rw [← hW2]
      have := (r1.bel hb1 r1.lt).put 2 (.int .i64 t)
      simpa using this
    have g5 : Blk W5 g 80 #[.int .i64 sh, .int .i64 pe, .int .i64 t, .int .i64 cu, m1, .map (some cm)] := by
      rw [← hW5]
      exact (g2.chg hG4 hgw).away (p := ⟨cb, 2, none⟩) hcg.symm _
    have m5 : IMap W5 cm f := r2.same (hC5.block cm r2.lt fun e => by
      rcases e with e | e | e
      · exact map_not_blk r2 r1 e.symm
      · exact map_not_blk r2 r3 e.symm
      · exact row_not_map r4 r2 e)
    have w5r : W5.ownsRow B0 5 1 (.slice A4 (L + n) c4) (L + n) (bv (List.replicate (L + n) 0)) := by
      have e : bv (List.replicate (L + n) 0) = bv (List.replicate L 0) ++ bv (List.replicate n 0) := by rw [← bv_app, List.replicate_append_replicate]
      rw [e, ← hW5]
      exact row_set hown4 (p := ⟨cb, 2, none⟩) (row_blk hown4 (hc2.chg hG4 hcw) (by decide)) _
    have hat5 : (Value.slice A4 (L + n) c4).ownBlock = (Value.slice wA L wc).ownBlock ∨ ∃ q, (Value.slice A4 (L + n) c4).ownBlock = some q ∧ w.heap.size ≤ q := hat4.imp id fun ⟨q, h1, h2⟩ => ⟨q, h1, Nat.le_trans hC2.size h2⟩
    have pb5 : Blk W5 w.heap.size 23 #[.slice pA n pc] := by
      rw [← hW5]
      exact (pb2.chg hG4 fun e => Nat.lt_irrefl _ (World.ownsRow.lt r4 _ e).2).away (p := ⟨cb, 2, none⟩) (fun e : w.heap.size = cb => absurd r3.lt (by omega)) _
    have q5 := pb5.at' 0
    simp at q5
    have hM5 := hM.chg hC5 (hF mb (.inl (.inl rfl))) (hF ub (.inl (.inr rfl)))
    have hMl : ∀ b, MFt mb ub b → b < W5.heap.size := fun b hb => by
      rcases hb with rfl | rfl
      · exact hM5.blk.lt
      · exact hM5.used.lt
    have hB5 := hB.chg hC5 fun b hb => hF b (.inr hb)
    have ha5 := ha.chg hC5 hFa
    have hp5 := r5.chg hC5 fun b hb => (hFp b hb).1
    have hv5 := hv.chg hC5 fun e => by
      rcases e with e | e | e
      · exact Blk.two hv r1 (by decide) e
      · exact Blk.two hv r3 (by decide) e
      · exact row_blk r4 hv (by decide) e
    have hask := ask_data (q := w.heap.size) (t := t) (G := fun b => MFt mb ub b ∨ BFt bb k ι b) (X := fun w1 w2 => Fed w1 mb ub bb sb k msh mpe t (usedAt mpe mtk us t + n) (SL + n) ι w2) y5 ha5 hv5 (fun _ _ h => h.chg) (fun b hb => hb.elim (hMl b) hB5.lt) fun w1 hb1 =>
      data1_walk (n := n) (hM5.bel hb1) (hB5.bel hb1) hd htm (hp5.bel hb1) (fun b hb => (hFp b hb).2) hsl hsuf ((hb1.cell (p := ⟨w.heap.size, 0, none⟩) pb5.lt).trans q5) (Nat.lt_of_lt_of_le pb5.lt hb1.size)
    have HF := Lib.hid (And.intro g5 (And.intro m5 (And.intro y5 (And.intro w5r (And.intro hat5 hC5)))))
    clear g5 m5 y5 w5r hat5 hC5 hC4 hG4 hMl hM5 hB5 ha5 hp5 hv5 pb5 q5 hM hB ha hv r1 r2 r3 r4 r5 r6 r7 g2 hgw hcw hc2 hw2 hp2 x2 x2f pb2 p2 hne2 hfz4 hnz4 hgrow4 hown4 hat4 hC2 hb1 hd htm hsuf hsl hF hFa hFp
    go_wp2_with (first | (go_at_call 38; refine hask.mono ?_; clear hask; rintro _ w6 ⟨rfl, w7, w8, hb8, hx, rfl⟩) | fail)
    go_ret2
    obtain ⟨f1, f2, f3, f4, f5, f6⟩ := HF.out
    exact ⟨rfl, A4, c4, W5, f1, f2, f3, f4, f5, f6, hx.pre hb8⟩
end
end Go.Proofs.YtahmcjdddcbhnaaGreatDoor
namespace Go.Proofs.YtahmcjdddcbhnaaGreatDoor
open Go Go.RowKit Go.Imap

section
variable {w : World} {g cm : Nat} {sh pe tk cu : Int} {m1 : Value} {f : Nat → Option Value}
set_option maxHeartbeats 4000000 in
set_option maxRecDepth 1000000 in
theorem qopen_neg {n t : Int} (hn : n < 0) :
    Calls Tryz.prog 20 #[.pointer (some ⟨g, 0, none⟩), .int .i64 n, .int .i64 t] w fun e w' => e = .returned (.int .i64 1) ∧ w' = w := by
  go_enter Tryz.func20, Tryz.ntmps20
  go_wp2_with fail
  go_ret
  exact ⟨rfl, rfl⟩
set_option maxHeartbeats 4000000 in
set_option maxRecDepth 1000000 in
theorem qopen_late (h : Blk w g 80 #[.int .i64 sh, .int .i64 pe, .int .i64 tk, .int .i64 cu, m1, .map (some cm)]) {n t : Int} (hn : 0 ≤ n ∧ n < 64) (ht : lateE tk t ≠ 0) :
    Calls Tryz.prog 20 #[.pointer (some ⟨g, 0, none⟩), .int .i64 n, .int .i64 t] w fun e w' => e = .returned (.int .i64 (lateE tk t)) ∧ w' = w := by
  have hla := qlate_walk h t
  obtain ⟨le, hle⟩ : ∃ x, lateE tk t = x := ⟨_, rfl⟩
  rw [hle] at hla ht ⊢
  have hlb : (le == 0) = false := beq_eq_false_iff_ne.2 ht
  have hn1 : ¬ (1099511627776 : Int) < n := by omega
  obtain ⟨hn0, -⟩ := hn
  clear hle h ht
  go_enter Tryz.func20, Tryz.ntmps20
  go_wp2_with (first | (go_at_call 36; refine hla.mono ?_; clear hla; rintro _ w1 ⟨rfl, rfl⟩) | fail)
  go_ret
  exact ⟨rfl, rfl⟩
set_option maxHeartbeats 4000000 in
set_option maxRecDepth 1000000 in
theorem qopen_there (h : Blk w g 80 #[.int .i64 sh, .int .i64 pe, .int .i64 tk, .int .i64 cu, m1, .map (some cm)]) (hm : IMap w cm f) {n t : Int} (hn : 0 ≤ n ∧ n < 64) {cb : Nat} (hf : atI f n = some (.pointer (some ⟨cb, 0, none⟩))) (ht : lateE tk t = 0) :
    Calls Tryz.prog 20 #[.pointer (some ⟨g, 0, none⟩), .int .i64 n, .int .i64 t] w fun e w' => e = .returned (.int .i64 8) ∧ w' = w := by
  have hla := qlate_walk h t
  rw [ht] at hla
  have c5 := h.at' 5
  simp at c5
  have hlk := hm.lookup2 Tryz.underlying78 Tryz.underlying3 (zeroConn w) (x := n) (by omega)
  rw [hf] at hlk
  simp only [Option.getD_some, Option.isSome_some] at hlk
  have hn1 : ¬ (1099511627776 : Int) < n := by omega
  obtain ⟨hn0, -⟩ := hn
  clear h hm hf ht
  go_enter Tryz.func20, Tryz.ntmps20
  go_wp2_with (first | (go_at_call 36; refine hla.mono ?_; clear hla; rintro _ w1 ⟨rfl, rfl⟩) | fail)
  go_ret
  exact ⟨rfl, rfl⟩
set_option maxHeartbeats 4000000 in
set_option maxRecDepth 1000000 in
theorem qopen_none {vm : Nat} {fv : Nat → Option Value} (h : Blk w g 80 #[.int .i64 sh, .int .i64 pe, .int .i64 tk, .int .i64 (-1), .map (some vm), .map (some cm)]) (hm : IMap w cm f) (hv : IMap w vm fv) {n t : Int} (hn : 0 ≤ n ∧ n < 64) (hf : atI f n = none) (ht : lateE tk t = 0) :
    Calls Tryz.prog 20 #[.pointer (some ⟨g, 0, none⟩), .int .i64 n, .int .i64 t] w fun e w' => e = .returned (.int .i64 20) ∧ Below w.heap.size w w' := by
  have hla := qlate_walk h t
  rw [ht] at hla
  have c5 := h.at' 5
  have c3 := fun k => (h.bel (belowN w k) h.lt).at' 3
  have c4 := fun k => (h.bel (belowN w k) h.lt).at' 4
  simp at c5 c3 c4
  have hlk := hm.lookup2 Tryz.underlying78 Tryz.underlying3 (zeroConn w) (x := n) (by omega)
  rw [hf] at hlk
  simp only [Option.getD_none, Option.isSome_none] at hlk
  have hl2 : ∀ k, (Instr.lookup 77 (.map (some vm)) (.int .i64 (-1)) true).run Tryz.prog (w.drewN k) = .ok (.tuple #[.pointer none, .bool false]) (w.drewN k) := fun k =>
    (hv.same ((belowN w k).block _ hv.lt)).lookup2 Tryz.underlying77 Tryz.underlying3 (zeroVer _) (x := -1) (by omega)
  have hbe := belowN w
  have hn1 : ¬ (1099511627776 : Int) < n := by omega
  obtain ⟨hn0, -⟩ := hn
  clear h hm hf ht hv
  go_enter Tryz.func20, Tryz.ntmps20
  go_wp2_with (first | (go_at_call 36; refine hla.mono ?_; clear hla; rintro _ w1 ⟨rfl, rfl⟩) | fail)
  go_quiet (fail)
  go_wp2_with fail
  go_ret
  exact ⟨rfl, hbe _⟩
end
end Go.Proofs.YtahmcjdddcbhnaaGreatDoor
namespace Go.Proofs.YtahmcjdddcbhnaaGreatDoor
open Go Go.RowKit Go.Imap

section
variable {w : World} {g vm : Nat} {sh pe tk cu : Int} {m2 : Value} {f : Nat → Option Value}
set_option maxHeartbeats 4000000 in
set_option maxRecDepth 1000000 in
theorem qremove_no (h : Blk w g 80 #[.int .i64 sh, .int .i64 pe, .int .i64 tk, .int .i64 cu, .map (some vm), m2]) (hm : IMap w vm f) {n : Int} (hn : -1 ≤ n ∧ n < 64) (hf : atI f n = none) :
    Calls Tryz.prog 19 #[.pointer (some ⟨g, 0, none⟩), .int .i64 n] w fun e w' => e = .returned (.int .i64 7) ∧ w' = w := by
  have c4 := h.at' 4
  simp at c4
  have hlk := hm.lookup2 Tryz.underlying77 Tryz.underlying3 (zeroVer w) hn
  rw [hf] at hlk
  simp only [Option.getD_none, Option.isSome_none] at hlk
  clear h hm hf hn
  go_enter Tryz.func19, Tryz.ntmps19
  go_wp2_with fail
  go_ret
  exact ⟨rfl, rfl⟩
set_option maxHeartbeats 4000000 in
set_option maxRecDepth 1000000 in
theorem qremove_cur (h : Blk w g 80 #[.int .i64 sh, .int .i64 pe, .int .i64 tk, .int .i64 cu, .map (some vm), m2]) (hm : IMap w vm f) (hn : -1 ≤ cu ∧ cu < 64) {b : Nat} (hf : atI f cu = some (.pointer (some ⟨b, 0, none⟩))) :
    Calls Tryz.prog 19 #[.pointer (some ⟨g, 0, none⟩), .int .i64 cu] w fun e w' => e = .returned (.int .i64 15) ∧ w' = w := by
  have c4 := h.at' 4
  have c3 := h.at' 3
  simp at c4 c3
  have hlk := hm.lookup2 Tryz.underlying77 Tryz.underlying3 (zeroVer w) hn
  rw [hf] at hlk
  simp only [Option.getD_some, Option.isSome_some] at hlk
  clear h hm hf hn
  go_enter Tryz.func19, Tryz.ntmps19
  go_wp2_with fail
  go_ret
  exact ⟨rfl, rfl⟩
end
end Go.Proofs.YtahmcjdddcbhnaaGreatDoor
