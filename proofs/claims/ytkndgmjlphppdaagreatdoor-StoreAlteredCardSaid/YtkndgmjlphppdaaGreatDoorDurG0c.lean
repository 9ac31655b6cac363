/-
  journal's records, walked: the records of bytes, as they are yielded, and where they lie.
  journal.Scan, walked: the records of bytes, and the size of their frames.
  A disk, plain: its files, the steps that fail, a crash.
  A map keyed by small numbers, said as a function: what a look-up gives, what a store and a delete leave. (Of no program.)
  The disk, walked: where it lies; the steps that fail; reading.
  The disk, walked: put.
  The disk, walked: Read and Append.
  The disk, walked: Append.
  slices.Sort at ints: the library's contract, laid at this dump.
  slices.Sort at ints, as a contract on rows.
  The disk's files, walked: the keys of the map, whatever the order in which they come, sorted.
  The disk's harden, walked: every file's bytes become durable.
-/
import Derived.Test.YtkndgmjlphppdaaGreatDoorDurG0b
import Derived.Test.YtkndgmjlphppdaaGreatDoorDurG0a
import Derived.Maps.Own
import Derived.WalkKit
import Derived.Test.YtkndgmjlphppdaaGreatDoorProg
import Derived.KernelRfl
import Derived.Shelf.SortM.Plain
import Derived.Shelf.SortM.SortNone
import Derived.Ground.SlgmProg
import Derived.Maps.RangeRun
import Derived.Laws.MakeOwn
namespace Go.Proofs.YtkndgmjlphppdaaGreatDoor
open Go Go.RowKit Go.Shelf Go.Says
attribute [local go_sem] Oper.semAt_some

/-- a record's slice, and where its frame ends -/
structure RecV where
  A : Option Addr
  n : Nat
  c : Nat
  en : Nat
def RecV.val (x : RecV) : Value := .slice x.A x.n x.c
/-- what a round keeps: a box, and every block of bytes -/
structure KR (tb : Nat) (W W' : World) : Prop where
  size : W.heap.size ≤ W'.heap.size
  box : W'.heap[tb]? = W.heap[tb]?
  bytes : ∀ (g : Nat) (cs : Array Value) (fr : Nat × Nat), W.heap[g]? = some (.cells cs 5 fr) → W'.heap[g]? = W.heap[g]?
theorem KR.refl (tb : Nat) (W : World) : KR tb W W := ⟨Nat.le_refl _, rfl, fun _ _ _ _ => rfl⟩
theorem KR.trans {tb : Nat} {A B C : World} (h : KR tb A B) (k : KR tb B C) : KR tb A C :=
  ⟨Nat.le_trans h.size k.size, k.box.trans h.box, fun g cs fr hg => (k.bytes g cs fr ((h.bytes g cs fr hg).trans hg)).trans (h.bytes g cs fr hg)⟩
theorem KR.of_below {tb n : Nat} {A B : World} (h : Below n A B) (htb : tb < n) (hn : A.heap.size ≤ n) : KR tb A B :=
  ⟨h.size, h.block tb htb, fun g cs fr hg => h.block g (by have := (Array.getElem?_eq_some_iff.1 hg).1; omega)⟩
theorem kr_b {tb : Nat} {w : World} (ht : tb < w.heap.size) (W : World) (l : Nat) (o o' : Obj) (hl : w.heap.size ≤ l) (h : W.heap[l]? = some o) (hc : o.isCells = false) (_ : o.isWalk = false) : KR tb W (W.putObj l o') :=
  ⟨by simp [World.putObj], World.putObj_heap_other (by omega), fun g cs fr hg => World.putObj_heap_other (fun e => by subst e; rw [h] at hg; cases hg; cases hc)⟩
/-- a slice of bytes whose block is a block of bytes -/
def SeesB (w : World) (v : Value) (l : List UInt8) : Prop := ∃ A n c, v = .slice A n c ∧ l.length = n ∧ n ≤ c ∧ ((A = none ∧ n = 0) ∨ ∃ b s cs fr, A = some ⟨b, s, none⟩ ∧ w.heap[b]? = some (.cells cs 5 fr) ∧ ∀ i u, (bv l)[i]? = some u → w.cell? ⟨b, s + i, none⟩ = some u)
theorem SeesB.sees {w : World} {v : Value} {l : List UInt8} (h : SeesB w v l) : Sees w 1 v (bv l) := by
  obtain ⟨A, n, c, rfl, h1, h2, h3⟩ := h
  refine ⟨_, _, _, rfl, by rw [bv_len]; omega, h2, fun hn => ?_⟩
  rcases h3 with ⟨_, h0⟩ | ⟨b, s, cs, fr, rfl, hb, hc⟩
  · exact absurd h0 hn
  · exact ⟨b, s, rfl, (Array.getElem?_eq_some_iff.1 hb).1, hc⟩
theorem SeesB.row {w : World} {B n : Nat} {v : Value} {l : List UInt8} (h : w.ownsRow B 5 1 v n (bv l)) : SeesB w v l := by
  have hn : n = l.length := by have := h.1; rw [bv_len] at this; omega
  subst hn
  rcases h.2 with ⟨rfl, h0⟩ | ⟨g, cap, cur, rfl, h2, h3, h4, _⟩
  · exact ⟨_, _, _, rfl, h0, Nat.le_refl _, .inl ⟨rfl, rfl⟩⟩
  · refine ⟨_, _, _, rfl, rfl, h4, .inr ⟨g, 0, cur, _, rfl, h3, fun i u hi => ?_⟩⟩
    have := h.cells (g := g) rfl i u hi
    rw [add_flat] at this
    simpa using this
theorem SeesB.kr {tb : Nat} {w w' : World} {v : Value} {l : List UInt8} (h : SeesB w v l) (hk : KR tb w w') : SeesB w' v l := by
  obtain ⟨A, n, c, rfl, h1, h2, h3⟩ := h
  refine ⟨_, _, _, rfl, h1, h2, h3.imp id ?_⟩
  rintro ⟨b, s, cs, fr, rfl, hb, hc⟩
  have hk2 := hk.bytes b cs fr hb
  exact ⟨b, s, cs, fr, rfl, hk2.trans hb, fun i u hi => (World.cell?_of_block (w := w) hk2).trans (hc i u hi)⟩
theorem scan_step {H : List UInt8 → Nat} (f : Nat) (b : List UInt8) (k : Nat) : scan H (f + 1) b k = match fst H b k with | none => [] | some (r, s) => r :: scan H f (b.drop s) (k + 1) := by rw [scan]; rfl
/-- what the iterator tells at the end: the records and where their frames end -/
def Told (xs : List RecV) (rs : List (List UInt8)) (W : World) : Prop :=
  xs.length = rs.length ∧ ∀ i (h : i < rs.length), ∃ x, xs[i]? = some x ∧ SeesB W x.val rs[i] ∧ x.en = (framesFrom frameH 0 (rs.take (i + 1))).length
theorem Told.kr {tb : Nat} {xs : List RecV} {rs : List (List UInt8)} {w w' : World} (h : Told xs rs w) (hk : KR tb w w') : Told xs rs w' :=
  ⟨h.1, fun i hi => by obtain ⟨x, h1, h2, h3⟩ := h.2 i hi; exact ⟨x, h1, h2.kr hk, h3⟩⟩
theorem Told.more {xs : List RecV} {rs : List (List UInt8)} {w : World} (h : Told xs rs w) {x : RecV} {r : List UInt8} (hx : SeesB w x.val r) (he : x.en = (framesFrom frameH 0 (rs ++ [r])).length) : Told (xs ++ [x]) (rs ++ [r]) w := by
  refine ⟨by rw [List.length_append, List.length_append, h.1]; rfl, fun i hi => ?_⟩
  rw [List.length_append, List.length_singleton] at hi
  rcases Nat.lt_or_ge i rs.length with hl | hl
  · obtain ⟨y, h1, h2, h3⟩ := h.2 i hl
    refine ⟨y, by rw [List.getElem?_append_left (by rw [h.1]; exact hl)]; exact h1, by rw [List.getElem_append_left hl]; exact h2, by rw [List.take_append_of_le_length (by omega)]; exact h3⟩
  · have hi' : i = rs.length := by omega
    subst hi'
    refine ⟨x, by rw [← h.1]; simp, by simpa using hx, ?_⟩
    rw [List.take_of_length_le (by simp)]
    exact he
theorem below_grown {A B : World} (h : Below A.heap.size A B) : A.grownBy B none := ⟨h.os, h.tape, h.output, h.size, fun k hk _ => h.block k hk⟩
set_option maxRecDepth 1000000 in
set_option maxHeartbeats 4000000 in
theorem records1_in (n : Nat) (hn : 1 ≤ n) (l' tb : Nat) (v : Value) (x : List UInt8) (hlen : x.length ≤ 70000000) (J : List RecV → World → Prop) (rs : List (List UInt8)) (hrs : scan frameH (x.length + 1) x 0 = rs) (W : World)
    (hJ : AbidesFrom W.heap.size J) (htb : tb < W.heap.size)
    (hY : ∀ pre z W1, J pre W1 → pre.length < x.length + 1 → YieldAt Fence.wide (n - 1) Tryz.prog l' #[RecV.val z, .int .i64 (z.en : Int)] W1 fun e W' => e = .returned (.bool true) ∧ J (pre ++ [z]) W' ∧ KR tb W1 W')
    (hbox : Boxed W tb 47 v) (hv : SeesB W v x) (h0 : J [] W) :
    CallsIn Fence.wide n Tryz.prog 101 #[.func (.yield l') #[] #[], .pointer (some ⟨tb, 0, none⟩)] W fun e W' => (∃ v, e = .returned v) ∧ ∃ xs, Told xs rs W' ∧ J xs W' := by
  obtain ⟨A, m, c, rfl, hxm, hmc, hA⟩ := id hv
  subst hxm
  refine callsIn_of_wp Tryz.func101 rfl trivial ?_ rfl
  simp only [Tryz.ntmps101, List.size_toArray, List.length_cons, List.length_nil, Nat.reduceAdd, Nat.reduceSub, Array.replicate_succ, Array.replicate_zero, List.push_toArray, List.append_toArray, List.nil_append, List.cons_append]
  gi_wp2
  gi_loopw [3, 4] (fun ev kv wr => ∃ (en : Nat) (dn rest : List (List UInt8)) (pre : List RecV) (f : Nat), ev = .int .i64 en ∧ kv = .int .i64 (dn.length : Int) ∧ en = (framesFrom frameH 0 dn).length ∧ en ≤ x.length ∧ x.length - en < f ∧ dn.length ≤ en ∧ rs = dn ++ rest ∧ scan frameH f (x.drop en) dn.length = rest ∧ Told pre dn wr ∧ J pre wr ∧ KR tb W wr) (fun ev _ _ => x.length - (intOf ev).toNat)
  case atStart => exact ⟨0, [], rs, [], x.length + 1, rfl, rfl, rfl, Nat.zero_le _, by omega, Nat.le_refl _, rfl, by rw [List.drop_zero]; exact hrs, ⟨rfl, fun i hi => absurd hi (by simp)⟩, h0, KR.refl _ _⟩
  case round =>
    obtain ⟨en, dn, rest, pre, f, rfl, rfl, hen, hex, hf, hdl, hdr, hsc, hT, hJp, hK⟩ := hrel
    have hbx : Boxed wr tb 47 (.slice A x.length c) := hK.box.trans hbox
    have hbc := hbx.cell
    have hvr := hv.kr hK
    obtain ⟨f', rfl⟩ : ∃ f', f = f' + 1 := ⟨f - 1, by omega⟩
    rw [scan_step] at hsc
    have hfw0 := fun v (h : Sees wr 1 v (bv (x.drop en))) (hf : Flat v) => jfirst_walk (k := dn.length) h hf (by rw [List.length_drop]; omega) (by omega)
    rcases hA with ⟨rfl, hx0⟩ | ⟨b, so, cs, fr, rfl, hbb, hcell⟩
    · have hen0 : en = 0 := by omega
      have hfw := hfw0 (.slice none (x.length - en) (c - en)) (by
        rw [show x.drop en = [] from List.drop_of_length_le (by omega), show x.length - en = 0 by omega]
        exact ⟨_, _, _, rfl, rfl, Nat.zero_le _, fun h => absurd rfl h⟩) ⟨_, _, .inl rfl⟩
      have hP := Lib.hid (And.intro hen hdr)
      have hexz : (en : Int) ≤ x.length := by omega
      have hmcz : (x.length : Int) ≤ c := by omega
      clear hfw0 hen hdr hen0 hx0
      cases hfst : fst frameH (x.drop en) dn.length with
      | none =>
        rw [hfst] at hsc hfw
        have hrest : rest = [] := hsc.symm
        subst hrest
        have hdr := hP.out.2
        rw [List.append_nil] at hdr
        have hdr := Lib.hid hdr
        clear hY hsc hfst hP
        gi_wp2_with (first
          | (refine ⟨trivial, ?_⟩; gi_at_call 102; refine (callsIn_wide.2 hfw).mono ?_; rintro e w1 ⟨he, hb1⟩; (obtain rfl : e = _ := he))
          | gi_in)
        refine bodyPost_ret (results_none rfl _ _ _) rfl ?_
        rw [hdr.out]
        exact ⟨⟨_, rfl⟩, pre, hT.kr (tb := tb) (KR.of_below (n := wr.heap.size) hb1 (by have := hK.size; omega) (Nat.le_refl _)), hJ _ _ _ none hJp (below_grown hb1) (fun r e => by cases e)⟩
      | some o =>
        obtain ⟨r, s⟩ := o
        rw [hfst] at hsc hfw
        obtain ⟨h1, h2⟩ := fst_sound hfst
        have hsl : s ≤ x.length - en := by
          have := h1.length_le
          rw [List.length_drop] at this
          omega
        have hs1 : 1 ≤ s := by rw [h2]; exact frame_pos _ _ _
        have hrest : rest = r :: scan frameH f' (x.drop (en + s)) (dn.length + 1) := by rw [← hsc, ← List.drop_drop]
        have hen2 : en + s = (framesFrom frameH 0 (dn ++ [r])).length := by
          rw [framesFrom_app, List.length_append, ← hP.out.1, Nat.zero_add, h2]
          simp [framesFrom]
        have hTl := hT.1
        have hpl : pre.length < x.length + 1 := by omega
        have hX := Lib.hid (And.intro hrest hen2)
        clear hsc hfst hrest hen2 h1 h2
        gi_wp2_with (first
          | (refine ⟨trivial, ?_⟩; gi_at_call 102; refine (callsIn_wide.2 hfw).mono ?_; rintro e w1 ⟨⟨u, rfl, hrow⟩, hb1⟩; obtain ⟨A5, c5, rfl, _⟩ := row_form hrow; have hJ1 := hJ _ _ _ none hJp (below_grown hb1) (fun r e => by { cases e }); obtain ⟨fn, tmps, assign, body, hy, hR⟩ := hY pre ⟨A5, r.length, c5, en + s⟩ w1 hJ1 hpl; simp only [RecV.val, Int.natCast_add] at hy)
          | gi_in)
        refine hR.mono ?_
        rintro e W3 ⟨rfl, hJ3, hk3⟩
        gi_wp2
        have hk1 : KR tb wr w1 := KR.of_below (n := wr.heap.size) hb1 (by have := hK.size; omega) (Nat.le_refl _)
        have hd1 : (dn ++ [r]).length = dn.length + 1 := by simp
        go_roundw
        case rel =>
          refine ⟨en + s, dn ++ [r], scan frameH f' (x.drop (en + s)) (dn.length + 1), _, f', by go_num, by rw [hd1]; go_num, hX.out.2, by omega, by omega, by rw [hd1]; omega, ?_, by rw [hd1], ?_, hJ3, hK.trans (hk1.trans hk3)⟩
          · rw [hP.out.2, hX.out.1]; simp
          · exact (hT.kr (hk1.trans hk3)).more ((SeesB.row hrow).kr hk3) hX.out.2
        case measure => simp [intOf]; omega
    · by_cases hec : en < c
      · have hecz : (en : Int) < c := by omega
        have hexz : (en : Int) ≤ x.length := by omega
        have hmcz : (x.length : Int) ≤ c := by omega
        have hfw := hfw0 (.slice (some ⟨b, so + en, none⟩) (x.length - en) (c - en)) (by
          have := hvr.sees.slice b so rfl en x.length (c - en) (by omega) (by omega) (by omega)
          rw [List.take_of_length_le (by rw [List.length_drop]; omega)] at this
          exact this) ⟨_, _, .inr ⟨_, _, rfl⟩⟩
        have hP := Lib.hid (And.intro hen hdr)
        clear hfw0 hen hdr hcell hbb
        cases hfst : fst frameH (x.drop en) dn.length with
        | none =>
          rw [hfst] at hsc hfw
          have hrest : rest = [] := hsc.symm
          subst hrest
          have hdr := hP.out.2
          rw [List.append_nil] at hdr
          have hdr := Lib.hid hdr
          clear hY hsc hfst hP
          gi_wp2_with (first
            | (refine ⟨trivial, ?_⟩; gi_at_call 102; refine (callsIn_wide.2 hfw).mono ?_; rintro e w1 ⟨he, hb1⟩; (obtain rfl : e = _ := he))
            | gi_in)
          refine bodyPost_ret (results_none rfl _ _ _) rfl ?_
          rw [hdr.out]
          exact ⟨⟨_, rfl⟩, pre, hT.kr (tb := tb) (KR.of_below (n := wr.heap.size) hb1 (by have := hK.size; omega) (Nat.le_refl _)), hJ _ _ _ none hJp (below_grown hb1) (fun r e => by cases e)⟩
        | some o =>
          obtain ⟨r, s⟩ := o
          rw [hfst] at hsc hfw
          obtain ⟨h1, h2⟩ := fst_sound hfst
          have hsl : s ≤ x.length - en := by
            have := h1.length_le
            rw [List.length_drop] at this
            omega
          have hs1 : 1 ≤ s := by rw [h2]; exact frame_pos _ _ _
          have hrest : rest = r :: scan frameH f' (x.drop (en + s)) (dn.length + 1) := by rw [← hsc, ← List.drop_drop]
          have hen2 : en + s = (framesFrom frameH 0 (dn ++ [r])).length := by
            rw [framesFrom_app, List.length_append, ← hP.out.1, Nat.zero_add, h2]
            simp [framesFrom]
          have hTl := hT.1
          have hpl : pre.length < x.length + 1 := by omega
          have hX := Lib.hid (And.intro hrest hen2)
          clear hsc hfst hrest hen2 h1 h2
          gi_wp2_with (first
            | (refine ⟨trivial, ?_⟩; gi_at_call 102; refine (callsIn_wide.2 hfw).mono ?_; rintro e w1 ⟨⟨u, rfl, hrow⟩, hb1⟩; obtain ⟨A5, c5, rfl, _⟩ := row_form hrow; have hJ1 := hJ _ _ _ none hJp (below_grown hb1) (fun r e => by { cases e }); obtain ⟨fn, tmps, assign, body, hy, hR⟩ := hY pre ⟨A5, r.length, c5, en + s⟩ w1 hJ1 hpl; simp only [RecV.val, Int.natCast_add] at hy)
            | gi_in)
          refine hR.mono ?_
          rintro e W3 ⟨rfl, hJ3, hk3⟩
          gi_wp2
          have hk1 : KR tb wr w1 := KR.of_below (n := wr.heap.size) hb1 (by have := hK.size; omega) (Nat.le_refl _)
          have hd1 : (dn ++ [r]).length = dn.length + 1 := by simp
          go_roundw
          case rel =>
            refine ⟨en + s, dn ++ [r], scan frameH f' (x.drop (en + s)) (dn.length + 1), _, f', by go_num, by rw [hd1]; go_num, hX.out.2, by omega, by omega, by rw [hd1]; omega, ?_, by rw [hd1], ?_, hJ3, hK.trans (hk1.trans hk3)⟩
            · rw [hP.out.2, hX.out.1]; simp
            · exact (hT.kr (hk1.trans hk3)).more ((SeesB.row hrow).kr hk3) hX.out.2
          case measure => simp [intOf]; omega
      · have hecz : en = c := by omega
        subst hecz
        have hexz : (en : Int) ≤ x.length := by omega
        have hx0 : x.length - en = 0 := by omega
        have hdn : x.drop en = [] := List.drop_of_length_le (by omega)
        have hfst : fst frameH (x.drop en) dn.length = none := by rw [hdn]; exact fst_nil _ _
        have hfw := hfw0 (.slice (some ⟨b, so, none⟩) 0 0) (by
          rw [hdn]
          exact ⟨_, _, _, rfl, rfl, Nat.le_refl _, fun h => absurd rfl h⟩) ⟨_, _, .inr ⟨_, _, rfl⟩⟩
        rw [hfst] at hsc hfw
        have hrest : rest = [] := hsc.symm
        subst hrest
        rw [List.append_nil] at hdr
        have hdr := Lib.hid hdr
        clear hfw0 hen hcell hbb hx0 hsc hfst hdn hY
        gi_wp2_with (first
          | (refine ⟨trivial, ?_⟩; gi_at_call 102; refine (callsIn_wide.2 hfw).mono ?_; rintro e w1 ⟨he, hb1⟩; (obtain rfl : e = _ := he))
          | gi_in)
        refine bodyPost_ret (results_none rfl _ _ _) rfl ?_
        rw [hdr.out]
        exact ⟨⟨_, rfl⟩, pre, hT.kr (tb := tb) (KR.of_below (n := wr.heap.size) hb1 (by have := hK.size; omega) (Nat.le_refl _)), hJ _ _ _ none hJp (below_grown hb1) (fun r e => by cases e)⟩
end Go.Proofs.YtkndgmjlphppdaaGreatDoor
namespace Go.Proofs.YtkndgmjlphppdaaGreatDoor
open Go Go.RowKit Go.Shelf Go.Says
attribute [local go_sem] Oper.semAt_some

theorem infoBytes : (Tryz.prog.info? 47).map (fun i => (i.zero, i.size, i.bytes)) = some (some (.slice none 0 0), 1, 24) := by kernel_rfl
theorem boxed_app {W w1 : World} {n₀ B : Nat} {t e : TypeId} {size : Nat} {v v' : Value} {k m : Nat} {xs ys : List Value} {tmp : Obj}
    (hv : Boxed W B t v) (hrow : W.ownsRow n₀ e size v k xs) (hB : B < n₀) (hown' : w1.ownsRow n₀ e size v' m ys) (hgrow : (W.alloc tmp).grownBy w1 v.ownBlock) :
    Boxed w1 B t v ∧ Boxed (w1.setCell ⟨B, 0, none⟩ v') B t v' ∧ (w1.setCell ⟨B, 0, none⟩ v').ownsRow n₀ e size v' m ys ∧ KeepsOthers W (w1.setCell ⟨B, 0, none⟩ v') := by
  have hne : some B ≠ v.ownBlock := fun e => by have := (World.ownsRow.lt hrow B e.symm).1; omega
  have hv1 : Boxed w1 B t v := (hv.alloc _).kept hgrow hne
  refine ⟨hv1, ?_, row_set hown' (fun e => by have := (World.ownsRow.lt hown' B e).1; omega) v', ?_⟩
  · exact hv1.set v'
  · refine ((KeepsOthers.alloc W tmp).trans (KeepsOthers.of_grownBy hgrow fun j o ej hj => ?_)).trans (KeepsOthers.setCell _ _ _)
    rcases (hrow.alloc tmp).2 with ⟨rfl, _⟩ | ⟨g, cap, cur, rfl, _, hgb, _⟩
    · simp [Value.ownBlock] at ej
    · obtain rfl : g = j := by simpa [Value.ownBlock] using ej
      rw [hgb] at hj; cases hj; rfl
theorem KR.set {tb : Nat} {W : World} {p : Nat} {cs : Array Value} {t : TypeId} {fr : Nat × Nat} (hp : W.heap[p]? = some (.cells cs t fr)) (ht : 5 ≠ t) (hne : tb ≠ p) (v : Value) : KR tb W (W.setCell ⟨p, 0, none⟩ v) :=
  ⟨by simp [World.setCell], Below.heap_setCell _ _ _ _ hne, fun g cs' fr' hg => Below.heap_setCell _ _ _ _ (fun e => by
    have e' : g = p := e
    subst e'
    rw [hp] at hg
    cases hg
    exact ht rfl)⟩
theorem KR.grown {tb n₀ : Nat} {W w1 : World} {e : TypeId} {size k : Nat} {v : Value} {xs : List Value} {tmp : Obj} (hrow : W.ownsRow n₀ e size v k xs) (he : 5 ≠ e) (htb : tb < n₀) (htl : tb < W.heap.size) (hgrow : (W.alloc tmp).grownBy w1 v.ownBlock) : KR tb W w1 := by
  refine ⟨by have := hgrow.size; simp at this; omega, ?_, fun g cs fr hg => ?_⟩
  · exact (hgrow.block tb (by simp; omega) (fun e => by have := (World.ownsRow.lt hrow tb e.symm).1; omega)).trans (Below.heap_alloc _ _ _ htl)
  · have hlt := (Array.getElem?_eq_some_iff.1 hg).1
    refine (hgrow.block g (by simp; omega) (fun e' => ?_)).trans (Below.heap_alloc _ _ _ hlt)
    rcases hrow.2 with ⟨rfl, _⟩ | ⟨g', cap, cur, rfl, _, h3, _⟩
    · cases e'
    · cases e'
      rw [h3] at hg
      cases hg
      exact he rfl
theorem kr_put {tb B : Nat} (ht : tb < B) (W : World) (l : Nat) (o o' : Obj) (hl : B ≤ l) (h : W.heap[l]? = some o) (hc : o.isCells = false) : KR tb W (W.putObj l o') :=
  ⟨by simp [World.putObj], World.putObj_heap_other (by omega), fun g cs fr hg => World.putObj_heap_other (fun e => by subst e; rw [h] at hg; cases hg; cases hc)⟩
def lastEn (xs : List RecV) : Nat := match xs.getLast? with | some x => x.en | none => 0
theorem Told.last {xs : List RecV} {rs : List (List UInt8)} {w : World} (h : Told xs rs w) : lastEn xs = (framesFrom frameH 0 rs).length := by
  unfold lastEn
  rcases Nat.eq_zero_or_pos rs.length with h0 | h0
  · have hx : xs = [] := List.length_eq_zero_iff.1 (h.1.trans h0)
    have hr : rs = [] := List.length_eq_zero_iff.1 h0
    subst hx hr
    rfl
  · obtain ⟨x, h1, _, h3⟩ := h.2 (rs.length - 1) (by omega)
    rw [List.getLast?_eq_getElem?, h.1, h1]
    show x.en = _
    rw [h3, show rs.length - 1 + 1 = rs.length by omega, List.take_length]
set_option maxRecDepth 1000000 in
theorem records_walk (A : Option Addr) (n c : Nat) (w : World) : Calls Tryz.prog 74 #[.slice A n c] w fun e w' => e = .returned (.func (.func 101) #[] #[.pointer (some ⟨w.heap.size, 0, none⟩)]) ∧ w' = w.alloc (.cells #[.slice A n c] 47) := by
  go_enter Tryz.func74, Tryz.ntmps74
  go_wp2
  go_ret
  exact ⟨rfl, rfl⟩
theorem records_says (n : Nat) (hn : 1 ≤ n) (tb : Nat) (v : Value) (x : List UInt8) (hlen : x.length ≤ 70000000) (w : World) (hbox : Boxed w tb 47 v) (hv : SeesB w v x) :
    SeqSays Fence.wide n Tryz.prog 101 #[.pointer (some ⟨tb, 0, none⟩)] (fun z : RecV => #[z.val, .int .i64 (z.en : Int)]) (KR tb) (fun xs W => Told xs (scan frameH (x.length + 1) x 0) W) (x.length + 1) w := by
  intro l' J W hW hJ hY h0
  have hk : KR tb w W := KR.of_below hW hbox.lt (Nat.le_refl _)
  exact records1_in n hn l' tb v x hlen J _ rfl W hJ (by have := hbox.lt; have := hW.size; omega) hY (hk.box.trans hbox) (hv.kr hk) h0
set_option maxRecDepth 1000000 in
set_option maxHeartbeats 4000000 in
theorem scan_walk {w : World} {v : Value} {x : List UInt8} (hlen : x.length ≤ 70000000) (hv : SeesB w v x) :
    Calls Tryz.prog 53 #[v] w fun e w' => ∃ (u : Value) (xs : List RecV), e = .returned (.tuple #[u, .int .i64 ((framesFrom frameH 0 (scan frameH (x.length + 1) x 0)).length : Int)]) ∧ w'.ownsRow w.heap.size 47 1 u xs.length (xs.map RecV.val) ∧ Told xs (scan frameH (x.length + 1) x 0) w' ∧ Below w.heap.size w w' := by
  obtain ⟨i0, hi0, hz0, hz1, hz2⟩ := info_parts' infoBytes
  obtain ⟨rs, hrs⟩ : ∃ rs, scan frameH (x.length + 1) x 0 = rs := ⟨_, rfl⟩
  obtain ⟨A, m, c, rfl, hxm, hmc, hA⟩ := id hv
  subst hxm
  obtain ⟨S, hS⟩ : ∃ S, w.heap.size = S := ⟨_, rfl⟩
  refine (callsIn_wide (n := 4)).1 ?_
  refine callsIn_of_wp_marks Tryz.func53 rfl trivial ?_ rfl
  simp only [Tryz.ntmps53, List.size_toArray, List.length_cons, List.length_nil, Nat.reduceAdd, Nat.reduceSub, Array.replicate_succ, Array.replicate_zero, List.push_toArray, List.append_toArray, List.nil_append, List.cons_append]
  gi_wp2_with (first
    | (refine ⟨trivial, ?_⟩; gi_at_call 74; refine (callsIn_wide.2 (records_walk _ _ _ _)).mono ?_; rintro e w' ⟨rfl, rfl⟩)
    | gi_in)
  have b1 := Boxed.new w 64 (.slice none 0 0)
  have b2 := Boxed.new (w.alloc (.cells #[.slice none 0 0] 64)) 3 (.int .i64 0)
  have b3 := Boxed.new ((w.alloc (.cells #[.slice none 0 0] 64)).alloc (.cells #[.int .i64 0] 3)) 47 (.slice A x.length c)
  rw [World.size_alloc] at b2
  rw [World.size_alloc, World.size_alloc] at b3
  rw [hS] at b1 b2 b3
  have b1' := (b1.alloc (.cells #[.int .i64 0] 3)).alloc (.cells #[.slice A x.length c] 47)
  have b2' := b2.alloc (.cells #[.slice A x.length c] 47)
  have hB0 : Below S w (((w.alloc (.cells #[.slice none 0 0] 64)).alloc (.cells #[.int .i64 0] 3)).alloc (.cells #[.slice A x.length c] 47)) :=
    (((Below.refl S w).alloc (by omega) _).alloc (by simp; omega) _).alloc (by simp; omega) _
  have hz0' : (((w.alloc (.cells #[.slice none 0 0] 64)).alloc (.cells #[.int .i64 0] 3)).alloc (.cells #[.slice A x.length c] 47)).heap.size = S + 3 := by rw [World.size_alloc, World.size_alloc, World.size_alloc, hS]
  have hv0 : SeesB (((w.alloc (.cells #[.slice none 0 0] 64)).alloc (.cells #[.int .i64 0] 3)).alloc (.cells #[.slice A x.length c] 47)) (.slice A x.length c) x := by
    obtain ⟨A', n', c', e1, e2, e3, e4⟩ := hv
    refine ⟨A', n', c', e1, e2, e3, e4.imp id ?_⟩
    rintro ⟨b, s, cs, fr, rfl, hb, hc⟩
    have hbl := (Array.getElem?_eq_some_iff.1 hb).1
    exact ⟨b, s, cs, fr, rfl, (hB0.block b (by omega)).trans hb, fun i u hi => (hB0.cell (p := ⟨b, s + i, none⟩) (by show b < S; omega)).trans (hc i u hi)⟩
  obtain ⟨W0, hW0⟩ : ∃ W0, ((w.alloc (.cells #[.slice none 0 0] 64)).alloc (.cells #[.int .i64 0] 3)).alloc (.cells #[.slice A x.length c] 47) = W0 := ⟨_, rfl⟩
  rw [hW0] at b1' b2' b3 hB0 hz0' hv0 ⊢
  clear b1 b2 hW0 hA hv
  refine wpIn_rangeFunc_says rfl (by omega) (gf := 101) (lb := #[.pointer (some ⟨S + 1 + 1, 0, none⟩)]) rfl trivial (enters_of Tryz.func101 (by kernel_rfl) rfl)
    (records_says 3 (by omega) (S + 1 + 1) (.slice A x.length c) x hlen W0 b3 hv0) (fun h k => h.trans k) (fun W l o o' h1 h2 h3 _ => kr_put (B := W0.heap.size) (by omega) W l o o' h1 h2 h3)
    (fun xs W l o o' h1 h2 h3 hs => Told.kr (tb := S + 1 + 1) hs (kr_put (B := W0.heap.size) (by omega) W l o o' h1 h2 h3)) (fun _ => rfl)
    (fun pre W => ((∃ v, Boxed W S 64 v ∧ W.ownsRow (S + 3) 47 1 v pre.length (pre.map RecV.val) ∧ True) ∧ Boxed W (S + 1) 3 (.int .i64 (lastEn pre : Int))) ∧ (Below S w W ∧ S + 3 ≤ W.heap.size))
    (OwnFrom.and (Own.from (fun s X Y row hs hg hr => ⟨holdsRow_own (S + 3) S 64 47 1 (fun pre : List RecV => pre.length) (fun pre => pre.map RecV.val) (fun _ _ => True) s X Y row hs.1 hg hr, boxed_own (S + 1) 3 (fun pre => .int .i64 (lastEn pre : Int)) s X Y row hs.2 hg hr⟩) _) (OwnFrom.and (ownFrom_below (by omega) (by omega)) (fun _ X Y row hs hg _ => Nat.le_trans hs hg.size)))
    ⟨⟨⟨_, b1', World.ownsRow_nil _ _ _ _, trivial⟩, b2'⟩, hB0, by omega⟩
    (fun z => { tmps := #[.slice A x.length c, undef, .slice none 0 0, .int .i64 0, .pointer (some ⟨S, 0, none⟩), .pointer (some ⟨S + 1, 0, none⟩), z.val, .int .i64 (z.en : Int), .slice A x.length c, .func (.func 101) #[] #[.pointer (some ⟨S + 1 + 1, 0, none⟩)], z.val, .int .i64 (z.en : Int), undef, undef, undef, undef, undef, undef, undef], defers := [] }) ?assign ?body ?done
  case assign =>
    intro l z W K hK
    gi_wp2
    exact hK
  case body =>
    rintro l pre ⟨zA, zn, zc, ze⟩ W ⟨⟨⟨v, hv, hrow, _⟩, hn⟩, hB, hz3⟩ hlt
    simp only [RecV.val]
    have hc := hv.cell
    have hl1 := hv.lt
    have hl2 := hn.lt
    gi_wp2_with (gi_at_builtin; refine wpListIn_append_own _ rfl _ _ 64 rfl (S + 3) 47 i0 (.slice none 0 0) 1 24 Tryz.underlying64 hi0 hz0 hz1 hz2 rfl (by decide) _ _ _ rfl (hrow.alloc _) ⟨W.heap.size, 0, none⟩ 1 1 [.slice zA zn zc] rfl rfl (cell_one_new _ _ _) (by simp [Value.oneCell', RecV.val]) (by unfold maxLen; omega) (by omega) (by have := hB.size; simp; omega) ?_; intro v' w1 hown' hgrow _; obtain ⟨g', cap', rfl⟩ := ownsRow_succ hown'; obtain ⟨hv1, hv2, hr2, hk2⟩ := boxed_app hv hrow (by omega) hown' hgrow; have hc1 := hv1.cell; have hf1 := hv1.frozen; have hn1 : Boxed w1 (S + 1) 3 (.int .i64 (lastEn pre : Int)) := (hn.alloc _).kept hgrow (fun e => by { have := (World.ownsRow.lt hrow (S + 1) e.symm).1; omega }); have hn2 := hn1.other (B' := S) (by omega) (.slice (some ⟨g', 0, none⟩) (pre.length + 1) cap'); have hc3 := hn2.cell; have hf3 := hn2.frozen)
    have hk1 : KR (S + 1 + 1) W w1 := KR.grown hrow (by decide) (by omega) (by omega) hgrow
    have hk3 := (hk1.trans (KR.set (tb := S + 1 + 1) hv1 (by decide) (by omega) (.slice (some ⟨g', 0, none⟩) (pre.length + 1) cap'))).trans (KR.set (tb := S + 1 + 1) hn2 (by decide) (by omega) (.int .i64 (ze : Int)))
    have hBf : Below S w w1 := ((hB.alloc (by have := hB.size; omega) _).grown hgrow (by simp; omega) (fun k e => by have := (World.ownsRow.lt hrow k e).1; omega))
    have hle : lastEn (pre ++ [⟨zA, zn, zc, ze⟩]) = ze := by unfold lastEn; rw [List.getLast?_concat]
    refine ⟨hk2.trans (KeepsOthers.setCell _ _ _), hk3, ⟨⟨_, hv2.other (by omega) _, ?_, trivial⟩, by rw [hle]; exact hn2.set _⟩, (hBf.setCell (p := ⟨S, 0, none⟩) (Nat.le_refl _) _).setCell (p := ⟨S + 1, 0, none⟩) (by show S ≤ S + 1; omega) _, by have := hk3.size; omega⟩
    have := row_set hr2 (p := ⟨S + 1, 0, none⟩) (fun e => by have := (World.ownsRow.lt hr2 (S + 1) e).1; omega) (.int .i64 (ze : Int))
    simpa [RecV.val] using this
  case done =>
    rintro D ys W hD hT ⟨⟨⟨v, hv, hrow, _⟩, hn⟩, hB, hz3⟩ hK
    have hc := hv.cell
    have hc2 := hn.cell
    have hlast := hT.last
    rw [hrs] at hT hlast
    have hKd : W.drew.heap[D]? = some (.deferred (some [])) := hK
    gi_wp2
    gi_region
    all_goals gi_wp2
    all_goals
      refine ⟨by simp, .inl ⟨_, _, rfl, run_takeDeferred hKd, ?_⟩⟩
      refine ⟨_, results_tmp2 rfl _ _ _, v, ys, by rw [hrs, ← hlast]; rfl, ?_, ?_, ?_⟩
      · exact row_base (ownsRow_putObj (World.ownsRow.drew hrow) _ hKd rfl) (by omega)
      · rw [hrs]; exact Told.kr (w := W.drew) (tb := S + 1 + 1) hT (kr_put (tb := S + 1 + 1) (B := W0.heap.size) (by omega) W.drew D _ _ (by omega) hKd rfl)
      · rw [hS]; exact hB.drew.trans (belowK_b (w := w) (by omega) W.drew D _ _ (by omega) hKd rfl rfl)
end Go.Proofs.YtkndgmjlphppdaaGreatDoor
namespace Go.Proofs.YtkndgmjlphppdaaGreatDoor

/-- a file: its bytes, and how many of them are durable -/
structure Fi where
  bytes : List UInt8
  dur : Nat
/-- a disk: its files are not empty -/
structure Dk where
  room : Nat
  used : Int
  fs : Nat → Option Fi
  off : Bool
  armed : Bool
  left : Nat
def Dk.fi (d : Dk) (k : Nat) : Fi := (d.fs k).getD ⟨[], 0⟩
def Dk.len (d : Dk) (k : Nat) : Nat := (d.fi k).bytes.length
/-- a file is stored; an empty one is deleted -/
def Dk.put (d : Dk) (k : Nat) (f : Fi) : Dk :=
  { d with used := d.used + (f.bytes.length - d.len k), fs := fun u => if u = k then (if f.bytes.length = 0 then none else some f) else d.fs u }
/-- does the power go off? what is left behind the step -/
def Dk.fails (d : Dk) : Bool := d.armed && d.left == 0
def Dk.step (d : Dk) : Dk := if d.armed then (if 0 < d.left then { d with left := d.left - 1 } else { d with armed := false, off := true }) else d
def Dk.harden (d : Dk) : Dk := { d with fs := fun u => (d.fs u).map fun f => { f with dur := f.bytes.length } }
structure Dk.WF (d : Dk) : Prop where
  key : ∀ k f, d.fs k = some f → k < 64
  dur : ∀ k f, d.fs k = some f → f.dur ≤ f.bytes.length ∧ f.bytes ≠ [] ∧ f.bytes.length ≤ 16777216
  room : d.room ≤ 16777216
  used : 0 ≤ d.used ∧ d.used ≤ d.room
  left : d.left ≤ 1000
theorem Dk.WF.step {d : Dk} (h : d.WF) : d.step.WF := by
  unfold Dk.step
  split
  · split
    · exact ⟨h.key, h.dur, h.room, h.used, by have := h.left; show d.left - 1 ≤ 1000; omega⟩
    · exact ⟨h.key, h.dur, h.room, h.used, h.left⟩
  · exact h
theorem Dk.step_fs (d : Dk) : d.step.fs = d.fs := by unfold Dk.step; split <;> (try split) <;> rfl
theorem Dk.WF.harden {d : Dk} (h : d.WF) : d.harden.WF := by
  refine ⟨fun k f hf => ?_, fun k f hf => ?_, h.room, h.used, h.left⟩
  · have hf' : (d.fs k).map (fun f => { f with dur := f.bytes.length }) = some f := hf
    cases hk : d.fs k with
    | none => rw [hk] at hf'; cases hf'
    | some g => exact h.key k g hk
  · have hf' : (d.fs k).map (fun f => { f with dur := f.bytes.length }) = some f := hf
    cases hk : d.fs k with
    | none => rw [hk] at hf'; cases hf'
    | some g =>
      rw [hk] at hf'
      cases hf'
      exact ⟨Nat.le_refl _, (h.dur k g hk).2⟩
end Go.Proofs.YtkndgmjlphppdaaGreatDoor
namespace Go.Imap
open Go Go.Maps Go.RowKit Go.WideMaps

/-- numbers below a bound that all differ are no more than it -/
theorem few_below : ∀ (K : Nat) (l : List Nat), l.Nodup → (∀ a ∈ l, a < K) → l.length ≤ K
  | 0, l, _, h => by
    cases l with
    | nil => simp
    | cons a t => exact absurd (h a (List.mem_cons_self ..)) (by omega)
  | K + 1, l, hn, h => by
    by_cases hk : K ∈ l
    · have h1 := few_below K (l.erase K) (hn.erase K) fun a ha => by
        have h2 := (List.Nodup.mem_erase_iff hn).1 ha
        have := h a h2.2
        have := h2.1
        omega
      rw [List.length_erase_of_mem hk] at h1
      omega
    · have h1 := few_below K l hn fun a ha => by
        have := h a ha
        have : a ≠ K := fun e => hk (e ▸ ha)
        omega
      omega
/-- block B is a map keyed by numbers below 64, that holds what f says -/
def IMap (w : World) (B : Nat) (f : Nat → Option Value) : Prop :=
  ∃ ms cl, w.heap[B]? = some (.map ms cl) ∧ (∀ x ∈ ms.toList, x.born < cl) ∧ (ms.toList.map (·.born)).Nodup ∧ (ms.toList.map (·.key)).Nodup ∧
    (∀ x ∈ ms.toList, ∃ s : Nat, s < 64 ∧ x.key = .int .i64 (s : Int) ∧ f s = some x.val) ∧ ∀ s v, f s = some v → ∃ x ∈ ms.toList, x.key = .int .i64 (s : Int)
theorem IMap.same {w w' : World} {B : Nat} {f : Nat → Option Value} (h : IMap w B f) (hb : w'.heap[B]? = w.heap[B]?) : IMap w' B f := by
  obtain ⟨ms, cl, h0, h1⟩ := h
  exact ⟨ms, cl, hb.trans h0, h1⟩
theorem IMap.lt {w : World} {B : Nat} {f : Nat → Option Value} (h : IMap w B f) : B < w.heap.size := by
  obtain ⟨ms, cl, h0, _⟩ := h
  exact (Array.getElem?_eq_some_iff.1 h0).1
theorem IMap.alloc {w : World} {B : Nat} {f : Nat → Option Value} (h : IMap w B f) (o : Obj) : IMap (w.alloc o) B f := h.same (Below.heap_alloc _ _ _ h.lt)
theorem iMap_made (w : World) : IMap (w.alloc (.map #[] 0)) w.heap.size fun _ => none :=
  ⟨#[], 0, heap_alloc_new _ _, by simp, by simp, by simp, by simp, by simp⟩
theorem wf64 {s : Nat} (h : s < 64) : (Lit.int .i64 (s : Int)).wf = true := by
  have key : ∀ x : Fin 64, (Lit.int .i64 ((x.val : Nat) : Int)).wf = true := by decide
  exact key ⟨s, h⟩
section
variable {P : Program} {t k e : TypeId} {w : World} {B : Nat} {f : Nat → Option Value}
theorem IMap.keys (hk : P.underlying k = some (.int .i64)) {ms : Array MapEntry} (h : ∀ x ∈ ms.toList, ∃ s : Nat, s < 64 ∧ x.key = .int .i64 (s : Int) ∧ f s = some x.val) : ∀ x ∈ ms.toList, ∃ l, keyOf P k x.key = some l := fun x hx => by
  obtain ⟨s, hs, hkey, _⟩ := h x hx
  exact ⟨_, by rw [hkey]; exact keyOf_int_mk hk (wf64 hs)⟩
theorem IMap.size {ms : Array MapEntry} (hnd : (ms.toList.map (·.key)).Nodup) (h1 : ∀ x ∈ ms.toList, ∃ s : Nat, s < 64 ∧ x.key = .int .i64 (s : Int) ∧ f s = some x.val) : ms.size ≤ 64 := by
  let g : Value → Nat := fun v => match v with | .int _ a => a.toNat | _ => 0
  have hl : (ms.toList.map fun x => g x.key).length ≤ 64 := by
    refine few_below 64 _ ?_ ?_
    · have e : (ms.toList.map fun x => g x.key) = (ms.toList.map (·.key)).map g := by rw [List.map_map]; rfl
      rw [e]
      refine List.Pairwise.map (R := fun a b => a ≠ b ∧ a ∈ ms.toList.map (·.key) ∧ b ∈ ms.toList.map (·.key)) g ?_ ?_
      · rintro a b ⟨hne, ha, hb⟩ he
        obtain ⟨x, hx, rfl⟩ := List.mem_map.1 ha
        obtain ⟨y, hy, rfl⟩ := List.mem_map.1 hb
        obtain ⟨s, hs, kx, _⟩ := h1 x hx
        obtain ⟨s', hs', ky, _⟩ := h1 y hy
        apply hne
        show x.key = y.key
        rw [kx, ky] at he ⊢
        simp [g] at he
        rw [he]
      · exact List.Pairwise.imp_of_mem (fun ha hb h => ⟨h, ha, hb⟩) hnd
    · intro a ha
      obtain ⟨x, hx, rfl⟩ := List.mem_map.1 ha
      obtain ⟨s, hs, kx, _⟩ := h1 x hx
      simp [kx, g]
      exact hs
  simpa using hl
theorem IMap.lookup (h : IMap w B f) (ht : P.underlying t = some (.map k e)) (hk : P.underlying k = some (.int .i64)) {z : Value} (hz : (zeroValue e).run P w = .ok z w) {s : Nat} (hs : s < 64) :
    (Instr.lookup t (.map (some B)) (.int .i64 (s : Int)) false).run P w = .ok ((f s).getD z) w := by
  obtain ⟨ms, cl, hb, _, _, hnd, h1, h2⟩ := h
  have K := int_keyed hk
  have hkey := keyOf_int_mk hk (wf64 hs)
  rcases K.find w hkey ms.toList (IMap.keys hk h1) with ⟨hf, hn⟩ | ⟨j, e0, hf, hj, he⟩
  · have : f s = none := by
      cases hfs : f s with
      | none => rfl
      | some v => obtain ⟨x, hx, hxk⟩ := h2 s v hfs; exact absurd hxk (hn x hx)
    rw [this]
    simp [Instr.lookup, run_underlying ht, MapKept.run_getObj_map hb, K.check w _ hkey, hf, hz, Result.andThen]
  · obtain ⟨s', _, hk', hv⟩ := h1 e0 (List.mem_of_getElem? hj)
    rw [he] at hk'
    have e1 : s = s' := by cases hk'; omega
    subst e1
    rw [hv]
    simp [Instr.lookup, run_underlying ht, MapKept.run_getObj_map hb, K.check w _ hkey, hf, Result.andThen]
theorem IMap.update (h : IMap w B f) (ht : P.underlying t = some (.map k e)) (hk : P.underlying k = some (.int .i64)) {s : Nat} (hs : s < 64) (v : Value) :
    ∃ o, (Instr.mapUpdate t (.map (some B)) (.int .i64 (s : Int)) v).run P w = .ok () (ChangeMaps.setBlock w B o) ∧ IMap (ChangeMaps.setBlock w B o) B fun u => if u = s then some v else f u := by
  obtain ⟨ms, cl, hb, hb1, hb2, hnd, h1, h2⟩ := h
  have K := int_keyed hk
  have hkey := keyOf_int_mk hk (wf64 hs)
  have hlt : B < w.heap.size := (Array.getElem?_eq_some_iff.1 hb).1
  have hnew : ∀ o, (ChangeMaps.setBlock w B o).heap[B]? = some o := fun o => by simp [ChangeMaps.setBlock, hlt]
  have hsz := IMap.size hnd h1
  have hml : ms.size < maxLen := by unfold maxLen; omega
  rcases K.find w hkey ms.toList (IMap.keys hk h1) with ⟨hf, hno⟩ | ⟨j, e0, hf, hj, he⟩
  · refine ⟨.map (ms.push ⟨.int .i64 (s : Int), v, cl⟩) (cl + 1), ?_, ms.push ⟨.int .i64 (s : Int), v, cl⟩, cl + 1, hnew _, ?_, ?_, ?_, ?_, ?_⟩
    · simp [Instr.mapUpdate, run_underlying ht, MapKept.run_getObj_map hb, K.check w false hkey, hf, MapKept.run_setObj_map _ hb, Result.andThen, ChangeMaps.setBlock]
    · intro x hx
      simp only [Array.toList_push, List.mem_append, List.mem_singleton] at hx
      rcases hx with hx | rfl
      · have := hb1 x hx; omega
      · simp
    · simp only [Array.toList_push, List.map_append, List.map_singleton]
      refine List.nodup_append.2 ⟨hb2, by simp, fun a ha b hb' => ?_⟩
      simp only [List.mem_singleton] at hb'
      subst hb'
      obtain ⟨x, hx, rfl⟩ := List.mem_map.1 ha
      have := hb1 x hx
      simp; omega
    · simp only [Array.toList_push, List.map_append, List.map_singleton]
      refine List.nodup_append.2 ⟨hnd, by simp, fun a ha b hb' => ?_⟩
      simp only [List.mem_singleton] at hb'
      subst hb'
      obtain ⟨x, hx, rfl⟩ := List.mem_map.1 ha
      exact hno x hx
    · intro x hx
      simp only [Array.toList_push, List.mem_append, List.mem_singleton] at hx
      rcases hx with hx | rfl
      · obtain ⟨u, hu, hxk, hv⟩ := h1 x hx
        refine ⟨u, hu, hxk, ?_⟩
        show (if u = s then some v else f u) = _
        rw [if_neg (fun e' => hno x hx (by rw [hxk, e']))]
        exact hv
      · exact ⟨s, hs, rfl, by simp⟩
    · intro u y hu
      simp only [Array.toList_push, List.mem_append, List.mem_singleton]
      by_cases e : u = s
      · subst e
        exact ⟨_, .inr rfl, rfl⟩
      · have hu' : (if u = s then some v else f u) = some y := hu
        rw [if_neg e] at hu'
        obtain ⟨x, hx, hxk⟩ := h2 u y hu'
        exact ⟨x, .inl hx, hxk⟩
  · have hj' : ms[j]? = some e0 := by simpa using hj
    have hlist : (ms.modify j (fun e' => { e' with key := .int .i64 (s : Int), val := v })).toList = ms.toList.set j { e0 with key := .int .i64 (s : Int), val := v } := by rw [Array.toList_modify, ChangeMaps.modify_eq_set _ _ _ _ hj]
    have hkj : (ms.toList.map (·.key))[j]? = some (.int .i64 (s : Int)) := by rw [List.getElem?_map, hj]; simp [he]
    have hbj : (ms.toList.map (·.born))[j]? = some e0.born := by rw [List.getElem?_map, hj]; rfl
    have hself : ∀ {α : Type} (l : List α) (i : Nat) (a : α), l[i]? = some a → l.set i a = l := fun l i a h => by
      refine List.ext_getElem? fun m => ?_
      rw [List.getElem?_set]
      split
      · rename_i e1; subst e1; split
        · exact h.symm
        · rename_i h2; rw [List.getElem?_eq_none (by omega)] at h; cases h
      · rfl
    have hkeys : (ms.toList.set j { e0 with key := .int .i64 (s : Int), val := v }).map (·.key) = ms.toList.map (·.key) := by rw [List.map_set]; exact hself _ _ _ hkj
    have hborn : (ms.toList.set j { e0 with key := .int .i64 (s : Int), val := v }).map (·.born) = ms.toList.map (·.born) := by rw [List.map_set]; exact hself _ _ _ hbj
    have hjl : j < ms.toList.length := (List.getElem?_eq_some_iff.1 hj).1
    have who : ∀ x ∈ ms.toList.set j { e0 with key := .int .i64 (s : Int), val := v }, x = { e0 with key := .int .i64 (s : Int), val := v } ∨ (x ∈ ms.toList ∧ x.key ≠ .int .i64 (s : Int)) := by
      intro x hx
      obtain ⟨i, hi, ex⟩ := List.getElem_of_mem hx
      rw [List.getElem_set] at ex
      split at ex
      · exact .inl ex.symm
      · rename_i hne
        have hi' : i < ms.toList.length := by simpa using hi
        refine .inr ⟨ex ▸ List.getElem_mem hi', fun e1 => hne ?_⟩
        have hl : (ms.toList.map (·.key))[i]? = some (.int .i64 (s : Int)) := by rw [List.getElem?_map, List.getElem?_eq_getElem hi', ex]; simp [e1]
        have hij := (List.getElem?_inj (i := j) (j := i) (by simpa using hjl) hnd).1 (hkj.trans hl.symm)
        exact hij
    refine ⟨.map (ms.modify j (fun e' => { e' with key := .int .i64 (s : Int), val := v })) cl, ?_, ms.modify j (fun e' => { e' with key := .int .i64 (s : Int), val := v }), cl, hnew _, ?_, by rw [hlist, hborn]; exact hb2, by rw [hlist, hkeys]; exact hnd, ?_, ?_⟩
    · simp [Instr.mapUpdate, run_underlying ht, MapKept.run_getObj_map hb, K.check w false hkey, hf, hj', he, K.stays w hkey, MapKept.run_setObj_map _ hb, Result.andThen, ChangeMaps.setBlock]
    · intro x hx
      rw [hlist] at hx
      rcases who x hx with rfl | ⟨hx', _⟩
      · exact hb1 e0 (List.mem_of_getElem? hj)
      · exact hb1 x hx'
    · intro x hx
      rw [hlist] at hx
      rcases who x hx with rfl | ⟨hx', hne⟩
      · exact ⟨s, hs, rfl, by simp⟩
      · obtain ⟨u, hu, hxk, hv⟩ := h1 x hx'
        exact ⟨u, hu, hxk, by show (if u = s then some v else f u) = _; rw [if_neg (fun e' => hne (by rw [hxk, e']))]; exact hv⟩
    · intro u y hu
      rw [hlist]
      have hex : ∃ x ∈ ms.toList, x.key = .int .i64 (u : Int) := by
        by_cases e : u = s
        · subst e; exact ⟨e0, List.mem_of_getElem? hj, he⟩
        · have hu' : (if u = s then some v else f u) = some y := hu
          rw [if_neg e] at hu'; exact h2 u y hu'
      obtain ⟨x, hx, hxk⟩ := hex
      have : Value.int .i64 (u : Int) ∈ (ms.toList.set j { e0 with key := .int .i64 (s : Int), val := v }).map (·.key) := by rw [hkeys]; exact List.mem_map.2 ⟨x, hx, hxk⟩
      obtain ⟨x', hx', hxk'⟩ := List.mem_map.1 this
      exact ⟨x', hx', hxk'⟩
theorem IMap.delete (h : IMap w B f) (ht : P.underlying t = some (.map k e)) (hk : P.underlying k = some (.int .i64)) {s : Nat} (hs : s < 64) (ty : TypeId) :
    ∃ o, (Builtin.delete_ #[t, k] ty #[.map (some B), .int .i64 (s : Int)]).run P w = .ok (.tuple #[]) (ChangeMaps.setBlock w B o) ∧ IMap (ChangeMaps.setBlock w B o) B fun u => if u = s then none else f u := by
  obtain ⟨ms, cl, hb, hb1, hb2, hnd, h1, h2⟩ := h
  have K := int_keyed hk
  have hkey := keyOf_int_mk hk (wf64 hs)
  have hlt : B < w.heap.size := (Array.getElem?_eq_some_iff.1 hb).1
  have hnew : ∀ o, (ChangeMaps.setBlock w B o).heap[B]? = some o := fun o => by simp [ChangeMaps.setBlock, hlt]
  rcases K.find w hkey ms.toList (IMap.keys hk h1) with ⟨hf, hno⟩ | ⟨j, e0, hf, hj, he⟩
  · refine ⟨.map ms cl, ?_, ms, cl, hnew _, hb1, hb2, hnd, ?_, ?_⟩
    · simp [Builtin.delete_, run_underlying ht, MapKept.run_getObj_map hb, K.check w _ hkey, hf, MapKept.run_setObj_map _ hb, Result.andThen, ChangeMaps.setBlock]
    · intro x hx
      obtain ⟨u, hu, hxk, hv⟩ := h1 x hx
      refine ⟨u, hu, hxk, ?_⟩
      show (if u = s then none else f u) = _
      rw [if_neg (fun e' => hno x hx (by rw [hxk, e']))]
      exact hv
    · intro u y hu
      have hu' : (if u = s then none else f u) = some y := hu
      split at hu'
      · cases hu'
      · exact h2 u y hu'
  · have hjl : j < ms.toList.length := (List.getElem?_eq_some_iff.1 hj).1
    have hlist : (ms.eraseIdxIfInBounds j).toList = ms.toList.eraseIdx j := by simp [Array.eraseIdxIfInBounds]; split <;> simp_all
    have hsub : (ms.toList.eraseIdx j).Sublist ms.toList := List.eraseIdx_sublist _ _
    have hne : ∀ x ∈ ms.toList.eraseIdx j, x.key ≠ .int .i64 (s : Int) := by
      intro x hx hxk
      obtain ⟨i, hi1, hi2⟩ := List.mem_eraseIdx_iff_getElem?.1 hx
      have a1 : (ms.toList.map (·.key))[i]? = some (.int .i64 (s : Int)) := by rw [List.getElem?_map, hi2]; simp [hxk]
      have a2 : (ms.toList.map (·.key))[j]? = some (.int .i64 (s : Int)) := by rw [List.getElem?_map, hj]; simp [he]
      exact hi1 ((List.getElem?_inj (i := i) (j := j) (by simpa using (List.getElem?_eq_some_iff.1 hi2).1) hnd).1 (a1.trans a2.symm))
    refine ⟨.map (ms.eraseIdxIfInBounds j) cl, ?_, ms.eraseIdxIfInBounds j, cl, hnew _, ?_, ?_, ?_, ?_, ?_⟩
    · simp [Builtin.delete_, run_underlying ht, MapKept.run_getObj_map hb, K.check w _ hkey, hf, MapKept.run_setObj_map _ hb, Result.andThen, ChangeMaps.setBlock]
    · rw [hlist]; exact fun x hx => hb1 x (hsub.subset hx)
    · rw [hlist]; exact hb2.sublist (hsub.map _)
    · rw [hlist]; exact hnd.sublist (hsub.map _)
    · rw [hlist]
      intro x hx
      obtain ⟨u, hu, hxk, hv⟩ := h1 x (hsub.subset hx)
      refine ⟨u, hu, hxk, ?_⟩
      show (if u = s then none else f u) = _
      rw [if_neg (fun e' => hne x hx (by rw [hxk, e']))]
      exact hv
    · rw [hlist]
      intro u y hu
      have hu' : (if u = s then none else f u) = some y := hu
      split at hu'
      · cases hu'
      · rename_i hus
        obtain ⟨x, hx, hxk⟩ := h2 u y hu'
        refine ⟨x, ?_, hxk⟩
        obtain ⟨i, hi, hxi⟩ := List.getElem_of_mem hx
        refine List.mem_eraseIdx_iff_getElem?.2 ⟨i, fun e1 => ?_, by rw [List.getElem?_eq_getElem hi, hxi]⟩
        subst e1
        rw [List.getElem?_eq_getElem hi, hxi] at hj
        cases hj
        rw [hxk] at he
        cases he
        omega
end
end Go.Imap
namespace Go.Proofs.YtkndgmjlphppdaaGreatDoor
open Go Go.RowKit Go.Imap

def fcell' (v : Value) (f : Fi) : Value := .agg #[v, .int .i64 (f.dur : Int)]
/-- a disk in the blocks db (its own one), mb (its map), and rows of bytes -/
structure DkAt (w : World) (B db mb : Nat) (rv : Nat → Value) (d : Dk) : Prop where
  blk : Blk w db 62 #[.int .i64 (d.room : Int), .int .i64 d.used, .map (some mb), .bool d.off, .bool d.armed, .int .i64 (d.left : Int)]
  map : IMap w mb fun k => (d.fs k).map (fcell' (rv k))
  row : ∀ k f, d.fs k = some f → w.ownsRow B 5 1 (rv k) f.bytes.length (bv f.bytes)
  apart : ∀ j k, (d.fs j).isSome → (d.fs k).isSome → j ≠ k → ∀ g, (rv j).ownBlock = some g → (rv k).ownBlock ≠ some g
  wf : d.WF
/-- the disk's blocks -/
def DF (db mb : Nat) (rv : Nat → Value) (d : Dk) (k : Nat) : Prop := k = db ∨ k = mb ∨ ∃ i, (d.fs i).isSome ∧ (rv i).ownBlock = some k
section
variable {w w1 : World} {B db mb : Nat} {rv : Nat → Value} {d d' : Dk}
theorem IMap.not_blk {f : Nat → Option Value} {t : TypeId} {cs : Array Value} (h : IMap w mb f) (hb : Blk w db t cs) : db ≠ mb := by
  rintro rfl
  obtain ⟨ms, cl, h0, _⟩ := h
  have := h0.symm.trans hb
  cases this
theorem DkAt.ne (h : DkAt w B db mb rv d) : db ≠ mb := IMap.not_blk h.map h.blk
theorem DkAt.row_ne (h : DkAt w B db mb rv d) {k : Nat} (hk : (d.fs k).isSome) : (rv k).ownBlock ≠ some db ∧ (rv k).ownBlock ≠ some mb := by
  obtain ⟨f, hf⟩ := Option.isSome_iff_exists.1 hk
  refine ⟨row_blk (h.row k f hf) h.blk (by decide), fun e => ?_⟩
  rcases (h.row k f hf).2 with ⟨h1, _⟩ | ⟨g, cap, cur, h1, _, h3, _⟩
  · rw [h1] at e; cases e
  · rw [h1] at e
    cases e
    obtain ⟨ms, cl, h0, _⟩ := h.map
    have := h0.symm.trans h3
    cases this
/-- nothing of the disk has changed but its own block -/
theorem DkAt.rehead (h : DkAt w B db mb rv d) (hc : Chg (Only db) w w1) (hb : Blk w1 db 62 #[.int .i64 (d'.room : Int), .int .i64 d'.used, .map (some mb), .bool d'.off, .bool d'.armed, .int .i64 (d'.left : Int)]) (hfs : d'.fs = d.fs) (hwf : d'.WF) : DkAt w1 B db mb rv d' := by
  refine ⟨hb, ?_, ?_, ?_, hwf⟩
  · rw [hfs]
    exact h.map.same (hc.block mb h.map.lt fun e => h.ne e.symm)
  · intro k f hf
    rw [hfs] at hf
    exact row_chg (h.row k f hf) hc fun g hg e => (h.row_ne (by rw [hf]; rfl)).1 (by rw [hg, show g = db from e])
  · rw [hfs]; exact h.apart
theorem DkAt.chg {F : Nat → Prop} (h : DkAt w B db mb rv d) (hc : Chg F w w1) (hF : ∀ k, DF db mb rv d k → ¬ F k) : DkAt w1 B db mb rv d :=
  ⟨h.blk.chg hc (hF _ (.inl rfl)), h.map.same (hc.block _ h.map.lt (hF _ (.inr (.inl rfl)))), fun k f hf => row_chg (h.row k f hf) hc fun g hg => hF g (.inr (.inr ⟨k, by rw [hf]; rfl, hg⟩)), h.apart, h.wf⟩
theorem DkAt.bel (h : DkAt w B db mb rv d) (hb : Below w.heap.size w w1) : DkAt w1 B db mb rv d := h.chg (F := fun _ => False) (Chg.of_below hb) fun _ _ h => h
theorem DkAt.alloc (h : DkAt w B db mb rv d) (o : Obj) : DkAt (w.alloc o) B db mb rv d := h.bel ((Below.refl _ _).alloc (Nat.le_refl _) _)
theorem DkAt.drew (h : DkAt w B db mb rv d) : DkAt w.drew B db mb rv d := h.bel (Below.refl _ _).drew
end
set_option maxRecDepth 1000000 in
theorem exists_walk {k : Nat} (hk : k < 64) (w : World) : Calls Tryz.prog 46 #[.int .i64 (k : Int)] w fun e w' => e = .returned (.bool true) ∧ w' = w := by
  have h1 : (k : Int) < 64 := by omega
  go_enter Tryz.func46, Tryz.ntmps46
  go_wp2
  go_ret
  exact ⟨rfl, rfl⟩
set_option maxRecDepth 1000000 in
theorem fails_walk {w : World} {B db mb : Nat} {rv : Nat → Value} {d : Dk} (h : DkAt w B db mb rv d) :
    Calls Tryz.prog 75 #[.pointer (some ⟨db, 0, none⟩)] w fun e w' => e = .returned (.bool d.fails) ∧ DkAt w' B db mb rv d.step ∧ Chg (Only db) w w' := by
  have hb := h.blk
  have c4 := hb.at' 4
  have c5 := hb.at' 5
  have f3 := hb.thaw 3
  have f4 := hb.thaw 4
  have f5 := hb.thaw 5
  have c3 := hb.at' 3
  have hlt := hb.lt
  have hwf := h.wf.step
  have hfs := Dk.step_fs d
  simp at c3 c4 c5
  cases ha : d.armed with
  | false =>
    have hs : d.step = d := by unfold Dk.step; rw [ha]; rfl
    have hf : d.fails = false := by unfold Dk.fails; rw [ha]; rfl
    rw [hs, hf]
    rw [ha] at c4
    clear hs hf
    go_enter Tryz.func75, Tryz.ntmps75
    go_wp2
    go_ret
    exact ⟨rfl, h, Chg.refl _ _⟩
  | true =>
    rw [ha] at c4
    by_cases hl : 0 < d.left
    · have hl2 : 0 < (d.left : Int) := by omega
      have hl3 : (d.left : Int) ≤ 1000 := by have := h.wf.left; omega
      have hs : d.step = { d with left := d.left - 1 } := by unfold Dk.step; rw [ha, if_pos rfl, if_pos hl]
      have hf : d.fails = false := by unfold Dk.fails; rw [ha]; simp; omega
      rw [hs] at hwf hfs ⊢
      rw [hf]
      have hcc : Chg (Only db) w (w.setCell ⟨db, 5, none⟩ (.int .i64 ((d.left : Int) - 1))) := (Chg.refl (Only db) _).setCell (p := ⟨db, 5, none⟩) (.inr rfl) _
      have hfin := h.rehead (d' := { d with left := d.left - 1 }) hcc (by have := hb.put 5 (.int .i64 ((d.left : Int) - 1)); simpa [show ((d.left - 1 : Nat) : Int) = (d.left : Int) - 1 by omega] using this) hfs hwf
      clear hs hf hwf hfs
      go_enter Tryz.func75, Tryz.ntmps75
      go_wp2
      go_ret
      exact ⟨rfl, hfin, hcc⟩
    · have hl2 : ¬ 0 < (d.left : Int) := by omega
      have hs : d.step = { d with armed := false, off := true } := by unfold Dk.step; rw [ha, if_pos rfl, if_neg hl]
      have hf : d.fails = true := by unfold Dk.fails; rw [ha]; simp; omega
      rw [hs] at hwf hfs ⊢
      rw [hf]
      have hcc : Chg (Only db) w ((w.setCell ⟨db, 4, none⟩ (.bool false)).setCell ⟨db, 3, none⟩ (.bool true)) := ((Chg.refl (Only db) _).setCell (p := ⟨db, 4, none⟩) (.inr rfl) _).setCell (p := ⟨db, 3, none⟩) (.inr rfl) _
      have hfin := h.rehead (d' := { d with armed := false, off := true }) hcc (by have := (hb.put 4 (.bool false)).put 3 (.bool true); simpa using this) hfs hwf
      clear hs hf hwf hfs
      go_enter Tryz.func75, Tryz.ntmps75
      go_wp2
      go_ret
      exact ⟨rfl, hfin, hcc⟩
end Go.Proofs.YtkndgmjlphppdaaGreatDoor
namespace Go.Proofs.YtkndgmjlphppdaaGreatDoor
open Go Go.RowKit Go.Imap

theorem zeroFile (w : World) : (zeroValue 96).run Tryz.prog w = .ok (.agg #[.slice none 0 0, .int .i64 0]) w := by kernel_rfl
theorem fieldFile (A : Option Addr) (n c : Nat) (z : Int) (w : World) : (Instr.field 96 (.agg #[.slice A n c, .int .i64 z]) 0).run Tryz.prog w = .ok (.slice A n c) w := by kernel_rfl
section
variable {w w1 : World} {B db mb : Nat} {rv : Nat → Value} {d : Dk}
/-- what a look-up of a file gives -/
theorem DkAt.old (h : DkAt w B db mb rv d) (k : Nat) : ∃ A c, ((d.fs k).map (fcell' (rv k))).getD (.agg #[.slice none 0 0, .int .i64 0]) = .agg #[.slice A (d.len k) c, .int .i64 ((d.fi k).dur : Int)] ∧ w.ownsRow B 5 1 (.slice A (d.len k) c) (d.len k) (bv (d.fi k).bytes) ∧ ((d.fs k).isSome → rv k = .slice A (d.len k) c) := by
  unfold Dk.len Dk.fi
  cases hf : d.fs k with
  | none => exact ⟨none, 0, rfl, World.ownsRow_nil _ _ _ _, fun h => by cases h⟩
  | some f =>
    have hr := h.row k f hf
    obtain ⟨A, c, e, _⟩ := row_form hr
    refine ⟨A, c, ?_, ?_, fun _ => e⟩
    · show fcell' (rv k) f = _
      unfold fcell'
      rw [e]
      rfl
    · rw [e] at hr; exact hr
theorem look_file (h : IMap w mb fun k => (d.fs k).map (fcell' (rv k))) {k : Nat} (hk : k < 64) {A : Option Addr} {c : Nat} (ho : ((d.fs k).map (fcell' (rv k))).getD (.agg #[.slice none 0 0, .int .i64 0]) = .agg #[.slice A (d.len k) c, .int .i64 ((d.fi k).dur : Int)]) (w1 : World) (hw : w1.heap[mb]? = w.heap[mb]?) :
    (Instr.lookup 60 (.map (some mb)) (.int .i64 (k : Int)) false).run Tryz.prog w1 = .ok (.agg #[.slice A (d.len k) c, .int .i64 ((d.fi k).dur : Int)]) w1 := by
  rw [← ho]
  exact (h.same hw).lookup Tryz.underlying60 Tryz.underlying3 (zeroFile w1) hk
/-- a disk, but for what the row of the file k holds -/
structure DkBut (w : World) (B db mb : Nat) (rv : Nat → Value) (d : Dk) (k : Nat) : Prop where
  blk : Blk w db 62 #[.int .i64 (d.room : Int), .int .i64 d.used, .map (some mb), .bool d.off, .bool d.armed, .int .i64 (d.left : Int)]
  map : IMap w mb fun k => (d.fs k).map (fcell' (rv k))
  row : ∀ i f, i ≠ k → d.fs i = some f → w.ownsRow B 5 1 (rv i) f.bytes.length (bv f.bytes)
  shape : (d.fs k).isSome → ∃ A c, rv k = .slice A (d.len k) c
  apart : ∀ i j, i ≠ k → j ≠ k → (d.fs i).isSome → (d.fs j).isSome → i ≠ j → ∀ g, (rv i).ownBlock = some g → (rv j).ownBlock ≠ some g
  wf : d.WF
theorem DkAt.but (h : DkAt w B db mb rv d) (k : Nat) : DkBut w B db mb rv d k :=
  ⟨h.blk, h.map, fun i f _ hf => h.row i f hf, fun hk => by obtain ⟨A, c, _, _, h3⟩ := h.old k; exact ⟨A, c, h3 hk⟩, fun i j _ _ hi hj hij => h.apart i j hi hj hij, h.wf⟩
theorem DkBut.old {k : Nat} (h : DkBut w B db mb rv d k) : ∃ A c, ((d.fs k).map (fcell' (rv k))).getD (.agg #[.slice none 0 0, .int .i64 0]) = .agg #[.slice A (d.len k) c, .int .i64 ((d.fi k).dur : Int)] := by
  have hs := h.shape
  unfold Dk.len Dk.fi at *
  cases hf : d.fs k with
  | none => exact ⟨none, 0, rfl⟩
  | some f =>
    rw [hf] at hs
    obtain ⟨A, c, e⟩ := hs rfl
    refine ⟨A, c, ?_⟩
    show fcell' (rv k) f = _
    unfold fcell'
    rw [e]
    rfl
theorem DkBut.ne {k : Nat} (h : DkBut w B db mb rv d k) : db ≠ mb := IMap.not_blk h.map h.blk
theorem DkBut.row_ne {k : Nat} (h : DkBut w B db mb rv d k) {i : Nat} (hik : i ≠ k) (hi : (d.fs i).isSome) : (rv i).ownBlock ≠ some db ∧ (rv i).ownBlock ≠ some mb := by
  obtain ⟨f, hf⟩ := Option.isSome_iff_exists.1 hi
  refine ⟨row_blk (h.row i f hik hf) h.blk (by decide), fun e => ?_⟩
  rcases (h.row i f hik hf).2 with ⟨h1, _⟩ | ⟨g, cap, cur, h1, _, h3, _⟩
  · rw [h1] at e; cases e
  · rw [h1] at e
    cases e
    obtain ⟨ms, cl, h0, _⟩ := h.map
    have := h0.symm.trans h3
    cases this
end
theorem chg_setBlock (w : World) (b : Nat) (o : Obj) : Chg (Only b) w (ChangeMaps.setBlock w b o) :=
  ⟨rfl, rfl, rfl, by simp [ChangeMaps.setBlock], fun k hk hne => by
    simp only [ChangeMaps.setBlock, Array.getElem?_setIfInBounds]
    rw [if_neg (fun e => hne e.symm)]⟩
theorem _root_.Go.Imap.IMap.ext {w : World} {B : Nat} {f g : Nat → Option Value} (h : IMap w B f) (e : ∀ u, f u = g u) : IMap w B g := by
  rw [← funext e]; exact h
set_option maxRecDepth 1000000 in
theorem put_walk {w : World} {B db mb : Nat} {rv : Nat → Value} {d : Dk} {k : Nat} (h : DkBut w B db mb rv d k) (hk : k < 64) {f : Fi} {v : Value} (hv : w.ownsRow B 5 1 v f.bytes.length (bv f.bytes)) (hap : ∀ i, i ≠ k → (d.fs i).isSome → ∀ g, v.ownBlock = some g → (rv i).ownBlock ≠ some g) (hwf : (d.put k f).WF) :
    Calls Tryz.prog 50 #[.pointer (some ⟨db, 0, none⟩), .int .i64 (k : Int), .agg #[v, .int .i64 (f.dur : Int)]] w fun e w' => e = .returned (.tuple #[]) ∧ DkAt w' B db mb (fun i => if i = k then v else rv i) (d.put k f) ∧ Chg (fun x => x = db ∨ x = mb) w w' := by
  obtain ⟨A, c, ho⟩ := h.old
  obtain ⟨A1, c1, rfl, hc1⟩ := row_form hv
  have hb := h.blk
  have c1' := hb.at' 1
  have c2' := hb.at' 2
  have f1' := hb.thaw 1
  have hlt := hb.lt
  simp at c1' c2'
  have hlk := look_file h.map hk ho ((w.alloc (.cells #[.slice A1 f.bytes.length c1, .int .i64 (f.dur : Int)] 96)).drew) (Below.heap_alloc _ _ _ h.map.lt)
  have hfld := fieldFile A (d.len k) c ((d.fi k).dur : Int)
  go_enter Tryz.func50, Tryz.ntmps50
  go_wp2
  go_region
  have hdl : d.len k ≤ 16777216 := by
    unfold Dk.len Dk.fi
    cases hf : d.fs k with
    | none => simp
    | some f => exact (h.wf.dur k f hf).2.2
  have hroom := h.wf.room
  have hus := h.wf.used
  have hfl : f.bytes.length ≤ 16777216 := by
    by_cases h0 : f.bytes.length = 0
    · omega
    · exact (hwf.dur k f (by show (if k = k then (if f.bytes.length = 0 then none else some f) else d.fs k) = some f; rw [if_pos rfl, if_neg h0])).2.2
  have hu : wrap64 (d.used + wrap64 ((f.bytes.length : Int) - (d.len k : Int))) = (d.put k f).used := by show _ = d.used + ((f.bytes.length : Int) - (d.len k : Int)); unfold wrap64; omega
  rw [hu]
  obtain ⟨W1, hW1⟩ : ∃ W1, ((w.setCell ⟨db, 1, none⟩ (.int .i64 (d.put k f).used)).alloc (.cells #[.slice A1 f.bytes.length c1, .int .i64 (f.dur : Int)] 96)).drew = W1 := ⟨_, rfl⟩
  rw [hW1]
  have hne := h.ne
  have hblk1 : Blk W1 db 62 #[.int .i64 (d.room : Int), .int .i64 (d.put k f).used, .map (some mb), .bool d.off, .bool d.armed, .int .i64 (d.left : Int)] := by
    have := (hb.put 1 (.int .i64 (d.put k f).used)).alloc (.cells #[.slice A1 f.bytes.length c1, .int .i64 (f.dur : Int)] 96)
    rw [← hW1]
    simpa using this.drew
  have hch1 : Chg (Only db) w W1 := by rw [← hW1]; exact (((Chg.refl (Only db) w).setCell (p := ⟨db, 1, none⟩) (.inr rfl) _).alloc _).drew
  have hbox1 : Blk W1 w.heap.size 96 #[.slice A1 f.bytes.length c1, .int .i64 (f.dur : Int)] := by
    have := Blk.made (w.setCell ⟨db, 1, none⟩ (.int .i64 (d.put k f).used)) 96 #[.slice A1 f.bytes.length c1, .int .i64 (f.dur : Int)]
    rw [← hW1]
    simpa using this.drew
  have hmap1 := h.map.same (hch1.block mb h.map.lt fun e => hne e.symm)
  have hrow1 := row_chg hv hch1 fun g hg e => row_blk hv hb (by decide) (by rw [hg, show g = db from e])
  have hdr1 := fun i f' (hik : i ≠ k) hf' => row_chg (h.row i f' hik hf') hch1 fun g hg e => (h.row_ne hik (by rw [hf']; rfl)).1 (by rw [hg, show g = db from e])
  have q0 := hbox1.at' 0
  have q1 := hbox1.at' 1
  have q2 := hblk1.at' 2
  simp at q0 q1 q2
  clear hlk hfld c1' c2' f1' hW1 hu ho
  have hsm : ∀ u f', (d.put k f).fs u = some f' → (u = k ∧ f' = f) ∨ (u ≠ k ∧ d.fs u = some f') := fun u f' hf' => by
    have hf2 : (if u = k then (if f.bytes.length = 0 then none else some f) else d.fs u) = some f' := hf'
    by_cases hu : u = k
    · rw [if_pos hu] at hf2
      split at hf2
      · cases hf2
      · cases hf2; exact .inl ⟨hu, rfl⟩
    · rw [if_neg hu] at hf2; exact .inr ⟨hu, hf2⟩
  have fin : ∀ (W : World) (o : Obj), Chg (fun _ => False) W1 W → IMap (ChangeMaps.setBlock W mb o) mb (fun u => ((d.put k f).fs u).map (fcell' (if u = k then .slice A1 f.bytes.length c1 else rv u))) → DkAt (ChangeMaps.setBlock W mb o) B db mb (fun i => if i = k then .slice A1 f.bytes.length c1 else rv i) (d.put k f) := fun W o hc hm => by
    have hc2 : Chg (Only mb) W1 (ChangeMaps.setBlock W mb o) := (hc.more fun _ _ e => e.elim).trans (chg_setBlock W mb o) fun _ _ e => e
    refine ⟨hblk1.chg hc2 (fun e => hne e), hm, fun u f' hf' => ?_, fun i j hi hj hij g hg => ?_, hwf⟩
    · rcases hsm u f' hf' with ⟨rfl, rfl⟩ | ⟨hu, hf2⟩
      · rw [if_pos rfl]
        refine row_chg hrow1 hc2 fun g hg e => ?_
        obtain ⟨ms, cl, hm0, _⟩ := hmap1
        rcases hrow1.2 with ⟨h1, _⟩ | ⟨g', cap, cur, h1, _, h3, _⟩
        · rw [h1] at hg; cases hg
        · rw [h1] at hg
          cases hg
          rw [show g' = mb from e] at h3
          have := hm0.symm.trans h3
          cases this
      · rw [if_neg hu]
        exact row_chg (hdr1 u f' hu hf2) hc2 fun g hg e => (h.row_ne hu (by rw [hf2]; rfl)).2 (by rw [hg, show g = mb from e])
    · obtain ⟨fi, hfi⟩ := Option.isSome_iff_exists.1 hi
      obtain ⟨fj, hfj⟩ := Option.isSome_iff_exists.1 hj
      rcases hsm i fi hfi with ⟨rfl, rfl⟩ | ⟨hu, hf2⟩
      · rcases hsm j fj hfj with ⟨rfl, rfl⟩ | ⟨hu', hf2'⟩
        · exact absurd rfl hij
        · rw [if_pos rfl] at hg
          rw [if_neg hu']
          exact hap j hu' (by rw [hf2']; rfl) g hg
      · rw [if_neg hu] at hg
        rcases hsm j fj hfj with ⟨rfl, rfl⟩ | ⟨hu', hf2'⟩
        · rw [if_pos rfl]
          exact fun e => hap i hu (by rw [hf2]; rfl) g e hg
        · rw [if_neg hu']
          exact h.apart i j hu hu' (by rw [hf2]; rfl) (by rw [hf2']; rfl) hij g hg
  by_cases h0 : f.bytes.length = 0
  · obtain ⟨o, hrun, hmap2⟩ := hmap1.delete Tryz.underlying60 Tryz.underlying3 hk 0
    go_wp2
    refine bodyPost_ret (results_none rfl _ _ _) rfl ?_
    refine ⟨rfl, fin W1 o (Chg.refl _ _) (hmap2.ext fun u => ?_), (hch1.more fun _ _ e => .inl e).trans (chg_setBlock W1 mb o) fun _ _ e => .inr e⟩
    show (if u = k then none else (d.fs u).map (fcell' (rv u))) = (if u = k then (if f.bytes.length = 0 then none else some f) else d.fs u).map (fcell' (if u = k then _ else rv u))
    by_cases hu : u = k
    · simp [hu, h0]
    · simp [hu]
  · obtain ⟨o, hrun, hmap2⟩ := (hmap1.same (w' := W1.drew) rfl).update Tryz.underlying60 Tryz.underlying3 hk (.agg #[.slice A1 f.bytes.length c1, .int .i64 (f.dur : Int)])
    have h0z : ((f.bytes.length : Int) == 0) = false := by simp; exact fun e => h0 (by rw [e]; rfl)
    go_wp2
    go_region
    go_end0
    refine ⟨rfl, fin W1.drew o (Chg.refl _ _).drew (hmap2.ext fun u => ?_), ((hch1.more fun _ _ e => .inl e).drew).trans (chg_setBlock W1.drew mb o) fun _ _ e => .inr e⟩
    show (if u = k then some _ else (d.fs u).map (fcell' (rv u))) = (if u = k then (if f.bytes.length = 0 then none else some f) else d.fs u).map (fcell' (if u = k then _ else rv u))
    by_cases hu : u = k
    · simp [hu, h0, fcell']
    · simp [hu]
end Go.Proofs.YtkndgmjlphppdaaGreatDoor
namespace Go.Proofs.YtkndgmjlphppdaaGreatDoor
open Go Go.RowKit Go.Imap

set_option maxRecDepth 1000000 in
theorem cloneb_walk {w : World} {v : Value} {x : List UInt8} {B : Nat} (hv : w.ownsRow B 5 1 v x.length (bv x)) (hx : x.length ≤ 100000000) :
    Calls Tryz.prog 47 #[v] w fun e w' => ∃ u, e = .returned u ∧ w'.ownsRow w.heap.size 5 1 u x.length (bv x) ∧ Below w.heap.size w w' := by
  obtain ⟨i0, hi0, hz0, hz1, hz2⟩ := info_parts' info5
  rcases hv.2 with ⟨rfl, h0⟩ | ⟨g, cap, cur, rfl, h2, h3, h4, _⟩
  · have hx0 : x = [] := List.length_eq_zero_iff.1 h0
    subst hx0
    have heq : (binOp BinOp.eql 47 (.slice none 0 0) (.slice none 0 0)).run Tryz.prog w = .ok (.bool true) w := by kernel_rfl
    go_enter Tryz.func47, Tryz.ntmps47
    go_wp2
    go_ret
    exact ⟨_, rfl, World.ownsRow_nil _ _ _ _, Below.refl _ _⟩
  · have h63 : 0 + x.length ≤ maxLen := by unfold maxLen; omega
    have hby : (0 + x.length) * 1 ≤ 140737488355328 := by omega
    have hs1 := (Sees.row hv).alloc (.cells #[] 5)
    have hmade := World.ownsRow_made (e := 5) (size := 1) (base := w.heap.size) w #[] 0 (Nat.le_refl _) (Nat.zero_le _) rfl
    have hxl : (bv x).length = x.length * 1 := by rw [bv_len]; omega
    have heq : (binOp BinOp.eql 47 (.slice (some ⟨g, 0, none⟩) x.length cap) (.slice none 0 0)).run Tryz.prog w = .ok (.bool false) w := by kernel_rfl
    go_enter Tryz.func47, Tryz.ntmps47
    go_wp2_with (first
      | (at_builtin; refine wpList_append_sees rfl _ _ 47 rfl i0 _ 1 Tryz.underlying47 hi0 hz0 hz1 hz2 rfl (by decide) _ 0 [] rfl hmade _ x.length _ rfl hs1 hxl (bv_one x) h63 hby (by simp) ?_; intro v2 w2 hrow2 hgrow2 hown2; obtain ⟨A2, k2, rfl, _⟩ := row_form hrow2; rw [Nat.zero_add] at hrow2)
      | go_in)
    go_ret
    have hb2 : Below w.heap.size w w2 := ((Below.refl _ _).alloc (Nat.le_refl _) _).grown hgrow2 (by simp) fun k hk => by cases hk; exact Nat.le_refl _
    rw [List.nil_append] at hrow2
    exact ⟨_, rfl, by simpa using hrow2, hb2⟩
set_option maxRecDepth 1000000 in
theorem dread_walk {w : World} {B db mb : Nat} {rv : Nat → Value} {d : Dk} (h : DkAt w B db mb rv d) {k : Nat} (hk : k < 64) (hoff : d.off = false) :
    Calls Tryz.prog 22 #[.pointer (some ⟨db, 0, none⟩), .int .i64 (k : Int)] w fun e w' => ∃ u, e = .returned (.tuple #[u, .int .i64 0]) ∧ w'.ownsRow w.heap.size 5 1 u (d.len k) (bv (d.fi k).bytes) ∧ Below w.heap.size w w' := by
  obtain ⟨A, c, ho, hrow, _⟩ := h.old k
  have hb := h.blk
  have c3 := hb.at' 3
  have c2 := hb.at' 2
  have hlt := hb.lt
  simp at c2 c3
  rw [hoff] at c3
  have hlk := look_file h.map hk ho w rfl
  have hfld := fieldFile A (d.len k) c ((d.fi k).dur : Int)
  have hdl : d.len k ≤ 16777216 := by
    unfold Dk.len Dk.fi
    cases hf : d.fs k with
    | none => simp
    | some f => exact (h.wf.dur k f hf).2.2
  have hcl := cloneb_walk (x := (d.fi k).bytes) hrow (by have := hdl; unfold Dk.len at this; omega)
  have hex := exists_walk hk
  clear ho
  go_enter Tryz.func22, Tryz.ntmps22
  go_wp2_with (first
    | (go_at_call 46; refine (hex _).mono ?_; rintro _ w1 ⟨rfl, rfl⟩)
    | (go_at_call 47; refine hcl.mono ?_; rintro _ w2 ⟨u, rfl, hrow2, hB2⟩)
    | go_in)
  go_ret2
  exact ⟨u, rfl, hrow2, hB2⟩
end Go.Proofs.YtkndgmjlphppdaaGreatDoor
namespace Go.Proofs.YtkndgmjlphppdaaGreatDoor
open Go Go.RowKit Go.Imap

theorem Dk.WF.put {d : Dk} (h : d.WF) {k : Nat} (hk : k < 64) {f : Fi} (h1 : f.dur ≤ f.bytes.length) (h2 : f.bytes.length ≤ 16777216) (h3 : 0 ≤ (d.put k f).used ∧ (d.put k f).used ≤ d.room) : (d.put k f).WF := by
  have hsm : ∀ u f', (d.put k f).fs u = some f' → (u = k ∧ f' = f ∧ f.bytes.length ≠ 0) ∨ d.fs u = some f' := fun u f' hf' => by
    have hf2 : (if u = k then (if f.bytes.length = 0 then none else some f) else d.fs u) = some f' := hf'
    by_cases hu : u = k
    · rw [if_pos hu] at hf2
      split at hf2
      · cases hf2
      · rename_i h0; cases hf2; exact .inl ⟨hu, rfl, h0⟩
    · rw [if_neg hu] at hf2; exact .inr hf2
  refine ⟨fun u f' hf' => ?_, fun u f' hf' => ?_, h.room, h3, h.left⟩
  · rcases hsm u f' hf' with ⟨rfl, _⟩ | h4
    · exact hk
    · exact h.key u f' h4
  · rcases hsm u f' hf' with ⟨rfl, rfl, h0⟩ | h4
    · exact ⟨h1, fun e => h0 (by rw [e]; rfl), h2⟩
    · exact h.dur u f' h4
theorem DkBut.chg {F : Nat → Prop} {w w1 : World} {B db mb : Nat} {rv : Nat → Value} {d : Dk} {k : Nat} (h : DkBut w B db mb rv d k) (hc : Chg F w w1) (h1 : ¬ F db) (h2 : ¬ F mb) (h3 : ∀ i, i ≠ k → (d.fs i).isSome → ∀ g, (rv i).ownBlock = some g → ¬ F g) : DkBut w1 B db mb rv d k :=
  ⟨h.blk.chg hc h1, h.map.same (hc.block _ h.map.lt h2), fun i f hik hf => row_chg (h.row i f hik hf) hc (h3 i hik (by rw [hf]; rfl)), h.shape, h.apart, h.wf⟩
theorem Dk.step_len (d : Dk) (k : Nat) : d.step.len k = d.len k ∧ d.step.fi k = d.fi k := by unfold Dk.len Dk.fi; rw [Dk.step_fs]; exact ⟨rfl, rfl⟩
theorem Dk.step_room (d : Dk) : d.step.room = d.room ∧ d.step.used = d.used := by unfold Dk.step; split <;> (try split) <;> exact ⟨rfl, rfl⟩
theorem Dk.len_le {d : Dk} (h : d.WF) (k : Nat) : d.len k ≤ 16777216 ∧ (d.fi k).dur ≤ d.len k := by
  unfold Dk.len Dk.fi
  cases hf : d.fs k with
  | none => simp
  | some f => exact ⟨(h.dur k f hf).2.2, (h.dur k f hf).1⟩
theorem row_map {w : World} {B mb n size : Nat} {e : TypeId} {v : Value} {xs : List Value} {f : Nat → Option Value} (h : w.ownsRow B e size v n xs) (hm : IMap w mb f) : v.ownBlock ≠ some mb := fun e' => by
  rcases h.2 with ⟨h1, _⟩ | ⟨g, cap, cur, h1, _, h3, _⟩
  · rw [h1] at e'; cases e'
  · rw [h1] at e'
    cases e'
    obtain ⟨ms, cl, h0, _⟩ := hm
    have := h0.symm.trans h3
    cases this
theorem DkAt.old' {w : World} {B db mb : Nat} {rv : Nat → Value} {d : Dk} (h : DkAt w B db mb rv d) (k : Nat) : ∃ A c, ((d.fs k).map (fcell' (rv k))).getD (.agg #[.slice none 0 0, .int .i64 0]) = .agg #[.slice A (d.len k) c, .int .i64 ((d.fi k).dur : Int)] ∧ w.ownsRow B 5 1 (.slice A (d.len k) c) (d.len k) (bv (d.fi k).bytes) ∧ ((d.fs k).isSome → rv k = .slice A (d.len k) c) ∧ (d.fs k = none → A = none) := by
  cases hf : d.fs k with
  | none =>
    have hl : d.len k = 0 := by unfold Dk.len Dk.fi; rw [hf]; rfl
    have hi : d.fi k = ⟨[], 0⟩ := by unfold Dk.fi; rw [hf]; rfl
    rw [hl, hi]
    exact ⟨none, 0, rfl, World.ownsRow_nil _ _ _ _, fun h => (by cases h), fun _ => rfl⟩
  | some f =>
    obtain ⟨A, c, h1, h2, h3⟩ := h.old k
    rw [hf] at h1 h3
    exact ⟨A, c, h1, h2, h3, fun h => by cases h⟩
/-- behind the append of bytes to the file k's row, and the store into the local file -/
theorem dk_after {w2 w5 : World} {B db mb : Nat} {rv : Nat → Value} {e : Dk} {k n m : Nat} {A : Option Addr} {c : Nat} {old ys : List Value} {v5 : Value} {o : Obj} (h2 : DkAt w2 B db mb rv e) (hrow : w2.ownsRow B 5 1 (.slice A n c) n old)
    (hrvk : (e.fs k).isSome → rv k = .slice A n c) (hnone : e.fs k = none → A = none) (hgrow : (w2.alloc o).grownBy w5 (Value.slice A n c).ownBlock) (hrow5 : w5.ownsRow B 5 1 v5 m ys) (hown : v5.ownBlock = (Value.slice A n c).ownBlock ∨ ∃ g, v5.ownBlock = some g ∧ (w2.alloc o).heap.size ≤ g) :
    DkBut (w5.setCell ⟨w2.heap.size, 0, none⟩ v5) B db mb rv e k ∧ (w5.setCell ⟨w2.heap.size, 0, none⟩ v5).ownsRow B 5 1 v5 m ys ∧ (∀ i, i ≠ k → (e.fs i).isSome → ∀ g, v5.ownBlock = some g → (rv i).ownBlock ≠ some g) ∧ Chg (DF db mb rv e) w2 (w5.setCell ⟨w2.heap.size, 0, none⟩ v5) ∧ ∀ g, v5.ownBlock = some g → DF db mb rv e g ∨ w2.heap.size ≤ g := by
  have hlo := World.ownsRow.lt hrow
  have hoth : ∀ i, i ≠ k → (e.fs i).isSome → ∀ g, (rv i).ownBlock = some g → (Value.slice A n c).ownBlock ≠ some g := fun i hik hi g hg => by
    cases hk : e.fs k with
    | none => rw [hnone hk]; exact fun h => by cases h
    | some f =>
      have hks : (e.fs k).isSome := by rw [hk]; rfl
      rw [← hrvk hks]
      exact h2.apart i k hi hks hik g hg
  have hc : Chg (fun g => (Value.slice A n c).ownBlock = some g) w2 (w5.setCell ⟨w2.heap.size, 0, none⟩ v5) :=
    (((Chg.refl _ w2).alloc o).grown hgrow (fun k hk => .inr hk)).setCell (p := ⟨w2.heap.size, 0, none⟩) (.inl (Nat.le_refl _)) _
  have hv5 : v5.ownBlock ≠ some w2.heap.size := fun h => by
    rcases hown with h' | ⟨g, h', hg⟩
    · rw [h] at h'
      have := (hlo _ h'.symm).2
      omega
    · rw [h] at h'
      cases h'
      simp at hg
      omega
  refine ⟨(h2.but k).chg hc (row_blk hrow h2.blk (by decide)) (row_map hrow h2.map) (fun i hik hi g hg => hoth i hik hi g hg), row_set hrow5 hv5 _, fun i hik hi g hg h => ?_, ?_⟩
  · rcases hown with h' | ⟨g', h', hg'⟩
    · rw [h'] at hg
      exact hoth i hik hi g h hg
    · rw [h'] at hg
      cases hg
      obtain ⟨f, hf⟩ := Option.isSome_iff_exists.1 hi
      have := (World.ownsRow.lt (h2.row i f hf) _ h).2
      simp at hg'
      omega
  · have hAe : ∀ g, (Value.slice A n c).ownBlock = some g → DF db mb rv e g := fun g hg => by
      cases hk : e.fs k with
      | none => rw [hnone hk] at hg; cases hg
      | some f =>
        have hks : (e.fs k).isSome := by rw [hk]; rfl
        exact .inr (.inr ⟨k, hks, by rw [hrvk hks]; exact hg⟩)
    refine ⟨hc.more fun g _ hg => hAe g hg, fun g hg => ?_⟩
    rcases hown with h' | ⟨g', h', hg'⟩
    · rw [h'] at hg; exact .inl (hAe g hg)
    · rw [h'] at hg
      cases hg
      simp at hg'
      exact .inr (by omega)
set_option maxRecDepth 1000000 in
set_option maxHeartbeats 2000000 in
theorem dappend_walk {w : World} {B db mb : Nat} {rv : Nat → Value} {d : Dk} (h : DkAt w B db mb rv d) (hB : B ≤ w.heap.size) {k : Nat} (hk : k < 64) (hoff : d.off = false) {b : Value} {x : List UInt8} (hb : Sees w 1 b (bv x)) (hx : x.length ≤ 1000000)
    (hroom : (x.length : Int) ≤ d.room - d.used) (hlen : d.len k + x.length ≤ 16777216) (hbF : ∀ g, Value.leads b = some g → ¬ DF db mb rv d g) :
    Calls Tryz.prog 67 #[.pointer (some ⟨db, 0, none⟩), .int .i64 (k : Int), b] w fun e w' => ∃ rv', e = .returned (.int .i64 (if d.fails then 19 else 0)) ∧ DkAt w' B db mb rv' (d.step.put k ⟨(d.fi k).bytes ++ x, (d.fi k).dur⟩) ∧ Chg (DF db mb rv d) w w' ∧ (∀ g, DF db mb rv' (d.step.put k ⟨(d.fi k).bytes ++ x, (d.fi k).dur⟩) g → DF db mb rv d g ∨ w.heap.size ≤ g) := by
  obtain ⟨i0, hi0, hz0, hz1, hz2⟩ := info_parts' info5
  obtain ⟨Ab, nb, cb, rfl, hn, hnc, hrd⟩ := id hb
  have hxn : x.length = nb := by have := hn; rw [bv_len] at this; omega
  subst hxn
  have hblk := h.blk
  have c0 := hblk.at' 0
  have c1 := hblk.at' 1
  have c3 := hblk.at' 3
  have hlt := hblk.lt
  simp at c0 c1 c3
  rw [hoff] at c3
  have hex := exists_walk hk
  have hfa := fails_walk h.drew
  have hus := h.wf.used
  have hrm := h.wf.room
  have hll := Dk.len_le h.wf k
  have c0d : w.drew.cell? ⟨db, 0, none⟩ = some (.int .i64 (d.room : Int)) := c0
  have c1d : w.drew.cell? ⟨db, 1, none⟩ = some (.int .i64 d.used) := c1
  have hr1 : wrap64 ((d.room : Int) - d.used) = (d.room : Int) - d.used := by unfold wrap64; omega
  go_enter Tryz.func67, Tryz.ntmps67
  go_wp2_with (first
    | (go_at_call 46; refine (hex _).mono ?_; rintro _ w1 ⟨rfl, rfl⟩)
    | go_in)
  go_region
  have s1 := Dk.step_len d k
  have s2 := Dk.step_room d
  have s3 := Dk.step_fs d
  have hwfp : (d.step.put k ⟨(d.fi k).bytes ++ x, (d.fi k).dur⟩).WF := by
    refine h.wf.step.put hk ?_ ?_ ?_
    · show (d.fi k).dur ≤ ((d.fi k).bytes ++ x).length
      have := hll.2
      unfold Dk.len at this
      rw [List.length_append]; omega
    · show ((d.fi k).bytes ++ x).length ≤ 16777216
      unfold Dk.len at hlen
      rw [List.length_append]; omega
    · show 0 ≤ d.step.used + ((((d.fi k).bytes ++ x).length : Int) - d.step.len k) ∧ d.step.used + ((((d.fi k).bytes ++ x).length : Int) - d.step.len k) ≤ d.step.room
      rw [s1.1, s2.1, s2.2, List.length_append]
      unfold Dk.len at *
      omega
  go_wp2_with (first
    | (go_at_call 75; refine hfa.mono ?_; clear hfa; rintro _ w2 ⟨rfl, h2, hC2⟩; obtain ⟨A, c, ho, hrow, hrvk, hnn⟩ := h2.old' k; have hlk := look_file h2.map hk ho w2 rfl; rw [s1.1, s1.2] at hlk ho hrow; have hblk2 := h2.blk; have c22 := hblk2.at' 2; simp at c22; have hlt2 := hblk2.lt; have hb2 : Sees w2 1 (.slice Ab x.length cb) (bv x) := (hb.bel (Below.refl _ _).drew).chg hC2 (fun g hg e => hbF g hg (.inl e)); have hz2' : w1.heap.size ≤ w2.heap.size := hC2.size)
    | (at_builtin; refine wpList_append_sees rfl _ _ 47 rfl i0 _ 1 Tryz.underlying47 hi0 hz0 hz1 hz2 rfl (by decide) (.slice A (d.len k) c) _ _ rfl (row_chg hrow ((Chg.refl (fun _ => False) w2).alloc _) fun _ _ h => h) _ x.length _ rfl (hb2.alloc _) hn (bv_one x) (by unfold maxLen; omega) (by omega) (by simp; omega) ?_; intro v5 w5 hrow5 hgrow5 hown5; obtain ⟨A5, k5, rfl, _⟩ := row_form hrow5; have hlo := World.ownsRow.lt hrow; have hbx5 : Blk w5 w2.heap.size 96 #[.slice A (d.len k) c, .int .i64 ((d.fi k).dur : Int)] := (Blk.made w2 96 #[.slice A (d.len k) c, .int .i64 ((d.fi k).dur : Int)]).grown hgrow5 (fun e => by { have := (hlo _ e.symm).2; omega }); have q0 := hbx5.at' 0; have q1 := hbx5.at' 1; have qz := hbx5.thaw 0; simp at q0 q1; have hbx6 := hbx5.put 0 (.slice A5 (d.len k + x.length) k5); have r0 := hbx6.at' 0; have r1 := hbx6.at' 1; simp at r0 r1; have hbut := dk_after (k := k) h2 hrow (fun e => by { rw [← s1.1]; exact hrvk e }) hnn hgrow5 hrow5 hown5)
    | (go_at_call 50; refine (put_walk hbut.1 hk (f := ⟨(d.fi k).bytes ++ x, (d.fi k).dur⟩) (by { show World.ownsRow _ _ _ _ _ ((d.fi k).bytes ++ x).length (bv ((d.fi k).bytes ++ x)); rw [List.length_append, bv_app]; exact hbut.2.1 }) hbut.2.2.1 hwfp).mono ?_; rintro _ w7 ⟨rfl, h7, hC7⟩)
    | go_in)
  all_goals
    go_ret
    have hDF : ∀ g, DF db mb rv d.step g → DF db mb rv d g := fun g hg => by unfold DF at hg ⊢; rw [s3] at hg; exact hg
    have k1 : Chg (DF db mb rv d) w1 w2 := (((Chg.refl (Only db) w1).drew).trans hC2 fun _ _ h => h).more fun _ _ e => .inl e
    have k2 := hbut.2.2.2.1.more (G := DF db mb rv d) fun g _ hg => hDF g hg
    have k3 := hC7.more (G := DF db mb rv d) fun g _ hg => hg.elim .inl fun e => .inr (.inl e)
    have kk := (k1.trans k2 fun _ _ h => h).trans k3 fun _ _ h => h
    have hnew : ∀ g, DF db mb (fun i => if i = k then .slice A5 (d.len k + x.length) k5 else rv i) (d.step.put k ⟨(d.fi k).bytes ++ x, (d.fi k).dur⟩) g → DF db mb rv d g ∨ w1.heap.size ≤ g := fun g hg => by
      rcases hg with e | e | ⟨i, hi, e⟩
      · exact .inl (.inl e)
      · exact .inl (.inr (.inl e))
      · replace e : (if i = k then Value.slice A5 (d.len k + x.length) k5 else rv i).ownBlock = some g := e
        by_cases hik : i = k
        · rw [if_pos hik] at e
          exact (hbut.2.2.2.2 g e).imp (hDF g) fun h => by omega
        · rw [if_neg hik] at e
          refine .inl (.inr (.inr ⟨i, ?_, e⟩))
          have hi' : (if i = k then (if ((d.fi k).bytes ++ x).length = 0 then none else some (⟨(d.fi k).bytes ++ x, (d.fi k).dur⟩ : Fi)) else d.step.fs i).isSome := hi
          rw [if_neg hik, s3] at hi'
          exact hi'
    first
      | exact ⟨rfl, _, h7, kk, hnew⟩
      | exact ⟨_, rfl, h7, kk, hnew⟩
end Go.Proofs.YtkndgmjlphppdaaGreatDoor
namespace Go.Proofs
open Go.RowKit Go.Sort Go.Shelf

def YtkndgmjlphppdaaGreatDoor.sortA_ren : Go.Shelf.Ren := ⟨fun | 5 => 73 | 7 => 99 | 8 => 100 | 10 => 118 | 11 => 119 | 12 => 120 | 13 => 121 | 14 => 122 | 15 => 123 | 16 => 124 | 17 => 125 | 18 => 126 | 19 => 127 | 20 => 128 | 30 => 156 | 31 => 157 | 32 => 158 | 33 => 159 | 34 => 160 | 35 => 161 | 40 => 190 | n => n, fun | 23 => 22 | 25 => 3 | 3 => 3 | 32 => 131 | 22 => 22 | 0 => 0 | 44 => 218 | 46 => 91 | 4 => 4 | 36 => 212 | 35 => 211 | 41 => 194 | 5 => 5 | 9 => 9 | 53 => 235 | 57 => 238 | 63 => 278 | 64 => 279 | n => n, fun | n => n⟩
theorem YtkndgmjlphppdaaGreatDoor.sortA : Go.Proofs.SlLaysM.n5 Tryz.prog YtkndgmjlphppdaaGreatDoor.sortA_ren :=
  { mixed := by kernel_rfl
    f5 := ⟨Tryz.f73.name, by decide, Tryz.func73.trans (congrArg some (by kernel_rfl))⟩
    f7 := ⟨Tryz.f99.name, by decide, Tryz.func99.trans (congrArg some (by kernel_rfl))⟩
    f8 := Tryz.func100.trans (congrArg some (by kernel_rfl))
    f10 := ⟨Tryz.f118.name, by decide, Tryz.func118.trans (congrArg some (by kernel_rfl))⟩
    f11 := ⟨Tryz.f119.name, by decide, Tryz.func119.trans (congrArg some (by kernel_rfl))⟩
    f12 := ⟨Tryz.f120.name, by decide, Tryz.func120.trans (congrArg some (by kernel_rfl))⟩
    f13 := ⟨Tryz.f121.name, by decide, Tryz.func121.trans (congrArg some (by kernel_rfl))⟩
    f14 := ⟨Tryz.f122.name, by decide, Tryz.func122.trans (congrArg some (by kernel_rfl))⟩
    f15 := ⟨Tryz.f123.name, by decide, Tryz.func123.trans (congrArg some (by kernel_rfl))⟩
    f16 := ⟨Tryz.f124.name, by decide, Tryz.func124.trans (congrArg some (by kernel_rfl))⟩
    f17 := ⟨Tryz.f125.name, by decide, Tryz.func125.trans (congrArg some (by kernel_rfl))⟩
    f18 := ⟨Tryz.f126.name, by decide, Tryz.func126.trans (congrArg some (by kernel_rfl))⟩
    f19 := Tryz.func127.trans (congrArg some (by kernel_rfl))
    f20 := Tryz.func128.trans (congrArg some (by kernel_rfl))
    f30 := ⟨Tryz.f156.name, by decide, Tryz.func156.trans (congrArg some (by kernel_rfl))⟩
    f31 := Tryz.func157.trans (congrArg some (by kernel_rfl))
    f32 := Tryz.func158.trans (congrArg some (by kernel_rfl))
    f33 := ⟨Tryz.f159.name, by decide, Tryz.func159.trans (congrArg some (by kernel_rfl))⟩
    f34 := ⟨Tryz.f160.name, by decide, Tryz.func160.trans (congrArg some (by kernel_rfl))⟩
    f35 := ⟨Tryz.f161.name, by decide, Tryz.func161.trans (congrArg some (by kernel_rfl))⟩
    f40 := ⟨Tryz.f190.name, by decide, Tryz.func190.trans (congrArg some (by kernel_rfl))⟩
    t0 := Tryz.underlying0
    a0 := Tryz.isAgg0
    z0 := Tryz.sizeOf0
    v0 := Tryz.zeroValue0
    t3 := Tryz.underlying3
    a3 := Tryz.isAgg3
    z3 := Tryz.sizeOf3
    v3 := Tryz.zeroValue3
    t4 := Tryz.underlying4
    a4 := Tryz.isAgg4
    z4 := Tryz.sizeOf4
    v4 := Tryz.zeroValue4
    t5 := Tryz.underlying5
    a5 := Tryz.isAgg5
    z5 := Tryz.sizeOf5
    v5 := Tryz.zeroValue5
    t9 := Tryz.underlying9
    a9 := Tryz.isAgg9
    z9 := Tryz.sizeOf9
    v9 := Tryz.zeroValue9
    t22 := Tryz.underlying22
    a22 := Tryz.isAgg22
    z22 := Tryz.sizeOf22
    v22 := Tryz.zeroValue22
    t23 := Tryz.underlying22
    a23 := Tryz.isAgg22
    z23 := Tryz.sizeOf22
    v23 := Tryz.zeroValue22
    t25 := Tryz.underlying3
    a25 := Tryz.isAgg3
    z25 := Tryz.sizeOf3
    v25 := Tryz.zeroValue3
    t32 := Tryz.underlying131
    a32 := Tryz.isAgg131
    z32 := Tryz.sizeOf131
    v32 := Tryz.zeroValue131
    t35 := Tryz.underlying211
    a35 := Tryz.isAgg211
    z35 := Tryz.sizeOf211
    v35 := Tryz.zeroValue211
    t36 := Tryz.underlying212
    a36 := Tryz.isAgg212
    z36 := Tryz.sizeOf212
    v36 := Tryz.zeroValue212
    t41 := Tryz.underlying194
    a41 := Tryz.isAgg194
    z41 := Tryz.sizeOf194
    v41 := Tryz.zeroValue194
    t44 := Tryz.underlying218
    a44 := Tryz.isAgg218
    z44 := Tryz.sizeOf218
    v44 := Tryz.zeroValue218
    t46 := Tryz.underlying91
    a46 := Tryz.isAgg91
    z46 := Tryz.sizeOf91
    v46 := Tryz.zeroValue91
    t53 := Tryz.underlying235
    a53 := Tryz.isAgg235
    z53 := Tryz.sizeOf235
    v53 := Tryz.zeroValue235
    t57 := Tryz.underlying238
    a57 := Tryz.isAgg238
    z57 := Tryz.sizeOf238
    v57 := Tryz.zeroValue238
    t63 := Tryz.underlying278
    a63 := Tryz.isAgg278
    z63 := Tryz.sizeOf278
    v63 := Tryz.zeroValue278
    t64 := Tryz.underlying279
    a64 := Tryz.isAgg279
    z64 := Tryz.sizeOf279
    v64 := Tryz.zeroValue279 }
end Go.Proofs
namespace Go.Proofs.YtkndgmjlphppdaaGreatDoor
open Go Go.RowKit Go.Sort

def iv (l : List Int) : List Value := l.map (Value.int .i64)
theorem sort_walk {w : World} {B : Nat} {v : Value} {zs : List Int} (h : w.ownsRow B 3 1 v zs.length (iv zs)) (hz : zs.length ≤ 1000000) :
    Calls Tryz.prog 73 #[v] w fun e w' => e = .returned (.tuple #[]) ∧ w'.ownsRow B 3 1 v zs.length (iv (zs.mergeSort fun x y => decide (x ≤ y))) ∧ Chg (fun g => v.ownBlock = some g) w w' := by
  rcases h.2 with ⟨rfl, h0⟩ | ⟨g, cap, cur, rfl, h2, h3, h4, h5, h6, h7⟩
  · have hz0 : zs = [] := List.length_eq_zero_iff.1 h0
    subst hz0
    refine (AnyM.slices_Sort_int_none YtkndgmjlphppdaaGreatDoor.sortA none 0 w).mono ?_
    rintro e w' ⟨rfl, rfl⟩
    exact ⟨rfl, by simpa [iv] using h, Chg.refl _ _⟩
  · have hlt := (Array.getElem?_eq_some_iff.1 h3).1
    have hH : Holds (Value.int .i64) w g 0 zs.toArray := fun j hj => by
      have hj' : j < zs.length := by simpa using hj
      have hc := h.cells (g := g) rfl j (.int .i64 zs[j]) (by simp [iv, List.getElem?_eq_getElem hj'])
      rw [add_flat] at hc
      refine ⟨by rw [hc]; simp [hj'], ?_⟩
      simp [World.frozen?, h3]
    refine (AnyM.slices_Sort_int YtkndgmjlphppdaaGreatDoor.sortA g 0 cap zs w hH hlt (by omega)).mono ?_
    rintro e w' ⟨rfl, n, os, rfl⟩
    obtain ⟨ss, hss⟩ : ∃ ss, zs.mergeSort (fun x y => decide (x ≤ y)) = ss := ⟨_, rfl⟩
    have hsl : ss.length = zs.length := by rw [← hss, List.length_mergeSort]
    rw [hss]
    refine ⟨rfl, ?_, ?_⟩
    · refine ⟨by simp [iv, hsl], .inr ⟨g, cap, putCells (Value.int .i64) 0 ss.toArray cur, rfl, h2, ?_, h4, h5, by simp [putCells, h6], ?_⟩⟩
      · rw [heap_grow_old _ _ (by simp [hlt])]
        simp [putRow, mapBlock, Array.getElem?_modify, h3, onCells]
      · refine List.ext_getElem? fun i => ?_
        have hcz : zs.length ≤ cur.size := by omega
        rcases Nat.lt_or_ge i zs.length with hi | hi
        · rw [List.getElem?_take_of_lt (by omega)]
          have hi2 : i < ss.length := by omega
          have hi3 : i < cur.size := by omega
          simp [putCells, iv, hi2, hi3]
        · rw [List.getElem?_eq_none (by rw [List.length_take]; omega), List.getElem?_eq_none (by simp [iv]; omega)]
    · refine ⟨rfl, rfl, rfl, by simp, fun k hk hne => ?_⟩
      rw [heap_grow_old _ _ (by simp [hk])]
      have hne' : g ≠ k := fun e => hne (by rw [e]; rfl)
      simp [putRow, mapBlock, Array.getElem?_modify, hne']
end Go.Proofs.YtkndgmjlphppdaaGreatDoor
namespace Go.Proofs.YtkndgmjlphppdaaGreatDoor
open Go Go.RowKit Go.Imap Go.ChangeMaps

def kv (ks : List Nat) : List Value := ks.map fun k : Nat => Value.int .i64 (k : Int)
/-- the files that are there -/
def keysOf (d : Dk) : List Nat := (List.range 64).filter fun k => (d.fs k).isSome
theorem keysOf_len (d : Dk) : (keysOf d).length ≤ 64 := by
  have := List.length_filter_le (fun k => (d.fs k).isSome) (List.range 64)
  simpa [keysOf] using this
theorem mem_keysOf {d : Dk} (hd : d.WF) (k : Nat) : k ∈ keysOf d ↔ (d.fs k).isSome := by
  unfold keysOf
  rw [List.mem_filter, List.mem_range]
  refine ⟨fun h => h.2, fun h => ⟨?_, h⟩⟩
  obtain ⟨f, hf⟩ := Option.isSome_iff_exists.1 h
  exact (hd.key k f hf)
theorem keys_sorted {d : Dk} (hd : d.WF) {ks : List Nat} (hn : ks.Nodup) (hm : ∀ k, k ∈ ks ↔ (d.fs k).isSome) :
    (ks.map fun k : Nat => (k : Int)).mergeSort (fun x y => decide (x ≤ y)) = (keysOf d).map fun k : Nat => (k : Int) := by
  have hp : ks.Perm (keysOf d) := (List.perm_ext_iff_of_nodup hn (List.nodup_range.filter _)).2 fun k => (hm k).trans (mem_keysOf hd k).symm
  have h1 := List.mergeSort_perm (ks.map fun k : Nat => (k : Int)) (fun x y => decide (x ≤ y))
  have h2 := List.pairwise_mergeSort (le := fun x y : Int => decide (x ≤ y)) (fun a b c h k => by simp at h k ⊢; omega) (fun a b => by simp; omega) (ks.map fun k : Nat => (k : Int))
  refine List.Perm.eq_of_pairwise (le := fun x y : Int => x ≤ y) (fun a b _ _ h k => Int.le_antisymm h k) (h2.imp fun h => by simpa using h) ?_ (h1.trans (hp.map _))
  refine List.Pairwise.map _ (R := fun a b : Nat => a < b) (fun a b h => by omega) ?_
  exact (List.pairwise_lt_range (n := 64)).filter _
/-- what the loop over the map keeps -/
structure Seen (es : List MapEntry) (seen : Array Nat) (ks : List Nat) : Prop where
  nd : ks.Nodup
  lt : ∀ k ∈ ks, k < 64
  into : ∀ k ∈ ks, ∃ x ∈ es, x.key = .int .i64 (k : Int) ∧ seen.contains x.born = true
  out : ∀ x ∈ es, seen.contains x.born = true → ∃ k ∈ ks, x.key = .int .i64 (k : Int)
theorem Seen.start (es : List MapEntry) : Seen es #[] [] := ⟨List.nodup_nil, by simp, by simp, fun x _ h => by simp at h⟩
theorem Seen.push {es : Array MapEntry} {seen : Array Nat} {ks : List Nat} (h : Seen es.toList seen ks) (hb : (es.toList.map (·.born)).Nodup) (hk : (es.toList.map (·.key)).Nodup) {e : MapEntry} (he : e ∈ (leftOf es seen).toList) {s : Nat} (hs : s < 64) (hes : e.key = .int .i64 (s : Int)) : Seen es.toList (seen.push e.born) (ks ++ [s]) := by
  obtain ⟨he1, he2⟩ := mem_left he
  have hinj : ∀ x ∈ es.toList, x.key = e.key → x = e := by
    intro x hx hxe
    have key : ∀ l : List MapEntry, (l.map (·.key)).Nodup → x ∈ l → e ∈ l → x = e := by
      intro l
      induction l with
      | nil => intro _ h; simp at h
      | cons a t ih =>
        intro hn h1 h2
        simp only [List.map_cons, List.nodup_cons] at hn
        rcases List.mem_cons.1 h1 with rfl | h3
        · rcases List.mem_cons.1 h2 with rfl | h2
          · rfl
          · exact absurd (show x.key ∈ t.map (·.key) from List.mem_map.2 ⟨e, h2, hxe.symm⟩) hn.1
        · rcases List.mem_cons.1 h2 with rfl | h2
          · exact absurd (show e.key ∈ t.map (·.key) from List.mem_map.2 ⟨x, h3, hxe⟩) hn.1
          · exact ih hn.2 h3 h2
    exact key _ hk hx he1
  refine ⟨?_, ?_, ?_, ?_⟩
  · refine List.nodup_append.2 ⟨h.nd, by simp, fun a ha b hb' => ?_⟩
    simp only [List.mem_singleton] at hb'
    subst hb'
    rintro rfl
    obtain ⟨x, hx, hxk, hxs⟩ := h.into a ha
    have := hinj x hx (hxk.trans hes.symm)
    subst this
    rw [he2] at hxs
    cases hxs
  · intro k hk'
    rcases List.mem_append.1 hk' with h1 | h1
    · exact h.lt k h1
    · rw [List.mem_singleton.1 h1]; exact hs
  · intro k hk'
    rcases List.mem_append.1 hk' with h1 | h1
    · obtain ⟨x, hx, hxk, hxs⟩ := h.into k h1
      exact ⟨x, hx, hxk, by rw [contains_push, hxs]; rfl⟩
    · rw [List.mem_singleton.1 h1]
      exact ⟨e, he1, hes, by rw [contains_push]; simp⟩
  · intro x hx hc
    rw [contains_push] at hc
    rcases Bool.or_eq_true _ _ ▸ hc with h1 | h1
    · obtain ⟨k, hk1, hk2⟩ := h.out x hx h1
      exact ⟨k, List.mem_append_left _ hk1, hk2⟩
    · have := born_inj hb hx he1 (beq_iff_eq.1 h1)
      subst this
      exact ⟨s, by simp, hes⟩
theorem Seen.few {es : List MapEntry} {seen : Array Nat} {ks : List Nat} (h : Seen es seen ks) : ks.length ≤ 64 := few_below 64 ks h.nd h.lt
theorem map_len {P : Program} {w : World} {b : Nat} {es : Array MapEntry} {cl : Nat} (hb : w.heap[b]? = some (.map es cl)) {t k e : TypeId} (ht : P.underlying t = some (.map k e)) (ty : TypeId) : (Builtin.len_ #[t] ty #[.map (some b)]).run P w = .ok (.int .i64 (es.size : Int)) w := by
  simp [Builtin.len_, run_underlying ht, MapKept.run_getObj_map hb, goInt, Result.andThen]
theorem iter_row {w : World} {base : Nat} {e : TypeId} {size : Nat} {v : Value} {n : Nat} {xs : List Value} (h : w.ownsRow base e size v n xs) {r : Nat} {m : Option Nat} {s c : Nat} {seen : Array Nat} (hr : w.heap[r]? = some (.mapIter m s seen c)) : v.ownBlock ≠ some r := by
  rcases h.2 with ⟨rfl, _⟩ | ⟨g', cap, cur, rfl, _, h3, _⟩
  · intro e; cases e
  · intro he
    cases he
    have e := h3.symm.trans hr
    cases e
theorem heap_setBlock_same {w : World} {r : Nat} (hr : r < w.heap.size) (o : Obj) : (setBlock w r o).heap[r]? = some o := by simp [setBlock, hr]
theorem heap_setBlock_ne {w : World} {r k : Nat} (hk : k ≠ r) (o : Obj) : (setBlock w r o).heap[k]? = w.heap[k]? := by
  have e : r ≠ k := fun e => hk e.symm
  simp [setBlock, Array.getElem?_setIfInBounds, e]
theorem size_setBlock (w : World) (r : Nat) (o : Obj) : (setBlock w r o).heap.size = w.heap.size := by simp [setBlock]
theorem row_setBlock {w : World} {base : Nat} {e : TypeId} {size : Nat} {v : Value} {n : Nat} {xs : List Value} (h : w.ownsRow base e size v n xs) {r : Nat} (hr : v.ownBlock ≠ some r) (o : Obj) : (setBlock w r o).ownsRow base e size v n xs := by
  refine ⟨h.1, h.2.imp id ?_⟩
  rintro ⟨g, cap, cur, rfl, h2, h3, h4⟩
  exact ⟨g, cap, cur, rfl, h2, (heap_setBlock_ne (fun e => hr (by rw [← e]; rfl)) o).trans h3, h4⟩
theorem below_setBlock {B : Nat} {w w1 : World} (h : Below B w w1) {r : Nat} (hr : B ≤ r) (o : Obj) : Below B w (setBlock w1 r o) :=
  ⟨h.os, h.tape, h.output, by rw [size_setBlock]; exact h.size, fun k hk => (heap_setBlock_ne (by omega) o).trans (h.block k hk)⟩
set_option maxRecDepth 1000000 in
set_option maxHeartbeats 4000000 in
theorem files_walk {w : World} {B db mb : Nat} {rv : Nat → Value} {d : Dk} (h : DkAt w B db mb rv d) :
    Calls Tryz.prog 49 #[.pointer (some ⟨db, 0, none⟩)] w fun e w' => ∃ v, e = .returned v ∧ w'.ownsRow w.heap.size 3 1 v (keysOf d).length (kv (keysOf d)) ∧ Below w.heap.size w w' := by
  obtain ⟨i0, hi0, hz0, hz1, hz2⟩ := info_parts' infoInt
  have hb := h.blk
  have hwf := h.wf
  obtain ⟨es, cl, hm0, hm1, hm2, hm3, hm4, hm5⟩ := h.map
  have c2 := hb.at' 2
  simp at c2
  have hlt := hb.lt
  have hmlt := (Array.getElem?_eq_some_iff.1 hm0).1
  have hes := IMap.size hm3 hm4
  have hlen := map_len (P := Tryz.prog) hm0 Tryz.underlying60 3
  obtain ⟨wm, hmk, hmrow, hmg⟩ := run_make_own (P := Tryz.prog) w w.heap.size 22 3 i0 _ 1 Tryz.underlying22 hi0 hz0 hz1 .i64 .i64 es.size (by rw [hz2]; omega) (by unfold maxLen; omega) (Nat.le_refl _)
  have hmm : wm.heap[mb]? = some (.map es cl) := (hmg.block mb hmlt (fun e => by cases e)).trans hm0
  have hbm : Blk wm db 62 _ := hb.grown hmg (fun e => by cases e)
  have cm2 := hbm.at' 2
  simp at cm2
  have hrg := run_range_map (P := Tryz.prog) wm 60 3 96 mb es cl Tryz.underlying60 hmm
  go_enter Tryz.func49, Tryz.ntmps49
  go_wp2
  have hwm := hmg.size
  obtain ⟨S, hS⟩ : ∃ S, wm.heap.size = S := ⟨_, rfl⟩
  have hS1 : (wm.alloc (.mapIter (some mb) cl #[] cl)).heap.size = S + 1 := by rw [World.size_alloc, hS]
  have hmS : mb < S := by omega
  have hbS : db < S := by omega
  have hBel0 : Below w.heap.size w (wm.alloc (.mapIter (some mb) cl #[] cl)) := ((Below.refl _ w).grown hmg (Nat.le_refl _) (fun k e => by cases e)).alloc (by omega) _
  have hit0 : (wm.alloc (.mapIter (some mb) cl #[] cl)).heap[S]? = some (.mapIter (some mb) cl #[] cl) := by rw [← hS]; exact heap_alloc_new _ _
  have hrow0 := hmrow.alloc (.mapIter (some mb) cl #[] cl)
  obtain ⟨v0, hv0⟩ : ∃ v, Value.slice (some ⟨w.heap.size, 0, none⟩) 0 es.size = v := ⟨_, rfl⟩
  obtain ⟨S0, hS0⟩ : ∃ S0, w.heap.size = S0 := ⟨_, rfl⟩
  obtain ⟨W0, hW0⟩ : ∃ W0, wm.alloc (.mapIter (some mb) cl #[] cl) = W0 := ⟨_, rfl⟩
  rw [hv0, hS0] at hrow0
  rw [hS0] at hBel0 hwm
  rw [hW0] at hrow0 hBel0 hit0 hS1
  rw [hv0, hS, hW0]
  clear hmk hmrow hmg hbm hrg hW0 hv0 hmm cm2 hlen
  go_loopw [3] (fun vv wr => ∃ (ks : List Nat) (seen : Array Nat), wr.heap[S]? = some (.mapIter (some mb) cl seen cl) ∧ wr.ownsRow S0 3 1 vv ks.length (kv ks) ∧ Below S0 w wr ∧ S < wr.heap.size ∧ Hid (Seen es.toList seen ks)) (fun _ wr => (leftOf es (wr.iterSeen S)).size)
  case atStart => exact ⟨[], #[], hit0, hrow0, hBel0, by omega, Seen.start _⟩
  case round =>
    obtain ⟨ks, seen, hit, hrow, hBel, hSlt, hSn⟩ := hrel
    have hmr : wr.heap[mb]? = some (.map es cl) := (hBel.block mb (by omega)).trans hm0
    have law := run_next_at (P := Tryz.prog) wr 0 S mb cl cl seen es cl hit hmr hm1 (Nat.le_refl _)
    have hfew := hSn.out.few
    have hwz := hBel.size
    rcases law with ⟨h0, hrun⟩ | ⟨e, he, w1, hw1, hrun⟩
    · have hall := all_seen es seen h0
      have hmem : ∀ k, k ∈ ks ↔ (d.fs k).isSome := by
        intro k
        refine ⟨fun hk => ?_, fun hk => ?_⟩
        · obtain ⟨x, hx, hxk, _⟩ := hSn.out.into k hk
          obtain ⟨s, hs, hxs, hf⟩ := hm4 x hx
          have : k = s := by rw [hxk] at hxs; cases hxs; omega
          subst this
          cases hd : d.fs k with
          | none => rw [hd] at hf; cases hf
          | some f => rfl
        · obtain ⟨f, hf⟩ := Option.isSome_iff_exists.1 hk
          obtain ⟨x, hx, hxk⟩ := hm5 k (fcell' (rv k) f) (by rw [hf]; rfl)
          obtain ⟨k', hk', hxk'⟩ := hSn.out.out x hx (hall x hx)
          have : k = k' := by rw [hxk] at hxk'; cases hxk'; omega
          subst this
          exact hk'
      have hsrt := Lib.hid (keys_sorted hwf hSn.out.nd hmem)
      have hiv : kv ks = iv (ks.map fun k : Nat => (k : Int)) := by simp [kv, iv, Function.comp_def]
      have hrow' : wr.ownsRow S0 3 1 u3 (ks.map fun k : Nat => (k : Int)).length (iv (ks.map fun k : Nat => (k : Int))) := by rw [← hiv, List.length_map]; exact hrow
      have hsort := sort_walk hrow' (by rw [List.length_map]; omega)
      obtain ⟨zs, hzs⟩ : ∃ zs, (ks.map fun k : Nat => (k : Int)) = zs := ⟨_, rfl⟩
      rw [hzs] at hsort hsrt hrow'
      clear hall hmem hm1 hm2 hm3 hm4 hm5 hSn hiv hzs hrow
      have hub := World.ownsRow.lt hrow'
      go_wp2_with (first
        | (go_at_call 73; refine hsort.mono ?_; rintro _ w4 ⟨rfl, hrow4, hC4⟩)
        | go_in)
      go_ret
      have hlen : zs.length = (keysOf d).length := by
        have := congrArg List.length hsrt.out
        rw [List.length_mergeSort, List.length_map] at this
        exact this
      rw [hsrt.out, hlen] at hrow4
      rw [← hS0] at hrow4 hBel
      refine ⟨_, rfl, by simpa [iv, kv, Function.comp_def] using hrow4, hBel.trans (hC4.to_below (by omega) fun i _ hi => by have := (hub i hi).1; omega)⟩
    · obtain ⟨he1, he2⟩ := mem_left he
      obtain ⟨s, hs, hek, _⟩ := hm4 e he1
      have hSn2 := Lib.hid (hSn.out.push hm2 hm3 he hs hek)
      have hfew2 := hSn2.out.few
      rw [List.length_append] at hfew2
      simp only [List.length_singleton] at hfew2
      have hlst := left_shrinks es seen e he
      have hB1 : Below S0 w w1 := by rcases hw1 with rfl | rfl; exact hBel; exact hBel.drew
      have hh1 : w1.heap = wr.heap := by rcases hw1 with rfl | rfl <;> rfl
      have hrow1 : w1.ownsRow S0 3 1 u3 ks.length (kv ks) := by rcases hw1 with rfl | rfl; exact hrow; exact hrow.drew
      clear hw1
      have hit1 : w1.heap[S]? = some (.mapIter (some mb) cl seen cl) := by rw [hh1]; exact hit
      have hS1' : S < w1.heap.size := by rw [hh1]; exact hSlt
      have hrow2 := row_setBlock hrow1 (iter_row hrow1 hit1) (.mapIter (some mb) cl (seen.push e.born) cl)
      have hB2 := below_setBlock hB1 (r := S) (by omega) (.mapIter (some mb) cl (seen.push e.born) cl)
      have hit2 := heap_setBlock_same hS1' (.mapIter (some mb) cl (seen.push e.born) cl)
      have hmr2 : (setBlock w1 S (.mapIter (some mb) cl (seen.push e.born) cl)).heap[mb]? = some (.map es cl) := (heap_setBlock_ne (by omega) _).trans (by rw [hh1]; exact hmr)
      have hsz2 := size_setBlock w1 S (.mapIter (some mb) cl (seen.push e.born) cl)
      have hen := run_entry_at (P := Tryz.prog) _ S mb cl seen es cl e hit2 hmr2 he1 hm2
      rw [hek] at hen hrun
      obtain ⟨W2, hW2⟩ : ∃ W2, setBlock w1 S (.mapIter (some mb) cl (seen.push e.born) cl) = W2 := ⟨_, rfl⟩
      rw [hW2] at hen hrun hrow2 hB2 hit2 hsz2
      have hS2 : S < W2.heap.size := by rw [hsz2]; exact hS1'
      have hm0' : W2.iterSeen S = seen.push e.born := by unfold World.iterSeen; rw [hit2]
      have hr0' : wr.iterSeen S = seen := by unfold World.iterSeen; rw [hit]
      have HS := Lib.hid hr0'
      have hub1 := hB2.size
      have hit3 := iter_row hrow2 hit2
      clear hm1 hm2 hm3 hm4 hm5 hSn hmr hmr2 hW2 hsz2 hh1 hm0' hr0' hS1' hrow1 hit1 hB1
      have hub := World.ownsRow.lt hrow2
      go_wp2_with (first
        | (at_builtin; refine wpList_append_own_at _ rfl _ _ 22 rfl S0 3 i0 (.int .i64 0) 1 8 Tryz.underlying22 hi0 hz0 hz1 hz2 rfl (by decide) _ _ _ rfl (hrow2.alloc _) ⟨W2.heap.size, 0, none⟩ 1 1 [.int .i64 (s : Int)] rfl rfl (cell_one_new _ _ _) (by simp [Value.oneCell']) (by unfold maxLen; omega) (by omega) (by have := hB2.size; simp; omega) ?_; intro v5 w5 hrow5 hgrow5 _ hown5)
        | go_in)
      have hit5 : w5.heap[S]? = some (.mapIter (some mb) cl (seen.push e.born) cl) := (hgrow5.block S (by simp; omega) (fun e => hit3 e.symm)).trans ((heap_alloc_old W2 _ hS2).trans hit2)
      have hs5 := hgrow5.size
      have hB5 : Below S0 w w5 := (hB2.alloc (by omega) _).grown hgrow5 (by simp; omega) (fun k hk => (hub k hk).1)
      refine ⟨⟨ks ++ [s], seen.push e.born, hit5, ?_, hB5, by simp at hs5; omega, hSn2⟩, ?_⟩
      · rw [List.length_append]
        simpa [kv] using hrow5
      · rw [show w5.iterSeen S = seen.push e.born by unfold World.iterSeen; rw [hit5], HS.out]
        exact hlst
end Go.Proofs.YtkndgmjlphppdaaGreatDoor
namespace Go.Proofs.YtkndgmjlphppdaaGreatDoor
open Go Go.RowKit Go.Imap Go.ChangeMaps

def hardF (f : Fi) : Fi := { f with dur := f.bytes.length }
/-- the files of a list made durable -/
def Dk.hl (d : Dk) (L : List Nat) : Dk := { d with fs := fun u => if u ∈ L then (d.fs u).map hardF else d.fs u }
theorem Dk.hl_nil (d : Dk) : d.hl [] = d := by simp [Dk.hl]
theorem Dk.hl_keys {d : Dk} (h : d.WF) : d.hl (keysOf d) = d.harden := by
  unfold Dk.hl Dk.harden
  congr 1
  funext u
  show (if u ∈ keysOf d then (d.fs u).map hardF else d.fs u) = (d.fs u).map hardF
  split
  · rfl
  · rename_i hu
    rw [mem_keysOf h] at hu
    cases hf : d.fs u with
    | none => rfl
    | some f => rw [hf] at hu; exact absurd rfl hu
theorem Dk.hl_isSome (d : Dk) (L : List Nat) (u : Nat) : ((d.hl L).fs u).isSome = (d.fs u).isSome := by
  show (if u ∈ L then (d.fs u).map hardF else d.fs u).isSome = _
  split <;> simp
theorem Dk.hl_bytes {d : Dk} {L : List Nat} {u : Nat} {f : Fi} (h : (d.hl L).fs u = some f) : ∃ g, d.fs u = some g ∧ f.bytes = g.bytes ∧ (f.dur = g.dur ∨ f.dur = g.bytes.length) := by
  have h' : (if u ∈ L then (d.fs u).map hardF else d.fs u) = some f := h
  split at h'
  · obtain ⟨g, hg, rfl⟩ := Option.map_eq_some_iff.1 h'
    exact ⟨g, hg, rfl, .inr rfl⟩
  · exact ⟨f, h', rfl, .inl rfl⟩
theorem Dk.WF.hl {d : Dk} (h : d.WF) (L : List Nat) : (d.hl L).WF := by
  refine ⟨fun k f hf => ?_, fun k f hf => ?_, h.room, h.used, h.left⟩
  · obtain ⟨g, hg, _⟩ := Dk.hl_bytes hf
    exact h.key k g hg
  · obtain ⟨g, hg, e, hd⟩ := Dk.hl_bytes hf
    have := h.dur k g hg
    rw [e]
    refine ⟨?_, this.2⟩
    rcases hd with hd | hd
    · rw [hd]; exact this.1
    · rw [hd]; exact Nat.le_refl _
section
variable {w w1 : World} {B db mb : Nat} {rv : Nat → Value} {d : Dk}
/-- the map has changed, and what it says of the files' lengths that are durable -/
theorem DkAt.redur (h : DkAt w B db mb rv d) {d' : Dk} (hc : Chg (Only mb) w w1) (hm : IMap w1 mb fun k => (d'.fs k).map (fcell' (rv k))) (he : d'.room = d.room ∧ d'.used = d.used ∧ d'.off = d.off ∧ d'.armed = d.armed ∧ d'.left = d.left)
    (hf : ∀ u f, d'.fs u = some f → ∃ g, d.fs u = some g ∧ f.bytes = g.bytes) (hwf : d'.WF) : DkAt w1 B db mb rv d' := by
  obtain ⟨e1, e2, e3, e4, e5⟩ := he
  refine ⟨?_, hm, fun u f hu => ?_, fun j k hj hk hjk => ?_, hwf⟩
  · rw [e1, e2, e3, e4, e5]
    exact h.blk.chg hc fun e => h.ne e
  · obtain ⟨g, hg, eb⟩ := hf u f hu
    rw [eb]
    exact row_chg (h.row u g hg) hc fun i hi e => (h.row_ne (by rw [hg]; rfl)).2 (by rw [hi, show i = mb from e])
  · obtain ⟨fj, hj⟩ := Option.isSome_iff_exists.1 hj
    obtain ⟨fk, hk⟩ := Option.isSome_iff_exists.1 hk
    obtain ⟨gj, hgj, _⟩ := hf j fj hj
    obtain ⟨gk, hgk, _⟩ := hf k fk hk
    exact h.apart j k (by rw [hgj]; rfl) (by rw [hgk]; rfl) hjk
end
set_option maxRecDepth 1000000 in
set_option maxHeartbeats 4000000 in
theorem harden_walk {w : World} {B db mb : Nat} {rv : Nat → Value} {d : Dk} (h : DkAt w B db mb rv d) :
    Calls Tryz.prog 52 #[.pointer (some ⟨db, 0, none⟩)] w fun e w' => e = .returned (.tuple #[]) ∧ DkAt w' B db mb rv d.harden ∧ Chg (Only mb) w w' := by
  have hfi := files_walk h
  have hwf := h.wf
  have hkl := keysOf_len d
  have hmlt := h.map.lt
  have hlt := h.blk.lt
  obtain ⟨ks, hks⟩ : ∃ ks, keysOf d = ks := ⟨_, rfl⟩
  have hK := Lib.hid (And.intro hks (hks ▸ Dk.hl_keys hwf))
  rw [hks] at hfi hkl
  go_enter Tryz.func52, Tryz.ntmps52
  go_wp2_with (first
    | (go_at_call 49; refine hfi.mono ?_; rintro _ w1 ⟨v, rfl, hrow1, hB1⟩; obtain ⟨A, c, rfl, hnc⟩ := row_form hrow1; have hd1 := h.bel hB1)
    | go_in)
  go_loopw [8] (fun iv wr => ∃ i : Nat, iv = .int .i64 (i : Int) ∧ i ≤ ks.length ∧ DkAt wr B db mb rv (d.hl (ks.take i)) ∧ wr.ownsRow w.heap.size 3 1 (.slice A ks.length c) ks.length (kv ks) ∧ Chg (Only mb) w wr) (fun iv _ => ks.length - (intOf iv).toNat)
  case atStart => exact ⟨0, rfl, Nat.zero_le _, by simpa [Dk.hl_nil] using hd1, hrow1, Chg.of_below hB1⟩
  case round =>
    obtain ⟨i, rfl, hi, hdk, hrow, hC⟩ := hrel
    by_cases hin : i < ks.length
    · obtain ⟨k, hk⟩ : ∃ k, ks[i] = k := ⟨_, rfl⟩
      have hki : ks[i]? = some k := by rw [List.getElem?_eq_getElem hin, hk]
      have hkm : (d.fs k).isSome := (mem_keysOf hwf k).1 (by rw [hK.out.1]; exact List.mem_of_getElem? hki)
      obtain ⟨f, hf⟩ := Option.isSome_iff_exists.1 hkm
      have hk64 := hwf.key k f hf
      have hcell : ∃ g, A = some ⟨g, 0, none⟩ ∧ wr.cell? ⟨g, i, none⟩ = some (.int .i64 (k : Int)) ∧ w.heap.size ≤ g ∧ g < wr.heap.size := by
        rcases hrow.2 with ⟨h1, _⟩ | ⟨g, cap, cur, h1, h2, h3, _⟩
        · have e := (Value.slice.inj h1).2.1
          omega
        · cases h1
          have := hrow.cells (g := g) rfl i (.int .i64 (k : Int)) (by simp [kv, hki])
          rw [add_flat] at this
          exact ⟨g, rfl, by simpa using this, h2, (Array.getElem?_eq_some_iff.1 h3).1⟩
      obtain ⟨g, rfl, hcell, hg1, hg2⟩ := hcell
      have hd1 := Lib.hid hd1
      obtain ⟨A1, c1, ho, _, hrv⟩ := hdk.old k
      have hlk := look_file hdk.map hk64 ho wr rfl
      have hb := hdk.blk
      have c2' := hb.at' 2
      simp at c2'
      have hlen : (d.hl (ks.take i)).len k = f.bytes.length := by
        have hsm : ((d.hl (ks.take i)).fs k).isSome := by rw [Dk.hl_isSome]; exact hkm
        obtain ⟨f', hf'⟩ := Option.isSome_iff_exists.1 hsm
        obtain ⟨g', hg', e, _⟩ := Dk.hl_bytes hf'
        rw [hf] at hg'
        cases hg'
        unfold Dk.len Dk.fi
        rw [hf']
        exact congrArg List.length e
      have hrv' := hrv (by rw [Dk.hl_isSome]; exact hkm)
      have HX := Lib.hid (And.intro hlen hrv')
      clear hrv
      go_wp2
      have hbox0 := Blk.made wr 96 #[.slice A1 f.bytes.length c1, .int .i64 (f.bytes.length : Int)]
      have hW := (Chg.refl (Only mb) wr).alloc (.cells #[.slice A1 f.bytes.length c1, .int .i64 (f.bytes.length : Int)] 96)
      have hdk1 := hdk.alloc (.cells #[.slice A1 f.bytes.length c1, .int .i64 (f.bytes.length : Int)] 96)
      obtain ⟨W1, hW1⟩ : ∃ W1, wr.alloc (.cells #[.slice A1 f.bytes.length c1, .int .i64 (f.bytes.length : Int)] 96) = W1 := ⟨_, rfl⟩
      rw [hW1] at hbox0 hW hdk1 ⊢
      clear hW1
      have hblk1 := hdk1.blk
      have p2 := hblk1.at' 2
      have q0 := hbox0.at' 0
      have q1 := hbox0.at' 1
      simp at p2 q0 q1
      obtain ⟨o, hrun, hmap2⟩ := ((hdk1.map).same (w' := W1.drew) rfl).update Tryz.underlying60 Tryz.underlying3 hk64 (.agg #[.slice A1 f.bytes.length c1, .int .i64 (f.bytes.length : Int)])
      clear hlen hrv' hd1 hb
      go_wp2
      go_region
      have hch2 : Chg (Only mb) W1 (setBlock W1.drew mb o) := ((Chg.refl (Only mb) W1).drew).trans (chg_setBlock W1.drew mb o) fun _ _ e => e
      have hC2 : Chg (Only mb) w (setBlock W1.drew mb o) := (hC.trans hW fun _ _ e => e).trans hch2 fun _ _ e => e
      have hrow2 : (setBlock W1.drew mb o).ownsRow w.heap.size 3 1 (.slice (some ⟨g, 0, none⟩) ks.length c) ks.length (kv ks) := row_chg hrow (hW.trans hch2 fun _ _ e => e) fun x hx e => by
        cases hx
        have : g = mb := e
        omega
      have htk : ks.take (i + 1) = ks.take i ++ [k] := by rw [List.take_add_one, hki]; rfl
      have hdk2 : DkAt (setBlock W1.drew mb o) B db mb rv (d.hl (ks.take (i + 1))) := by
        refine hdk1.redur hch2 (hmap2.ext fun u => ?_) ⟨rfl, rfl, rfl, rfl, rfl⟩ (fun u f' hf' => ?_) (hwf.hl _)
        · rw [htk]
          show (if u = k then some _ else ((if u ∈ ks.take i then (d.fs u).map hardF else d.fs u)).map (fcell' (rv u))) = (if u ∈ ks.take i ++ [k] then (d.fs u).map hardF else d.fs u).map (fcell' (rv u))
          by_cases hu : u = k
          · subst hu
            rw [if_pos rfl, if_pos (by simp), hf]
            simp only [Option.map_some, fcell', hardF]
            rw [← HX.out.1, HX.out.2]
          · rw [if_neg hu]
            have : (u ∈ ks.take i ++ [k]) = (u ∈ ks.take i) := by simp [hu]
            simp only [this]
        · obtain ⟨g', hg', e, _⟩ := Dk.hl_bytes hf'
          by_cases hu : u ∈ ks.take i
          · exact ⟨hardF g', by show (if u ∈ ks.take i then (d.fs u).map hardF else d.fs u) = _; rw [if_pos hu, hg']; rfl, e⟩
          · exact ⟨g', by show (if u ∈ ks.take i then (d.fs u).map hardF else d.fs u) = _; rw [if_neg hu, hg'], e⟩
      obtain ⟨W2, hW2⟩ : ∃ W2, setBlock W1.drew mb o = W2 := ⟨_, rfl⟩
      rw [hW2] at hC2 hrow2 hdk2 ⊢
      clear hW2 hch2 hrun hmap2 hlk
      go_wp2
      go_roundw
      case rel => exact ⟨i + 1, by go_num, by omega, hdk2, hrow2, hC2⟩
      case measure => simp [intOf]; omega
    · have hie : i = ks.length := by omega
      subst hie
      rw [List.take_length, hK.out.2] at hdk
      go_wp2
      go_end0
      exact ⟨rfl, hdk, hC⟩
end Go.Proofs.YtkndgmjlphppdaaGreatDoor
