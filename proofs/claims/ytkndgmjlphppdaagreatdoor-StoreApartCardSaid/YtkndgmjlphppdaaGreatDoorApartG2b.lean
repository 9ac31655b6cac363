/-
  A slice of numbers and a slice of truth values that are arguments of a law: what they hold before the call, and that they read behind it as before.
  A round of StoreApart's first loop, plain: what is kept.
-/
import Derived.Test.YtkndgmjlphppdaaGreatDoorApartG2a
import Derived.WalkKit
import Derived.Carry
import Derived.ProofKit
import Derived.OpenShut
import Derived.Deep.Grids
namespace Go.Proofs.YtkndgmjlphppdaaGreatDoor
open Go Go.ChangeShapes Go.WideShapes Go.ChangeAt Go.RowKit Go.Deep

/-! ### A slice of numbers, read before the call and behind it -/
theorem cellsBool : Tryz.prog.cellsOf 4 = 1 := by kernel_rfl
theorem cellsInt : Tryz.prog.cellsOf 3 = 1 := by kernel_rfl
section
variable {H : Type} {enc : TypeId × Value → H}
set_option maxRecDepth 100000 in
theorem read_ints {W : World} {base : Nat} {v : Value} {d : DataW H} {ps : List MemPlace} (hval : Value.okWide Tryz.prog W .any base 22 v) (h : DataW.Trod enc Tryz.prog W 0 (fun _ => true) true 22 v d ps) :
    ∃ l, SlArg W v l ∧ ∀ W' : World, (∀ b, b < W.heap.size → W'.heap[b]? = W.heap[b]?) → DataW.Trod enc Tryz.prog W' 0 (fun b => decide (b < W.heap.size)) true 22 v d ps := by
  obtain ⟨a0, len, cap, rfl⟩ := okWide_slice Tryz.underlying22 hval
  obtain ⟨fuel, hf⟩ := h
  rcases open_ints Tryz.underlying22 Tryz.underlying3 cellsInt hf with ⟨hcs, hx⟩ | ⟨a, len', cap', zs, hcs, _, hl, hm, hz, hx, hcell, hwz⟩
  · simp [Value.cells] at hcs
    obtain ⟨rfl, rfl, rfl⟩ := hcs
    simp only [Prod.mk.injEq] at hx
    obtain ⟨rfl, rfl⟩ := hx
    refine ⟨[], ⟨⟨none, 0, rfl, fun h => absurd rfl h⟩, by decide, fun z hz => by simp at hz⟩, fun W' _ => ⟨1, ?_⟩⟩
    simp [DataW.trod, Tryz.underlying22, Value.cells]
  · simp [Value.cells] at hcs
    obtain ⟨rfl, rfl, rfl⟩ := hcs
    simp only [Prod.mk.injEq] at hx
    obtain ⟨rfl, rfl⟩ := hx
    simp only [if_true] at hz
    have hmax : cap ≤ 9223372036854775807 := by unfold maxLen at hm; omega
    have hlt : (zs.take len).length = len := by simp; omega
    have hbd : ∀ z ∈ zs, -9223372036854775808 ≤ z ∧ z ≤ 9223372036854775807 := fun z hz => by
      have := hwz z hz
      simp [Lit.wf, IntKind.min, IntKind.max, IntKind.signed, IntKind.bits] at this
      omega
    refine ⟨zs.take len, ⟨⟨some a, cap, by rw [hlt], fun h => ?_⟩, by rw [hlt]; omega, fun z hz => hbd z (List.mem_of_mem_take hz)⟩, fun W' hW' => ?_⟩
    · have hpos : 0 < zs.length := by
        rcases Nat.eq_zero_or_pos zs.length with h0 | h0
        · rw [List.length_eq_zero_iff.1 h0] at h; simp at h
        · exact h0
      obtain ⟨b, off, rfl, hc⟩ := ints_at hcell hpos
      refine ⟨b, off, rfl, ?_, fun i z hi => ?_⟩
      · have := hc 0 hpos
        simp only [World.cell?] at this
        by_cases hb : b < W.heap.size
        · exact hb
        · rw [Array.getElem?_eq_none (by omega)] at this
          simp at this
      · have hi' : (zs.take len)[i]? = some z := hi
        have hil : i < len := by
          have := (List.getElem?_eq_some_iff.1 hi').1
          omega
        rw [List.getElem?_take, if_pos hil] at hi'
        rw [hc i (by have := (List.getElem?_eq_some_iff.1 hi').1; omega)]
        simp [List.getD, hi']
    · refine ⟨2, shut_ints 0 Tryz.underlying22 Tryz.underlying3 cellsInt (Nat.zero_le _) hl hm ?_ (fun i hi => ?_) hwz⟩
      · rcases Nat.eq_zero_or_pos zs.length with h0 | h0
        · split <;> omega
        · obtain ⟨b, off, rfl, hc⟩ := ints_at hcell h0
          have hb : b < W.heap.size := by
            have := hc 0 h0
            simp only [World.cell?] at this
            by_cases hb : b < W.heap.size
            · exact hb
            · rw [Array.getElem?_eq_none (by omega)] at this
              simp at this
          simp [hb, hz]
      · obtain ⟨b, off, rfl, hc⟩ := ints_at hcell (by omega)
        have hci := hcell i hi
        rw [Go.WideShapes.add_plain] at hci ⊢
        rw [← hci]
        have hb : b < W.heap.size := by
          have := hc 0 (by omega)
          simp only [World.cell?] at this
          by_cases hb : b < W.heap.size
          · exact hb
          · rw [Array.getElem?_eq_none (by omega)] at this
            simp at this
        simp only [World.cell?]
        rw [hW' b hb]
end
section
variable {H : Type} {enc : TypeId × Value → H}
set_option maxRecDepth 100000 in
theorem read_bools {W : World} {base : Nat} {v : Value} {d : DataW H} {ps : List MemPlace} (hval : Value.okWide Tryz.prog W .any base 23 v) (h : DataW.Trod enc Tryz.prog W 0 (fun _ => true) true 23 v d ps) :
    ∃ l, BArg W v l ∧ ∀ W' : World, (∀ b, b < W.heap.size → W'.heap[b]? = W.heap[b]?) → DataW.Trod enc Tryz.prog W' 0 (fun b => decide (b < W.heap.size)) true 23 v d ps := by
  obtain ⟨a0, len, cap, rfl⟩ := okWide_slice Tryz.underlying23 hval
  obtain ⟨fuel, hf⟩ := h
  rcases open_bools Tryz.underlying23 Tryz.underlying4 cellsBool hf with ⟨hcs, hx⟩ | ⟨a, len', cap', B, hcs, _, hl, hm, hx, hcell⟩
  · simp [Value.cells] at hcs
    obtain ⟨rfl, rfl, rfl⟩ := hcs
    simp only [Prod.mk.injEq] at hx
    obtain ⟨rfl, rfl⟩ := hx
    refine ⟨[], ⟨⟨none, 0, rfl, fun h => absurd rfl h⟩, by decide⟩, fun W' _ => ⟨1, ?_⟩⟩
    simp [DataW.trod, Tryz.underlying23, Value.cells]
  · simp [Value.cells] at hcs
    obtain ⟨rfl, rfl, rfl⟩ := hcs
    simp only [Prod.mk.injEq] at hx
    obtain ⟨rfl, rfl⟩ := hx
    have hmax : cap ≤ 9223372036854775807 := by unfold maxLen at hm; omega
    have hlt : ((List.range len).map B).length = len := by simp
    have hat : 0 < cap → ∃ b off, a = ⟨b, off, none⟩ ∧ b < W.heap.size ∧ ∀ i, i < cap → W.cell? ⟨b, off + i, none⟩ = some (.bool (B i)) := fun h0 => by
      obtain ⟨b, off, spot⟩ := a
      have hspot : spot = none := by simpa [Addr.add] using World.cell?_spot (hcell 0 h0)
      subst hspot
      refine ⟨b, off, rfl, ?_, fun i hi => by rw [← Go.WideShapes.add_plain]; exact hcell i hi⟩
      have := hcell 0 h0
      rw [Go.WideShapes.add_plain] at this
      simp only [World.cell?] at this
      by_cases hb : b < W.heap.size
      · exact hb
      · rw [Array.getElem?_eq_none (by omega)] at this
        simp at this
    refine ⟨(List.range len).map B, ⟨⟨some a, cap, by rw [hlt], fun h => ?_⟩, by rw [hlt]; omega⟩, fun W' hW' => ?_⟩
    · have hpos : 0 < len := by
        rcases Nat.eq_zero_or_pos len with h0 | h0
        · subst h0; simp at h
        · exact h0
      obtain ⟨b, off, rfl, hb, hc⟩ := hat (by omega)
      refine ⟨b, off, rfl, hb, fun i z hi => ?_⟩
      rw [List.getElem?_map] at hi
      have hil : i < len := by
        rcases Nat.lt_or_ge i len with h1 | h1
        · exact h1
        · rw [List.getElem?_eq_none (by simpa using h1)] at hi
          cases hi
      rw [List.getElem?_range hil] at hi
      simp only [Option.map_some, Option.some.injEq] at hi
      rw [hc i (by omega), hi]
    · rcases Nat.eq_zero_or_pos cap with h0 | h0
      · subst h0
        obtain rfl : len = 0 := by omega
        refine ⟨1, ?_⟩
        simp [DataW.trod, Tryz.underlying23, Value.cells, boolRow, MemPlace.row]
      · obtain ⟨b, off, rfl, hb, hc⟩ := hat h0
        have := shut_slice_whole1 (enc := enc) (P := Tryz.prog) (w := W') (base := 0) (spare := fun b => decide (b < W.heap.size)) (held := true) (off := off) Tryz.underlying23 cellsBool (Nat.zero_le b) hl hm (by simpa using hb) (fun i => .bool (B i)) (fun i => .lit (.bool (B i))) (fun _ => [])
          (fun i hi => by
            have h1 := hc i hi
            simp only [World.cell?] at h1 ⊢
            rw [hW' b hb]
            exact h1) (fun i _ => ⟨1, by simp [DataW.trod, Tryz.underlying4]⟩)
        rw [flatMap_nil_range, List.append_nil] at this
        exact this
end
end Go.Proofs.YtkndgmjlphppdaaGreatDoor
namespace Go.Proofs.YtkndgmjlphppdaaGreatDoor
open Go Go.RowKit Go.Imap

/-- what the law's first loop keeps: the store kk and the other one, and the rules that were given to each -/
structure One (w0 wr : World) (B db mb gS gA kk : Nat) (sb lg k sb2 lg2 k2 : Nat) (U j : Nat) (rv : Nat → Value) (d : Dk) (vv vv2 : Value) (its its2 : List (Value × List Ru)) (l l2 : List Rec) (a a2 : Value) (r r2 : List (Value × List Ru)) (cs zs : Array Value) : Prop where
  env : Env wr B db mb rv d 131072 U
  sto : Sto wr B db d sb lg k vv its l
  sto2 : Sto wr B db d sb2 lg2 k2 vv2 its2 l2
  two : Two sb lg k vv sb2 lg2 k2 vv2
  bS : Blk wr gS 28 cs
  bA : Blk wr gA 39 zs
  al : AllAt wr B a r
  al2 : AllAt wr B a2 r2
  ap : ∀ g, a.ownBlock = some g → a2.ownBlock ≠ some g
  vers : versOf l = r.map Prod.snd
  vers2 : versOf l2 = r2.map Prod.snd
  act : actOf l = (r.length : Int) - 1
  act2 : actOf l2 = (r2.length : Int) - 1
  len : l.length = 2 * r.length
  len2 : l2.length = 2 * r2.length
  good : ∀ x ∈ r, x.2.length ≤ 8
  good2 : ∀ x ∈ r2, x.2.length ≤ 8
  sum : r.length + r2.length = j
  bel : Below B w0 wr
  lo : B ≤ gA
  cS : cs[kk]? = some (.pointer (some ⟨sb, 0, none⟩))
  cA : zs[kk]? = some a
section
variable {w0 wr : World} {B db mb gS gA kk sb lg k sb2 lg2 k2 U j : Nat} {rv : Nat → Value} {d : Dk} {vv vv2 : Value} {its its2 : List (Value × List Ru)} {l l2 : List Rec} {a a2 : Value} {r r2 : List (Value × List Ru)} {cs zs : Array Value}
theorem One.bel' {w' : World} (h : One w0 wr B db mb gS gA kk sb lg k sb2 lg2 k2 U j rv d vv vv2 its its2 l l2 a a2 r r2 cs zs) (hb : Below wr.heap.size wr w') : One w0 w' B db mb gS gA kk sb lg k sb2 lg2 k2 U j rv d vv vv2 its its2 l l2 a a2 r r2 cs zs :=
  ⟨h.env.bel hb, h.sto.bel hb, h.sto2.bel hb, h.two, h.bS.bel hb h.bS.lt, h.bA.bel hb h.bA.lt, h.al.bel hb, h.al2.bel hb, h.ap, h.vers, h.vers2, h.act, h.act2, h.len, h.len2, h.good, h.good2, h.sum, h.bel.trans (hb.mono h.env.hB), h.lo, h.cS, h.cA⟩
theorem sees_refs (wr : World) (x : Value) : Sees (wr.alloc (.cells #[x] 33)) 1 (.slice (some ⟨wr.heap.size, 0, none⟩) 1 1) [x] :=
  Sees.row (base := 0) (e := 33) (n := 1) ⟨rfl, .inr ⟨_, 1, _, rfl, Nat.zero_le _, heap_alloc_new _ _, Nat.le_refl _, by unfold maxLen; omega, rfl, rfl⟩⟩
theorem infoRefs : (Tryz.prog.info? 33).map (fun i => (i.zero, i.size, i.bytes)) = some (some (.slice none 0 0), 1, 24) := by kernel_rfl
theorem One.next (h : One w0 wr B db mb gS gA kk sb lg k sb2 lg2 k2 U j rv d vv vv2 its its2 l l2 a a2 r r2 cs zs) {rs : List Ru} (hG : Good rs) {w6 w7 : World} {d6 d7 : Dk} {vv6 xv : Value} {its6 : List (Value × List Ru)} {base : Nat} {rv6 : Nat → Value}
    (hx : wr.ownsRow base 75 3 xv rs.length (rs.flatMap Ru.cells)) (hbase : B ≤ base) (h6 : After wr w6 B db mb rv d 131072 (U + 150) sb lg k vv d6 vv6 its6 (l ++ [.save rs]))
    (h7 : After w6 w7 B db mb rv6 d6 131072 (U + 150 + 150) sb lg k vv6 d7 vv6 its6 (l ++ [.save rs] ++ [.use r.length])) {w9 : World} {a' : Value}
    (hrow : w9.ownsRow B 33 1 a' (r.length + 1) (r.map Prod.fst ++ [xv])) (hg : (w7.alloc (.cells #[xv] 33)).grownBy w9 a.ownBlock) (ha' : a'.ownBlock = a.ownBlock ∨ ∃ g, a'.ownBlock = some g ∧ (w7.alloc (.cells #[xv] 33)).heap.size ≤ g) :
    ∃ rv', One w0 (w9.setCell ⟨gA, kk, none⟩ a') B db mb gS gA kk sb lg k sb2 lg2 k2 (U + 300) (j + 1) rv' d7 vv6 vv2 its6 its2 (l ++ [.save rs] ++ [.use r.length]) l2 a' a2 (r ++ [(xv, rs)]) r2 cs (zs.setIfInBounds kk a') := by
  obtain ⟨rv7, hE7⟩ := h7.env
  obtain ⟨F6, hF6, hT6⟩ := h6.chg
  obtain ⟨F7, hF7, hT7⟩ := h7.chg
  obtain ⟨ho6, ht6⟩ := h6.other h.sto2 h.two
  obtain ⟨ho7, ht7⟩ := h7.other ho6 ht6
  have hx8 : (w7.alloc (.cells #[xv] 33)).ownsRow B 75 3 xv rs.length (rs.flatMap Ru.cells) := by
    have e1 := row_chg hx hF6 ((hT6.apartly (ts := [75]) (by decide) (by decide) (by decide) (by decide) (by decide)).row hx (by simp))
    have e2 := row_chg e1 hF7 ((hT7.apartly (ts := [75]) (by decide) (by decide) (by decide) (by decide) (by decide)).row e1 (by simp))
    exact row_base (owns_bel e2 ((Below.refl _ _).alloc (Nat.le_refl _) _)) hbase
  have hb8 : Below w7.heap.size w7 (w7.alloc (.cells #[xv] 33)) := (Below.refl _ _).alloc (Nat.le_refl _) _
  have al8 := ((h.al.ft hF6 hT6).ft hF7 hT7).bel hb8
  have al28 := ((h.al2.ft hF6 hT6).ft hF7 hT7).bel hb8
  have bS8 := ((h.bS.ft hF6 hT6 (by decide) (by decide) (by decide) (by decide) (by decide)).ft hF7 hT7 (by decide) (by decide) (by decide) (by decide) (by decide)).bel hb8 (by exact Blk.lt ((h.bS.ft hF6 hT6 (by decide) (by decide) (by decide) (by decide) (by decide)).ft hF7 hT7 (by decide) (by decide) (by decide) (by decide) (by decide)))
  have bA7 := (h.bA.ft hF6 hT6 (by decide) (by decide) (by decide) (by decide) (by decide)).ft hF7 hT7 (by decide) (by decide) (by decide) (by decide) (by decide)
  have bA8 := bA7.bel hb8 bA7.lt
  have hnt := nt_all al8 bA8
  have hch := chg_all (gA := gA) hg kk a'
  have bS9 : Blk (w9.setCell ⟨gA, kk, none⟩ a') gS 28 cs := bS8.chg hch ((hnt.apartly (us := [28]) (by decide)).blk bS8 (by simp))
  have hcg : Chg (fun g => a.ownBlock = some g) (w7.alloc (.cells #[xv] 33)) w9 := ⟨hg.os, hg.tape, hg.output, hg.size, fun k hk hf => hg.block k hk fun e => hf e.symm⟩
  have bA9 := (bA8.chg hcg (fun e => row_blk al8.row bA8 (by decide) e)).put kk a'
  have hs6 := hF6.size
  have hs7 := hF7.size
  have hsz8 : (w7.alloc (.cells #[xv] 33)).heap.size = w7.heap.size + 1 := World.size_alloc ..
  have ho8 := (ho7.bel hb8).nt hch hnt (by decide)
  refine ⟨rv7, (hE7.bel hb8).nt hch hnt (by decide) (by decide), (h7.sto.bel hb8).nt hch hnt (by decide), ho8, ht7, bS9, bA9, AllAt.push al8 hrow hg hx8 bA8 kk a', al8.other al28 h.ap hg bA8 kk a', fun g hg1 hg2 => ?_, ?_, h.vers2, ?_, h.act2, ?_, h.len2, fun x hx => ?_, h.good2, ?_, ?_, h.lo, h.cS, ?_⟩
  · rcases ha' with e | ⟨g', e, hge⟩
    · exact h.ap g (e.symm.trans hg1) hg2
    · rw [e] at hg1
      cases hg1
      have := (World.ownsRow.lt al28.row _ hg2).2
      omega
  · rw [versOf_use, versOf_save, h.vers, List.map_append]
    rfl
  · rw [actOf_use, List.length_append, List.length_singleton]
    omega
  · rw [List.length_append, List.length_append, List.length_append, h.len, List.length_singleton, List.length_singleton, List.length_singleton]
    omega
  · rcases List.mem_append.1 hx with hx | hx
    · exact h.good x hx
    · simp only [List.mem_singleton] at hx
      subst hx
      exact hG.len
  · have := h.sum
    rw [List.length_append, List.length_singleton]
    omega
  · refine (((h.bel.trans h6.bel).trans h7.bel).trans (hb8.mono hE7.hB)).trans (hch.to_below (by have := hE7.hB; omega) fun g _ hg => ?_)
    rcases hg with rfl | hg
    · exact h.lo
    · exact (World.ownsRow.lt al8.row g hg).1
  · have hlt : kk < zs.size := by
      rcases Nat.lt_or_ge kk zs.size with h1 | h1
      · exact h1
      · have := h.cA
        rw [Array.getElem?_eq_none h1] at this
        cases this
    rw [Array.getElem?_setIfInBounds, if_pos rfl, if_pos hlt]
theorem One.cellS (h : One w0 wr B db mb gS gA kk sb lg k sb2 lg2 k2 U j rv d vv vv2 its its2 l l2 a a2 r r2 cs zs) : wr.cell? ⟨gS, kk, none⟩ = some (.pointer (some ⟨sb, 0, none⟩)) := (h.bS.at' kk).trans h.cS
theorem One.vlen (h : One w0 wr B db mb gS gA kk sb lg k sb2 lg2 k2 U j rv d vv vv2 its its2 l l2 a a2 r r2 cs zs) : (versOf l).length = r.length := by rw [h.vers, List.length_map]
theorem One.turn {kk2 : Nat} (h : One w0 wr B db mb gS gA kk sb lg k sb2 lg2 k2 U j rv d vv vv2 its its2 l l2 a a2 r r2 cs zs) (h1 : cs[kk2]? = some (.pointer (some ⟨sb2, 0, none⟩))) (h2 : zs[kk2]? = some a2) :
    One w0 wr B db mb gS gA kk2 sb2 lg2 k2 sb lg k U j rv d vv2 vv its2 its l2 l a2 a r2 r cs zs :=
  ⟨h.env, h.sto2, h.sto, h.two.symm, h.bS, h.bA, h.al2, h.al, fun g h1 h2 => h.ap g h2 h1, h.vers2, h.vers, h.act2, h.act, h.len2, h.len, h.good2, h.good, by have := h.sum; omega, h.bel, h.lo, h1, h2⟩
theorem One.opened (h : One w0 wr B db mb gS gA kk sb lg k sb2 lg2 k2 U j rv d vv vv2 its its2 l l2 a a2 r r2 cs zs) {w' : World} {sbn lgn kn : Nat} {vvn : Value} {itsn : List (Value × List Ru)} {ln : List Rec} (hO : Opened wr w' B db mb d 131072 U sbn lgn kn vvn itsn ln) :
    ∃ rv', One w0 w' B db mb gS gA kk sb lg k sb2 lg2 k2 U j rv' d.harden vv vv2 its its2 l l2 a a2 r r2 cs zs := by
  obtain ⟨rv', hE⟩ := hO.env
  obtain ⟨F, hF, hT⟩ := hO.chg
  exact ⟨rv', hE, (hO.other h.sto).1, (hO.other h.sto2).1, h.two, h.bS.ft hF hT (by decide) (by decide) (by decide) (by decide) (by decide), h.bA.ft hF hT (by decide) (by decide) (by decide) (by decide) (by decide), h.al.ft hF hT, h.al2.ft hF hT, h.ap, h.vers, h.vers2, h.act, h.act2, h.len, h.len2, h.good, h.good2, h.sum, h.bel.trans hO.bel, h.lo, h.cS, h.cA⟩
end
end Go.Proofs.YtkndgmjlphppdaaGreatDoor
