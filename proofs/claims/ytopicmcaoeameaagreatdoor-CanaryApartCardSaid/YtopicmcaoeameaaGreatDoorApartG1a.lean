/-
  What Parse and plan.New make of the twelve texts of rules: contracts, out of one evaluation by the kernel for each text.
  own and Compile, walked: the set of rules whose texts are of the list.
  slices.Concat at two slices of rules, walked (slices.Grow by the library's contract).
  canary.New, walked.
  First at the text [97, x]: its contract, for the eight texts of rules, every x and every position.
  See at the text [97, x], where both sides are the same set; the numbers that are possible.
  See, where one side's rules are the other's, turned round.
  The rules that are made from numbers: Few and rules, walked.
  rules, walked: up to three rules over bytes, of the list's texts, with names that differ.
  The documented example of package canary, evaluated by the kernel; its contract.
  For the law CanarySame: Unlike at a canary without cases; sets of machines that are joined.
-/
import Derived.Test.YtopicmcaoeameaaGreatDoorNewAX
import Derived.Test.YtopicmcaoeameaaGreatDoorNewBX
import Derived.Test.YtopicmcaoeameaaGreatDoorApartG0a
import Derived.Deep.RegionHeld3
import Derived.Deep.AppendLies
import Derived.Deep.RegionLaw
import Derived.Shelf.Spec.SlicesGrow
import Derived.Laws.OwnMore
import Derived.Test.YtopicmcaoeameaaGreatDoorApartG0b
import Derived.Test.YtopicmcaoeameaaGreatDoorFirstAX
import Derived.Test.YtopicmcaoeameaaGreatDoorFirstBX
import Derived.Test.YtopicmcaoeameaaGreatDoorFirstCX
import Derived.Test.YtopicmcaoeameaaGreatDoorFirstDX
import Derived.Test.YtopicmcaoeameaaGreatDoorLivesAX
namespace Go.Proofs.YtopicmcaoeameaaGreatDoor
open Go Go.Ev Go.RowKit

theorem new_all : ∀ k : Nat, k < 12 → chkNew k = true
  | 0, _ => new0
  | 1, _ => new1
  | 2, _ => new2
  | 3, _ => new3
  | 4, _ => new4
  | 5, _ => new5
  | 6, _ => new6
  | 7, _ => new7
  | 8, _ => new8
  | 9, _ => new9
  | 10, _ => new10
  | 11, _ => new11
  | n + 12, h => absurd h (by omega)
theorem new_inv {k : Nat} (h : chkNew k = true) : ∃ p q H n H2 n2, cal0.fn 39 [.str (txt k), noFlags] .nil .e = .ok (.tup [p, q, .int .i64 0]) H n ∧
    cal0.fn 40 [p, .int .i64 64] H n = .ok (.tup [.ptr (root k) 0, .int .i64 0]) H2 n2 ∧ inH H2 (plan k) = true ∧ shp p = true := by
  unfold chkNew at h
  split at h
  · rename_i p q H n h1
    split at h
    · rename_i hshp
      split at h
      · rename_i r H2 n2 h2
        split at h
        · rename_i hr
          have := (Pth.beq_iff r (root k)).1 hr
          subst this
          exact ⟨p, q, H, n, H2, n2, h1, h2, h, hshp⟩
        · cases h
      · cases h
    · cases h
  · cases h
theorem isSl_rel {ι : Emb} {v : V} {x : Value} (h : isSl v = true) (hr : V.rel ι v x) : ∃ a m c, x = .slice a m c := by
  cases v <;> simp only [isSl] at h <;> try (cases h; done)
  · exact ⟨_, _, _, hr⟩
  · obtain ⟨b, s, c', _, hx, _⟩ := hr
    exact ⟨_, _, _, hx⟩
/-- a parsed pattern's value -/
def Pat (x : Value) : Prop := ∃ (i0 : Int) (a1 : Option Addr) (m1 c1 : Nat) (a2 : Option Addr) (m2 c2 : Nat) (i3 i4 i5 i6 : Int) (b7 : Bool) (i8 : Int) (b9 : Bool),
  x = .agg #[.int .i64 i0, .slice a1 m1 c1, .slice a2 m2 c2, .int .i64 i3, .int .i64 i4, .int .i64 i5, .int .i64 i6, .bool b7, .int .i64 i8, .bool b9]
theorem shp_rel {ι : Emb} {v : V} {x : Value} (h : shp v = true) (hr : V.rel ι v x) : Pat x := by
  unfold shp at h
  split at h
  · rename_i i0 s1 s2 i3 i4 i5 i6 b7 i8 b9
    split at h
    · rename_i h1
      obtain ⟨cs, rfl, hcs⟩ := hr
      obtain ⟨x0, t0, e0, h0, hcs⟩ := rels_cons_inv hcs
      obtain ⟨x1, t1, e1, h1', hcs⟩ := rels_cons_inv hcs
      obtain ⟨x2, t2, e2, h2, hcs⟩ := rels_cons_inv hcs
      obtain ⟨x3, t3, e3, h3, hcs⟩ := rels_cons_inv hcs
      obtain ⟨x4, t4, e4, h4, hcs⟩ := rels_cons_inv hcs
      obtain ⟨x5, t5, e5, h5, hcs⟩ := rels_cons_inv hcs
      obtain ⟨x6, t6, e6, h6, hcs⟩ := rels_cons_inv hcs
      obtain ⟨x7, t7, e7, h7, hcs⟩ := rels_cons_inv hcs
      obtain ⟨x8, t8, e8, h8, hcs⟩ := rels_cons_inv hcs
      obtain ⟨x9, t9, e9, h9, hcs⟩ := rels_cons_inv hcs
      have e10 := rels_nil_inv hcs
      obtain ⟨a1, m1, c1, rfl⟩ := isSl_rel h1 h1'
      obtain ⟨a2, m2, c2, rfl⟩ := isSl_rel h h2
      simp only [V.rel] at h0 h3 h4 h5 h6 h7 h8 h9
      subst h0; subst h3; subst h4; subst h5; subst h6; subst h7; subst h8; subst h9
      subst e10; subst e9; subst e8; subst e7; subst e6; subst e5; subst e4; subst e3; subst e2; subst e1
      exact ⟨i0, a1, m1, c1, a2, m2, c2, i3, i4, i5, i6, b7, i8, b9, congrArg Value.agg (Array.toList_inj.1 e0)⟩
    · cases h
  · cases h
theorem hokLater {P : Program} {ι : Emb} {H : Heap} {w w' : World} (h : HOK P ι H w) (hs : w.heap.size ≤ w'.heap.size) (hb : ∀ b, b < w.heap.size → w'.heap[b]? = w.heap[b]?) : HOK P ι H w' :=
  ⟨fun p o ho => O.ok_mono (h.obj p o ho) (Emb.le.refl ι) fun b s _ hp => hb b (h.lt p b s hp), h.inj, fun p b s hp => Nat.lt_of_lt_of_le (h.lt p b s hp) hs⟩
theorem rels_forget {ι : Emb} : ∀ (A L : List V) (xs : List Value), V.rels ι (A ++ L) xs → V.rels ι (A ++ List.replicate L.length .unk) xs
  | [], [], xs, h => h
  | [], v :: L, xs, h => by
    obtain ⟨x, t, rfl, hx, ht⟩ := rels_cons_inv h
    exact rels_cons trivial (rels_forget [] L t ht)
  | a :: A, L, xs, h => by
    obtain ⟨x, t, rfl, hx, ht⟩ := rels_cons_inv h
    exact rels_cons hx (rels_forget A L t ht)
theorem mach_mem : (nMach, mach1) ∈ plan 3 := by
  show (nMach, mach1) ∈ plan3
  unfold plan3 nMach mach1
  simp
/-- what New made, laid -/
theorem laid1_of {P : Program} {ι : Emb} {H : Heap} {w : World} (h : HOK P ι H w) {k : Nat} (hl : inH H (plan k) = true) (hr : nameOf (plan k) (root k) = true) {x : Value} (hx : V.rel ι (.ptr (root k) 0) x) {B : Nat}
    (hB : ∀ p b s, Live H p → ι p = some (b, s) → B ≤ b) : ∃ b mb, x = .pointer (some ⟨b, 0, none⟩) ∧ Laid1 k B w.heap.size w b mb := by
  obtain ⟨b, s, hp, rfl⟩ := hx
  obtain ⟨e, he, hre⟩ := nameOf_iff.1 hr
  obtain ⟨b', s', c, el, fr, h1, _, _, _, _, h0⟩ := h.obj _ _ (inH_ok hl e he)
  rw [hre, hp] at h1
  cases h1
  subst h0
  by_cases hk : k = 3
  · subst hk
    obtain ⟨mb, s1, cs, el1, fr1, g1, g2, g3, g4, g5, g6⟩ := h.obj _ _ (inH_ok hl _ mach_mem)
    subst g6
    refine ⟨b, mb, rfl, ι, fun e he => ?_, hp, fun e he c s hc => ?_, fun _ => ⟨g1, cs, el1, fr1, g2, g3, g5⟩⟩
    · rcases List.mem_cons.1 (show e ∈ (nMach, mach0) :: ro3 from he) with rfl | he'
      · exact ⟨mb, 0, cs, el1, fr1, g1, g2, rels_forget (mach1.take 14) (mach1.drop 14) _ g4⟩
      · exact h.ro hl e (List.mem_filter.1 he').1
    · have hlive : ∃ l, H.get e.1 = some (.cells l) := by
        rcases List.mem_cons.1 (show e ∈ (nMach, mach0) :: ro3 from he) with rfl | he'
        · exact ⟨mach1, inH_ok hl _ mach_mem⟩
        · exact ⟨_, inH_ok hl e (List.mem_filter.1 he').1⟩
      obtain ⟨l, hg⟩ := hlive
      refine ⟨hB _ _ _ ⟨_, hg, by simp⟩ hc, h.lt _ _ _ hc, fun ec => ⟨rfl, ?_⟩, fun ec => ?_⟩
      · subst ec
        exact h.inj _ _ _ _ _ ⟨_, hg, by simp⟩ ⟨_, inH_ok hl _ mach_mem, by simp⟩ hc g1
      · rw [ec.2] at hc
        have := hc.symm.trans g1
        cases this
        rfl
  · refine ⟨b, w.heap.size, rfl, ι, by rw [planU_ne hk]; exact h.ro hl, hp, fun e he c s hc => ?_, fun h3 => absurd h3 hk⟩
    rw [planU_ne hk] at he
    have hc2 := h.lt _ _ _ hc
    exact ⟨hB _ _ _ ⟨_, inH_ok hl e he, by simp⟩ hc, hc2, fun ec => by omega, fun ec => absurd ec.1 hk⟩
/-- the text of the rule k, as a string -/
def Txt (k : Nat) (s : ByteArray) : Prop := s.data.toList.map UInt8.toNat = txt k
/-- Parse of a text of the list, and New of what it gives -/
theorem parse_new {k : Nat} (hk : k < 12) {s : ByteArray} (hs : Txt k s) (w : World) :
    Calls Tryz.prog 39 #[.string s, .agg #[.bool false, .bool false, .bool false, .bool false]] w fun e w1 => ∃ x y, e = .returned (.tuple #[x, y, .int .i64 0]) ∧ Below w.heap.size w w1 ∧ Pat x ∧
      ∀ w2 : World, w1.heap.size ≤ w2.heap.size → (∀ b, b < w1.heap.size → w2.heap[b]? = w1.heap[b]?) →
        Calls Tryz.prog 40 #[x, .int .i64 64] w2 fun e w3 => ∃ b mb, e = .returned (.tuple #[.pointer (some ⟨b, 0, none⟩), .int .i64 0]) ∧ Below w.heap.size w2 w3 ∧ Laid1 k w.heap.size w3.heap.size w3 b mb := by
  obtain ⟨p, q, H, n, H2, n2, h1, h2, h3, hshp⟩ := new_inv (new_all k hk)
  refine (call1 cal0_ok h1 (fun _ => 0) w _ (rels_cons ⟨s, rfl, hs⟩ (rels_one ?_))).mono fun e w1 he => ?_
  · exact ⟨_, rfl, rels_cons rfl (rels_cons rfl (rels_cons rfl (rels_one rfl)))⟩
  · obtain ⟨x, ι, rfl, hx, hok, hb, hdom, hlive⟩ := he
    obtain ⟨cs, rfl, hcs⟩ := hx
    obtain ⟨x1, t1, e1, hx1, hcs⟩ := rels_cons_inv hcs
    obtain ⟨x2, t2, e2, hx2, hcs⟩ := rels_cons_inv hcs
    obtain ⟨x3, t3, e3, hx3, hcs⟩ := rels_cons_inv hcs
    have e4 := rels_nil_inv hcs
    subst e4; subst e3; subst e2
    have hx3' : x3 = .int .i64 0 := hx3
    subst hx3'
    have ec : cs = #[x1, x2, .int .i64 0] := Array.toList_inj.1 e1
    subst ec
    refine ⟨x1, x2, rfl, hb, shp_rel hshp hx1, fun w2 hs2 hw2 => ?_⟩
    refine (call2 cal0_ok h2 (hokLater hok hs2 hw2) hlive (Nat.le_trans hb.size hs2) hdom _ (rels_cons hx1 (rels_one rfl))).mono fun e w3 he => ?_
    obtain ⟨y, ι', rfl, hy, hok', hb', _, hlive'⟩ := he
    obtain ⟨cs, rfl, hcs⟩ := hy
    obtain ⟨y1, t1, e1, hy1, hcs⟩ := rels_cons_inv hcs
    obtain ⟨y2, t2, e2, hy2, hcs⟩ := rels_cons_inv hcs
    have e4 := rels_nil_inv hcs
    subst e4; subst e2
    have hy2' : y2 = .int .i64 0 := hy2
    subst hy2'
    obtain ⟨b, mb, rfl, hlaid⟩ := laid1_of hok' h3 (plan_closed k hk).2.2 hy1 hlive'
    have ec : cs = #[.pointer (some ⟨b, 0, none⟩), .int .i64 0] := Array.toList_inj.1 e1
    subst ec
    exact ⟨b, mb, rfl, hb', hlaid⟩
end Go.Proofs.YtopicmcaoeameaaGreatDoor
namespace Go.Proofs.YtopicmcaoeameaaGreatDoor
open Go Go.Ev Go.RowKit Go.Smap

/-- rules that compile -/
structure Good (rs : List Rl) : Prop where
  len : rs.length ≤ 100
  nodup : (rs.map Rl.name).Nodup
  each : ∀ r ∈ rs, r.k < 12 ∧ Txt r.k r.text ∧ IsName r.name ∧ r.name.size ≤ maxLen
/-- a compiled rule: where its plan is, and the blocks that it lies in -/
structure It where
  r : Rl
  pb : Nat
  lo : Nat
  hi : Nat
  mb : Nat
def It.cells (t : It) : List Value := [.string t.r.name, .string t.r.text, .bool false, .pointer (some ⟨t.pb, 0, none⟩)]
/-- Compile's state ahead of round j -/
structure CInv (w wr : World) (rs : List Rl) (j : Nat) (sv : Value) (its : List It) (f : ByteArray → Option Value) : Prop where
  map : IsMap wr w.heap.size j f
  keys : ∀ r ∈ rs.drop j, f r.name = none
  set : wr.heap[w.heap.size + 1]? = some (.cells #[sv] 78 (0, 0))
  row : wr.ownsRow (w.heap.size + 2) 81 4 sv j (its.flatMap It.cells)
  rules : its.map It.r = rs.take j
  laid : ∀ t ∈ its, w.heap.size + 2 ≤ t.lo ∧ t.hi ≤ wr.heap.size ∧ (∀ g, sv.ownBlock = some g → g < t.lo ∨ t.hi ≤ g) ∧ Laid1 t.r.k t.lo t.hi wr t.pb t.mb
  apart : its.Pairwise fun a b => a.hi ≤ b.lo
  bel : Below w.heap.size w wr
  size : w.heap.size + 2 ≤ wr.heap.size
theorem setCell_cell_far (w : World) (a p : Addr) {u : Value} (h : p.block ≠ a.block) : (w.setCell a u).cell? p = w.cell? p := World.cell?_of_block (w := w) (Below.heap_setCell _ _ _ _ h)
theorem set_one {w : World} {b : Nat} {sv : Value} {t : TypeId} {fr : Nat × Nat} (h : w.heap[b]? = some (.cells #[sv] t fr)) (v : Value) : (w.setCell ⟨b, 0, none⟩ v).heap[b]? = some (.cells #[v] t fr) := by
  show (w.heap.modify b _)[b]? = _
  rw [Array.getElem?_modify, if_pos rfl, h]
  rfl
theorem owns_setCell {w : World} {base : Nat} {e : TypeId} {size : Nat} {v : Value} {n : Nat} {xs : List Value} (h : w.ownsRow base e size v n xs) {a : Addr} (ha : a.block < base) (u : Value) : (w.setCell a u).ownsRow base e size v n xs := by
  refine ⟨h.1, h.2.imp id ?_⟩
  rintro ⟨g, cap, cur, h1, h2, h3, h4⟩
  exact ⟨g, cap, cur, h1, h2, (Below.heap_setCell _ _ _ _ (by omega)).trans h3, h4⟩
theorem info81 : (Tryz.prog.info? 81).map (fun i => (i.zero, i.size, i.bytes)) = some (some (.agg #[.string ByteArray.empty, .string ByteArray.empty, .bool false, .pointer none]), 4, 48) := by kernel_rfl
theorem rl_cells {w : World} {base g cap : Nat} {e : TypeId} {rs : List Rl} (hown : w.ownsRow base e 3 (.slice (some ⟨g, 0, none⟩) rs.length cap) rs.length (rs.flatMap Rl.cells)) {j : Nat} (hj : j < rs.length) :
    w.cell? ⟨g, j * 3, none⟩ = some (.string rs[j].name) ∧ w.cell? ⟨g, j * 3 + 1, none⟩ = some (.string rs[j].text) ∧ w.cell? ⟨g, j * 3 + 2, none⟩ = some (.bool false) := by
  have hcell : ∀ i, i < 3 → w.cell? ⟨g, j * 3 + i, none⟩ = (Rl.cells rs[j])[i]? := fun i hi => by
    rw [hown.cellAt _ (by have := Nat.mul_le_mul_right 3 (Nat.succ_le_of_lt hj); omega), flat_at Rl.cells 3 (fun _ => rfl) rs j hj i hi]
  exact ⟨hcell 0 (by omega), hcell 1 (by omega), hcell 2 (by omega)⟩
theorem SetAt.wide {M : Nat → Prop} {lo hi lo' hi' b : Nat} {w : World} {rs : List Rl} (h : SetAt M lo hi w b rs) (h1 : lo' ≤ lo) (h2 : hi ≤ hi') : SetAt M lo' hi' w b rs := by
  obtain ⟨v, hv, hb1, hb2, hbm, h3⟩ := h.set
  refine ⟨v, hv, by omega, by omega, hbm, h3.imp id ?_⟩
  rintro ⟨ab, cap, rfl, a1, a2, am, hc⟩
  refine ⟨ab, cap, rfl, by omega, by omega, am, fun i r hr => ?_⟩
  obtain ⟨pb, k0, k1, k2, k3, hl⟩ := hc i r hr
  exact ⟨pb, k0, k1, k2, k3, hl.wide h1 h2⟩
theorem apart_mem : ∀ {its : List It}, its.Pairwise (fun a b => a.hi ≤ b.lo) → ∀ a ∈ its, ∀ b ∈ its, a = b ∨ a.hi ≤ b.lo ∨ b.hi ≤ a.lo
  | [], _, a, ha, _, _ => by simp at ha
  | t :: its, h, a, ha, b, hb => by
    obtain ⟨h1, h2⟩ := List.pairwise_cons.1 h
    rcases List.mem_cons.1 ha with ea | ha'
    · rcases List.mem_cons.1 hb with eb | hb'
      · exact .inl (ea.trans eb.symm)
      · exact .inr (.inl (by rw [ea]; exact h1 b hb'))
    · rcases List.mem_cons.1 hb with eb | hb'
      · exact .inr (.inr (by rw [eb]; exact h1 a ha'))
      · exact apart_mem h2 a ha' b hb'
/-- what the set's state is behind the last round -/
theorem CInv.done {w wr : World} {rs : List Rl} {sv : Value} {its : List It} {f : ByteArray → Option Value} (h : CInv w wr rs rs.length sv its f) :
    ∃ M : Nat → Prop, (∀ k, M k → w.heap.size ≤ k ∧ k < wr.heap.size) ∧ SetAt M w.heap.size wr.heap.size wr (w.heap.size + 1) rs := by
  have hr := h.rules
  rw [List.take_length] at hr
  have hsz := h.size
  have hM : ∀ t ∈ its, t.r.k = 3 → t.lo ≤ t.mb ∧ t.mb < t.hi := fun t ht h3 => by
    have := (h.laid t ht).2.2.2
    rw [h3] at this
    exact this.mb
  refine ⟨fun c => ∃ t ∈ its, t.r.k = 3 ∧ c = t.mb, fun k hk => ?_, sv, by simp [World.cell?, h.set], by omega, by omega, fun hk => ?_, ?_⟩
  · obtain ⟨t, ht, h3, rfl⟩ := hk
    have h1 := hM t ht h3
    have h2 := h.laid t ht
    omega
  · obtain ⟨t, ht, h3, e⟩ := hk
    have h1 := hM t ht h3
    have h2 := h.laid t ht
    omega
  rcases h.row.2 with ⟨rfl, h0⟩ | ⟨g, cap, cur, rfl, hb, _⟩
  · left
    exact ⟨List.length_eq_zero_iff.1 h0, rfl⟩
  · right
    have hlt := (World.ownsRow.lt h.row g rfl)
    refine ⟨g, cap, rfl, by omega, by omega, fun hk => ?_, fun i r hi => ?_⟩
    · obtain ⟨t, ht, h3, e⟩ := hk
      have h1 := hM t ht h3
      have h2 := (h.laid t ht).2.2.1 g rfl
      omega
    have hil : i < its.length := by
      have : i < rs.length := (List.getElem?_eq_some_iff.1 hi).1
      rw [← hr] at this
      simpa using this
    have hri : its[i].r = r := by
      rw [← hr, List.getElem?_map, List.getElem?_eq_getElem hil] at hi
      simpa using hi
    have hn : i < rs.length := (List.getElem?_eq_some_iff.1 hi).1
    have hcell : ∀ o, o < 4 → wr.cell? ⟨g, i * 4 + o, none⟩ = (It.cells its[i])[o]? := fun o ho => by
      rw [h.row.cellAt _ (by have := Nat.mul_le_mul_right 4 (Nat.succ_le_of_lt hn); omega), flat_at It.cells 4 (fun _ => rfl) its i hil o ho]
    obtain ⟨l1, l2, _, l4⟩ := h.laid its[i] (List.getElem_mem hil)
    subst hri
    refine ⟨its[i].pb, hcell 0 (by omega), hcell 1 (by omega), hcell 2 (by omega), hcell 3 (by omega), its[i].lo, its[i].hi, its[i].mb, by omega, l2, l4, fun c c1 c2 => ⟨?_, fun hc => ⟨its[i], List.getElem_mem hil, hc.1, hc.2⟩⟩⟩
    rintro ⟨t, ht, h3, rfl⟩
    have h1 := hM t ht h3
    rcases apart_mem h.apart t ht its[i] (List.getElem_mem hil) with rfl | h2 | h2
    · exact ⟨h3, rfl⟩
    · omega
    · omega
/-- a round's step -/
theorem CInv.step {w wr wF : World} {rs : List Rl} {j : Nat} {sv sv' : Value} {its : List It} {f : ByteArray → Option Value} (h : CInv w wr rs j sv its f) (hnd : (rs.map Rl.name).Nodup) (hj : j < rs.length) {b lo hi mb : Nat}
    (hmap : IsMap wF w.heap.size (j + 1) (fun u => if u = rs[j].name then some (.bool true) else f u)) (hset : wF.heap[w.heap.size + 1]? = some (.cells #[sv'] 78 (0, 0)))
    (hrow : wF.ownsRow (w.heap.size + 2) 81 4 sv' (j + 1) (its.flatMap It.cells ++ [.string rs[j].name, .string rs[j].text, .bool false, .pointer (some ⟨b, 0, none⟩)]))
    (hlo : wr.heap.size ≤ lo) (hhi : hi ≤ wF.heap.size) (hown : sv'.ownBlock = sv.ownBlock ∨ ∃ g, sv'.ownBlock = some g ∧ hi ≤ g) (hlaid : Laid1 rs[j].k lo hi wF b mb)
    (hbel : Below w.heap.size w wF) (hsz : wr.heap.size ≤ wF.heap.size) (hlohi : lo ≤ hi)
    (hkeep : ∀ c, c < wr.heap.size → c ≠ w.heap.size → c ≠ w.heap.size + 1 → some c ≠ sv.ownBlock → wF.heap[c]? = wr.heap[c]?) :
    CInv w wF rs (j + 1) sv' (its ++ [⟨rs[j], b, lo, hi, mb⟩]) (fun u => if u = rs[j].name then some (.bool true) else f u) := by
  have hs := h.size
  have hd : rs.drop j = rs[j] :: rs.drop (j + 1) := List.drop_eq_getElem_cons hj
  refine ⟨hmap, fun r hr => ?_, hset, by simpa [It.cells] using hrow, ?_, fun t ht => ?_, ?_, hbel, by omega⟩
  · have hne : r.name ≠ rs[j].name := fun e => by
      have h2 : ((rs.drop j).map Rl.name).Nodup := by rw [List.map_drop]; exact hnd.sublist (List.drop_sublist _ _)
      rw [hd, List.map_cons] at h2
      exact (List.nodup_cons.1 h2).1 (List.mem_map.2 ⟨r, hr, e⟩)
    show (if r.name = rs[j].name then _ else _) = _
    rw [if_neg hne]
    exact h.keys r (by rw [hd]; exact List.mem_cons_of_mem _ hr)
  · rw [List.map_append, h.rules, List.take_succ_eq_append_getElem hj]
    rfl
  · rcases List.mem_append.1 ht with ht | ht
    · obtain ⟨l1, l2, l3, l4⟩ := h.laid t ht
      refine ⟨l1, by omega, fun g hg => ?_, l4.same fun c c1 c2 => hkeep c (by omega) (by omega) (by omega) fun e => ?_⟩
      · rcases hown with e | ⟨g', e, hg'⟩
        · exact l3 g (by rw [← e]; exact hg)
        · rw [e] at hg; cases hg; right; omega
      · rcases l3 c e.symm with h3 | h3 <;> omega
    · simp only [List.mem_singleton] at ht
      subst ht
      refine ⟨by show w.heap.size + 2 ≤ lo; omega, hhi, fun g hg => ?_, hlaid⟩
      show g < lo ∨ hi ≤ g
      rcases hown with e | ⟨g', e, hg'⟩
      · left
        rw [e] at hg
        have := (World.ownsRow.lt h.row g hg).2
        omega
      · rw [e] at hg; cases hg; right; exact hg'
  · refine List.pairwise_append.2 ⟨h.apart, List.pairwise_singleton _ _, fun a ha b hb => ?_⟩
    simp only [List.mem_singleton] at hb
    subst hb
    have := (h.laid a ha).2.1
    show a.hi ≤ lo
    omega
set_option maxHeartbeats 16000000 in
set_option maxRecDepth 1000000 in
theorem compile_walk {w : World} {base : Nat} {v : Value} {rs : List Rl} (hown0 : w.ownsRow base 62 3 v rs.length (rs.flatMap Rl.cells)) (hG : Good rs) :
    Calls Tryz.prog 26 #[v] w fun e w' => ∃ (b : Nat) (M : Nat → Prop), e = .returned (.tuple #[.pointer (some ⟨b, 0, none⟩), .int .i64 0, .int .i64 0]) ∧ Below w.heap.size w w' ∧ (∀ k, M k → w.heap.size ≤ k ∧ k < w'.heap.size) ∧ SetAt M w.heap.size w'.heap.size w' b rs := by
  have hmm := @run_makeMap Tryz.prog
  have hlen := hG.len
  obtain ⟨i0, hi0, hz0, hz1, hz2⟩ := info_parts info81
  obtain ⟨va, vc, rfl, hva⟩ := owns_shape hown0
  have hlt0 := World.ownsRow.lt hown0
  go_enter Tryz.func26, Tryz.ntmps26
  go_wp2
  go_loopw [22] (fun i wr => ∃ (j : Nat) (sv : Value) (its : List It) (f : ByteArray → Option Value), j ≤ rs.length ∧ i = .int .i64 j ∧ CInv w wr rs j sv its f) (fun i _ => rs.length - (intOf i).toNat)
  case atStart =>
    refine ⟨0, .slice none 0 0, [], fun _ => none, Nat.zero_le _, rfl, (isMap_made w).alloc _, fun _ _ => rfl, ?_, World.ownsRow_nil _ _ _ _, rfl, fun t ht => by simp at ht, List.Pairwise.nil, ((Below.refl _ _).alloc (Nat.le_refl _) _).alloc (by simp) _, by simp⟩
    have := heap_alloc_new (w.alloc (.map #[] 0)) (.cells #[.slice none 0 0] 78 (0, 0))
    simpa using this
  case round =>
    obtain ⟨j, sv, its, f, hj, rfl, hI⟩ := hrel
    by_cases hjl : j < rs.length
    · obtain ⟨g, rfl⟩ := hva (by omega)
      obtain ⟨c0, c1, c2⟩ := rl_cells hown0 hjl
      have hg := (hlt0 g rfl).2
      have c0' := (hI.bel.cell (p := ⟨g, j * 3, none⟩) hg).trans c0
      have c1' := (hI.bel.cell (p := ⟨g, j * 3 + 1, none⟩) hg).trans c1
      have c2' := (hI.bel.cell (p := ⟨g, j * 3 + 2, none⟩) hg).trans c2
      have hsz := hI.size
      have hltr := World.ownsRow.lt hI.row
      obtain ⟨hk, htxt, hname, hnsz⟩ := hG.each rs[j] (List.getElem_mem hjl)
      have hnd := hG.nodup
      have hadd := fun o => add_walk (hI.map.alloc o) (by omega) hnsz hname (hI.keys rs[j] (by rw [List.drop_eq_getElem_cons hjl]; exact List.mem_cons_self ..))
      have hpn := fun w' => parse_new hk htxt w'
      have hstep := fun (wF : World) (sv' : Value) (b lo hi mb : Nat) => CInv.step (wF := wF) (sv' := sv') (b := b) (lo := lo) (hi := hi) (mb := mb) hI hnd hjl
      have hset := hI.set
      have hrow := hI.row
      have hbel := hI.bel
      have hn1 : j + 1 ≤ maxLen := by unfold maxLen; omega
      have hn2 : (j + 1) * 48 ≤ 140737488355328 := by omega
      obtain ⟨r, hr⟩ : ∃ r, rs[j] = r := ⟨_, rfl⟩
      rw [hr] at c0 c1 c0' c1' hk htxt hname hnsz hadd hpn
      have hstep' : Hid (∀ (wF : World) (sv' : Value) (b lo hi mb : Nat), IsMap wF w.heap.size (j + 1) (fun u => if u = r.name then some (.bool true) else f u) → wF.heap[w.heap.size + 1]? = some (.cells #[sv'] 78 (0, 0)) →
          wF.ownsRow (w.heap.size + 2) 81 4 sv' (j + 1) (its.flatMap It.cells ++ [.string r.name, .string r.text, .bool false, .pointer (some ⟨b, 0, none⟩)]) →
          wr.heap.size ≤ lo → hi ≤ wF.heap.size → (sv'.ownBlock = sv.ownBlock ∨ ∃ g, sv'.ownBlock = some g ∧ hi ≤ g) → Laid1 r.k lo hi wF b mb → Below w.heap.size w wF → wr.heap.size ≤ wF.heap.size → lo ≤ hi →
          (∀ c, c < wr.heap.size → c ≠ w.heap.size → c ≠ w.heap.size + 1 → some c ≠ sv.ownBlock → wF.heap[c]? = wr.heap[c]?) → CInv w wF rs (j + 1) sv' (its ++ [⟨r, b, lo, hi, mb⟩]) (fun u => if u = r.name then some (.bool true) else f u)) := by
        rw [hr] at hstep
        exact hstep
      clear hstep hr hI hG c0 c1 c2
      obtain ⟨nm, hnm⟩ : ∃ s, r.name = s := ⟨_, rfl⟩
      obtain ⟨tx, htx⟩ : ∃ s, r.text = s := ⟨_, rfl⟩
      rw [hnm] at c0' hadd hstep'
      rw [htx] at c1' hpn hstep'
      clear hnm htx
      go_wp2_with (first
        | (go_at_call 38; refine (hadd _).mono ?_; rintro _ w1 ⟨rfl, hbut, hmap1⟩; have hR : w1.heap[wr.heap.size]? = some (.cells #[.string nm, .string tx, .bool false] 62 (0, 0)) := (hbut.block wr.heap.size (by simp) (by omega)).trans (heap_alloc_new _ _); have q1 : w1.cell? ⟨wr.heap.size, 1, none⟩ = some (.string tx) := by { simp [World.cell?, hR] }; have q2 : w1.cell? ⟨wr.heap.size, 2, none⟩ = some (.bool false) := by { simp [World.cell?, hR] })
        | (go_at_call 39; refine (hpn _).mono ?_; rintro _ w2 ⟨x, y, rfl, hb2, ⟨p0, p1, p2, p3, p4, p5, p6, p7, p8, p9, p10, p11, p12, p13, rfl⟩, hnew⟩)
        | (go_at_call 40; refine (hnew _ (by simp) (fun b hb => Below.heap_alloc _ _ _ hb)).mono ?_; rintro _ w3 ⟨b, mb, rfl, hb3, hlaid⟩; have hs3 := hb3.size; have hs2 := hb2.size; have hs1 := hbut.size; simp at hs1 hs3; have hR3 : w3.heap[wr.heap.size]? = some (.cells #[.string nm, .string tx, .bool false] 62 (0, 0)) := (hb3.block _ (by omega)).trans ((Below.heap_alloc _ _ _ (by omega)).trans ((hb2.block _ (by omega)).trans hR)); have hS3 : w3.heap[w.heap.size + 1]? = some (.cells #[sv] 78 (0, 0)) := (hb3.block _ (by omega)).trans ((Below.heap_alloc _ _ _ (by omega)).trans ((hb2.block _ (by omega)).trans ((hbut.block _ (by simp; omega) (by omega)).trans ((Below.heap_alloc _ _ _ (by omega)).trans hset)))); have r0 : w3.cell? ⟨wr.heap.size, 0, none⟩ = some (.string nm) := by { simp [World.cell?, hR3] }; have r1 : w3.cell? ⟨wr.heap.size, 1, none⟩ = some (.string tx) := by { simp [World.cell?, hR3] }; have r2 : w3.cell? ⟨wr.heap.size, 2, none⟩ = some (.bool false) := by { simp [World.cell?, hR3] }; have s0 : w3.cell? ⟨w.heap.size + 1, 0, none⟩ = some sv := by { simp [World.cell?, hS3] })
        | go_in)
      clear hadd hpn hnew q1 q2
      have hkeep : ∀ c, c < wr.heap.size → c ≠ w.heap.size → w3.heap[c]? = wr.heap[c]? := fun c hc hne => (hb3.block c (by omega)).trans ((Below.heap_alloc _ _ _ (by omega)).trans ((hb2.block c (by omega)).trans ((hbut.block c (by simp; omega) hne).trans (Below.heap_alloc _ _ _ hc))))
      have hrow3 : w3.ownsRow (w.heap.size + 2) 81 4 sv j (its.flatMap It.cells) := by
        refine ⟨hrow.1, hrow.2.imp id ?_⟩
        rintro ⟨gg, cap, cur, rfl, h2, h3, h4⟩
        have := (World.ownsRow.lt hrow gg rfl).2
        exact ⟨gg, cap, cur, rfl, h2, (hkeep gg this (by omega)).trans h3, h4⟩
      have hS3f : w3.frozen? ⟨w.heap.size + 1, 0, none⟩ = false := by simp [World.frozen?, hS3]
      have hfz : ∀ o, (w3.alloc o).drew.frozen? ⟨w.heap.size + 1, 0, none⟩ = false := fun o => ((((Below.refl (w.heap.size + 2) w3).alloc (by omega) o).drew).frozen (p := ⟨w.heap.size + 1, 0, none⟩) (by simp)).trans hS3f
      have aS := fun e => Nat.not_le_of_lt (Nat.lt_succ_self (w.heap.size + 1)) (hltr (w.heap.size + 1) e).1
      have aR := fun e => Nat.lt_irrefl _ (hltr wr.heap.size e).2
      have s1 : ∀ o, (w3.alloc o).cell? ⟨w.heap.size + 1, 0, none⟩ = some sv := fun o => (((Below.refl (w.heap.size + 2) w3).alloc (by omega) o).cell (p := ⟨w.heap.size + 1, 0, none⟩) (by simp)).trans s0
      have hfz' : ∀ o, (w3.alloc o).frozen? ⟨w.heap.size + 1, 0, none⟩ = false := hfz
      go_region_law
        (refine step_append_lies _ (by rfl) _ _ _ (by rfl) (w.heap.size + 2) 81 i0 _ 4 48 Tryz.underlying76 hi0 hz0 hz1 hz2 rfl (by omega) sv j (its.flatMap It.cells) (by rfl) ((hrow3.alloc _).drew)
            ⟨w3.heap.size, 0, none⟩ 1 1 [.string nm, .string tx, .bool false, .pointer (some ⟨b, 0, none⟩)] (by rfl) (by rfl) (World.news_of_block (cs := #[.string nm, .string tx, .bool false, .pointer (some ⟨b, 0, none⟩)]) (t := 81) (fr := (0, 0)) (heap_alloc_new w3 _)) (by simp [Value.oneCell'])
            (by omega) hn1 hn2 (by simp; omega) (w3.heap.size + 1) (by simp) ?_; intro gg cap w4 hown1 hgrow hat hlt; have hfz4 := (hgrow.frozen_far ⟨w.heap.size + 1, 0, none⟩ (by simp; omega) (fun e => aS e.symm)).trans (hfz _); have hnz4 := hgrow.cell_far ⟨w.heap.size + 1, 0, none⟩ (by simp; omega) (fun e => aS e.symm))
      all_goals
        have g0 : ∀ c, c < w3.heap.size → some c ≠ sv.ownBlock → w4.heap[c]? = w3.heap[c]? := fun c hc hne => (hgrow.block c (by simp; omega) hne).trans (Below.heap_alloc _ _ _ hc)
        have g4 := hgrow.size
        have gS : w4.heap[w.heap.size + 1]? = some (.cells #[sv] 78 (0, 0)) := (g0 _ (by omega) (fun e => aS e.symm)).trans hS3
        have gM := hmap1.same (w' := w4) ((g0 w.heap.size (by omega) (fun e => by have := (hltr _ e.symm).1; omega)).trans ((hb3.block _ (by omega)).trans ((Below.heap_alloc _ _ _ (by omega)).trans (hb2.block _ (by omega)))))
        have gL := hlaid.same (w' := w4) (fun c c1 c2 => g0 c c2 (fun e => by have := (hltr _ e.symm).2; omega))
        have gB : Below w.heap.size w w4 := by
          have k1 : Below w.heap.size w w1 := ⟨hbut.os.trans hbel.os, hbut.tape.trans hbel.tape, hbut.output.trans hbel.output, by have := hbel.size; omega, fun k hk => (hbut.block k (by simp; omega) (by omega)).trans ((Below.heap_alloc _ _ _ (by omega)).trans (hbel.block k hk))⟩
          exact (((((k1.trans (hb2.mono (by omega))).alloc (by omega) _).trans (hb3.mono (by omega))).alloc (by omega) _).drew).grown hgrow (by simp; omega) fun x hx => by have := (hltr x hx).1; omega
        have gK : ∀ c, c < wr.heap.size → c ≠ w.heap.size → some c ≠ sv.ownBlock → w4.heap[c]? = wr.heap[c]? := fun c hc h1 h2 => (g0 c (by omega) h2).trans (hkeep c hc h1)
        have gO : Value.ownBlock (.slice (some ⟨gg, 0, none⟩) (j + 1) cap) = sv.ownBlock ∨ ∃ g, Value.ownBlock (.slice (some ⟨gg, 0, none⟩) (j + 1) cap) = some g ∧ w3.heap.size ≤ g := hat.imp (fun e => e.symm) fun e => ⟨gg, rfl, by omega⟩
        simp at g4
        have hI2 := hstep'.out (w4.setCell ⟨w.heap.size + 1, 0, none⟩ (.slice (some ⟨gg, 0, none⟩) (j + 1) cap)) (.slice (some ⟨gg, 0, none⟩) (j + 1) cap) b w1.heap.size w3.heap.size mb
          (gM.same (Below.heap_setCell _ _ _ _ (by show w.heap.size ≠ w.heap.size + 1; omega))) (set_one gS _) (owns_setCell hown1 (by show w.heap.size + 1 < _; omega) _) (by omega) (by simp [World.setCell]; omega) gO
          (gL.same fun c c1 c2 => Below.heap_setCell _ _ _ _ (by show c ≠ w.heap.size + 1; omega)) (gB.setCell (by show w.heap.size ≤ w.heap.size + 1; omega) _) (by simp [World.setCell]; omega) (by omega)
          (fun c h1 h2 h3 h4 => (Below.heap_setCell _ _ _ _ h3).trans (gK c h1 h2 h4))
        have HI2 : Hid (CInv w (w4.setCell ⟨w.heap.size + 1, 0, none⟩ (.slice (some ⟨gg, 0, none⟩) (j + 1) cap)) rs (j + 1) (.slice (some ⟨gg, 0, none⟩) (j + 1) cap) (its ++ [⟨r, b, w1.heap.size, w3.heap.size, mb⟩]) (fun u => if u = nm then some (.bool true) else f u)) := hI2
        clear hI2 gO gK gB gL gM gS g0 hgrow hown1 hat
        go_wp2
        go_roundw
        case rel => exact ⟨j + 1, _, _, _, hjl, by go_num, HI2.out⟩
        case measure => simp [intOf]; omega
    · have hje : j = rs.length := by omega
      subst hje
      go_wp2_with fail
      go_ret3
      obtain ⟨M, hM, hS⟩ := hI.done
      exact ⟨w.heap.size + 1, M, rfl, hI.bel, hM, hS⟩
set_option maxHeartbeats 4000000 in
set_option maxRecDepth 1000000 in
theorem own_walk {w : World} {base : Nat} {v : Value} {rs : List Rl} (hown0 : w.ownsRow base 27 3 v rs.length (rs.flatMap Rl.cells)) (hG : Good rs) :
    Calls Tryz.prog 10 #[v] w fun e w' => ∃ (b : Nat) (M : Nat → Prop), e = .returned (.pointer (some ⟨b, 0, none⟩)) ∧ Below w.heap.size w w' ∧ (∀ k, M k → w.heap.size ≤ k ∧ k < w'.heap.size) ∧ SetAt M w.heap.size w'.heap.size w' b rs := by
  have hlen := hG.len
  have hC0 := fun (wr : World) (v' : Value) (h : wr.ownsRow w.heap.size 62 3 v' rs.length (rs.flatMap Rl.cells)) => compile_walk h hG
  clear hG
  obtain ⟨i0, hi0, hz0, hz1, hz2⟩ := info_parts info62
  obtain ⟨va, vc, rfl, hva⟩ := owns_shape hown0
  have hlt0 := World.ownsRow.lt hown0
  go_enter Tryz.func10, Tryz.ntmps10
  go_wp2
  go_loopw [3, 4] (fun v i wr => ∃ k : Nat, k ≤ rs.length ∧ i = .int .i64 k ∧ wr.ownsRow w.heap.size 62 3 v k ((rs.take k).flatMap Rl.cells) ∧ Below w.heap.size w wr) (fun _ i _ => rs.length - (intOf i).toNat)
  case atStart => exact ⟨0, Nat.zero_le _, rfl, World.ownsRow_nil _ _ _ _, Below.refl _ _⟩
  case round =>
    obtain ⟨k, hk, rfl, hown, hbel⟩ := hrel
    by_cases hkl : k < rs.length
    · obtain ⟨g, rfl⟩ := hva (by omega)
      obtain ⟨c0, c1, c2⟩ := rl_cells hown0 hkl
      have hg := (hlt0 g rfl).2
      have c0' := (hbel.cell (p := ⟨g, k * 3, none⟩) hg).trans c0
      have c1' := (hbel.cell (p := ⟨g, k * 3 + 1, none⟩) hg).trans c1
      have c2' := (hbel.cell (p := ⟨g, k * 3 + 2, none⟩) hg).trans c2
      have hsz := hbel.size
      have hltr := World.ownsRow.lt hown
      have hn1 : k + 1 ≤ maxLen := by unfold maxLen; omega
      have hn2 : (k + 1) * 40 ≤ 140737488355328 := by omega
      have hi1 : (0 : Int) ≤ (k : Int) := Int.natCast_nonneg _
      have hi2 : (k : Int) < (rs.length : Int) := by omega
      have ag := fun e => Nat.not_le_of_lt hg (hltr g e).1
      have htk : Hid ((rs.take (k + 1)).flatMap Rl.cells = (rs.take k).flatMap Rl.cells ++ [.string rs[k].name, .string rs[k].text, .bool false]) := by
        show _ = _
        rw [List.take_succ_eq_append_getElem hkl, List.flatMap_append]
        simp [Rl.cells]
      obtain ⟨nm, hnm⟩ : ∃ s, rs[k].name = s := ⟨_, rfl⟩
      obtain ⟨tx, htx⟩ : ∃ s, rs[k].text = s := ⟨_, rfl⟩
      rw [hnm] at c0 c0' htk
      rw [htx] at c1 c1' htk
      clear hnm htx c0 c1 c2
      go_wp2_with fail
      go_region_held3 (fun w' => w'.cell? ⟨g, k * 3, none⟩ = some (.string nm) ∧ w'.cell? ⟨g, k * 3 + 1, none⟩ = some (.string tx) ∧ w'.cell? ⟨g, k * 3 + 2, none⟩ = some (.bool false))
        (first
          | go_keep
          | (go_split_ands
             refine ⟨?_, ?_, ?_⟩
             · (rw [hgrow.cell_far _ (by simp; omega) (fun e => ag e.symm)]; assumption)
             · (rw [hgrow.cell_far _ (by simp; omega) (fun e => ag e.symm)]; assumption)
             · (rw [hgrow.cell_far _ (by simp; omega) (fun e => ag e.symm)]; assumption)))
        ((refine step_append_lies _ (by rfl) _ _ _ (by rfl) w.heap.size 62 i0 _ 3 40 Tryz.underlying60 hi0 hz0 hz1 hz2 rfl (by omega) _ k ((rs.take k).flatMap Rl.cells) (by rfl) ((hown.alloc _).drew)
            ⟨wr.heap.size, 0, none⟩ 1 1 [.string nm, .string tx, .bool false] (by rfl) (by rfl) (World.news_of_block (cs := #[.string nm, .string tx, .bool false]) (t := 62) (fr := (0, 0)) (heap_alloc_new wr _)) (by simp [Value.oneCell'])
            (by omega) hn1 hn2 (by simp; omega) (wr.heap.size + 1) (by simp) ?_; intro gg cap w1 hown1 hgrow hat hlt))
      go_wp2
      go_roundw
      case rel =>
        refine ⟨k + 1, hkl, by go_num, by rw [htk.out]; exact hown1, ((hbel.alloc hsz _).drew).grown hgrow (by simp; omega) fun x hx => (hltr x hx).1⟩
      case measure => simp [intOf]; omega
    · have hke : k = rs.length := by omega
      subst hke
      rw [List.take_length] at hown
      have hC := hC0 _ _ hown
      have hsz := hbel.size
      go_wp2_with (first
        | (go_at_call 26; refine hC.mono ?_; rintro _ w1 ⟨b, M, rfl, hb1, hM, hset⟩)
        | go_in)
      go_ret
      exact ⟨b, M, rfl, hbel.trans (hb1.mono hsz), fun k hk => ⟨Nat.le_trans hsz (hM k hk).1, (hM k hk).2⟩, hset.wide hsz (Nat.le_refl _)⟩
end Go.Proofs.YtopicmcaoeameaaGreatDoor
namespace Go.Proofs
open Go.RowKit Go.Maps Go.Shelf

def YtopicmcaoeameaaGreatDoor.growA_ren : Go.Shelf.Ren := ⟨fun | 4 => 34 | n => n, fun | 22 => 60 | 25 => 62 | 3 => 3 | 4 => 4 | 9 => 9 | 20 => 20 | 0 => 0 | n => n, fun | n => n⟩
theorem YtopicmcaoeameaaGreatDoor.growA : Go.Proofs.Lays8.n4 Tryz.prog YtopicmcaoeameaaGreatDoor.growA_ren :=
  { mixed := by kernel_rfl
    f4 := ⟨Tryz.f34.name, by decide, Tryz.func34.trans (congrArg some (by kernel_rfl))⟩
    t0 := Tryz.underlying0
    a0 := Tryz.isAgg0
    z0 := Tryz.sizeOf0
    v0 := Tryz.zeroValue0
    t3 := Tryz.underlying3
    a3 := Tryz.isAgg3
    z3 := Tryz.sizeOf3
    v3 := Tryz.zeroValue3
    t4 := Tryz.underlying4
    a4 := Tryz.isAgg4
    z4 := Tryz.sizeOf4
    v4 := Tryz.zeroValue4
    t9 := Tryz.underlying9
    a9 := Tryz.isAgg9
    z9 := Tryz.sizeOf9
    v9 := Tryz.zeroValue9
    t20 := Tryz.underlying20
    a20 := Tryz.isAgg20
    z20 := Tryz.sizeOf20
    v20 := Tryz.zeroValue20
    t22 := Tryz.underlying60
    a22 := Tryz.isAgg60
    z22 := Tryz.sizeOf60
    v22 := Tryz.zeroValue60 }
namespace YtopicmcaoeameaaGreatDoor
open Go Go.Ev Go.RowKit

section
variable {P : Program} {w : World} {base base2 : Nat} {e : TypeId} {size : Nat}
/-- append of a whole row, that may be nil -/
theorem wpList_append_row {ops : Array Oper} {rest : List Oper} {o : Oper} {a : Act} {Q : Exit → Act → World → Prop} (hgd : o.guard = none) (s x : Operand) (t : TypeId)
    (ho : o.op = .call { callee := .builtin .append, args := #[s, x], argTypes := #[t, t] })
    (i : TypeInfo) (z : Value) (bytes : Nat) (ht : P.underlying t = some (.slice e)) (hi : P.info? e = some i) (hz : i.zero = some z)
    (hsize : i.size = size) (hby : i.bytes = bytes) (hzs : z.cells.size = size) (hsz : 0 < size)
    (v : Value) (n : Nat) (xs : List Value) (hs : a.eval s = v) (hown : w.ownsRow base e size v n xs)
    (u : Value) (m : Nat) (news : List Value) (hx : a.eval x = u) (hrow : w.ownsRow base2 e size u m news) (h1 : ∀ u ∈ news, u.oneCell' = true)
    (h63 : n + m ≤ maxLen) (hbytes : (n + m) * bytes ≤ 140737488355328) (hbase : base ≤ w.heap.size)
    (h : ∀ v' w', w'.ownsRow base e size v' (n + m) (xs ++ news) → w.grownBy w' v.ownBlock → wpList P ops Q rest (a.put o.dst v') w') :
    wpList P ops Q (o :: rest) a w := by
  have key : ∃ v' w', (Builtin.append_ #[t, t] o.type #[v, u]).run P w = .ok v' w' ∧ w'.ownsRow base e size v' (n + m) (xs ++ news) ∧ w.grownBy w' v.ownBlock := by
    rcases hrow.2 with ⟨rfl, rfl⟩ | ⟨g, cap, cur, rfl, _⟩
    · have hn : news = [] := List.length_eq_zero_iff.1 (by simpa using hrow.1)
      subst hn
      exact ⟨v, w, run_append_owned_none w base t o.type e i size ht hi v n xs hown, by simpa using hown, ⟨rfl, rfl, rfl, Nat.le_refl _, fun _ _ _ => rfl⟩⟩
    · obtain ⟨v', w', h2, h3, h4, _⟩ := run_append_own w base t o.type e i z size bytes ht hi hz hsize hby hzs hsz v n xs hown ⟨g, 0, none⟩ m cap news hrow.1 (hrow.cells rfl) h1 h63 hbytes hbase
      exact ⟨v', w', h2, h3, h4⟩
  obtain ⟨v', w', hr, h3, h4⟩ := key
  refine wpList_plain hgd fun K hK => ?_
  unfold Oper.wp execOp
  simp only [ho, resolve, invoke, builtin, Sem.run_bind, Sem.run_pure, Result.andThen_ok, List.map_toArray, List.map_cons, List.map_nil, hs, hx, hr]
  exact hK _ _ (h v' w' h3 h4)
end
set_option maxHeartbeats 4000000 in
set_option maxRecDepth 1000000 in
theorem grow_walk (n : Nat) (hn : n ≤ 1000) (w : World) : Calls Tryz.prog 34 #[.slice none 0 0, .int .i64 (n : Int)] w fun e w' => ∃ v, e = .returned v ∧ w'.ownsRow w.heap.size 62 3 v 0 [] ∧ Below w.heap.size w w' := by
  obtain ⟨i0, hi0, hz0, hz1, hz2⟩ := info_parts info62
  by_cases h0 : n = 0
  · subst h0
    refine Calls.mono (Any8.slices_Grow_room (ρ := YtopicmcaoeameaaGreatDoor.growA_ren) YtopicmcaoeameaaGreatDoor.growA none 0 0 0 w (Nat.le_refl _) (by omega) (by omega) (by omega)) ?_
    rintro e w' ⟨rfl, rfl⟩
    exact ⟨_, rfl, World.ownsRow_nil _ _ _ _, Below.refl _ _⟩
  · refine Calls.mono (Any8.slices_Grow_grow (ρ := YtopicmcaoeameaaGreatDoor.growA_ren) YtopicmcaoeameaaGreatDoor.growA i0 _ hi0 hz0 (by omega) none 0 0 n [] w (Nat.le_refl _) (by omega) (by rw [hz2]; omega) (by omega) (by simp) (fun _ => rfl) (fun a h => by cases h)) ?_
    rintro e w' ⟨rfl, rfl⟩
    have hge := grownCap_ge w (0 + n) 0 62
    refine ⟨_, rfl, ⟨by simp, .inr ⟨w.heap.size, grownCap w (0 + n) 0 62, _, rfl, Nat.le_refl _, heap_alloc_new w.drew _, Nat.zero_le _, grownCap_le_maxLen _ _ _ _ (by unfold maxLen; omega), ?_, by simp⟩⟩, ((Below.refl _ _).drew).alloc (Nat.le_refl _) _⟩
    show _ = grownCap w (0 + n) 0 62 * 3
    simp only [Array.size_append, size_zeroCells]
    have hs3 : (Value.cells (.agg #[.string ByteArray.empty, .string ByteArray.empty, .bool false])).size = 3 := rfl
    rw [hs3]
    have e25 : YtopicmcaoeameaaGreatDoor.growA_ren.t 25 = 62 := rfl
    rw [e25]
    simp only [List.size_toArray, List.length_nil]
    omega
set_option maxHeartbeats 8000000 in
set_option maxRecDepth 1000000 in
/-- slices.Concat of two slices of rules -/
theorem concat_walk {w : World} {B1 B2 vb : Nat} {v1 v2 : Value} {rs1 rs2 : List Rl} (h1 : w.ownsRow B1 62 3 v1 rs1.length (rs1.flatMap Rl.cells)) (h2 : w.ownsRow B2 62 3 v2 rs2.length (rs2.flatMap Rl.cells)) (hn1 : rs1.length ≤ 100) (hn2 : rs2.length ≤ 100)
    (c0 : w.cell? ⟨vb, 0, none⟩ = some v1) (c1 : w.cell? ⟨vb, 1, none⟩ = some v2) (hvb : vb < w.heap.size) :
    Calls Tryz.prog 22 #[.slice (some ⟨vb, 0, none⟩) 2 2] w fun e w' => ∃ v, e = .returned v ∧ w'.ownsRow w.heap.size 62 3 v (rs1 ++ rs2).length ((rs1 ++ rs2).flatMap Rl.cells) ∧ Below w.heap.size w w' := by
  obtain ⟨i0, hi0, hz0, hz1, hz2⟩ := info_parts info62
  obtain ⟨a1, k1, rfl, _⟩ := owns_shape h1
  obtain ⟨a2, k2, rfl, _⟩ := owns_shape h2
  have hg := grow_walk (rs1.length + rs2.length) (by omega)
  have hone : ∀ rs : List Rl, ∀ u ∈ rs.flatMap Rl.cells, u.oneCell' = true := fun rs u hu => by
    obtain ⟨r, _, hr⟩ := List.mem_flatMap.1 hu
    simp only [Rl.cells, List.mem_cons, List.not_mem_nil, or_false] at hr
    rcases hr with rfl | rfl | rfl <;> rfl
  go_enter Tryz.func22, Tryz.ntmps22
  go_wp2
  refine wp_loop_rounds 3 ?_
  rw [rounds_succ]
  go_wp2
  rw [rounds_succ]
  go_wp2
  rw [rounds_succ]
  go_wp2_with (first
    | (go_at_call 34; refine (hg _).mono ?_; rintro _ w1 ⟨v0, rfl, hown, hb1⟩; have d0 := (hb1.cell (p := ⟨vb, 0, none⟩) hvb).trans c0; have d1 := (hb1.cell (p := ⟨vb, 1, none⟩) hvb).trans c1)
    | go_in)
  refine wp_loop_rounds 3 ?_
  rw [rounds_succ]
  have hsz := hb1.size
  have hn12 : (rs1.length + rs2.length) * 40 ≤ 140737488355328 := by omega
  have hn63 : rs1.length + rs2.length ≤ maxLen := by unfold maxLen; omega
  go_wp2_with (first
    | (at_builtin; refine wpList_append_row rfl _ _ 60 rfl i0 _ 40 Tryz.underlying60 hi0 hz0 hz1 hz2 rfl (by decide) _ _ _ rfl hown _ _ _ rfl (owns_below h1 hb1) (hone rs1) (by omega) (by omega) hsz ?_; intro v1 w2 hown2 hgrow2; have e0 := (hgrow2.cell_far ⟨vb, 0, none⟩ (by show vb < w1.heap.size; omega) (fun e => by have := (World.ownsRow.lt hown _ e.symm).1; simp at this; omega)).trans d0; have e1 := (hgrow2.cell_far ⟨vb, 1, none⟩ (by show vb < w1.heap.size; omega) (fun e => by have := (World.ownsRow.lt hown _ e.symm).1; simp at this; omega)).trans d1)
    | go_in)
  rw [rounds_succ]
  have hsz2 := hgrow2.size
  have hb2 : Below w.heap.size w w2 := hb1.grown hgrow2 hsz fun k hk => (World.ownsRow.lt hown k hk).1
  go_wp2_with (first
    | (at_builtin; refine wpList_append_row rfl _ _ 60 rfl i0 _ 40 Tryz.underlying60 hi0 hz0 hz1 hz2 rfl (by decide) _ _ _ rfl hown2 _ _ _ rfl (owns_below h2 hb2) (hone rs2) (by omega) (by omega) (by omega) ?_; intro v2 w3 hown3 hgrow3)
    | go_in)
  rw [rounds_succ]
  go_wp2_with fail
  go_ret
  refine ⟨_, rfl, ?_, hb2.grown hgrow3 (by omega) fun k hk => (World.ownsRow.lt hown2 k hk).1⟩
  simpa [List.flatMap_append] using hown3
end YtopicmcaoeameaaGreatDoor
end Go.Proofs
namespace Go.Proofs.YtopicmcaoeameaaGreatDoor
open Go Go.Ev Go.RowKit Go.Smap

/-- possible numbers -/
def Nums (ev mo en : Int) : Prop := 1 ≤ ev ∧ ev ≤ 1048576 ∧ 0 ≤ mo ∧ mo ≤ 1048576 ∧ 1 ≤ en ∧ en ≤ 1048576
instance (ev mo en : Int) : Decidable (Nums ev mo en) := by unfold Nums; infer_instance
set_option maxHeartbeats 4000000 in
set_option maxRecDepth 1000000 in
theorem new_nil1 (v : Value) (ev mo en : Int) (w : World) : Calls Tryz.prog 9 #[.pointer none, v, .int .i64 ev, .int .i64 mo, .int .i64 en] w fun e w' => e = .returned (.tuple #[.pointer none, .int .i64 1]) ∧ w' = w := by
  go_enter Tryz.func9, Tryz.ntmps9
  go_wp2
  go_ret2
  exact ⟨rfl, rfl⟩
set_option maxHeartbeats 4000000 in
set_option maxRecDepth 1000000 in
theorem new_nil2 (b : Nat) (ev mo en : Int) (w : World) : Calls Tryz.prog 9 #[.pointer (some ⟨b, 0, none⟩), .pointer none, .int .i64 ev, .int .i64 mo, .int .i64 en] w fun e w' => e = .returned (.tuple #[.pointer none, .int .i64 1]) ∧ w' = w := by
  go_enter Tryz.func9, Tryz.ntmps9
  go_wp2
  go_ret2
  exact ⟨rfl, rfl⟩
set_option maxHeartbeats 16000000 in
set_option maxRecDepth 1000000 in
theorem new_bad (b1 b2 : Nat) (ev mo en : Int) (h : ¬ Nums ev mo en) (w : World) : Calls Tryz.prog 9 #[.pointer (some ⟨b1, 0, none⟩), .pointer (some ⟨b2, 0, none⟩), .int .i64 ev, .int .i64 mo, .int .i64 en] w fun e w' => e = .returned (.tuple #[.pointer none, .int .i64 1]) ∧ w' = w := by
  have HN : Hid (¬ Nums ev mo en) := h
  clear h
  by_cases h1 : ev < 1
  · go_enter Tryz.func9, Tryz.ntmps9
    go_wp2
    go_ret2
    exact ⟨rfl, rfl⟩
  by_cases h2 : 1048576 < ev
  · go_enter Tryz.func9, Tryz.ntmps9
    go_wp2
    go_ret2
    exact ⟨rfl, rfl⟩
  by_cases h3 : mo < 0
  · go_enter Tryz.func9, Tryz.ntmps9
    go_wp2
    go_ret2
    exact ⟨rfl, rfl⟩
  by_cases h4 : 1048576 < mo
  · go_enter Tryz.func9, Tryz.ntmps9
    go_wp2
    go_ret2
    exact ⟨rfl, rfl⟩
  by_cases h5 : en < 1
  · go_enter Tryz.func9, Tryz.ntmps9
    go_wp2
    go_ret2
    exact ⟨rfl, rfl⟩
  by_cases h6 : 1048576 < en
  · go_enter Tryz.func9, Tryz.ntmps9
    go_wp2
    go_ret2
    exact ⟨rfl, rfl⟩
  · exact absurd (show Nums ev mo en by unfold Nums; omega) HN.out
set_option maxHeartbeats 16000000 in
set_option maxRecDepth 1000000 in
theorem new_walk {M1 M2 : Nat → Prop} {lo1 hi1 lo2 hi2 b1 b2 : Nat} {w : World} {rs1 rs2 : List Rl} (hs1 : SetAt M1 lo1 hi1 w b1 rs1) (hs2 : SetAt M2 lo2 hi2 w b2 rs2) (hhi1 : hi1 ≤ w.heap.size) (hhi2 : hi2 ≤ w.heap.size)
    (hn1 : rs1.length ≤ 100) (hn2 : rs2.length ≤ 100) (hm : ∀ r ∈ rs1 ++ rs2, r.name.size ≤ maxLen) {ev mo en : Int} (hN : Nums ev mo en) :
    Calls Tryz.prog 9 #[.pointer (some ⟨b1, 0, none⟩), .pointer (some ⟨b2, 0, none⟩), .int .i64 ev, .int .i64 mo, .int .i64 en] w fun e w' => ∃ (cb bm : Nat) (vn : Value) (ns : List ByteArray), e = .returned (.tuple #[.pointer (some ⟨cb, 0, none⟩), .int .i64 0]) ∧ Below w.heap.size w w' ∧
      w.heap.size ≤ cb ∧ CanAt w' cb ⟨b1, b2, ev, mo, en, 0, 0, 0, vn, .map (some bm), .slice none 0 0⟩ ∧ IsMap w' bm 0 (fun _ => none) ∧ w.heap.size ≤ bm ∧ w'.ownsRow w.heap.size 9 1 vn ns.length (ns.map Value.string) ∧ ns.length ≤ 200 ∧
      (∀ s ∈ ns, s.size ≤ maxLen) ∧ (ns.Pairwise fun a b => a.data.toList ≤ b.data.toList) ∧ ns.Nodup ∧ ∀ s, s ∈ ns ↔ ∃ r ∈ rs1 ++ rs2, r.name = s := by
  obtain ⟨n1, n2, n3, n4, n5, n6⟩ := hN
  have hmm := @run_makeMap Tryz.prog
  have hl12 : (rs1 ++ rs2).length ≤ 200 := by simp; omega
  obtain ⟨rs, hrs⟩ : ∃ rs, rs1 ++ rs2 = rs := ⟨_, rfl⟩
  rw [hrs] at hl12 hm ⊢
  have hr1 := fun (w' : World) (hb : Below w.heap.size w w') => rules_walk (hs1.bel (Bel.of hb) hhi1) (Nat.le_trans hhi1 hb.size) hn1
  have hr2 := fun (w' : World) (hb : Below w.heap.size w w') => rules_walk (hs2.bel (Bel.of hb) hhi2) (Nat.le_trans hhi2 hb.size) hn2
  have hW0 : Below w.heap.size w (w.alloc (.map #[] 0)) := (Below.refl _ _).alloc (Nat.le_refl _) _
  have M1' : Hid True := trivial
  go_enter Tryz.func9, Tryz.ntmps9
  go_wp2_with (first
    | (go_at_call 23; clear M1'; refine (hr1 _ hW0).mono ?_; rintro _ w1 ⟨v1, rfl, hv1, hb1⟩; obtain ⟨a1, k1, rfl, _⟩ := owns_shape hv1; have hW1 : Below w.heap.size w w1 := hW0.trans (hb1.mono hW0.size))
    | (go_at_call 23; refine (hr2 _ hW1).mono ?_; rintro _ w2 ⟨v2, rfl, hv2, hb2⟩; obtain ⟨a2, k2, rfl, _⟩ := owns_shape hv2; have hW2 : Below w.heap.size w w2 := hW1.trans (hb2.mono hW1.size); have hv1' := (owns_below hv1 hb2).alloc (.cells #[.slice a1 rs1.length k1, .slice a2 rs2.length k2] 60); have hv2' := hv2.alloc (.cells #[.slice a1 rs1.length k1, .slice a2 rs2.length k2] 60); have hcc := concat_walk (vb := w2.heap.size) hv1' hv2' hn1 hn2 (by rw [World.cell?_alloc_new]; rfl) (by rw [World.cell?_alloc_new]; rfl) (by simp); rw [hrs] at hcc)
    | (go_at_call 22; refine hcc.mono ?_; rintro _ w3 ⟨v3, rfl, hv3, hb3⟩; obtain ⟨a3, k3, rfl, ha3⟩ := owns_shape hv3)
    | go_in)
  have hs0 := hW0.size
  have hs1' := hb1.size
  have hs2' := hb2.size
  have hs3' := hb3.size
  simp at hs0 hs1' hs3'
  have hW3 : Below w.heap.size w w3 := (hW2.alloc hW2.size _).trans (hb3.mono (by simp; omega))
  have hmap3 : IsMap w3 w.heap.size 0 (fun _ => none) := (isMap_made w).same (((hb3.block _ (by simp; omega)).trans (Below.heap_alloc _ _ _ (by omega))).trans ((hb2.block _ (by omega)).trans (hb1.block _ (by simp))))
  have hlt3 := World.ownsRow.lt hv3
  clear hv1 hv2 hv1' hv2' hr1 hr2 hcc hs1 hs2
  have hv3b := owns_base (base' := w.heap.size + 1) hv3 (by simp; omega)
  have hs3n : w.heap.size + 1 ≤ w3.heap.size := by omega
  go_loopw [53] (fun i wr => ∃ (j : Nat) (f : ByteArray → Option Value), j ≤ rs.length ∧ i = .int .i64 j ∧ IsMap wr w.heap.size j f ∧ Below w.heap.size w wr ∧ wr.ownsRow (w.heap.size + 1) 62 3 (.slice a3 rs.length k3) rs.length (rs.flatMap Rl.cells) ∧ Hid (∀ s, f s ≠ none ↔ ∃ r ∈ rs.take j, r.name = s)) (fun i _ => rs.length - (intOf i).toNat)
  case atStart => exact ⟨0, _, Nat.zero_le _, rfl, hmap3, hW3, hv3b, fun s => ⟨fun h => absurd rfl h, fun ⟨r, hr, _⟩ => by simp at hr⟩⟩
  case round =>
    obtain ⟨j, f, hj, rfl, hmap, hbel, hown, hkeys⟩ := hrel
    by_cases hjl : j < rs.length
    · obtain ⟨g, rfl⟩ := ha3 (by omega)
      obtain ⟨c0, c1, c2⟩ := rl_cells hown hjl
      have hnm := hm rs[j] (List.getElem_mem hjl)
      have hkeys2 : Hid (∀ s, (if s = rs[j].name then some (Value.bool true) else f s) ≠ none ↔ ∃ r ∈ rs.take (j + 1), r.name = s) := fun s => by
        rw [List.take_succ_eq_append_getElem hjl]
        by_cases e : s = rs[j].name
        · rw [if_pos e]
          exact ⟨fun _ => ⟨rs[j], List.mem_append_right _ (List.mem_singleton.2 rfl), e.symm⟩, fun _ => by simp⟩
        · rw [if_neg e, hkeys.out s]
          constructor
          · rintro ⟨r, hr, h⟩
            exact ⟨r, List.mem_append_left _ hr, h⟩
          · rintro ⟨r, hr, h⟩
            rcases List.mem_append.1 hr with hr | hr
            · exact ⟨r, hr, h⟩
            · simp only [List.mem_singleton] at hr
              subst hr
              exact absurd h.symm e
      obtain ⟨nm, hnme⟩ : ∃ s, rs[j].name = s := ⟨_, rfl⟩
      obtain ⟨tx, htxe⟩ : ∃ s, rs[j].text = s := ⟨_, rfl⟩
      rw [hnme] at c0 hnm hkeys2
      rw [htxe] at c1
      clear hnme htxe
      have hg := (World.ownsRow.lt hown g rfl)
      obtain ⟨o, hrun, hmap'⟩ := (hmap.alloc (.cells #[.string nm, .string tx, .bool false] 62)).update (by unfold maxLen; omega) Tryz.underlying59 Tryz.underlying9 hnm (.bool true)
      have hown' := owns_setBlock (hown.alloc (.cells #[.string nm, .string tx, .bool false] 62)) (B := w.heap.size) (fun e => by have e' : g = w.heap.size := Option.some.inj e; omega) o
      have hbel' : Below w.heap.size w (ChangeMaps.setBlock (wr.alloc (.cells #[.string nm, .string tx, .bool false] 62)) w.heap.size o) := below_setBlock (hbel.alloc hbel.size _) (Nat.le_refl _) o
      go_wp2
      go_roundw
      case rel => exact ⟨j + 1, _, hjl, by go_num, hmap', hbel', hown', hkeys2⟩
      case measure => simp [intOf]; omega
    · have hje : j = rs.length := by omega
      subst hje
      have hk := keys_call (some w.heap.size) wr
      have hso := sorted_keys (bq := wr.heap.size) (w := wr.alloc (.cells #[.map (some w.heap.size)] 59)) (by rw [World.cell?_alloc_new]; rfl) (by simp) (hmap.alloc _) (by omega)
      have hbs := hbel.size
      go_wp2_with (first
        | (go_at_call 25; refine hk.mono ?_; rintro _ w4 ⟨rfl, rfl⟩)
        | (go_at_call 24; refine hso.mono ?_; rintro _ w5 ⟨vn, ns, rfl, hown5, hns, hns1, hns2, hns3, hns4, hb5⟩; obtain ⟨an, kn, rfl, _⟩ := owns_shape hown5)
        | go_in)
      have h5s := hb5.size
      simp at h5s
      have hW5 : Below w.heap.size w w5 := (hbel.alloc hbs _).trans (hb5.mono (by simp; omega))
      go_ret2
      refine ⟨w5.heap.size + 1, w5.heap.size, _, ns, rfl, (hW5.alloc hW5.size _).alloc (by simp; omega) _, by omega, ?_, (isMap_made w5).alloc _, by omega, owns_base ((hown5.alloc _).alloc _) (by simp; omega), by omega, fun s hs => (hns1 s hs).1, hns3, hns4, fun s => ⟨fun h => by have := (hkeys.out s).1 (hns1 s h).2; rwa [List.take_length] at this, fun h => hns2 s ((hkeys.out s).2 (by rwa [List.take_length]))⟩⟩
      have := heap_alloc_new (w5.alloc (.map #[] 0)) (.cells #[.pointer (some ⟨b1, 0, none⟩), .pointer (some ⟨b2, 0, none⟩), .int .i64 ev, .int .i64 mo, .int .i64 en, .int .i64 0, .int .i64 0, .int .i64 0, .slice an ns.length kn, .map (some w5.heap.size), .slice none 0 0] 69)
      unfold CanAt
      simpa [Can.cells] using this
end Go.Proofs.YtopicmcaoeameaaGreatDoor
namespace Go.Proofs.YtopicmcaoeameaaGreatDoor
open Go Go.Ev Go.RowKit

theorem first_chk : ∀ k, k < 8 → ∀ f, f < 3 → chkFs k f = true
  | 0, _, 0, _ => first00
  | 0, _, 1, _ => first01
  | 0, _, 2, _ => first02
  | 1, _, 0, _ => first10
  | 1, _, 1, _ => first11
  | 1, _, 2, _ => first12
  | 2, _, 0, _ => first20
  | 2, _, 1, _ => first21
  | 2, _, 2, _ => first22
  | 3, _, 0, _ => first30
  | 3, _, 1, _ => first31
  | 3, _, 2, _ => first32
  | 4, _, 0, _ => first40
  | 4, _, 1, _ => first41
  | 4, _, 2, _ => first42
  | 5, _, 0, _ => first50
  | 5, _, 1, _ => first51
  | 5, _, 2, _ => first52
  | 6, _, 0, _ => first60
  | 6, _, 1, _ => first61
  | 6, _, 2, _ => first62
  | 7, _, 0, _ => first70
  | 7, _, 1, _ => first71
  | 7, _, 2, _ => first72
  | _, _, n + 3, h => absurd h (by omega)
  | n + 8, h, _, _ => absurd h (by omega)
/-- what First gives at the text [97, x] -/
noncomputable def FX (x : Int) (k f : Nat) : FR := match firstR k (cls x) f with | some (s, e, ok, err) => ⟨s, e, ok, err⟩ | none => ⟨0, 0, false, 0⟩
theorem cell_rel {x : Int} (h1 : -9223372036854775808 ≤ x) (h2 : x ≤ 9223372036854775807) (ι : Emb) (hσ : ι.sym = fun _ => x) : V.rel ι (cellV 1 (bnd (cls x))) (.int .i64 x) := by
  have hs : ι.sym 1 = x := by rw [hσ]
  have key : ∀ a b : Int, ieq a b = false → a ≤ x → x ≤ b → V.rel ι (cellV 1 (a, b)) (.int .i64 x) := fun a b h ha hb => by
    unfold cellV
    rw [h]
    simp only [V.rel, hs]
    exact ⟨trivial, ha, hb⟩
  unfold cls
  split
  · exact key _ _ (by decide) h1 (by omega)
  split
  · exact key _ _ (by decide) (by omega) (by omega)
  split
  · rename_i e; subst e; exact rfl
  split
  · rename_i e; subst e; exact rfl
  split
  · rename_i e; subst e; exact rfl
  split
  · exact key _ _ (by decide) (by omega) (by omega)
  · exact key _ _ (by decide) (by omega) h2
theorem firstV_inv {k c f : Nat} {R : Int × Int × Bool × Int} (h : firstV k c f = some R) : ∃ v H n, (calOf (gloF k c)).fn 30 [.ptr (root k) 0, .sl nT 0 2 2 1, .int .i64 f, .int .i64 2000] .nil n1 = .ok (.tup [.agg [.int .i64 R.1, .int .i64 R.2.1, v], .bool R.2.2.1, .int .i64 R.2.2.2]) H n ∧
    freeH H (nT :: (plan k).map (·.1)) = true ∧ isSl v = true := by
  unfold firstV at h
  split at h
  · rename_i s e v ok err H n h0
    split at h
    · rename_i hf
      split at h
      · rename_i hv
        cases h
        exact ⟨v, H, n, h0, hf, hv⟩
      · cases h
    · cases h
  · cases h
theorem firstM_inv {c f : Nat} {R : Int × Int × Bool × Int} (h : firstM c f = some R) : ∃ v H n, (calOf (gloM c)).fn 30 [.ptr (root 3) 0, .sl nT 0 2 2 1, .int .i64 f, .int .i64 2000] HM n1 = .ok (.tup [.agg [.int .i64 R.1, .int .i64 R.2.1, v], .bool R.2.2.1, .int .i64 R.2.2.2]) H n ∧
    freeH H (nT :: ro3.map (·.1)) = true ∧ isSl v = true ∧ machOK H = true := by
  unfold firstM at h
  split at h
  · rename_i s e v ok err H n h0
    split at h
    · rename_i hf
      split at h
      · rename_i hv
        split at h
        · rename_i hm
          cases h
          exact ⟨v, H, n, h0, hf, hv, hm⟩
        · cases h
      · cases h
    · cases h
  · cases h
theorem out_rel {ι : Emb} {s e : Int} {v : V} {ok : Bool} {err : Int} {y : Value} (hv : isSl v = true) (h : V.rel ι (.tup [.agg [.int .i64 s, .int .i64 e, v], .bool ok, .int .i64 err]) y) :
    ∃ ca cm cc, y = .tuple #[.agg #[.int .i64 s, .int .i64 e, .slice ca cm cc], .bool ok, .int .i64 err] := by
  obtain ⟨cs, rfl, hcs⟩ := h
  obtain ⟨x1, t1, e1, hx1, hcs⟩ := rels_cons_inv hcs
  obtain ⟨x2, t2, e2, hx2, hcs⟩ := rels_cons_inv hcs
  obtain ⟨x3, t3, e3, hx3, hcs⟩ := rels_cons_inv hcs
  have e4 := rels_nil_inv hcs
  subst e4; subst e3; subst e2
  obtain ⟨cs', rfl, hcs'⟩ := hx1
  obtain ⟨y1, u1, d1, hy1, hcs'⟩ := rels_cons_inv hcs'
  obtain ⟨y2, u2, d2, hy2, hcs'⟩ := rels_cons_inv hcs'
  obtain ⟨y3, u3, d3, hy3, hcs'⟩ := rels_cons_inv hcs'
  have d4 := rels_nil_inv hcs'
  subst d4; subst d3; subst d2
  obtain ⟨ca, cm, cc, rfl⟩ := isSl_rel hv hy3
  have hx2' : x2 = .bool ok := hx2
  have hx3' : x3 = .int .i64 err := hx3
  have hy1' : y1 = .int .i64 s := hy1
  have hy2' : y2 = .int .i64 e := hy2
  subst hx2'; subst hx3'; subst hy1'; subst hy2'
  have ec : cs = #[.agg cs', .bool ok, .int .i64 err] := Array.toList_inj.1 e1
  have ec' : cs' = #[.int .i64 s, .int .i64 e, .slice ca cm cc] := Array.toList_inj.1 d1
  subst ec; subst ec'
  exact ⟨ca, cm, cc, rfl⟩
theorem firstOf_args {M : Nat → Prop} {lo hi : Nat} {w : World} {rs : List Rl} (hk : ∀ r ∈ rs, r.k < 8) {x : Int} (h1 : -9223372036854775808 ≤ x) (h2 : x ≤ 9223372036854775807) {tb : Nat} (htb : tb < lo ∨ hi ≤ tb) (htm : ¬ M tb) {el : TypeId} {fr : Nat × Nat}
    (hb : w.heap[tb]? = some (.cells #[.int .i64 97, .int .i64 x] el fr)) : FirstOf M lo hi w (.slice (some ⟨tb, 0, none⟩) 2 2) 2 2000 (FX x) rs := by
  intro w1 hw1 r hr pb hl f hf _
  have hc := chkFs_at (first_chk r.k (hk r hr) f (by omega)) (cls x) (cls_lt x)
  have hpl := plan_closed r.k (by have := hk r hr; omega)
  have hlt := (Array.getElem?_eq_some_iff.1 hb).1
  have hb1 := (hw1.block tb hlt htm).trans hb
  obtain ⟨lo', hi', mb, b1, b2, hlaid, hmb⟩ := hl
  have htb' : tb < lo' ∨ hi' ≤ tb := by omega
  unfold chkF at hc
  unfold FX
  split at hc
  · rename_i s e ok err hV
    rw [hV]
    refine ⟨fun he hok => ?_, ?_⟩
    · simp only at he hok
      subst he; subst hok
      simp only [show ieq 0 0 = true from rfl, Bool.and_eq_true, decide_eq_true_eq] at hc
      exact hc
    · unfold firstR at hV
      by_cases h3 : r.k = 3
      · rw [h3] at hV hlaid hmb
        obtain ⟨v, H, n, h0, hfree, hv, hm⟩ := firstM_inv (show firstM (cls x) f = some (s, e, ok, err) from hV)
        refine (callMach (calOf_ok (gloM (cls x))) h0 hfree hm hlaid htb' hb1 (off := 0) (by simp [cellsX]) (fun _ => x) 2 (fun ι hσ => ?_) _ (fun ι hr hT hsz hσ => ?_)).mono fun ed w2 he => ?_
        · exact ⟨_, _, rfl, rfl, _, _, rfl, cell_rel h1 h2 ι hσ, rfl⟩
        · exact rels_cons ⟨pb, 0, hr, rfl⟩ (rels_cons ⟨tb, 0, 2, hT, rfl, Nat.le_refl _, fun h => rfl, fun _ => by rw [hsz]⟩ (rels_cons rfl (rels_one rfl)))
        · obtain ⟨y, ι', rfl, hy, hbel⟩ := he
          obtain ⟨ca, cm, cc, rfl⟩ := out_rel hv hy
          exact ⟨ca, cm, cc, rfl, hbel.more fun k e => (hmb k (by rw [e]; exact hlaid.mb.1) (by rw [e]; exact hlaid.mb.2)).2 ⟨rfl, e⟩⟩
      · have hV' : firstV r.k (cls x) f = some (s, e, ok, err) := by
          have : Nat.beq r.k 3 = false := by
            cases hbq : Nat.beq r.k 3 with
            | false => rfl
            | true => exact absurd (Nat.eq_of_beq_eq_true hbq) h3
          rw [this] at hV
          exact hV
        obtain ⟨v, H, n, h0, hfree, hv⟩ := firstV_inv hV'
        refine (callLaid (calOf_ok (gloF r.k (cls x))) h0 hfree hpl.1 hpl.2.1 hpl.2.2 (hlaid.laid h3) htb' hb1 (off := 0) (by simp [cellsX]) (fun _ => x) 2 (fun ι hσ => ?_) _ (fun ι hr hT hsz hσ => ?_)).mono fun ed w2 he => ?_
        · exact ⟨_, _, rfl, rfl, _, _, rfl, cell_rel h1 h2 ι hσ, rfl⟩
        · exact rels_cons ⟨pb, 0, hr, rfl⟩ (rels_cons ⟨tb, 0, 2, hT, rfl, Nat.le_refl _, fun h => rfl, fun _ => by rw [hsz]⟩ (rels_cons rfl (rels_one rfl)))
        · obtain ⟨y, ι', rfl, hy, hbel⟩ := he
          obtain ⟨ca, cm, cc, rfl⟩ := out_rel hv hy
          exact ⟨ca, cm, cc, rfl, .of hbel⟩
  · cases hc
end Go.Proofs.YtopicmcaoeameaaGreatDoor
namespace Go.Proofs.YtopicmcaoeameaaGreatDoor
open Go Go.Ev Go.RowKit Go.Smap

theorem Bel.below {M : Nat → Prop} {B : Nat} {w w' : World} (h : Bel M B w w') (hM : ∀ k, M k → B ≤ k) : Below B w w' := ⟨h.os, h.tape, h.output, h.size, fun k hk => h.block k hk fun e => by have := hM k e; omega⟩
theorem differ_self (rs : List Rl) (D : List (Int × Int × Int)) (ns : List ByteArray) : differ rs rs D D ns = [] := by
  unfold differ
  rw [List.filter_eq_nil_iff]
  intro a _
  simp
/-- what See gives at the first text of a canary whose sides are one set -/
def seePost (M : Nat → Prop) (cb : Nat) (C : Can) (w w' : World) (e : Ending) : Except Int (List (Int × Int × Int)) → Prop
  | .error er => e = .returned (.tuple #[.bool false, .bool false, .int .i64 er]) ∧ Bel M w.heap.size w w' ∧ CanAt w' cb C
  | .ok _ => e = .returned (.tuple #[.bool true, .bool true, .int .i64 0]) ∧ BelBut M cb w w' ∧ CanAt w' cb { C with seen := C.seen + 1, compared := C.compared + 1 }
theorem see_args {M : Nat → Prop} {lo hi b cb bm base : Nat} {w : World} {rs : List Rl} {ns : List ByteArray} {vn : Value} (hMw : ∀ k, M k → k < w.heap.size) (hS : SetAt M lo hi w b rs) (hhi : hi ≤ w.heap.size) (hlen : rs.length ≤ 100) (hsz : ∀ r ∈ rs, r.name.size ≤ maxLen)
    {C : Can} (hC : CanAt w cb C) (e1 : C.b1 = b) (e2 : C.b2 = b) (e3 : C.every = 1) (e4 : C.most = 0) (e5 : C.enough = 5) (e6 : C.seen = 0) (e7 : C.compared = 0) (e8 : C.unlike = 0) (e9 : C.names = vn) (e10 : C.allowed = .map (some bm))
    (hcm : ¬ M cb) (hbmm : ¬ M bm) (hbm : IsMap w bm 0 fun _ => none) (hnames : w.ownsRow base 9 1 vn ns.length (ns.map Value.string)) (hbase : ∀ k, M k → k < base) (hnl : ns.length ≤ 1000) (hns : ∀ s ∈ ns, s.size ≤ maxLen)
    {ta : Option Addr} {n tc : Nat} (hn : n ≤ 1000) {F : Nat → Nat → FR} (hF : FirstOf M lo hi w (.slice ta n tc) n 2000 F rs) :
    Calls Tryz.prog 12 #[.pointer (some ⟨cb, 0, none⟩), .slice ta n tc, .int .i64 2000] w fun e w' => seePost M cb C w w' e (fnd F n 0 rs) := by
  obtain ⟨an, kn, rfl, han⟩ := owns_shape hnames
  have hcb := hC.lt
  obtain ⟨ng, hng, hngm, hna, hcell⟩ : ∃ ng, ng < w.heap.size ∧ ¬ M ng ∧ (ns ≠ [] → an = some ⟨ng, 0, none⟩) ∧ ∀ (i : Nat) (s : ByteArray), ns[i]? = some s → s.size ≤ maxLen ∧ w.cell? ⟨ng, i, none⟩ = some (.string s) := by
    by_cases h0 : ns = []
    · exact ⟨cb, hcb, hcm, fun h => absurd h0 h, fun i s hi => by rw [h0] at hi; simp at hi⟩
    · obtain ⟨g, rfl⟩ := han (fun e => h0 (List.length_eq_zero_iff.1 e))
      have hl := World.ownsRow.lt hnames g rfl
      refine ⟨g, hl.2, fun e => by have := hbase g e; omega, fun _ => rfl, fun i s hi => ⟨hns s (List.mem_of_getElem? hi), ?_⟩⟩
      have hil := (List.getElem?_eq_some_iff.1 hi).1
      rw [hnames.cellAt i (by omega), List.getElem?_map, hi]
      rfl
  have hcmp : ∀ w1, Below w.heap.size w w1 → Calls Tryz.prog 28 #[.pointer (some ⟨cb, 0, none⟩), .slice ta n tc, .int .i64 2000] w1 fun e w' => Bel M w1.heap.size w1 w' ∧ comparePost w1 w' e rs rs ns (fnd F n 0 rs) (fnd F n 0 rs) := fun w1 hb => by
    have hC1 := hC.below hb
    have hS1 := hS.bel (Bel.of hb) hhi
    have hs := hb.size
    refine compare_walk (na := an) (nc := kn) (fun k hk => Nat.lt_of_lt_of_le (hMw k hk) hs) hS1 hS1 (Nat.le_trans hhi hs) (Nat.le_trans hhi hs) hlen hlen hsz hsz hn (hF.later (.of hb)) (hF.later (.of hb)) (Nat.lt_of_lt_of_le hcb hs) hcm hbmm hngm ?_ ?_ ?_ ?_ (hbm.same (hb.block bm hbm.lt)) hna (Nat.lt_of_lt_of_le hng hs) (fun i s hi => ⟨(hcell i s hi).1, (hb.cell (p := ⟨ng, i, none⟩) hng).trans (hcell i s hi).2⟩) hnl
    · rw [hC1.cell 0]; simp [Can.cells, e1]
    · rw [hC1.cell 1]; simp [Can.cells, e2]
    · rw [hC1.cell 8]; simp [Can.cells, e9]
    · rw [hC1.cell 9]; simp [Can.cells, e10]
  have hv : verdict C.most C.enough C.compared C.unlike = 0 := by rw [e4, e5, e7, e8]; decide
  cases hX : fnd F n 0 rs with
  | error er =>
    rw [hX] at hcmp
    refine (see_err (M := M) hC hv (by rw [e6]; decide) (by rw [e3]; decide) (by rw [e6]; simp) _ _ er (fnd_err _ _ _ _ _ hX) hcmp).mono ?_
    rintro e w' ⟨rfl, hb⟩
    exact ⟨rfl, hb, hC.bel hcm hb⟩
  | ok D =>
    rw [hX] at hcmp
    refine (see_same (M := M) hcm hC hv (by rw [e6]; decide) (by rw [e3]; decide) (by rw [e6]; decide) (by rw [e7]; decide) (by rw [e7]; decide) (by rw [e6]; simp) _ _ (fun w1 hb => (hcmp w1 hb).mono ?_)).mono ?_
    · rintro e w' ⟨hb', v, rfl, hown⟩
      rw [differ_self] at hown
      obtain ⟨a, c, rfl, _⟩ := owns_shape hown
      exact ⟨hb', a, c, rfl⟩
    · rintro e w' ⟨rfl, hb, hC'⟩
      exact ⟨rfl, hb, hC'⟩
set_option maxHeartbeats 8000000 in
set_option maxRecDepth 1000000 in
theorem num_yes {ev mo en : Int} (h : Nums ev mo en) (w : World) : Calls Tryz.prog 15 #[.int .i64 ev, .int .i64 mo, .int .i64 en] w fun e w' => e = .returned (.bool true) ∧ w' = w := by
  obtain ⟨n1, n2, n3, n4, n5, n6⟩ := h
  go_enter Tryz.func15, Tryz.ntmps15
  go_wp2
  go_ret
  refine ⟨?_, rfl⟩
  simp [n1, n2, n3, n4, n5, n6]
set_option maxHeartbeats 8000000 in
set_option maxRecDepth 1000000 in
theorem num_no {ev mo en : Int} (h : ¬ Nums ev mo en) (w : World) : Calls Tryz.prog 15 #[.int .i64 ev, .int .i64 mo, .int .i64 en] w fun e w' => e = .returned (.bool false) ∧ w' = w := by
  have hX : Hid (¬ Nums ev mo en) := h
  clear h
  go_enter Tryz.func15, Tryz.ntmps15
  go_wp2
  all_goals go_ret
  all_goals refine ⟨?_, rfl⟩
  all_goals first
    | rfl
    | (have := hX.out
       unfold Nums at this
       simp
       omega)
theorem new_yes {M : Nat → Prop} {lo hi b : Nat} {w : World} {rs : List Rl} (hs : SetAt M lo hi w b rs) (hhi : hi ≤ w.heap.size) (hG : Good rs) {ev mo en : Int} (hN : Nums ev mo en) :
    Calls Tryz.prog 9 #[.pointer (some ⟨b, 0, none⟩), .pointer (some ⟨b, 0, none⟩), .int .i64 ev, .int .i64 mo, .int .i64 en] w fun e w' => ∃ cb : Nat, e = .returned (.tuple #[.pointer (some ⟨cb, 0, none⟩), .int .i64 0]) ∧ Below w.heap.size w w' := by
  refine (new_walk hs hs hhi hhi hG.len hG.len (fun r hr => (hG.each r ((List.mem_append.1 hr).elim id id)).2.2.2) hN).mono ?_
  rintro e w' ⟨cb, bm, vn, ns, rfl, hb, _⟩
  exact ⟨cb, rfl, hb⟩
theorem new_no (b : Nat) {ev mo en : Int} (hN : ¬ Nums ev mo en) (w : World) :
    Calls Tryz.prog 9 #[.pointer (some ⟨b, 0, none⟩), .pointer (some ⟨b, 0, none⟩), .int .i64 ev, .int .i64 mo, .int .i64 en] w fun e w' => ∃ _cb : Nat, e = .returned (.tuple #[.pointer none, .int .i64 1]) ∧ Below w.heap.size w w' := by
  refine (new_bad b b ev mo en hN w).mono ?_
  rintro e w' ⟨rfl, rfl⟩
  exact ⟨0, rfl, Below.refl _ _⟩
end Go.Proofs.YtopicmcaoeameaaGreatDoor
namespace Go.Proofs.YtopicmcaoeameaaGreatDoor
open Go Go.Ev Go.RowKit Go.Smap

theorem ms_ok {F : Nat → FR} (h : ∀ f, (F f).err = 0) (n : Nat) : ∀ (d f : Nat), n + 1 - f ≤ d → ∃ l, ms F n f = .ok l
  | 0, f, hd => ⟨[], by rw [ms, if_neg (by omega)]⟩
  | d + 1, f, hd => by
    rw [ms]
    split
    · rw [if_neg (by simp [h f])]
      split
      · obtain ⟨l, hl⟩ := ms_ok h n d (max (f + 1) ((F f).s.toNat + 1)) (by omega)
        rw [hl]
        exact ⟨_, rfl⟩
      · exact ⟨[], rfl⟩
    · exact ⟨[], rfl⟩
theorem fnd_ok {F : Nat → Nat → FR} (n : Nat) : ∀ (rs : List Rl) (i : Nat), (∀ r ∈ rs, ∀ f, (F r.k f).err = 0) → ∃ D, fnd F n i rs = .ok D
  | [], i, _ => ⟨[], rfl⟩
  | r :: t, i, h => by
    obtain ⟨l, hl⟩ := ms_ok (h r (List.mem_cons_self ..)) n (n + 1) 0 (by omega)
    obtain ⟨D, hD⟩ := fnd_ok n t (i + 1) fun q hq => h q (List.mem_cons_of_mem _ hq)
    show ∃ D, (match ms (F r.k) n 0 with | .error e => Except.error e | .ok l => pre (l.map (tag i)) (fnd F n (i + 1) t)) = .ok D
    rw [hl, hD]
    exact ⟨_, rfl⟩
/-- what compare needs of a canary and its names -/
structure CanOK (M : Nat → Prop) (w : World) (cb b1 b2 : Nat) (C : Can) : Prop where
  at' : CanAt w cb C
  b1 : C.b1 = b1
  b2 : C.b2 = b2
  cm : ¬ M cb
  all : ∃ bm, C.allowed = .map (some bm) ∧ ¬ M bm ∧ bm ≠ cb ∧ IsMap w bm 0 fun _ => none
  names : ∃ (base : Nat) (ns : List ByteArray), w.ownsRow base 9 1 C.names ns.length (ns.map Value.string) ∧ (∀ k, M k → k < base) ∧ C.names.ownBlock ≠ some cb ∧ ns.length ≤ 1000 ∧ ∀ s ∈ ns, s.size ≤ maxLen
theorem CanOK.bel {M : Nat → Prop} {w w' : World} {cb b1 b2 : Nat} {C : Can} (h : CanOK M w cb b1 b2 C) (hb : Bel M w.heap.size w w') : CanOK M w' cb b1 b2 C := by
  obtain ⟨bm, h1, h2, h3, h4⟩ := h.all
  obtain ⟨base, ns, k1, k2, k3, k4⟩ := h.names
  exact ⟨h.at'.bel h.cm hb, h.b1, h.b2, h.cm, ⟨bm, h1, h2, h3, h4.same (hb.block bm h4.lt h2)⟩, base, ns, owns_bel k1 hb k2, k2, k3, k4⟩
theorem CanOK.but {M : Nat → Prop} {w w' : World} {cb b1 b2 : Nat} {C C' : Can} (h : CanOK M w cb b1 b2 C) (hb : BelBut M cb w w') (hC : CanAt w' cb C') (e1 : C'.b1 = C.b1) (e2 : C'.b2 = C.b2) (e3 : C'.allowed = C.allowed) (e4 : C'.names = C.names) : CanOK M w' cb b1 b2 C' := by
  obtain ⟨bm, h1, h2, h3, h4⟩ := h.all
  obtain ⟨base, ns, k1, k2, k3, k4⟩ := h.names
  refine ⟨hC, e1.trans h.b1, e2.trans h.b2, h.cm, ⟨bm, e3.trans h1, h2, h3, h4.same (hb.block bm h4.lt h3 h2)⟩, base, ns, ?_, k2, by rw [e4]; exact k3, k4⟩
  rw [e4]
  refine ⟨k1.1, k1.2.imp id ?_⟩
  rintro ⟨g, cap, cur, g1, g2, g3, g4⟩
  refine ⟨g, cap, cur, g1, g2, (hb.block g (Array.getElem?_eq_some_iff.1 g3).1 (fun e => ?_) (fun e => ?_)).trans g3, g4⟩
  · rw [g1] at k3
    exact k3 (congrArg some e)
  · have := k2 g e
    omega
/-- compare, where nothing differs -/
theorem compare_turn {M : Nat → Prop} {lo1 hi1 lo2 hi2 b1 b2 cb : Nat} {w : World} {ra rb : List Rl} {C : Can} (hMw : ∀ k, M k → k < w.heap.size) (hS1 : SetAt M lo1 hi1 w b1 (ra ++ rb)) (hS2 : SetAt M lo2 hi2 w b2 (rb ++ ra)) (hhi1 : hi1 ≤ w.heap.size) (hhi2 : hi2 ≤ w.heap.size)
    (hlen : (ra ++ rb).length ≤ 100) (hsz : ∀ r ∈ ra ++ rb, r.name.size ≤ maxLen) (hnd : ((ra ++ rb).map Rl.name).Nodup) (hC : CanOK M w cb b1 b2 C)
    {ta : Option Addr} {n tc : Nat} (hn : n ≤ 1000) {F : Nat → Nat → FR} (hF0 : ∀ r ∈ ra ++ rb, ∀ f, (F r.k f).err = 0) (hF1 : FirstOf M lo1 hi1 w (.slice ta n tc) n 2000 F (ra ++ rb)) (hF2 : FirstOf M lo2 hi2 w (.slice ta n tc) n 2000 F (rb ++ ra)) :
    Calls Tryz.prog 28 #[.pointer (some ⟨cb, 0, none⟩), .slice ta n tc, .int .i64 2000] w fun e w' => Bel M w.heap.size w w' ∧ ∃ va vc, e = .returned (.tuple #[.slice va 0 vc, .int .i64 0]) := by
  have hlen2 : (rb ++ ra).length ≤ 100 := by simp at hlen ⊢; omega
  have hmem : ∀ r, r ∈ rb ++ ra → r ∈ ra ++ rb := fun r hr => by simp at hr ⊢; exact hr.symm
  obtain ⟨bm, h1, h2, _, h4⟩ := hC.all
  obtain ⟨base, ns, k1, k2, _, k4, k5⟩ := hC.names
  obtain ⟨an, kn, ean, han⟩ := owns_shape k1
  have hcb := hC.at'.lt
  obtain ⟨ng, hng, hngm, hna, hcell⟩ : ∃ ng, ng < w.heap.size ∧ ¬ M ng ∧ (ns ≠ [] → an = some ⟨ng, 0, none⟩) ∧ ∀ (i : Nat) (s : ByteArray), ns[i]? = some s → s.size ≤ maxLen ∧ w.cell? ⟨ng, i, none⟩ = some (.string s) := by
    by_cases h0 : ns = []
    · exact ⟨cb, hcb, hC.cm, fun h => absurd h0 h, fun i s hi => by rw [h0] at hi; simp at hi⟩
    · obtain ⟨g, rfl⟩ := han (fun e => h0 (List.length_eq_zero_iff.1 e))
      rw [ean] at k1
      have hl := World.ownsRow.lt k1 g rfl
      refine ⟨g, hl.2, fun e => by have := k2 g e; omega, fun _ => rfl, fun i s hi => ⟨k5 s (List.mem_of_getElem? hi), ?_⟩⟩
      have hil := (List.getElem?_eq_some_iff.1 hi).1
      rw [k1.cellAt i (by omega), List.getElem?_map, hi]
      rfl
  obtain ⟨D1, hD1⟩ := fnd_ok n (ra ++ rb) 0 hF0
  obtain ⟨D2, hD2⟩ := fnd_ok n (rb ++ ra) 0 fun r hr => hF0 r (hmem r hr)
  have hcw := compare_walk (na := an) (nc := kn) (names := ns) hMw hS1 hS2 hhi1 hhi2 hlen hlen2 hsz (fun r hr => hsz r (hmem r hr)) hn hF1 hF2 hcb hC.cm h2 hngm
    (by rw [hC.at'.cell 0]; simp [Can.cells, hC.b1]) (by rw [hC.at'.cell 1]; simp [Can.cells, hC.b2]) (by rw [hC.at'.cell 8]; simp [Can.cells, ean]) (by rw [hC.at'.cell 9]; simp [Can.cells, h1]) h4 hna hng hcell k4
  rw [hD1, hD2] at hcw
  refine hcw.mono ?_
  rintro e w' ⟨hb, v, rfl, hown⟩
  rw [differ_turn hnd hD1 hD2] at hown
  obtain ⟨a, c, rfl, _⟩ := owns_shape hown
  exact ⟨hb, a, c, rfl⟩
/-- a canary's state, as CanarySame asks -/
structure CanSt (C : Can) (i : Nat) : Prop where
  ev : 1 ≤ C.every ∧ C.every ≤ 1000
  mo : C.most = 0
  en : 1 ≤ C.enough
  se : 0 ≤ C.seen ∧ C.seen ≤ i
  co : 0 ≤ C.compared ∧ C.compared ≤ i
  un : C.unlike = 0
  ca : C.cases = .slice none 0 0
/-- See, where nothing can differ -/
theorem see_turn {M : Nat → Prop} {lo1 hi1 lo2 hi2 b1 b2 cb i : Nat} {w : World} {ra rb : List Rl} {C : Can} (hMw : ∀ k, M k → k < w.heap.size) (hS1 : SetAt M lo1 hi1 w b1 (ra ++ rb)) (hS2 : SetAt M lo2 hi2 w b2 (rb ++ ra)) (hhi1 : hi1 ≤ w.heap.size) (hhi2 : hi2 ≤ w.heap.size)
    (hlen : (ra ++ rb).length ≤ 100) (hsz : ∀ r ∈ ra ++ rb, r.name.size ≤ maxLen) (hnd : ((ra ++ rb).map Rl.name).Nodup) (hC : CanOK M w cb b1 b2 C) (hst : CanSt C i) (hi : i ≤ 1000)
    {ta : Option Addr} {n tc : Nat} (hn : n ≤ 1000) {F : Nat → Nat → FR} (hF0 : ∀ r ∈ ra ++ rb, ∀ f, (F r.k f).err = 0) (hF1 : FirstOf M lo1 hi1 w (.slice ta n tc) n 2000 F (ra ++ rb)) (hF2 : FirstOf M lo2 hi2 w (.slice ta n tc) n 2000 F (rb ++ ra)) :
    Calls Tryz.prog 12 #[.pointer (some ⟨cb, 0, none⟩), .slice ta n tc, .int .i64 2000] w fun e w' => ∃ (x : Bool) (er : Int) (C' : Can), e = .returned (.tuple #[.bool x, .bool x, .int .i64 er]) ∧ BelBut M cb w w' ∧ CanOK M w' cb b1 b2 C' ∧ CanSt C' (i + 1) ∧
      ((verdict C.most C.enough C.compared C.unlike = 0 ∧ er = 0) ∨ (verdict C.most C.enough C.compared C.unlike ≠ 0 ∧ er = 20 ∧ C' = C)) := by
  obtain ⟨⟨e1, e2⟩, e3, e4, ⟨e5, e6⟩, ⟨e7, e8⟩, e9, e10⟩ := hst
  by_cases hv : verdict C.most C.enough C.compared C.unlike = 0
  · by_cases hm : C.seen % C.every = 0
    · refine (see_same (M := M) hC.cm hC.at' hv e5 e1 (by omega) e7 (by omega) hm (.slice ta n tc) 2000 (fun w1 hb => ?_)).mono ?_
      · exact compare_turn (fun k hk => Nat.lt_of_lt_of_le (hMw k hk) hb.size) (hS1.bel (Bel.of hb) hhi1) (hS2.bel (Bel.of hb) hhi2) (Nat.le_trans hhi1 hb.size) (Nat.le_trans hhi2 hb.size) hlen hsz hnd (hC.bel (.of hb)) hn hF0 (hF1.later (.of hb)) (hF2.later (.of hb))
      · rintro e w' ⟨rfl, hb, hC'⟩
        exact ⟨true, 0, _, rfl, hb, hC.but hb hC' rfl rfl rfl rfl, ⟨⟨e1, e2⟩, e3, e4, ⟨by show 0 ≤ C.seen + 1; omega, by show C.seen + 1 ≤ _; push_cast; omega⟩, ⟨by show 0 ≤ C.compared + 1; omega, by show C.compared + 1 ≤ _; push_cast; omega⟩, e9, e10⟩, .inl ⟨hv, rfl⟩⟩
    · refine (see_skip hC.at' hv e5 e1 (by omega) hm (.slice ta n tc) 2000).mono ?_
      rintro e w' ⟨rfl, hb, hC'⟩
      have hb' : BelBut M cb w w' := ⟨hb.os, hb.tape, hb.output, hb.size, fun k hk hne _ => hb.block k hk hne, fun k hk hm => .inl (hb.block k hk fun e => hC.cm (e ▸ hm))⟩
      exact ⟨false, 0, _, rfl, hb', hC.but hb' hC' rfl rfl rfl rfl, ⟨⟨e1, e2⟩, e3, e4, ⟨by show 0 ≤ C.seen + 1; omega, by show C.seen + 1 ≤ _; push_cast; omega⟩, ⟨e7, by push_cast; omega⟩, e9, e10⟩, .inl ⟨hv, rfl⟩⟩
  · refine (see_shut (hC.at'.cell 3) (hC.at'.cell 4) (hC.at'.cell 6) (hC.at'.cell 7) hv (.slice ta n tc) 2000).mono ?_
    rintro e w' ⟨rfl, hb⟩
    exact ⟨false, 20, C, rfl, .of (.of hb), hC.bel (.of hb), ⟨⟨e1, e2⟩, e3, e4, ⟨e5, by push_cast; omega⟩, ⟨e7, by push_cast; omega⟩, e9, e10⟩, .inr ⟨hv, rfl, rfl⟩⟩
end Go.Proofs.YtopicmcaoeameaaGreatDoor
namespace Go.Proofs.YtopicmcaoeameaaGreatDoor
open Go Go.Ev Go.RowKit Go.Smap

/-- Few's table of texts -/
def tbl : List ByteArray := [⟨#[97]⟩, ⟨#[98]⟩, ⟨#[97, 42, 98]⟩, ⟨#[40, 97, 41, 92, 49]⟩, ⟨#[91, 94, 99, 93]⟩, ⟨#[94, 97, 36]⟩, ⟨#[40, 63, 61, 97, 41, 97]⟩, ⟨#[97, 124, 97, 98]⟩]
def tblO : Obj := .cells #[.string ⟨#[97]⟩, .string ⟨#[98]⟩, .string ⟨#[97, 42, 98]⟩, .string ⟨#[40, 97, 41, 92, 49]⟩, .string ⟨#[91, 94, 99, 93]⟩, .string ⟨#[94, 97, 36]⟩, .string ⟨#[40, 63, 61, 97, 41, 97]⟩, .string ⟨#[97, 124, 97, 98]⟩] 9 (0, 0)
theorem tbl_at {w : World} {T q : Nat} (h : w.heap[T]? = some tblO) (hq : q < 8) : ∃ s, w.cell? ⟨T, q, none⟩ = some (.string s) ∧ Txt q s := by
  have hc : w.cell? ⟨T, q, none⟩ = (#[Value.string ⟨#[97]⟩, .string ⟨#[98]⟩, .string ⟨#[97, 42, 98]⟩, .string ⟨#[40, 97, 41, 92, 49]⟩, .string ⟨#[91, 94, 99, 93]⟩, .string ⟨#[94, 97, 36]⟩, .string ⟨#[40, 63, 61, 97, 41, 97]⟩, .string ⟨#[97, 124, 97, 98]⟩])[q]? := by
    simp [World.cell?, h, tblO]
  match q, hq with
  | 0, _ => exact ⟨_, hc, rfl⟩
  | 1, _ => exact ⟨_, hc, rfl⟩
  | 2, _ => exact ⟨_, hc, rfl⟩
  | 3, _ => exact ⟨_, hc, rfl⟩
  | 4, _ => exact ⟨_, hc, rfl⟩
  | 5, _ => exact ⟨_, hc, rfl⟩
  | 6, _ => exact ⟨_, hc, rfl⟩
  | 7, _ => exact ⟨_, hc, rfl⟩
  | n + 8, h => exact absurd h (by omega)
/-- the rule that Few makes at place i -/
def FewAt (i : Nat) (r : Rl) : Prop := r.k < 8 ∧ Txt r.k r.text ∧ ∃ p, p < 3 ∧ Bytes r.name [110, 48 + (3 * i + p)]
def fcell (f : Rl × Bool) : List Value := [.string f.1.name, .string f.1.text, .bool f.2]
theorem wrapS {x : Int} (h1 : -9223372036854775808 ≤ x) (h2 : x ≤ 9223372036854775807) : IntKind.i64.wrap x = x := by
  rw [IntKind.wrap_i64]
  omega
theorem info27 : (Tryz.prog.info? 27).map (fun i => (i.zero, i.size, i.bytes)) = some (some (.agg #[.string ByteArray.empty, .string ByteArray.empty, .bool false]), 3, 40) := by kernel_rfl
set_option maxHeartbeats 4000000 in
set_option maxRecDepth 1000000 in
theorem few_walk {w : World} {v : Value} {l : List Int} (h : SlArg w v l) (at' : Nat) (hat : at' ≤ 100) :
    Calls Tryz.prog 29 #[v, .int .i64 (at' : Int)] w fun e w' => ∃ (v' : Value) (fs : List (Rl × Bool)), e = .returned v' ∧ w'.ownsRow w.heap.size 27 3 v' fs.length (fs.flatMap fcell) ∧ fs.length ≤ 3 ∧ (∀ i f, fs[i]? = some f → FewAt i f.1) ∧ Below w.heap.size w w' := by
  obtain ⟨i0, hi0, hz0, hz1, hz2⟩ := info_parts info27
  obtain ⟨va, vc, rfl, _⟩ := h.val
  obtain ⟨b1, b2⟩ := pickZ_bd l at' (m := 4) (by omega)
  obtain ⟨N, hN⟩ : ∃ N : Nat, pickZ l at' 4 = N := Int.eq_ofNat_of_zero_le b1
  have hN3 : N ≤ 3 := by omega
  have hpick0 : ∀ w', Below w.heap.size w w' → Calls Tryz.prog 41 #[.slice va l.length vc, .int .i64 (at' : Int), .int .i64 4] w' fun e w1 => e = .returned (.int .i64 (N : Int)) ∧ Below w'.heap.size w' w1 := fun w' hw' => by
    have := pick_walk (h.below hw') at' 4 (by omega) (by omega) (by omega)
    rw [hN] at this
    simpa using this
  go_enter Tryz.func29, Tryz.ntmps29
  go_wp2
  go_loopw [5, 7] (fun v' i wr => ∃ (j : Nat) (fs : List (Rl × Bool)), j ≤ N ∧ fs.length = j ∧ i = .int .i64 j ∧ wr.ownsRow (w.heap.size + 1) 27 3 v' j (fs.flatMap fcell) ∧ wr.heap[w.heap.size]? = some tblO ∧ (∀ i f, fs[i]? = some f → FewAt i f.1) ∧ Below w.heap.size w wr ∧ w.heap.size + 1 ≤ wr.heap.size) (fun _ i _ => N - (intOf i).toNat)
  case atStart =>
    exact ⟨0, [], Nat.zero_le _, rfl, rfl, World.ownsRow_nil _ _ _ _, heap_alloc_new _ _, fun i f hi => by simp at hi, (Below.refl _ _).alloc (Nat.le_refl _) _, by simp⟩
  case round =>
    obtain ⟨j, fs, hj, hfs, rfl, hown, htab, hat0, hbel, hsz⟩ := hrel
    have hcall0 := hpick0 _ hbel
    by_cases hjl : j < N
    · obtain ⟨pa, pb⟩ := pickZ_bd l (at' + j + 1) (m := 3) (by omega)
      obtain ⟨p, hp⟩ : ∃ p : Nat, pickZ l (at' + j + 1) 3 = p := Int.eq_ofNat_of_zero_le pa
      obtain ⟨qa, qb⟩ := pickZ_bd l (at' + 2 * j + 2) (m := 8) (by omega)
      obtain ⟨q, hq⟩ : ∃ q : Nat, pickZ l (at' + 2 * j + 2) 8 = q := Int.eq_ofNat_of_zero_le qa
      obtain ⟨ra, rb⟩ := pickZ_bd l (at' + j + 3) (m := 5) (by omega)
      obtain ⟨r, hr⟩ : ∃ r : Nat, pickZ l (at' + j + 3) 5 = r := Int.eq_ofNat_of_zero_le ra
      have hp3 : p < 3 := by omega
      have hq8 : q < 8 := by omega
      have hltr := World.ownsRow.lt hown
      have eA : ((at' + j + 1 : Nat) : Int) = IntKind.i64.wrap (IntKind.i64.wrap ((at' : Int) + (j : Int)) + 1) := by rw [wrapS (x := (at' : Int) + (j : Int)) (by omega) (by omega), wrapS (by omega) (by omega)]; omega
      have eB : ((at' + 2 * j + 2 : Nat) : Int) = IntKind.i64.wrap (IntKind.i64.wrap ((at' : Int) + IntKind.i64.wrap (2 * (j : Int))) + 2) := by rw [wrapS (x := 2 * (j : Int)) (by omega) (by omega), wrapS (x := (at' : Int) + 2 * (j : Int)) (by omega) (by omega), wrapS (by omega) (by omega)]; omega
      have eC : ((at' + j + 3 : Nat) : Int) = IntKind.i64.wrap (IntKind.i64.wrap ((at' : Int) + (j : Int)) + 3) := by rw [wrapS (x := (at' : Int) + (j : Int)) (by omega) (by omega), wrapS (by omega) (by omega)]; omega
      have eD : ((3 * j + p : Nat) : Int) = IntKind.i64.wrap (IntKind.i64.wrap (3 * (j : Int)) + (p : Int)) := by rw [wrapS (x := 3 * (j : Int)) (by omega) (by omega), wrapS (by omega) (by omega)]; omega
      have hpA : ∀ w', Below wr.heap.size wr w' → Calls Tryz.prog 41 #[.slice va l.length vc, .int .i64 (IntKind.i64.wrap (IntKind.i64.wrap ((at' : Int) + (j : Int)) + 1)), .int .i64 3] w' fun e w2 => e = .returned (.int .i64 (p : Int)) ∧ Below wr.heap.size wr w2 := fun w' hw' => by
        have := pick_walk (h.below (hbel.trans (hw'.mono (by omega)))) (at' + j + 1) 3 (by omega) (by omega) (by omega)
        rw [hp, eA] at this
        refine Calls.mono this ?_
        rintro e w2 ⟨rfl, hb⟩
        exact ⟨rfl, hw'.trans (hb.mono hw'.size)⟩
      have hpB : ∀ w', Below wr.heap.size wr w' → Calls Tryz.prog 41 #[.slice va l.length vc, .int .i64 (IntKind.i64.wrap (IntKind.i64.wrap ((at' : Int) + IntKind.i64.wrap (2 * (j : Int))) + 2)), .int .i64 8] w' fun e w2 => e = .returned (.int .i64 (q : Int)) ∧ Below wr.heap.size wr w2 := fun w' hw' => by
        have := pick_walk (h.below (hbel.trans (hw'.mono (by omega)))) (at' + 2 * j + 2) 8 (by omega) (by omega) (by omega)
        rw [hq, eB] at this
        refine Calls.mono this ?_
        rintro e w2 ⟨rfl, hb⟩
        exact ⟨rfl, hw'.trans (hb.mono hw'.size)⟩
      have hpC : ∀ w', Below wr.heap.size wr w' → Calls Tryz.prog 41 #[.slice va l.length vc, .int .i64 (IntKind.i64.wrap (IntKind.i64.wrap ((at' : Int) + (j : Int)) + 3)), .int .i64 5] w' fun e w2 => e = .returned (.int .i64 (r : Int)) ∧ Below wr.heap.size wr w2 := fun w' hw' => by
        have := pick_walk (h.below (hbel.trans (hw'.mono (by omega)))) (at' + j + 3) 5 (by omega) (by omega) (by omega)
        rw [hr, eC] at this
        refine Calls.mono this ?_
        rintro e w2 ⟨rfl, hb⟩
        exact ⟨rfl, hw'.trans (hb.mono hw'.size)⟩
      have hpD : ∀ w', Below wr.heap.size wr w' → Calls Tryz.prog 44 #[.int .i64 (IntKind.i64.wrap (IntKind.i64.wrap (3 * (j : Int)) + (p : Int)))] w' fun e w2 => ∃ s, e = .returned (.string s) ∧ Bytes s [48 + (3 * j + p)] ∧ Below wr.heap.size wr w2 := fun w' hw' => by
        have := dec_walk (j := 3 * j + p) (by omega) w'
        rw [eD] at this
        refine Calls.mono this ?_
        rintro e w2 ⟨s, rfl, hs, hb⟩
        exact ⟨s, rfl, hs, hw'.trans (hb.mono hw'.size)⟩
      obtain ⟨tx, htx, htxt⟩ := tbl_at htab hq8
      have hcT : ∀ w', Below wr.heap.size wr w' → w'.cell? ⟨w.heap.size, q, none⟩ = some (.string tx) := fun w' hw' => (hw'.cell (p := ⟨w.heap.size, q, none⟩) (by show w.heap.size < wr.heap.size; omega)).trans htx
      have hW1 : ∀ w1, Below wr.heap.size wr w1 → Below wr.heap.size wr w1.drew := fun w1 hb => hb.drew
      have hbase5 : ∀ w5, Below wr.heap.size wr w5 → ∀ o, w.heap.size + 1 ≤ (World.alloc w5 o).heap.size := fun w5 h5 o => by have := h5.size; simp; omega
      have hn1 : j + 1 ≤ maxLen := by unfold maxLen; omega
      have hn2 : (j + 1) * 40 ≤ 140737488355328 := by omega
      have hq1 : (0 : Int) ≤ (q : Int) := Int.natCast_nonneg _
      have hq2 : (q : Int) < 8 := by omega
      have aT := fun e => Nat.not_le_of_lt (Nat.lt_succ_self w.heap.size) (hltr w.heap.size e).1
      have HP : Hid (pickZ l (at' + j + 1) 3 = p ∧ pickZ l (at' + 2 * j + 2) 8 = q ∧ pickZ l (at' + j + 3) 5 = r) := ⟨hp, hq, hr⟩
      clear eA eB eC eD hp hq hr pa pb qa qb ra rb htx hN b1 b2 hpick0
      go_wp2_with (first
        | (go_at_call 41; refine hcall0.mono ?_; rintro _ w1 ⟨rfl, hb1⟩; have hcw := hcT w1 hb1; have hbd := hb1.drew)
        | go_in)
      go_region_held3 (fun w' => w'.cell? ⟨w.heap.size, q, none⟩ = some (.string tx))
        (first
          | go_keep
          | assumption
          | exact hcT _ (by assumption)
          | exact hcT _ (Below.alloc (by assumption) (Below.size (by assumption)) _)
          | exact (hgrow.cell_far ⟨w.heap.size, q, none⟩ (hbase5 _ hb5 _) (fun e => aT e.symm)).trans (by assumption))
        (first
          | (refine step_append_lies _ (by rfl) _ _ _ (by rfl) (w.heap.size + 1) 27 i0 _ 3 40 Tryz.underlying23 hi0 hz0 hz1 hz2 rfl (by omega) _ j (fs.flatMap fcell) (by rfl) ((owns_below hown hb5).alloc _)
              ⟨w5.heap.size, 0, none⟩ 1 1 _ (by rfl) (by rfl) (World.news_of_block (heap_alloc_new w5 _)) (by simp [Value.oneCell'])
              (by omega) hn1 hn2 (hbase5 _ hb5 _) (w5.heap.size + 1) (by simp) ?_; intro gg cap w6 hown1 hgrow hat hlt)
          | (go_at_call 41; refine (hpA _ (by assumption)).mono ?_; clear hpA; rintro _ w2 ⟨rfl, hb2⟩)
          | (go_at_call 44; refine (hpD _ (by assumption)).mono ?_; clear hpD; rintro _ w3 ⟨nm, rfl, hnm, hb3⟩; have hns : nm.size = 1 := bytes_size hnm)
          | (go_at_call 41; refine (hpB _ (by assumption)).mono ?_; clear hpB; rintro _ w4 ⟨rfl, hb4⟩)
          | (go_at_call 41; refine (hpC _ (by assumption)).mono ?_; clear hpC; rintro _ w5 ⟨rfl, hb5⟩))
      have hb6 : Below w.heap.size w w6 := ((hbel.trans (hb5.mono (by omega))).alloc (by have := hb5.size; omega) _).grown hgrow (by have := hb5.size; simp; omega) fun x hx => by have := (hltr x hx).1; omega
      have hs6 := hgrow.size
      have hs5 := hb5.size
      simp at hs6
      have htab6 : w6.heap[w.heap.size]? = some tblO := (hgrow.block _ (by simp; omega) (fun e => aT e.symm)).trans ((Below.heap_alloc _ _ _ (by omega)).trans ((hb5.block _ (by omega)).trans htab))
      have hnew : FewAt j ⟨⟨#[110]⟩ ++ nm, tx, q⟩ := ⟨hq8, htxt, p, hp3, by
        have h0 : Bytes nm [48 + (3 * j + p)] := hnm
        unfold Bytes at h0 ⊢
        simp [ByteArray.data_append, h0]⟩
      clear hgrow hat hcT hcall0 hnm hlt
      go_wp2
      go_roundw
      case rel =>
        refine ⟨j + 1, fs ++ [(⟨⟨#[110]⟩ ++ nm, tx, q⟩, ((r : Int) == 0))], hjl, by simp [hfs], by go_num, ?_, htab6, fun i f hi => ?_, hb6, by omega⟩
        · rw [List.flatMap_append]
          simpa [fcell] using hown1
        · rcases Nat.lt_or_ge i fs.length with hil | hil
          · rw [List.getElem?_append_left hil] at hi
            exact hat0 i f hi
          · rw [List.getElem?_append_right hil] at hi
            have h0 : i - fs.length = 0 := by
              rcases Nat.eq_zero_or_pos (i - fs.length) with h | h
              · exact h
              · rw [List.getElem?_eq_none (by simp; omega)] at hi; cases hi
            rw [h0] at hi
            have hij : i = j := by omega
            subst hij
            simp at hi
            subst hi
            exact hnew
      case measure => simp [intOf]; omega
    · have hje : j = N := by omega
      subst hje
      go_wp2_with (first
        | (go_at_call 41; refine hcall0.mono ?_; rintro _ w1 ⟨rfl, hb1⟩)
        | go_in)
      go_ret
      exact ⟨_, fs, rfl, by rw [hfs]; exact owns_base (owns_below hown hb1) (by omega), by omega, hat0, hbel.trans (hb1.mono (by omega))⟩
end Go.Proofs.YtopicmcaoeameaaGreatDoor
namespace Go.Proofs.YtopicmcaoeameaaGreatDoor
open Go Go.Ev Go.RowKit Go.Smap

theorem good_of {rs : List Rl} (hl : rs.length ≤ 3) (h : ∀ i r, rs[i]? = some r → FewAt i r) : Good rs ∧ (∀ r ∈ rs, r.k < 8) ∧ rs.length ≤ 3 ∧ ∀ r ∈ rs, ∃ j, j < 9 ∧ Bytes r.name [110, 48 + j] := by
  have hmem : ∀ r ∈ rs, ∃ i, FewAt i r ∧ i < 3 := fun r hr => by
    obtain ⟨i, hi⟩ := List.mem_iff_getElem?.1 hr
    have := (List.getElem?_eq_some_iff.1 hi).1
    exact ⟨i, h i r hi, by omega⟩
  refine ⟨⟨by omega, ?_, fun r hr => ?_⟩, ?_⟩
  · rw [List.nodup_iff_pairwise_ne, List.pairwise_iff_getElem]
    intro i j hi hj hij e
    simp only [List.length_map] at hi hj
    simp only [List.getElem_map] at e
    obtain ⟨_, _, p, hp, h1⟩ := h i rs[i] (List.getElem?_eq_getElem hi)
    obtain ⟨_, _, q, hq, h2⟩ := h j rs[j] (List.getElem?_eq_getElem hj)
    rw [e] at h1
    unfold Bytes at h1 h2
    rw [h1] at h2
    simp at h2
    omega
  · obtain ⟨i, ⟨hk, ht, p, hp, hb⟩, hi⟩ := hmem r hr
    refine ⟨by omega, ht, isName_of (j := 3 * i + p) (by omega) hb, ?_⟩
    rw [bytes_size hb]
    unfold maxLen
    simp
  · refine ⟨fun r hr => ?_, hl, fun r hr => ?_⟩
    · obtain ⟨i, ⟨hk, _⟩, _⟩ := hmem r hr
      exact hk
    · obtain ⟨i, ⟨_, _, p, hp, hb⟩, hi⟩ := hmem r hr
      exact ⟨3 * i + p, by omega, hb⟩
set_option maxHeartbeats 8000000 in
set_option maxRecDepth 1000000 in
theorem made_walk2 {w : World} {v : Value} {l : List Int} (h : SlArg w v l) (at' : Nat) (hat : at' ≤ 100) :
    Calls Tryz.prog 14 #[v, .int .i64 (at' : Int)] w fun e w' => ∃ (v' : Value) (rs : List Rl), e = .returned v' ∧ w'.ownsRow w.heap.size 27 3 v' rs.length (rs.flatMap Rl.cells) ∧ Good rs ∧ ((∀ r ∈ rs, r.k < 8) ∧ rs.length ≤ 3 ∧ ∀ r ∈ rs, ∃ j, j < 9 ∧ Bytes r.name [110, 48 + j]) ∧ Below w.heap.size w w' := by
  have hf := few_walk h at' hat
  clear h
  go_enter Tryz.func14, Tryz.ntmps14
  go_wp2_with (first
    | (go_at_call 29; refine hf.mono ?_; rintro _ w1 ⟨v1, fs, rfl, hown, hl, hfew, hb1⟩)
    | go_in)
  have hg := good_of (rs := fs.map (·.1)) (by simpa using hl) (fun i r hi => by
    rw [List.getElem?_map] at hi
    cases hfi : fs[i]? with
    | none => rw [hfi] at hi; cases hi
    | some f => rw [hfi] at hi; cases hi; exact hfew i f hfi)
  have HG : Hid (Good (fs.map (·.1)) ∧ (∀ r ∈ fs.map (·.1), r.k < 8) ∧ (fs.map (·.1)).length ≤ 3 ∧ ∀ r ∈ fs.map (·.1), ∃ j, j < 9 ∧ Bytes r.name [110, 48 + j]) := hg
  clear hg hfew
  obtain ⟨a1, c1, rfl, ha1⟩ := owns_shape hown
  have hlt := World.ownsRow.lt hown
  rcases fs with _ | ⟨a, _ | ⟨b, _ | ⟨c, _ | ⟨d, t⟩⟩⟩⟩
  · refine wp_loop_rounds 1 ?_
    rw [rounds_succ]
    go_wp2
    go_ret
    exact ⟨_, rfl, [], by simpa using hown, HG.out.1, HG.out.2, hb1⟩
  · obtain ⟨g, rfl⟩ := ha1 (by simp)
    have hg := hlt g rfl
    have s1 := hown.stored 2 (.bool false)
    have f1 := hown.frozenAt 2
    have k1 := hown.cellAt 2 (by simp)
    simp [fcell] at s1 k1
    try simp at f1
    refine wp_loop_rounds 2 ?_
    rw [rounds_succ]
    go_wp2
    rw [rounds_succ]
    go_wp2
    go_ret
    exact ⟨_, [a.1], rfl, by simpa [Rl.cells] using s1.1, HG.out.1, HG.out.2, hb1.setCell (by show w.heap.size ≤ g; omega) _⟩
  · obtain ⟨g, rfl⟩ := ha1 (by simp)
    have hg := hlt g rfl
    have s1 := hown.stored 2 (.bool false)
    have s2 := s1.1.stored 5 (.bool false)
    have f1 := hown.frozenAt 2
    have k1 := hown.cellAt 2 (by simp)
    have f2 := s1.1.frozenAt 5
    have k2 := s1.1.cellAt 5 (by simp)
    simp [fcell] at s2 k1 k2
    try simp at f1 f2
    refine wp_loop_rounds 3 ?_
    rw [rounds_succ]
    go_wp2
    rw [rounds_succ]
    go_wp2
    rw [rounds_succ]
    go_wp2
    go_ret
    exact ⟨_, [a.1, b.1], rfl, by simpa [Rl.cells] using s2.1, HG.out.1, HG.out.2, (hb1.setCell (by show w.heap.size ≤ g; omega) _).setCell (by show w.heap.size ≤ g; omega) _⟩
  · obtain ⟨g, rfl⟩ := ha1 (by simp)
    have hg := hlt g rfl
    have s1 := hown.stored 2 (.bool false)
    have s2 := s1.1.stored 5 (.bool false)
    have s3 := s2.1.stored 8 (.bool false)
    have f1 := hown.frozenAt 2
    have k1 := hown.cellAt 2 (by simp)
    have f2 := s1.1.frozenAt 5
    have k2 := s1.1.cellAt 5 (by simp)
    have f3 := s2.1.frozenAt 8
    have k3 := s2.1.cellAt 8 (by simp)
    simp [fcell] at k1 k2 k3
    try simp at f1 f2 f3
    simp [fcell] at s3
    refine wp_loop_rounds 4 ?_
    rw [rounds_succ]
    go_wp2
    rw [rounds_succ]
    go_wp2
    rw [rounds_succ]
    go_wp2
    rw [rounds_succ]
    go_wp2
    go_ret
    exact ⟨_, [a.1, b.1, c.1], rfl, by simpa [Rl.cells] using s3.1, HG.out.1, HG.out.2, ((hb1.setCell (by show w.heap.size ≤ g; omega) _).setCell (by show w.heap.size ≤ g; omega) _).setCell (by show w.heap.size ≤ g; omega) _⟩
  · simp at hl
theorem made_walk {w : World} {v : Value} {l : List Int} (h : SlArg w v l) (at' : Nat) (hat : at' ≤ 100) :
    Calls Tryz.prog 14 #[v, .int .i64 (at' : Int)] w fun e w' => ∃ (v' : Value) (rs : List Rl), e = .returned v' ∧ w'.ownsRow w.heap.size 27 3 v' rs.length (rs.flatMap Rl.cells) ∧ Good rs ∧ (∀ r ∈ rs, r.k < 8) ∧ Below w.heap.size w w' :=
  (made_walk2 h at' hat).mono fun _ _ ⟨v', rs, h1, h2, h3, h4, h5⟩ => ⟨v', rs, h1, h2, h3, h4.1, h5⟩
end Go.Proofs.YtopicmcaoeameaaGreatDoor
namespace Go.Proofs.YtopicmcaoeameaaGreatDoor
open Go Go.Ev Go.RowKit

theorem callable24 : Callable Tryz.prog 24 := ⟨Tryz.f24, Tryz.func24, by kernel_rfl, by kernel_rfl⟩
theorem keysXY_inv {es : List (V × V × Nat)} (h : keysXY es = true) : ∃ v1 n1 v2 n2, es = [(.str [120], v1, n1), (.str [121], v2, n2)] := by
  unfold keysXY at h
  split at h
  · exact ⟨_, _, _, _, rfl⟩
  · cases h
theorem bytes_of {b : ByteArray} {l : List Nat} (h : b.data.toList.map UInt8.toNat = l) : b.data.toList = l.map UInt8.ofNat := by
  rw [← h, List.map_map]
  exact ((List.map_congr_left fun a _ => UInt8.ofNat_toNat).trans (List.map_id _)).symm
theorem sortedXY {ns : List ByteArray} {kx ky : ByteArray} (hx : kx.data.toList = [120]) (hy : ky.data.toList = [121]) (h1 : (ns.map fun c => c.data.toList).Perm ([kx, ky].map fun c => c.data.toList)) (h2 : (ns.map fun c => c.data.toList).Pairwise (fun a b => a ≤ b)) :
    ns.map (fun c => c.data.toList) = [[120], [121]] := by
  simp only [List.map_cons, List.map_nil, hx, hy] at h1
  refine List.Perm.eq_of_pairwise (le := fun a b => a ≤ b) (fun a b _ _ h1 h2 => List.le_antisymm h1 h2) h2 ?_ h1
  refine List.pairwise_cons.2 ⟨fun z hz => ?_, List.pairwise_singleton _ _⟩
  simp only [List.mem_singleton] at hz
  subst hz
  decide
set_option maxHeartbeats 1000000 in
theorem sxyCal_ok {c : Cal} (k : CalOK Tryz.prog Γ0 c) : CalOK Tryz.prog Γ0 (sxyCal c) := by
  refine ⟨fun f args H n v H' n' he => ?_, k.rd⟩
  have he' : (match Nat.beq f 24, args with
    | true, [.fn g [] [.ptr q o]] => (match Nat.beq g 37, Nat.beq o 0, H.get q with
      | true, true, some (.cells [.mp p]) => (match H.get p with
        | some (.map es cl) => (match keysXY es, nodupN' (borns es), allBelow cl (borns es), H.get n with
          | true, true, true, none => Res.ok (.sl n 0 2 2 1) (H.set n (.cells [.str [120], .str [121]])) n.succ
          | _, _, _, _ => .bad)
        | _ => .bad)
      | _, _, _ => c.fn f args H n)
    | _, _ => c.fn f args H n) = .ok v H' n' := he
  split at he'
  · rename_i g q o hf
    have := beq_eq hf; subst this
    split at he'
    · rename_i p hg ho hq
      have hge := beq_eq hg; subst hge
      have hoe := beq_eq ho; subst hoe
      split at he' <;> try (cases he'; done)
      rename_i es cl hes
      split at he' <;> try (cases he'; done)
      rename_i hks hnd hbel hn
      cases he'
      obtain ⟨u1, m1, u2, m2, rfl⟩ := keysXY_inv hks
      refine ⟨Mono.set _ _ _, callable24, fun ι w xs hok gok hfr hxs => ?_⟩
      obtain ⟨x, t, e1, hx, ht⟩ := rels_cons_inv hxs
      have := rels_nil_inv ht; subst this
      simp only [V.rel] at hx
      obtain ⟨a', c', hxe, ha, hc⟩ := hx
      obtain ⟨y, t2, e3, hy, ht2⟩ := rels_cons_inv hc
      have := rels_nil_inv ht2; subst this
      have ea : a' = #[] := Array.toList_inj.1 (rels_nil_inv ha)
      subst ea
      simp only [V.rel] at hy
      obtain ⟨bq, s, hpq, rfl⟩ := hy
      have hs0 := cells_zero hok hq hpq
      subst hs0
      have ec : c' = #[.pointer (some ⟨bq, 0, none⟩)] := Array.toList_inj.1 e3
      subst ec
      obtain ⟨z, hz, hzr, hlt⟩ := cell_nth hok hq hpq (j := 0) (v := .mp p) rfl
      simp only [V.rel] at hzr
      obtain ⟨bm, hbm, rfl⟩ := hzr
      obtain ⟨bm2, ms, hm1, hm2, hm3⟩ := map_of hok hes
      rw [hbm] at hm1; cases hm1
      have hb := ERel_borns hm3
      obtain ⟨x1, t1, hms, hk1, _, _, hm3'⟩ := hm3
      obtain ⟨x2, t2, ht2', hk2, _, _, hm3''⟩ := hm3'
      have ht2n : t2 = [] := hm3''
      subst ht2n
      simp only [V.rel] at hk1 hk2
      obtain ⟨kx, hkx, hbx⟩ := hk1
      obtain ⟨ky, hky, hby⟩ := hk2
      have hbx' := bytes_of hbx
      have hby' := bytes_of hby
      have hkeys : ms.toList.map (·.key) = [kx, ky].map Value.string := by rw [hms, ht2']; simp [hkx, hky]
      have hne : kx ≠ ky := fun e => by rw [e, hby'] at hbx'; exact absurd hbx' (by decide)
      have hnodup : [kx, ky].Nodup := by simp [hne]
      have hsz : ∀ c ∈ [kx, ky], c.size ≤ maxLen := fun c hc => by
        have : c.size = c.data.toList.length := by rw [Array.length_toList]; rfl
        simp only [List.mem_cons, List.not_mem_nil, or_false] at hc
        rcases hc with rfl | rfl
        · rw [this, hbx']; decide
        · rw [this, hby']; decide
      have hxs2 : xs = #[.func (.func 37) #[] #[.pointer (some ⟨bq, 0, none⟩)]] := by apply Array.toList_inj.1; rw [e1, hxe]
      subst hxs2
      refine (sorted_list hz hlt hm2 hkeys hnodup hsz (fun x hx => ?_) (by rw [hb, ← borns_eq]; exact nodupN'_ok hnd) (by simp)).mono ?_
      · have : x.born ∈ ms.toList.map (·.born) := List.mem_map.2 ⟨x, hx, rfl⟩
        rw [hb, ← borns_eq] at this
        exact allBelow_ok hbel _ this
      rintro e w' ⟨u, ns, rfl, hrow, hp, hso, bel⟩
      refine ⟨u, rfl, ?_⟩
      have hns := sortedXY (by rw [hbx']; rfl) (by rw [hby']; rfl) hp hso
      have hlen : ns.length = 2 := by have := congrArg List.length hns; simpa using this
      rcases hrow.2 with ⟨rfl, hz0⟩ | ⟨gb, cap, cur, rfl, r1, r2, r3, r4, r5, r6⟩
      · omega
      · have hι : ι n = none := hfr n hn (by rw [Tr.get_set_same]; simp)
        have hg2 : gb < w'.heap.size := (Array.getElem?_eq_some_iff.1 r2).1
        refine ⟨upd ι n (gb, 0) cur.size, ?_, Step.fresh hok hn hι r1 hg2 bel ⟨gb, 0, cur, 9, (0, 0), upd_same _ _ _ _, r2, .inl rfl, ?_, upd_size _ _ _ _, rfl⟩⟩
        · simp only [V.rel]
          refine ⟨gb, 0, cap, upd_same _ _ _ _, by rw [hlen], by omega, fun h => absurd h (by omega), fun _ => ?_⟩
          have := upd_size ι n (gb, 0) cur.size
          simp only at this
          rw [this, r5]; omega
        · rw [List.drop_zero]
          rw [hlen] at r6
          show V.rels _ _ (cur.toList.take 2)
          rw [show 2 = 2 * 1 from rfl, r6]
          match ns, hns, hlen with
          | [n1, n2], hns, _ =>
            simp only [List.map_cons, List.map_nil, List.cons.injEq, and_true] at hns
            exact rels_cons ⟨n1, rfl, by rw [hns.1]; rfl⟩ (rels_one ⟨n2, rfl, by rw [hns.2]; rfl⟩)
    · exact k.fn _ _ _ _ _ _ _ he'
  · exact k.fn _ _ _ _ _ _ _ he'
theorem calL_ok : CalOK Tryz.prog Γ0 calL := sxyCal_ok (calO_ok mix named (fun _ k => sxyCal_ok k) 1000)
theorem lives_walk (w : World) : Calls Tryz.prog 13 #[] w fun e w' => e = .returned (.bool true) ∧ Below w.heap.size w w' := by
  obtain ⟨H, n, h⟩ := okTrue_some lives_run
  refine (call1 calL_ok h (fun _ => 0) w _ rels_nil).mono ?_
  rintro e w' ⟨x, ι, rfl, hx, _, hb, _⟩
  exact ⟨congrArg Ending.returned (show x = .bool true from hx), hb⟩
end Go.Proofs.YtopicmcaoeameaaGreatDoor
namespace Go.Proofs.YtopicmcaoeameaaGreatDoor
open Go Go.Ev Go.RowKit Go.Smap

theorem LaidM.more {M M' : Nat → Prop} {k lo hi b : Nat} {w : World} (h : LaidM M k lo hi w b) (h1 : ∀ c, lo ≤ c → c < hi → (M' c ↔ M c)) : LaidM M' k lo hi w b := by
  obtain ⟨l, u, mb, k1, k2, k3, k4⟩ := h
  exact ⟨l, u, mb, k1, k2, k3, fun c c1 c2 => (h1 c (by omega) (by omega)).trans (k4 c c1 c2)⟩
theorem SetAt.more {M M' : Nat → Prop} {lo hi b : Nat} {w : World} {rs : List Rl} (h : SetAt M lo hi w b rs) (h1 : ∀ c, lo ≤ c → c < hi → (M' c ↔ M c)) : SetAt M' lo hi w b rs := by
  obtain ⟨v, hv, a1, a2, a3, a4⟩ := h.set
  refine ⟨v, hv, a1, a2, fun e => a3 ((h1 b a1 a2).1 e), a4.imp id ?_⟩
  rintro ⟨ab, cap, rfl, b1, b2, b3, hc⟩
  refine ⟨ab, cap, rfl, b1, b2, fun e => b3 ((h1 ab b1 b2).1 e), fun i r hr => ?_⟩
  obtain ⟨pb, k0, k1, k2, k3, hl⟩ := hc i r hr
  exact ⟨pb, k0, k1, k2, k3, hl.more h1⟩
theorem nil51 (w : World) : (binOp BinOp.eql 51 (.slice none 0 0) (.slice none 0 0)).run Tryz.prog w = .ok (.bool true) w := by kernel_rfl
set_option maxHeartbeats 4000000 in
set_option maxRecDepth 1000000 in
theorem unlike_walk {cb : Nat} {w : World} (k10 : w.cell? ⟨cb, 10, none⟩ = some (.slice none 0 0)) : Calls Tryz.prog 20 #[.pointer (some ⟨cb, 0, none⟩)] w fun e w' => e = .returned (.slice none 0 0) ∧ Below w.heap.size w w' := by
  have hnil := nil51
  go_enter Tryz.func20, Tryz.ntmps20
  go_wp2
  go_ret
  exact ⟨rfl, Below.refl _ _⟩
/-- First's contract at every text of the symbols -/
def FirstLaw : Prop := ∀ t : List Int, 1 ≤ t.length → t.length ≤ 5 → (∀ x ∈ t, x ∈ syms) → ∃ F : Nat → Nat → FR, (∀ k f, (F k f).err = 0) ∧
  ∀ (M : Nat → Prop) (lo hi : Nat) (w : World) (rs : List Rl) (tb tc base : Nat), (∀ c, M c → c < w.heap.size) → hi ≤ w.heap.size → (∀ r ∈ rs, r.k < 8) → (tb < lo ∨ hi ≤ tb) → ¬ M tb → w.ownsRow base 3 1 (.slice (some ⟨tb, 0, none⟩) t.length tc) t.length (t.map (Value.int .i64)) →
    FirstOf M lo hi w (.slice (some ⟨tb, 0, none⟩) t.length tc) t.length 2000 F rs
section
variable {P : Program} {w : World} {base : Nat} {e : TypeId} {size : Nat}
/-- append of some cells, or of nil -/
theorem wpList_append_any {ops : Array Oper} {rest : List Oper} {o : Oper} {a : Act} {Q : Exit → Act → World → Prop} (hgd : o.guard = none) (s x : Operand) (t : TypeId)
    (ho : o.op = .call { callee := .builtin .append, args := #[s, x], argTypes := #[t, t] })
    (i : TypeInfo) (z : Value) (bytes : Nat) (ht : P.underlying t = some (.slice e)) (hi : P.info? e = some i) (hz : i.zero = some z)
    (hsize : i.size = size) (hby : i.bytes = bytes) (hzs : z.cells.size = size) (hsz : 0 < size)
    (v : Value) (n : Nat) (xs : List Value) (hs : a.eval s = v) (hown : w.ownsRow base e size v n xs)
    (u : Value) (m : Nat) (news : List Value) (hx : a.eval x = u) (hu : (u = .slice none 0 0 ∧ m = 0) ∨ ∃ ad c, u = .slice (some ad) m c ∧ ∀ j y, news[j]? = some y → w.cell? (ad.add j) = some y) (hl : news.length = m * size) (h1 : ∀ u ∈ news, u.oneCell' = true)
    (h63 : n + m ≤ maxLen) (hbytes : (n + m) * bytes ≤ 140737488355328) (hbase : base ≤ w.heap.size)
    (h : ∀ v' w', w'.ownsRow base e size v' (n + m) (xs ++ news) → w.grownBy w' v.ownBlock → wpList P ops Q rest (a.put o.dst v') w') :
    wpList P ops Q (o :: rest) a w := by
  have key : ∃ v' w', (Builtin.append_ #[t, t] o.type #[v, u]).run P w = .ok v' w' ∧ w'.ownsRow base e size v' (n + m) (xs ++ news) ∧ w.grownBy w' v.ownBlock := by
    rcases hu with ⟨rfl, rfl⟩ | ⟨ad, c, rfl, hc⟩
    · have hn : news = [] := List.length_eq_zero_iff.1 (by simpa using hl)
      subst hn
      exact ⟨v, w, run_append_owned_none w base t o.type e i size ht hi v n xs hown, by simpa using hown, ⟨rfl, rfl, rfl, Nat.le_refl _, fun _ _ _ => rfl⟩⟩
    · obtain ⟨v', w', h2, h3, h4, _⟩ := run_append_own w base t o.type e i z size bytes ht hi hz hsize hby hzs hsz v n xs hown ad m c news hl hc h1 h63 hbytes hbase
      exact ⟨v', w', h2, h3, h4⟩
  obtain ⟨v', w', hr, h3, h4⟩ := key
  refine wpList_plain hgd fun K hK => ?_
  unfold Oper.wp execOp
  simp only [ho, resolve, invoke, builtin, Sem.run_bind, Sem.run_pure, Result.andThen_ok, List.map_toArray, List.map_cons, List.map_nil, hs, hx, hr]
  exact hK _ _ (h v' w' h3 h4)
end
theorem rl_one (rs : List Rl) : ∀ u ∈ rs.flatMap Rl.cells, u.oneCell' = true := fun u hu => by
  obtain ⟨r, _, hr⟩ := List.mem_flatMap.1 hu
  simp only [Rl.cells, List.mem_cons, List.not_mem_nil, or_false] at hr
  rcases hr with rfl | rfl | rfl <;> rfl
theorem rl_len : ∀ rs : List Rl, (rs.flatMap Rl.cells).length = rs.length * 3
  | [] => rfl
  | r :: t => by rw [List.flatMap_cons, List.length_append, rl_len t, List.length_cons, Nat.succ_mul, Nat.add_comm]; rfl
theorem Good.turn {a b : List Rl} (h : Good (a ++ b)) : Good (b ++ a) := by
  refine ⟨?_, ?_, fun r hr => h.each r ?_⟩
  · have := h.len
    simp at this ⊢
    omega
  · have := h.nodup
    rw [List.map_append] at this ⊢
    exact (List.perm_append_comm.nodup_iff).1 this
  · simp at hr ⊢
    exact hr.symm
/-- a part of a row of rules, as cells -/
theorem part_cells {w : World} {base g cap : Nat} {rs : List Rl} (h : w.ownsRow base 27 3 (.slice (some ⟨g, 0, none⟩) rs.length cap) rs.length (rs.flatMap Rl.cells)) {a b : List Rl} (hab : rs = a ++ b) :
    (∀ j y, (b.flatMap Rl.cells)[j]? = some y → w.cell? ((⟨g, a.length * 3, none⟩ : Addr).add j) = some y) ∧ ∀ j y, (a.flatMap Rl.cells)[j]? = some y → w.cell? ((⟨g, 0, none⟩ : Addr).add j) = some y := by
  subst hab
  refine ⟨fun j y hy => ?_, fun j y hy => ?_⟩
  · have hj := (List.getElem?_eq_some_iff.1 hy).1
    rw [rl_len] at hj
    have := h.cells rfl (a.length * 3 + j) y (by rw [List.flatMap_append, List.getElem?_append_right (by rw [rl_len]; omega), rl_len, Nat.add_sub_cancel_left]; exact hy)
    have e : (⟨g, 0, none⟩ : Addr).add (a.length * 3 + j) = (⟨g, a.length * 3, none⟩ : Addr).add j := by
      unfold Addr.add
      split <;> split <;> simp_all <;> omega
    rw [← e]; exact this
  · have hj := (List.getElem?_eq_some_iff.1 hy).1
    exact h.cells rfl j y (by rw [List.flatMap_append, List.getElem?_append_left hj]; exact hy)
theorem TextsAt.bel {w w' : World} {base : Nat} {v : Value} {ts : List (Value × List Int)} (h : TextsAt w base v ts) (hb : Below w.heap.size w w') : TextsAt w' base v ts :=
  ⟨owns_below h.row hb, fun p hp => ⟨owns_below (h.each p hp).1 hb, (h.each p hp).2⟩⟩
theorem owns_but {M : Nat → Prop} {w w' : World} {cb base : Nat} {e : TypeId} {size : Nat} {v : Value} {n : Nat} {xs : List Value} (h : w.ownsRow base e size v n xs) (hb : BelBut M cb w w') (hM : ∀ k, M k → k < base) {C : Can} (hC : CanAt w cb C) (he : 69 ≠ e) : w'.ownsRow base e size v n xs := by
  refine ⟨h.1, h.2.imp id ?_⟩
  rintro ⟨g, cap, cur, g1, g2, g3, g4⟩
  refine ⟨g, cap, cur, g1, g2, (hb.block g (Array.getElem?_eq_some_iff.1 g3).1 (fun e1 => ?_) (fun e1 => ?_)).trans g3, g4⟩
  · subst e1
    unfold CanAt at hC
    rw [hC] at g3
    cases g3
    exact he rfl
  · have := hM g e1
    omega
theorem TextsAt.but {M : Nat → Prop} {w w' : World} {cb base : Nat} {v : Value} {ts : List (Value × List Int)} (h : TextsAt w base v ts) (hb : BelBut M cb w w') (hM : ∀ k, M k → k < base) {C : Can} (hC : CanAt w cb C) : TextsAt w' base v ts :=
  ⟨owns_but h.row hb hM hC (by decide), fun p hp => ⟨owns_but (h.each p hp).1 hb hM hC (by decide), (h.each p hp).2⟩⟩
end Go.Proofs.YtopicmcaoeameaaGreatDoor
