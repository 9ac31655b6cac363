/-
  What Parse and plan.New make of the twelve texts of rules: contracts, out of one evaluation by the kernel for each text.
-/
import Derived.Test.YtopicmcaoeameaaGreatDoorNewA
import Derived.Test.YtopicmcaoeameaaGreatDoorNewB
import Derived.Test.YtopicmcaoeameaaGreatDoorMach
namespace Go.Proofs.YtopicmcaoeameaaGreatDoor
open Go Go.Ev Go.RowKit

theorem new_all : ∀ k : Nat, k < 12 → chkNew k = true
  | 0, _ => new0
  | 1, _ => new1
  | 2, _ => new2
  | 3, _ => new3
  | 4, _ => new4
  | 5, _ => new5
  | 6, _ => new6
  | 7, _ => new7
  | 8, _ => new8
  | 9, _ => new9
  | 10, _ => new10
  | 11, _ => new11
  | n + 12, h => absurd h (by omega)
theorem new_inv {k : Nat} (h : chkNew k = true) : ∃ p q H n H2 n2, cal0.fn 39 [.str (txt k), noFlags] .nil .e = .ok (.tup [p, q, .int .i64 0]) H n ∧
    cal0.fn 40 [p, .int .i64 64] H n = .ok (.tup [.ptr (root k) 0, .int .i64 0]) H2 n2 ∧ inH H2 (plan k) = true ∧ shp p = true := by
  unfold chkNew at h
  split at h
  · rename_i p q H n h1
    split at h
    · rename_i hshp
      split at h
      · rename_i r H2 n2 h2
        split at h
        · rename_i hr
          have := (Pth.beq_iff r (root k)).1 hr
          subst this
          exact ⟨p, q, H, n, H2, n2, h1, h2, h, hshp⟩
        · cases h
      · cases h
    · cases h
  · cases h
theorem isSl_rel {ι : Emb} {v : V} {x : Value} (h : isSl v = true) (hr : V.rel ι v x) : ∃ a m c, x = .slice a m c := by
  cases v <;> simp only [isSl] at h <;> try (cases h; done)
  · exact ⟨_, _, _, hr⟩
  · obtain ⟨b, s, c', _, hx, _⟩ := hr
    exact ⟨_, _, _, hx⟩
/-- a parsed pattern's value -/
def Pat (x : Value) : Prop := ∃ (i0 : Int) (a1 : Option Addr) (m1 c1 : Nat) (a2 : Option Addr) (m2 c2 : Nat) (i3 i4 i5 i6 : Int) (b7 : Bool) (i8 : Int) (b9 : Bool),
  x = .agg #[.int .i64 i0, .slice a1 m1 c1, .slice a2 m2 c2, .int .i64 i3, .int .i64 i4, .int .i64 i5, .int .i64 i6, .bool b7, .int .i64 i8, .bool b9]
theorem shp_rel {ι : Emb} {v : V} {x : Value} (h : shp v = true) (hr : V.rel ι v x) : Pat x := by
  unfold shp at h
  split at h
  · rename_i i0 s1 s2 i3 i4 i5 i6 b7 i8 b9
    split at h
    · rename_i h1
      obtain ⟨cs, rfl, hcs⟩ := hr
      obtain ⟨x0, t0, e0, h0, hcs⟩ := rels_cons_inv hcs
      obtain ⟨x1, t1, e1, h1', hcs⟩ := rels_cons_inv hcs
      obtain ⟨x2, t2, e2, h2, hcs⟩ := rels_cons_inv hcs
      obtain ⟨x3, t3, e3, h3, hcs⟩ := rels_cons_inv hcs
      obtain ⟨x4, t4, e4, h4, hcs⟩ := rels_cons_inv hcs
      obtain ⟨x5, t5, e5, h5, hcs⟩ := rels_cons_inv hcs
      obtain ⟨x6, t6, e6, h6, hcs⟩ := rels_cons_inv hcs
      obtain ⟨x7, t7, e7, h7, hcs⟩ := rels_cons_inv hcs
      obtain ⟨x8, t8, e8, h8, hcs⟩ := rels_cons_inv hcs
      obtain ⟨x9, t9, e9, h9, hcs⟩ := rels_cons_inv hcs
      have e10 := rels_nil_inv hcs
      obtain ⟨a1, m1, c1, rfl⟩ := isSl_rel h1 h1'
      obtain ⟨a2, m2, c2, rfl⟩ := isSl_rel h h2
      simp only [V.rel] at h0 h3 h4 h5 h6 h7 h8 h9
      subst h0; subst h3; subst h4; subst h5; subst h6; subst h7; subst h8; subst h9
      subst e10; subst e9; subst e8; subst e7; subst e6; subst e5; subst e4; subst e3; subst e2; subst e1
      exact ⟨i0, a1, m1, c1, a2, m2, c2, i3, i4, i5, i6, b7, i8, b9, congrArg Value.agg (Array.toList_inj.1 e0)⟩
    · cases h
  · cases h
theorem hokLater {P : Program} {ι : Emb} {H : Heap} {w w' : World} (h : HOK P ι H w) (hs : w.heap.size ≤ w'.heap.size) (hb : ∀ b, b < w.heap.size → w'.heap[b]? = w.heap[b]?) : HOK P ι H w' :=
  ⟨fun p o ho => O.ok_mono (h.obj p o ho) (Emb.le.refl ι) fun b s _ hp => hb b (h.lt p b s hp), h.inj, fun p b s hp => Nat.lt_of_lt_of_le (h.lt p b s hp) hs⟩
theorem rels_forget {ι : Emb} : ∀ (A L : List V) (xs : List Value), V.rels ι (A ++ L) xs → V.rels ι (A ++ List.replicate L.length .unk) xs
  | [], [], xs, h => h
  | [], v :: L, xs, h => by
    obtain ⟨x, t, rfl, hx, ht⟩ := rels_cons_inv h
    exact rels_cons trivial (rels_forget [] L t ht)
  | a :: A, L, xs, h => by
    obtain ⟨x, t, rfl, hx, ht⟩ := rels_cons_inv h
    exact rels_cons hx (rels_forget A L t ht)
theorem mach_mem : (nMach, mach1) ∈ plan 3 := by
  show (nMach, mach1) ∈ plan3
  unfold plan3 nMach mach1
  simp
/-- what New made, laid -/
theorem laid1_of {P : Program} {ι : Emb} {H : Heap} {w : World} (h : HOK P ι H w) {k : Nat} (hl : inH H (plan k) = true) (hr : nameOf (plan k) (root k) = true) {x : Value} (hx : V.rel ι (.ptr (root k) 0) x) {B : Nat}
    (hB : ∀ p b s, Live H p → ι p = some (b, s) → B ≤ b) : ∃ b mb, x = .pointer (some ⟨b, 0, none⟩) ∧ Laid1 k B w.heap.size w b mb := by
  obtain ⟨b, s, hp, rfl⟩ := hx
  obtain ⟨e, he, hre⟩ := nameOf_iff.1 hr
  obtain ⟨b', s', c, el, fr, h1, _, _, _, _, h0⟩ := h.obj _ _ (inH_ok hl e he)
  rw [hre, hp] at h1
  cases h1
  subst h0
  by_cases hk : k = 3
  · subst hk
    obtain ⟨mb, s1, cs, el1, fr1, g1, g2, g3, g4, g5, g6⟩ := h.obj _ _ (inH_ok hl _ mach_mem)
    subst g6
    refine ⟨b, mb, rfl, ι, fun e he => ?_, hp, fun e he c s hc => ?_, fun _ => ⟨g1, cs, el1, fr1, g2, g3, g5⟩⟩
    · rcases List.mem_cons.1 (show e ∈ (nMach, mach0) :: ro3 from he) with rfl | he'
      · exact ⟨mb, 0, cs, el1, fr1, g1, g2, rels_forget (mach1.take 14) (mach1.drop 14) _ g4⟩
      · exact h.ro hl e (List.mem_filter.1 he').1
    · have hlive : ∃ l, H.get e.1 = some (.cells l) := by
        rcases List.mem_cons.1 (show e ∈ (nMach, mach0) :: ro3 from he) with rfl | he'
        · exact ⟨mach1, inH_ok hl _ mach_mem⟩
        · exact ⟨_, inH_ok hl e (List.mem_filter.1 he').1⟩
      obtain ⟨l, hg⟩ := hlive
      refine ⟨hB _ _ _ ⟨_, hg, by simp⟩ hc, h.lt _ _ _ hc, fun ec => ⟨rfl, ?_⟩, fun ec => ?_⟩
      · subst ec
        exact h.inj _ _ _ _ _ ⟨_, hg, by simp⟩ ⟨_, inH_ok hl _ mach_mem, by simp⟩ hc g1
      · rw [ec.2] at hc
        have := hc.symm.trans g1
        cases this
        rfl
  · refine ⟨b, w.heap.size, rfl, ι, by rw [planU_ne hk]; exact h.ro hl, hp, fun e he c s hc => ?_, fun h3 => absurd h3 hk⟩
    rw [planU_ne hk] at he
    have hc2 := h.lt _ _ _ hc
    exact ⟨hB _ _ _ ⟨_, inH_ok hl e he, by simp⟩ hc, hc2, fun ec => by omega, fun ec => absurd ec.1 hk⟩
/-- the text of the rule k, as a string -/
def Txt (k : Nat) (s : ByteArray) : Prop := s.data.toList.map UInt8.toNat = txt k
/-- Parse of a text of the list, and New of what it gives -/
theorem parse_new {k : Nat} (hk : k < 12) {s : ByteArray} (hs : Txt k s) (w : World) :
    Calls Tryz.prog 39 #[.string s, .agg #[.bool false, .bool false, .bool false, .bool false]] w fun e w1 => ∃ x y, e = .returned (.tuple #[x, y, .int .i64 0]) ∧ Below w.heap.size w w1 ∧ Pat x ∧
      ∀ w2 : World, w1.heap.size ≤ w2.heap.size → (∀ b, b < w1.heap.size → w2.heap[b]? = w1.heap[b]?) →
        Calls Tryz.prog 40 #[x, .int .i64 64] w2 fun e w3 => ∃ b mb, e = .returned (.tuple #[.pointer (some ⟨b, 0, none⟩), .int .i64 0]) ∧ Below w.heap.size w2 w3 ∧ Laid1 k w.heap.size w3.heap.size w3 b mb := by
  obtain ⟨p, q, H, n, H2, n2, h1, h2, h3, hshp⟩ := new_inv (new_all k hk)
  refine (call1 cal0_ok h1 (fun _ => 0) w _ (rels_cons ⟨s, rfl, hs⟩ (rels_one ?_))).mono fun e w1 he => ?_
  · exact ⟨_, rfl, rels_cons rfl (rels_cons rfl (rels_cons rfl (rels_one rfl)))⟩
  · obtain ⟨x, ι, rfl, hx, hok, hb, hdom, hlive⟩ := he
    obtain ⟨cs, rfl, hcs⟩ := hx
    obtain ⟨x1, t1, e1, hx1, hcs⟩ := rels_cons_inv hcs
    obtain ⟨x2, t2, e2, hx2, hcs⟩ := rels_cons_inv hcs
    obtain ⟨x3, t3, e3, hx3, hcs⟩ := rels_cons_inv hcs
    have e4 := rels_nil_inv hcs
    subst e4; subst e3; subst e2
    have hx3' : x3 = .int .i64 0 := hx3
    subst hx3'
    have ec : cs = #[x1, x2, .int .i64 0] := Array.toList_inj.1 e1
    subst ec
    refine ⟨x1, x2, rfl, hb, shp_rel hshp hx1, fun w2 hs2 hw2 => ?_⟩
    refine (call2 cal0_ok h2 (hokLater hok hs2 hw2) hlive (Nat.le_trans hb.size hs2) hdom _ (rels_cons hx1 (rels_one rfl))).mono fun e w3 he => ?_
    obtain ⟨y, ι', rfl, hy, hok', hb', _, hlive'⟩ := he
    obtain ⟨cs, rfl, hcs⟩ := hy
    obtain ⟨y1, t1, e1, hy1, hcs⟩ := rels_cons_inv hcs
    obtain ⟨y2, t2, e2, hy2, hcs⟩ := rels_cons_inv hcs
    have e4 := rels_nil_inv hcs
    subst e4; subst e2
    have hy2' : y2 = .int .i64 0 := hy2
    subst hy2'
    obtain ⟨b, mb, rfl, hlaid⟩ := laid1_of hok' h3 (plan_closed k hk).2.2 hy1 hlive'
    have ec : cs = #[.pointer (some ⟨b, 0, none⟩), .int .i64 0] := Array.toList_inj.1 e1
    subst ec
    exact ⟨b, mb, rfl, hb', hlaid⟩
end Go.Proofs.YtopicmcaoeameaaGreatDoor
