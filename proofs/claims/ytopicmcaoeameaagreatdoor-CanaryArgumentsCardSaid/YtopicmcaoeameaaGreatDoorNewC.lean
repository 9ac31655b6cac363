/-
  canary.New, walked.
-/
import Derived.Test.YtopicmcaoeameaaGreatDoorConcat
import Derived.Test.YtopicmcaoeameaaGreatDoorSorted
import Derived.Test.YtopicmcaoeameaaGreatDoorSee
namespace Go.Proofs.YtopicmcaoeameaaGreatDoor
open Go Go.Ev Go.RowKit Go.Smap

/-- possible numbers -/
def Nums (ev mo en : Int) : Prop := 1 ≤ ev ∧ ev ≤ 1048576 ∧ 0 ≤ mo ∧ mo ≤ 1048576 ∧ 1 ≤ en ∧ en ≤ 1048576
instance (ev mo en : Int) : Decidable (Nums ev mo en) := by unfold Nums; infer_instance
set_option maxHeartbeats 4000000 in
set_option maxRecDepth 1000000 in
theorem new_nil1 (v : Value) (ev mo en : Int) (w : World) : Calls Tryz.prog 9 #[.pointer none, v, .int .i64 ev, .int .i64 mo, .int .i64 en] w fun e w' => e = .returned (.tuple #[.pointer none, .int .i64 1]) ∧ w' = w := by
  go_enter Tryz.func9, Tryz.ntmps9
  go_wp2
  go_ret2
  exact ⟨rfl, rfl⟩
set_option maxHeartbeats 4000000 in
set_option maxRecDepth 1000000 in
theorem new_nil2 (b : Nat) (ev mo en : Int) (w : World) : Calls Tryz.prog 9 #[.pointer (some ⟨b, 0, none⟩), .pointer none, .int .i64 ev, .int .i64 mo, .int .i64 en] w fun e w' => e = .returned (.tuple #[.pointer none, .int .i64 1]) ∧ w' = w := by
  go_enter Tryz.func9, Tryz.ntmps9
  go_wp2
  go_ret2
  exact ⟨rfl, rfl⟩
set_option maxHeartbeats 16000000 in
set_option maxRecDepth 1000000 in
theorem new_bad (b1 b2 : Nat) (ev mo en : Int) (h : ¬ Nums ev mo en) (w : World) : Calls Tryz.prog 9 #[.pointer (some ⟨b1, 0, none⟩), .pointer (some ⟨b2, 0, none⟩), .int .i64 ev, .int .i64 mo, .int .i64 en] w fun e w' => e = .returned (.tuple #[.pointer none, .int .i64 1]) ∧ w' = w := by
  have HN : Hid (¬ Nums ev mo en) := h
  clear h
  by_cases h1 : ev < 1
  · go_enter Tryz.func9, Tryz.ntmps9
    go_wp2
    go_ret2
    exact ⟨rfl, rfl⟩
  by_cases h2 : 1048576 < ev
  · go_enter Tryz.func9, Tryz.ntmps9
    go_wp2
    go_ret2
    exact ⟨rfl, rfl⟩
  by_cases h3 : mo < 0
  · go_enter Tryz.func9, Tryz.ntmps9
    go_wp2
    go_ret2
    exact ⟨rfl, rfl⟩
  by_cases h4 : 1048576 < mo
  · go_enter Tryz.func9, Tryz.ntmps9
    go_wp2
    go_ret2
    exact ⟨rfl, rfl⟩
  by_cases h5 : en < 1
  · go_enter Tryz.func9, Tryz.ntmps9
    go_wp2
    go_ret2
    exact ⟨rfl, rfl⟩
  by_cases h6 : 1048576 < en
  · go_enter Tryz.func9, Tryz.ntmps9
    go_wp2
    go_ret2
    exact ⟨rfl, rfl⟩
  · exact absurd (show Nums ev mo en by unfold Nums; omega) HN.out
set_option maxHeartbeats 16000000 in
set_option maxRecDepth 1000000 in
theorem new_walk {M1 M2 : Nat → Prop} {lo1 hi1 lo2 hi2 b1 b2 : Nat} {w : World} {rs1 rs2 : List Rl} (hs1 : SetAt M1 lo1 hi1 w b1 rs1) (hs2 : SetAt M2 lo2 hi2 w b2 rs2) (hhi1 : hi1 ≤ w.heap.size) (hhi2 : hi2 ≤ w.heap.size)
    (hn1 : rs1.length ≤ 100) (hn2 : rs2.length ≤ 100) (hm : ∀ r ∈ rs1 ++ rs2, r.name.size ≤ maxLen) {ev mo en : Int} (hN : Nums ev mo en) :
    Calls Tryz.prog 9 #[.pointer (some ⟨b1, 0, none⟩), .pointer (some ⟨b2, 0, none⟩), .int .i64 ev, .int .i64 mo, .int .i64 en] w fun e w' => ∃ (cb bm : Nat) (vn : Value) (ns : List ByteArray), e = .returned (.tuple #[.pointer (some ⟨cb, 0, none⟩), .int .i64 0]) ∧ Below w.heap.size w w' ∧
      w.heap.size ≤ cb ∧ CanAt w' cb ⟨b1, b2, ev, mo, en, 0, 0, 0, vn, .map (some bm), .slice none 0 0⟩ ∧ IsMap w' bm 0 (fun _ => none) ∧ w.heap.size ≤ bm ∧ w'.ownsRow w.heap.size 9 1 vn ns.length (ns.map Value.string) ∧ ns.length ≤ 200 ∧
      (∀ s ∈ ns, s.size ≤ maxLen) ∧ ns.Pairwise fun a b => a.data.toList ≤ b.data.toList := by
  obtain ⟨n1, n2, n3, n4, n5, n6⟩ := hN
  have hmm := @run_makeMap Tryz.prog
  have hl12 : (rs1 ++ rs2).length ≤ 200 := by simp; omega
  obtain ⟨rs, hrs⟩ : ∃ rs, rs1 ++ rs2 = rs := ⟨_, rfl⟩
  rw [hrs] at hl12 hm
  have hr1 := fun (w' : World) (hb : Below w.heap.size w w') => rules_walk (hs1.bel (Bel.of hb) hhi1) (Nat.le_trans hhi1 hb.size) hn1
  have hr2 := fun (w' : World) (hb : Below w.heap.size w w') => rules_walk (hs2.bel (Bel.of hb) hhi2) (Nat.le_trans hhi2 hb.size) hn2
  have hW0 : Below w.heap.size w (w.alloc (.map #[] 0)) := (Below.refl _ _).alloc (Nat.le_refl _) _
  have M1' : Hid True := trivial
  go_enter Tryz.func9, Tryz.ntmps9
  go_wp2_with (first
    | (go_at_call 23; clear M1'; refine (hr1 _ hW0).mono ?_; rintro _ w1 ⟨v1, rfl, hv1, hb1⟩; obtain ⟨a1, k1, rfl, _⟩ := owns_shape hv1; have hW1 : Below w.heap.size w w1 := hW0.trans (hb1.mono hW0.size))
    | (go_at_call 23; refine (hr2 _ hW1).mono ?_; rintro _ w2 ⟨v2, rfl, hv2, hb2⟩; obtain ⟨a2, k2, rfl, _⟩ := owns_shape hv2; have hW2 : Below w.heap.size w w2 := hW1.trans (hb2.mono hW1.size); have hv1' := (owns_below hv1 hb2).alloc (.cells #[.slice a1 rs1.length k1, .slice a2 rs2.length k2] 60); have hv2' := hv2.alloc (.cells #[.slice a1 rs1.length k1, .slice a2 rs2.length k2] 60); have hcc := concat_walk (vb := w2.heap.size) hv1' hv2' hn1 hn2 (by rw [World.cell?_alloc_new]; rfl) (by rw [World.cell?_alloc_new]; rfl) (by simp); rw [hrs] at hcc)
    | (go_at_call 22; refine hcc.mono ?_; rintro _ w3 ⟨v3, rfl, hv3, hb3⟩; obtain ⟨a3, k3, rfl, ha3⟩ := owns_shape hv3)
    | go_in)
  have hs0 := hW0.size
  have hs1' := hb1.size
  have hs2' := hb2.size
  have hs3' := hb3.size
  simp at hs0 hs1' hs3'
  have hW3 : Below w.heap.size w w3 := (hW2.alloc hW2.size _).trans (hb3.mono (by simp; omega))
  have hmap3 : IsMap w3 w.heap.size 0 (fun _ => none) := (isMap_made w).same (((hb3.block _ (by simp; omega)).trans (Below.heap_alloc _ _ _ (by omega))).trans ((hb2.block _ (by omega)).trans (hb1.block _ (by simp))))
  have hlt3 := World.ownsRow.lt hv3
  clear hv1 hv2 hv1' hv2' hr1 hr2 hcc hs1 hs2
  have hv3b := owns_base (base' := w.heap.size + 1) hv3 (by simp; omega)
  have hs3n : w.heap.size + 1 ≤ w3.heap.size := by omega
  go_loopw [53] (fun i wr => ∃ (j : Nat) (f : ByteArray → Option Value), j ≤ rs.length ∧ i = .int .i64 j ∧ IsMap wr w.heap.size j f ∧ Below w.heap.size w wr ∧ wr.ownsRow (w.heap.size + 1) 62 3 (.slice a3 rs.length k3) rs.length (rs.flatMap Rl.cells)) (fun i _ => rs.length - (intOf i).toNat)
  case atStart => exact ⟨0, _, Nat.zero_le _, rfl, hmap3, hW3, hv3b⟩
  case round =>
    obtain ⟨j, f, hj, rfl, hmap, hbel, hown⟩ := hrel
    by_cases hjl : j < rs.length
    · obtain ⟨g, rfl⟩ := ha3 (by omega)
      obtain ⟨c0, c1, c2⟩ := rl_cells hown hjl
      have hnm := hm rs[j] (List.getElem_mem hjl)
      obtain ⟨nm, hnme⟩ : ∃ s, rs[j].name = s := ⟨_, rfl⟩
      obtain ⟨tx, htxe⟩ : ∃ s, rs[j].text = s := ⟨_, rfl⟩
      rw [hnme] at c0 hnm
      rw [htxe] at c1
      clear hnme htxe
      have hg := (World.ownsRow.lt hown g rfl)
      obtain ⟨o, hrun, hmap'⟩ := (hmap.alloc (.cells #[.string nm, .string tx, .bool false] 62)).update (by unfold maxLen; omega) Tryz.underlying59 Tryz.underlying9 hnm (.bool true)
      have hown' := owns_setBlock (hown.alloc (.cells #[.string nm, .string tx, .bool false] 62)) (B := w.heap.size) (fun e => by have e' : g = w.heap.size := Option.some.inj e; omega) o
      have hbel' : Below w.heap.size w (ChangeMaps.setBlock (wr.alloc (.cells #[.string nm, .string tx, .bool false] 62)) w.heap.size o) := below_setBlock (hbel.alloc hbel.size _) (Nat.le_refl _) o
      go_wp2
      go_roundw
      case rel => exact ⟨j + 1, _, hjl, by go_num, hmap', hbel', hown'⟩
      case measure => simp [intOf]; omega
    · have hje : j = rs.length := by omega
      subst hje
      have hk := keys_call (some w.heap.size) wr
      have hso := sorted_keys (bq := wr.heap.size) (w := wr.alloc (.cells #[.map (some w.heap.size)] 59)) (by rw [World.cell?_alloc_new]; rfl) (by simp) (hmap.alloc _) (by omega)
      have hbs := hbel.size
      go_wp2_with (first
        | (go_at_call 25; refine hk.mono ?_; rintro _ w4 ⟨rfl, rfl⟩)
        | (go_at_call 24; refine hso.mono ?_; rintro _ w5 ⟨vn, ns, rfl, hown5, hns, hns1, _, hns3, hb5⟩; obtain ⟨an, kn, rfl, _⟩ := owns_shape hown5)
        | go_in)
      have h5s := hb5.size
      simp at h5s
      have hW5 : Below w.heap.size w w5 := (hbel.alloc hbs _).trans (hb5.mono (by simp; omega))
      go_ret2
      refine ⟨w5.heap.size + 1, w5.heap.size, _, ns, rfl, (hW5.alloc hW5.size _).alloc (by simp; omega) _, by omega, ?_, (isMap_made w5).alloc _, by omega, owns_base ((hown5.alloc _).alloc _) (by simp; omega), by omega, fun s hs => (hns1 s hs).1, hns3⟩
      have := heap_alloc_new (w5.alloc (.map #[] 0)) (.cells #[.pointer (some ⟨b1, 0, none⟩), .pointer (some ⟨b2, 0, none⟩), .int .i64 ev, .int .i64 mo, .int .i64 en, .int .i64 0, .int .i64 0, .int .i64 0, .slice an ns.length kn, .map (some w5.heap.size), .slice none 0 0] 69)
      unfold CanAt
      simpa [Can.cells] using this
end Go.Proofs.YtopicmcaoeameaaGreatDoor
