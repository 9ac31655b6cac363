/-
  The documented example of package canary, evaluated by the kernel; its contract.
-/
import Derived.Test.YtopicmcaoeameaaGreatDoorLivesA
import Derived.Test.YtopicmcaoeameaaGreatDoorSorted
namespace Go.Proofs.YtopicmcaoeameaaGreatDoor
open Go Go.Ev Go.RowKit

theorem callable24 : Callable Tryz.prog 24 := ⟨Tryz.f24, Tryz.func24, by kernel_rfl, by kernel_rfl⟩
theorem keysXY_inv {es : List (V × V × Nat)} (h : keysXY es = true) : ∃ v1 n1 v2 n2, es = [(.str [120], v1, n1), (.str [121], v2, n2)] := by
  unfold keysXY at h
  split at h
  · exact ⟨_, _, _, _, rfl⟩
  · cases h
theorem bytes_of {b : ByteArray} {l : List Nat} (h : b.data.toList.map UInt8.toNat = l) : b.data.toList = l.map UInt8.ofNat := by
  rw [← h, List.map_map]
  exact ((List.map_congr_left fun a _ => UInt8.ofNat_toNat).trans (List.map_id _)).symm
theorem sortedXY {ns : List ByteArray} {kx ky : ByteArray} (hx : kx.data.toList = [120]) (hy : ky.data.toList = [121]) (h1 : (ns.map fun c => c.data.toList).Perm ([kx, ky].map fun c => c.data.toList)) (h2 : (ns.map fun c => c.data.toList).Pairwise (fun a b => a ≤ b)) :
    ns.map (fun c => c.data.toList) = [[120], [121]] := by
  simp only [List.map_cons, List.map_nil, hx, hy] at h1
  refine List.Perm.eq_of_pairwise (le := fun a b => a ≤ b) (fun a b _ _ h1 h2 => List.le_antisymm h1 h2) h2 ?_ h1
  refine List.pairwise_cons.2 ⟨fun z hz => ?_, List.pairwise_singleton _ _⟩
  simp only [List.mem_singleton] at hz
  subst hz
  decide
set_option maxHeartbeats 1000000 in
theorem sxyCal_ok {c : Cal} (k : CalOK Tryz.prog Γ0 c) : CalOK Tryz.prog Γ0 (sxyCal c) := by
  refine ⟨fun f args H n v H' n' he => ?_, k.rd⟩
  have he' : (match Nat.beq f 24, args with
    | true, [.fn g [] [.ptr q o]] => (match Nat.beq g 37, Nat.beq o 0, H.get q with
      | true, true, some (.cells [.mp p]) => (match H.get p with
        | some (.map es cl) => (match keysXY es, nodupN' (borns es), allBelow cl (borns es), H.get n with
          | true, true, true, none => Res.ok (.sl n 0 2 2 1) (H.set n (.cells [.str [120], .str [121]])) n.succ
          | _, _, _, _ => .bad)
        | _ => .bad)
      | _, _, _ => c.fn f args H n)
    | _, _ => c.fn f args H n) = .ok v H' n' := he
  split at he'
  · rename_i g q o hf
    have := beq_eq hf; subst this
    split at he'
    · rename_i p hg ho hq
      have hge := beq_eq hg; subst hge
      have hoe := beq_eq ho; subst hoe
      split at he' <;> try (cases he'; done)
      rename_i es cl hes
      split at he' <;> try (cases he'; done)
      rename_i hks hnd hbel hn
      cases he'
      obtain ⟨u1, m1, u2, m2, rfl⟩ := keysXY_inv hks
      refine ⟨Mono.set _ _ _, callable24, fun ι w xs hok gok hfr hxs => ?_⟩
      obtain ⟨x, t, e1, hx, ht⟩ := rels_cons_inv hxs
      have := rels_nil_inv ht; subst this
      simp only [V.rel] at hx
      obtain ⟨a', c', hxe, ha, hc⟩ := hx
      obtain ⟨y, t2, e3, hy, ht2⟩ := rels_cons_inv hc
      have := rels_nil_inv ht2; subst this
      have ea : a' = #[] := Array.toList_inj.1 (rels_nil_inv ha)
      subst ea
      simp only [V.rel] at hy
      obtain ⟨bq, s, hpq, rfl⟩ := hy
      have hs0 := cells_zero hok hq hpq
      subst hs0
      have ec : c' = #[.pointer (some ⟨bq, 0, none⟩)] := Array.toList_inj.1 e3
      subst ec
      obtain ⟨z, hz, hzr, hlt⟩ := cell_nth hok hq hpq (j := 0) (v := .mp p) rfl
      simp only [V.rel] at hzr
      obtain ⟨bm, hbm, rfl⟩ := hzr
      obtain ⟨bm2, ms, hm1, hm2, hm3⟩ := map_of hok hes
      rw [hbm] at hm1; cases hm1
      have hb := ERel_borns hm3
      obtain ⟨x1, t1, hms, hk1, _, _, hm3'⟩ := hm3
      obtain ⟨x2, t2, ht2', hk2, _, _, hm3''⟩ := hm3'
      have ht2n : t2 = [] := hm3''
      subst ht2n
      simp only [V.rel] at hk1 hk2
      obtain ⟨kx, hkx, hbx⟩ := hk1
      obtain ⟨ky, hky, hby⟩ := hk2
      have hbx' := bytes_of hbx
      have hby' := bytes_of hby
      have hkeys : ms.toList.map (·.key) = [kx, ky].map Value.string := by rw [hms, ht2']; simp [hkx, hky]
      have hne : kx ≠ ky := fun e => by rw [e, hby'] at hbx'; exact absurd hbx' (by decide)
      have hnodup : [kx, ky].Nodup := by simp [hne]
      have hsz : ∀ c ∈ [kx, ky], c.size ≤ maxLen := fun c hc => by
        have : c.size = c.data.toList.length := by rw [Array.length_toList]; rfl
        simp only [List.mem_cons, List.not_mem_nil, or_false] at hc
        rcases hc with rfl | rfl
        · rw [this, hbx']; decide
        · rw [this, hby']; decide
      have hxs2 : xs = #[.func (.func 37) #[] #[.pointer (some ⟨bq, 0, none⟩)]] := by apply Array.toList_inj.1; rw [e1, hxe]
      subst hxs2
      refine (sorted_list hz hlt hm2 hkeys hnodup hsz (fun x hx => ?_) (by rw [hb, ← borns_eq]; exact nodupN'_ok hnd) (by simp)).mono ?_
      · have : x.born ∈ ms.toList.map (·.born) := List.mem_map.2 ⟨x, hx, rfl⟩
        rw [hb, ← borns_eq] at this
        exact allBelow_ok hbel _ this
      rintro e w' ⟨u, ns, rfl, hrow, hp, hso, bel⟩
      refine ⟨u, rfl, ?_⟩
      have hns := sortedXY (by rw [hbx']; rfl) (by rw [hby']; rfl) hp hso
      have hlen : ns.length = 2 := by have := congrArg List.length hns; simpa using this
      rcases hrow.2 with ⟨rfl, hz0⟩ | ⟨gb, cap, cur, rfl, r1, r2, r3, r4, r5, r6⟩
      · omega
      · have hι : ι n = none := hfr n hn (by rw [Tr.get_set_same]; simp)
        have hg2 : gb < w'.heap.size := (Array.getElem?_eq_some_iff.1 r2).1
        refine ⟨upd ι n (gb, 0) cur.size, ?_, Step.fresh hok hn hι r1 hg2 bel ⟨gb, 0, cur, 9, (0, 0), upd_same _ _ _ _, r2, .inl rfl, ?_, upd_size _ _ _ _, rfl⟩⟩
        · simp only [V.rel]
          refine ⟨gb, 0, cap, upd_same _ _ _ _, by rw [hlen], by omega, fun h => absurd h (by omega), fun _ => ?_⟩
          have := upd_size ι n (gb, 0) cur.size
          simp only at this
          rw [this, r5]; omega
        · rw [List.drop_zero]
          rw [hlen] at r6
          show V.rels _ _ (cur.toList.take 2)
          rw [show 2 = 2 * 1 from rfl, r6]
          match ns, hns, hlen with
          | [n1, n2], hns, _ =>
            simp only [List.map_cons, List.map_nil, List.cons.injEq, and_true] at hns
            exact rels_cons ⟨n1, rfl, by rw [hns.1]; rfl⟩ (rels_one ⟨n2, rfl, by rw [hns.2]; rfl⟩)
    · exact k.fn _ _ _ _ _ _ _ he'
  · exact k.fn _ _ _ _ _ _ _ he'
theorem calL_ok : CalOK Tryz.prog Γ0 calL := sxyCal_ok (calO_ok mix named (fun _ k => sxyCal_ok k) 1000)
theorem lives_walk (w : World) : Calls Tryz.prog 13 #[] w fun e w' => e = .returned (.bool true) ∧ Below w.heap.size w w' := by
  obtain ⟨H, n, h⟩ := okTrue_some lives_run
  refine (call1 calL_ok h (fun _ => 0) w _ rels_nil).mono ?_
  rintro e w' ⟨x, ι, rfl, hx, _, hb, _⟩
  exact ⟨congrArg Ending.returned (show x = .bool true from hx), hb⟩
end Go.Proofs.YtopicmcaoeameaaGreatDoor
