/-
  A connection's ask, walked, whatever its one watch says: told, out, or nothing to ask. (Written by tools/mkask.py.)
-/
import Derived.Test.YtahmcjdddcbhnaaGreatDoorRunG1b
import Derived.Test.YtahmcjdddcbhnaaGreatDoorRunG2b
namespace Go.Proofs.YtahmcjdddcbhnaaGreatDoor
open Go Go.Ev Go.RowKit

theorem infoFound : (Tryz.prog.info? 40).map (fun i => (i.zero, i.size, i.bytes)) = some (some (.agg #[.int .i64 0, .int .i64 0, .int .i64 0]), 3, 24) := by kernel_rfl
/-- findings of the rule 0 -/
def fndV (ρ : List (Int × Int)) : List Value := ρ.flatMap fun p => [.int .i64 0, .int .i64 p.1, .int .i64 p.2]
theorem fndV_len (ρ : List (Int × Int)) : (fndV ρ).length = ρ.length * 3 := by
  unfold fndV
  induction ρ with
  | nil => rfl
  | cons a t ih => rw [List.flatMap_cons, List.length_append, ih]; simp; omega
theorem fndV_app (a b : List (Int × Int)) : fndV (a ++ b) = fndV a ++ fndV b := by unfold fndV; exact List.flatMap_append
theorem fndV_one (ρ : List (Int × Int)) : ∀ u ∈ fndV ρ, u.oneCell' = true := fun u hu => by
  obtain ⟨a, _, h⟩ := List.mem_flatMap.1 hu
  simp at h
  rcases h with rfl | rfl | rfl <;> rfl
/-- the places, each with the next one -/
def nxp (ρ : List Int) : List (Int × Int) := ρ.map fun a => (a, a + 1)
theorem pairsV_at (l : List Int) (j : Nat) (hj : j < l.length) : (pairsV l)[j * 2]? = some (.int .i64 l[j]) ∧ (pairsV l)[j * 2 + 1]? = some (.int .i64 (l[j] + 1)) := by
  induction l generalizing j with
  | nil => simp at hj
  | cons a t ih =>
    have e : pairsV (a :: t) = [.int .i64 a, .int .i64 (a + 1)] ++ pairsV t := rfl
    rw [e]
    match j, hj with
    | 0, _ => simp
    | j + 1, hj =>
      have := ih j (by simpa using hj)
      rw [List.getElem?_append_right (by simp; omega), List.getElem?_append_right (by simp; omega)]
      have e1 : (j + 1) * 2 - [Value.int .i64 a, Value.int .i64 (a + 1)].length = j * 2 := by simp; omega
      have e2 : (j + 1) * 2 + 1 - [Value.int .i64 a, Value.int .i64 (a + 1)].length = j * 2 + 1 := by simp; omega
      rw [e1, e2]
      simpa using this
set_option maxHeartbeats 4000000 in
set_option maxRecDepth 1000000 in
theorem tell_walk {w : World} {q base n : Nat} {v : Value} {xs : List Value} {a b : Int} (hq : Blk w q 36 #[v]) (hv : w.ownsRow base 40 3 v n xs) (hb : base ≤ w.heap.size) (hn : n ≤ 100000) :
    Calls Tryz.prog 53 #[.int .i64 0, .int .i64 a, .int .i64 b, .pointer (some ⟨q, 0, none⟩)] w fun e w' => e = .returned (.tuple #[]) ∧ ∃ v', Blk w' q 36 #[v'] ∧ w'.ownsRow base 40 3 v' (n + 1) (xs ++ [.int .i64 0, .int .i64 a, .int .i64 b]) ∧ Chg (fun i => i = q ∨ base ≤ i) w w' := by
  obtain ⟨i0, hi0, hz0, hz1, hz2⟩ := info_parts' infoFound
  obtain ⟨A, c, rfl, _⟩ := row_form hv
  have q0 := hq.at' 0
  simp at q0
  have hne := row_blk hv hq (by decide)
  have hql := hq.lt
  have hso := sees_one w 40 #[.int .i64 0, .int .i64 a, .int .i64 b] (size := 3) rfl
  have n63 : n + 1 ≤ maxLen := by unfold maxLen; omega
  have nby : (n + 1) * 24 ≤ 140737488355328 := by omega
  have qf := fun o => (hq.alloc o).thaw 0
  have qc := fun o => (hq.alloc o).at' 0
  simp at qc
  go_enter Tryz.func53, Tryz.ntmps53
  go_wp2_with (first
    | (at_builtin; refine wpList_append_sees (base := base) rfl _ _ 36 rfl i0 _ 24 Tryz.underlying36 hi0 hz0 hz1 hz2 rfl (by decide) (.slice A n c) n xs rfl (hv.alloc _) _ 1 _ rfl hso rfl (by intro u hu; simp at hu; rcases hu with rfl | rfl | rfl <;> rfl) n63 nby (by simp; exact Nat.le_succ_of_le hb) ?_; intro v3 w3 hrow3 hgrow3 hown3; obtain ⟨A3, c3, rfl, -⟩ := row_form hrow3; have hfz3 := (hgrow3.frozen_far ⟨q, 0, none⟩ (by simp; exact Nat.lt_succ_of_lt hql) (fun e => hne e.symm)).trans (qf _); have hnz3 := (hgrow3.cell_far ⟨q, 0, none⟩ (by simp; exact Nat.lt_succ_of_lt hql) (fun e => hne e.symm)).trans (qc _))
    | fail)
  first | go_end0 | go_ret | (refine bodyPost_end (results_none rfl _ _ _) rfl ?_)
  have hq3 := (hq.alloc _).grown hgrow3 (fun e => hne e.symm)
  have hC3 : Chg (fun i => i = q ∨ base ≤ i) w w3 := ((Chg.refl _ w).alloc _).grown hgrow3 fun k hk => .inr (.inr (World.ownsRow.lt hv k hk).1)
  refine ⟨rfl, .slice A3 (n + 1) c3, by simpa using hq3.put 0 (.slice A3 (n + 1) c3), row_set hrow3 (row_blk hrow3 hq3 (by decide)) _, hC3.setCell (p := ⟨q, 0, none⟩) (.inr (.inl rfl)) _⟩
set_option maxHeartbeats 8000000 in
set_option maxRecDepth 1000000 in
theorem ask_ok_data {w : World} {cb vb mb q s ab ac : Nat} {ver t : Int} {wv wp : Value} {wt : TypeId} {ρ : List Int} {G : Nat → Prop} {X : World → Value → World → Prop} (hc : Cel w cb #[.int .i64 ver, .pointer (some ⟨vb, 0, none⟩), wv, .slice (some ⟨ab, s, none⟩) 1 ac]) (ha : w.cell? ⟨ab, s, none⟩ = some (.iface wt wp)) (habl : ab < w.heap.size)
    (hv : w.cell? ⟨vb, 0, none⟩ = some (.pointer (some ⟨mb, 0, none⟩))) (hvl : vb < w.heap.size) (hW : ∀ V, (binOp .eql 114 (.iface wt wp) .nilIface).run Tryz.prog V = .ok (.bool false) V) (hG : ∀ b, G b → b < w.heap.size) (hρ : ρ.length ≤ 1000)
    (hdo : ∀ w1, Below w.heap.size w w1 → w.heap.size < w1.heap.size → Calls Tryz.prog 39 #[.iface wt wp, shareV mb t, .pointer (some ⟨q, 0, none⟩)] w1 fun e w' => ∃ u, e = .returned (.tuple #[u, .bool true]) ∧ Sees w' 2 u (pairsV ρ) ∧ Chg G w1 w' ∧ (∀ g, Value.leads u = some g → G g ∨ w1.heap.size ≤ g) ∧ X w1 u w') :
    Calls Tryz.prog 38 #[.pointer (some ⟨cb, 0, none⟩), .int .i64 t, .func (.func 39) #[] #[.pointer (some ⟨q, 0, none⟩)]] w fun e w' => ∃ v, e = .returned v ∧ (∃ a b c, v = .slice a b c) ∧ Sees w' 3 v (fndV (nxp ρ)) ∧ ∃ w1 u w2, Below w.heap.size w w1 ∧ w.heap.size < w1.heap.size ∧ X w1 u w2 ∧ Chg G w1 w2 ∧ Chg (fun b => b = w.heap.size) w2 w' ∧ ∀ g, Value.leads v = some g → w2.heap.size ≤ g := by
  obtain ⟨W0, hW0⟩ : ∃ x, w.alloc (.cells #[.slice none 0 0] 36) = x := ⟨_, rfl⟩
  have hB0 : Below w.heap.size w W0 := by rw [← hW0]; exact (Below.refl _ _).alloc (Nat.le_refl _) _
  have hz0 : W0.heap.size = w.heap.size + 1 := by rw [← hW0]; simp
  have xb : Blk W0 w.heap.size 36 #[.slice none 0 0] := by rw [← hW0]; exact Blk.made w _ _
  have c0 := (hc.bel hB0 hc.lt).at' 3
  have c1 := (hc.bel hB0 hc.lt).at' 1
  simp at c0 c1
  have v0 := (hB0.cell (p := ⟨vb, 0, none⟩) hvl).trans hv
  have a0 := (hB0.cell (p := ⟨ab, s, none⟩) habl).trans ha
  have hdo0 := hdo W0 hB0 (by omega)
  obtain ⟨q0, hq0⟩ : ∃ q0, w.heap.size = q0 := ⟨_, rfl⟩
  have hxn : ¬ G q0 := fun h => by have := hG _ h; omega
  rw [hq0] at xb
  unfold shareV at hdo0
  have HRO := Lib.hid hρ
  clear hc ha hv hdo
  go_enter Tryz.func38, Tryz.ntmps38
  go_wp2_with fail
  refine wp_loop_rounds 2 ?_
  rw [rounds_succ]
  go_wp2_with (first
    | (go_at_call 39; refine hdo0.mono ?_; clear hdo0; rintro _ w2 ⟨u, rfl, hse, hC2, hl2, hx⟩; obtain ⟨uA, un, uc, rfl⟩ : ∃ a b c, u = .slice a b c := (by obtain ⟨a, b, c, e, -⟩ := hse; exact ⟨a, b, c, e⟩))
    | fail)
  have xb2 := xb.chg hC2 hxn
  obtain ⟨A', n', cc', e1, e2, e3, e4⟩ := id hse
  cases e1
  have hun : ρ.length = un := by rw [pairsV_len] at e2; omega
  have HN := Lib.hid hun
  have HSE := Lib.hid hse
  have HX := Lib.hid (And.intro hx (And.intro hC2 xb2))
  have hul : ∀ b, Value.leads (.slice uA un uc) = some b → b ≠ q0 := fun b hb e => by
    subst e
    rcases hl2 b hb with h | h
    · exact hxn h
    · omega
  have HUL := Lib.hid hul
  have hq2 : q0 < w2.heap.size := xb2.lt
  clear hse hx hC2 xb2 e2 e3 hun hl2 hul v0 a0 c0 c1
  go_loopw [57] (fun iv wr => ∃ j : Nat, j ≤ un ∧ iv = .int .i64 j ∧ Hid (∃ v, Blk wr q0 36 #[v] ∧ wr.ownsRow w2.heap.size 40 3 v j (fndV (nxp (ρ.take j))) ∧ Chg (fun b => b = q0) w2 wr)) (fun iv _ => un - (intOf iv).toNat)
  case atStart => exact ⟨0, Nat.zero_le _, rfl, Lib.hid ⟨_, HX.out.2.2, World.ownsRow_nil _ _ _ _, Chg.refl _ _⟩⟩
  case round =>
    obtain ⟨j, hj, rfl, hI⟩ := hrel
    obtain ⟨v, hbq, hrow, hCr⟩ := hI.out
    by_cases hjl : j < un
    · obtain ⟨b, off, rfl, hbb, hcc⟩ := e4 (by omega)
      have hjr : j < ρ.length := by rw [HN.out]; exact hjl
      obtain ⟨p0, p1⟩ := pairsV_at ρ j hjr
      have hbq0 : ¬ b = q0 := HUL.out b (by obtain ⟨m, rfl⟩ : ∃ m, un = m + 1 := ⟨un - 1, by omega⟩; rfl)
      have d0 := (hCr.cell (p := ⟨b, off + j * 2, none⟩) hbb hbq0).trans (hcc _ _ p0)
      have d1 := (hCr.cell (p := ⟨b, off + j * 2 + 1, none⟩) hbb hbq0).trans (hcc (j * 2 + 1) _ p1)
      obtain ⟨N, hN⟩ : ∃ x, ρ[j] = x := ⟨_, rfl⟩
      rw [hN] at d0 d1
      have htk : fndV (nxp (ρ.take (j + 1))) = fndV (nxp (ρ.take j)) ++ [.int .i64 0, .int .i64 N, .int .i64 (N + 1)] := by
        rw [List.take_succ_eq_append_getElem hjr, hN]
        simp [fndV, nxp]
      have HT := Lib.hid htk
      have hj1 : (j : Int) < (un : Int) := by omega
      have hrr := HRO.out
      have hnr := HN.out
      have hsz := hCr.size
      have htl := fun (wq : World) (hC : Chg (fun b => b = q0) wr wq) (hq : wq.heap[q0]? = wr.heap[q0]?) => tell_walk (a := N) (b := N + 1) (show Blk wq q0 36 #[v] from hq.trans hbq) (row_chg hrow hC fun g hg e => row_blk hrow hbq (by decide) (by rw [← e]; exact hg)) (Nat.le_trans hsz hC.size) (by omega)
      have hbl := hbq.lt
      have HTL := Lib.hid htl
      have HCR := Lib.hid hCr
      clear htk htl hcc hN p0 p1 hI hbq hrow hCr
      go_wp2_with (first
        | (go_at_call 53; refine (HTL.out _ (by repeat (first | exact Chg.refl _ _ | refine Chg.setCell ?_ (.inl (by simp)) _ | refine Chg.alloc ?_ _)) (by first | exact Below.heap_alloc _ _ _ hbl | skip)).mono ?_; rintro _ w8 ⟨rfl, v8, hb8, hr8, hC8⟩)
        | fail)
      go_roundw
      case rel =>
        refine ⟨j + 1, hjl, by go_num, Lib.hid ⟨v8, hb8, by rw [HT.out]; exact hr8, ?_⟩⟩
        refine Chg.trans (Chg.trans HCR.out (b := wr) (c := _) (G := fun _ => False) (by repeat (first | exact Chg.refl _ _ | refine Chg.setCell ?_ (.inl (by simp)) _ | refine Chg.alloc ?_ _)) fun _ _ h => h.elim) hC8 fun i hi h => ?_
        rcases h with h | h
        · exact h
        · omega
      case measure => simp [intOf]; omega
    · have hje : j = un := by omega
      have hj1 : ¬ (j : Int) < (un : Int) := by omega
      have htk : ρ.take j = ρ := List.take_of_length_le (by rw [HN.out]; omega)
      rw [htk] at hrow
      obtain ⟨rA, rc, rfl, -⟩ := row_form hrow
      have bq := hbq.at' 0
      simp at bq
      have hlv : ∀ g, Value.leads (.slice rA j rc) = some g → w2.heap.size ≤ g := fun g hg => (World.ownsRow.lt hrow g (leads_own hrow hg)).1
      have HF := Lib.hid (And.intro (Sees.row hrow) (And.intro hCr hlv))
      clear hI hbq hrow hCr htk e4 hj hjl hje
      go_wp2_with fail
      rw [rounds_succ]
      go_wp2_with fail
      go_ret
      exact ⟨_, rfl, ⟨_, _, _, rfl⟩, HF.out.1, W0, _, w2, hB0, by omega, HX.out.1, HX.out.2.1, by rw [hq0]; exact HF.out.2.1, HF.out.2.2⟩
set_option maxHeartbeats 8000000 in
set_option maxRecDepth 1000000 in
theorem ask_out_data {w : World} {cb vb mb q s ab ac : Nat} {ver t : Int} {wv wp : Value} {wt : TypeId} {G : Nat → Prop} {X : World → World → Prop} (hc : Cel w cb #[.int .i64 ver, .pointer (some ⟨vb, 0, none⟩), wv, .slice (some ⟨ab, s, none⟩) 1 ac]) (ha : w.cell? ⟨ab, s, none⟩ = some (.iface wt wp)) (haf : w.frozen? ⟨ab, s, none⟩ = false) (habl : ab < w.heap.size)
    (hv : w.cell? ⟨vb, 0, none⟩ = some (.pointer (some ⟨mb, 0, none⟩))) (hvl : vb < w.heap.size) (hW : ∀ V, (binOp .eql 114 (.iface wt wp) .nilIface).run Tryz.prog V = .ok (.bool false) V) (hG : ∀ b, G b → b < w.heap.size) (hGc : ¬ G cb) (hGa : ¬ G ab)
    (hdo : ∀ w1, Below w.heap.size w w1 → w.heap.size < w1.heap.size → Calls Tryz.prog 39 #[.iface wt wp, shareV mb t, .pointer (some ⟨q, 0, none⟩)] w1 fun e w' => e = .returned (.tuple #[.slice none 0 0, .bool false]) ∧ Chg G w1 w' ∧ X w1 w') :
    Calls Tryz.prog 38 #[.pointer (some ⟨cb, 0, none⟩), .int .i64 t, .func (.func 39) #[] #[.pointer (some ⟨q, 0, none⟩)]] w fun e w' => ∃ v, e = .returned v ∧ (∃ a b c, v = .slice a b c) ∧ Sees w' 3 v (fndV [(-1, -1)]) ∧ ∃ w1 w2, Below w.heap.size w w1 ∧ w.heap.size < w1.heap.size ∧ X w1 w2 ∧ Chg G w1 w2 ∧ Chg (fun b => b = w.heap.size ∨ b = ab) w2 w' ∧ w'.cell? ⟨ab, s, none⟩ = some .nilIface ∧ ∀ g, Value.leads v = some g → w2.heap.size ≤ g := by
  obtain ⟨W0, hW0⟩ : ∃ x, w.alloc (.cells #[.slice none 0 0] 36) = x := ⟨_, rfl⟩
  have hB0 : Below w.heap.size w W0 := by rw [← hW0]; exact (Below.refl _ _).alloc (Nat.le_refl _) _
  have hz0 : W0.heap.size = w.heap.size + 1 := by rw [← hW0]; simp
  have xb : Blk W0 w.heap.size 36 #[.slice none 0 0] := by rw [← hW0]; exact Blk.made w _ _
  have hc0 := hc.bel hB0 hc.lt
  have c0 := hc0.at' 3
  have c1 := hc0.at' 1
  simp at c0 c1
  have v0 := (hB0.cell (p := ⟨vb, 0, none⟩) hvl).trans hv
  have a0 := (hB0.cell (p := ⟨ab, s, none⟩) habl).trans ha
  have f0 := (hB0.frozen (p := ⟨ab, s, none⟩) habl).trans haf
  have hdo0 := hdo W0 hB0 (by omega)
  obtain ⟨q0, hq0⟩ : ∃ q0, w.heap.size = q0 := ⟨_, rfl⟩
  have hxn : ¬ G q0 := fun h => by have := hG _ h; omega
  have hqa : q0 ≠ ab := by omega
  rw [hq0] at xb
  have hal0 : ab < W0.heap.size := by omega
  unfold shareV at hdo0
  clear hc ha hv hdo haf
  go_enter Tryz.func38, Tryz.ntmps38
  go_wp2_with fail
  refine wp_loop_rounds 2 ?_
  rw [rounds_succ]
  go_wp2_with (first
    | (go_at_call 39; refine hdo0.mono ?_; clear hdo0; rintro _ w2 ⟨rfl, hC2, hx⟩; have hc2 := hc0.chg hC2 hGc; have k3 := hc2.at' 3; simp at k3; have ka := (hC2.cell (p := ⟨ab, s, none⟩) hal0 hGa).trans a0; have kf := (hC2.frozen (p := ⟨ab, s, none⟩) hal0 hGa).trans f0; have xb2 := xb.chg hC2 hxn; have xb3 := xb2.away (p := ⟨ab, s, none⟩) hqa .nilIface; have htl := tell_walk (base := w2.heap.size) (a := -1) (b := -1) xb3 (World.ownsRow_nil _ _ _ _) (by simp [World.setCell]) (Nat.zero_le _))
    | (go_at_call 53; refine htl.mono ?_; clear htl; rintro _ w4 ⟨rfl, v4, hb4, hr4, hC4⟩; have bq := hb4.at' 0; simp at bq; obtain ⟨rA, rc, rfl, -⟩ := row_form hr4)
    | fail)
  rw [rounds_succ]
  go_wp2_with fail
  go_ret
  have hC3 : Chg (fun b => b = q0 ∨ b = ab) w2 (w2.setCell ⟨ab, s, none⟩ .nilIface) := (Chg.refl _ w2).setCell (p := ⟨ab, s, none⟩) (.inr (.inr rfl)) _
  have hal2 : ab < w2.heap.size := Nat.lt_of_lt_of_le hal0 hC2.size
  refine ⟨_, rfl, ⟨_, _, _, rfl⟩, by have := Sees.row hr4; simpa [fndV] using this, W0, w2, hB0, by omega, hx, hC2, ?_, ?_, fun g hg => by have := (World.ownsRow.lt hr4 g (leads_own hr4 hg)).1; simpa using this⟩
  · rw [hq0]
    exact hC3.trans hC4 fun i hi h => h.elim .inl fun h => by omega
  · have hs3 : (w2.setCell ⟨ab, s, none⟩ .nilIface).heap.size = w2.heap.size := by simp [World.setCell]
    refine (hC4.cell (p := ⟨ab, s, none⟩) (by rw [hs3]; exact hal2) (fun h => ?_)).trans ?_
    · rcases h with h | h
      · exact hqa h.symm
      · have h' : w2.heap.size ≤ ab := h
        omega
    · have hh := ka
      simp [World.cell?, World.setCell, Array.getElem?_modify] at hh ⊢
      cases hb : w2.heap[ab]? with
      | none => simp [hb] at hh
      | some o =>
        cases o <;> simp [hb] at hh ⊢
        rename_i cs t fr
        have : s < cs.size := (Array.getElem?_eq_some_iff.1 hh).1
        simp [this]
set_option maxHeartbeats 8000000 in
set_option maxRecDepth 1000000 in
theorem ask_nil_data {w : World} {cb s ab ac q : Nat} {ver t : Int} {wv vv : Value} (hc : Cel w cb #[.int .i64 ver, vv, wv, .slice (some ⟨ab, s, none⟩) 1 ac]) (ha : w.cell? ⟨ab, s, none⟩ = some .nilIface) (habl : ab < w.heap.size) :
    Calls Tryz.prog 38 #[.pointer (some ⟨cb, 0, none⟩), .int .i64 t, .func (.func 39) #[] #[.pointer (some ⟨q, 0, none⟩)]] w fun e w' => e = .returned (.slice none 0 0) ∧ Below w.heap.size w w' := by
  obtain ⟨W0, hW0⟩ : ∃ x, w.alloc (.cells #[.slice none 0 0] 36) = x := ⟨_, rfl⟩
  have hB0 : Below w.heap.size w W0 := by rw [← hW0]; exact (Below.refl _ _).alloc (Nat.le_refl _) _
  have xb : Blk W0 w.heap.size 36 #[.slice none 0 0] := by rw [← hW0]; exact Blk.made w _ _
  have x0 := xb.at' 0
  have hc0 := hc.bel hB0 hc.lt
  have c0 := hc0.at' 3
  simp at c0 x0
  have a0 := (hB0.cell (p := ⟨ab, s, none⟩) habl).trans ha
  have heq : ∀ V, (binOp .eql 114 .nilIface .nilIface).run Tryz.prog V = .ok (.bool true) V := fun V => by kernel_rfl
  clear hc ha
  go_enter Tryz.func38, Tryz.ntmps38
  go_wp2_with fail
  refine wp_loop_rounds 2 ?_
  rw [rounds_succ]
  go_wp2_with fail
  rw [rounds_succ]
  go_wp2_with fail
  go_ret
  exact ⟨rfl, hB0⟩
set_option maxHeartbeats 8000000 in
set_option maxRecDepth 1000000 in
theorem ask_ok_end {w : World} {cb vb mb q s ab ac : Nat} {ver t : Int} {wv wp : Value} {wt : TypeId} {ρ : List Int} {G : Nat → Prop} {X : World → Value → World → Prop} (hc : Cel w cb #[.int .i64 ver, .pointer (some ⟨vb, 0, none⟩), wv, .slice (some ⟨ab, s, none⟩) 1 ac]) (ha : w.cell? ⟨ab, s, none⟩ = some (.iface wt wp)) (habl : ab < w.heap.size)
    (hv : w.cell? ⟨vb, 0, none⟩ = some (.pointer (some ⟨mb, 0, none⟩))) (hvl : vb < w.heap.size) (hW : ∀ V, (binOp .eql 114 (.iface wt wp) .nilIface).run Tryz.prog V = .ok (.bool false) V) (hG : ∀ b, G b → b < w.heap.size) (hρ : ρ.length ≤ 1000)
    (hdo : ∀ w1, Below w.heap.size w w1 → w.heap.size < w1.heap.size → Calls Tryz.prog 40 #[.iface wt wp, shareV mb t, .pointer (some ⟨q, 0, none⟩)] w1 fun e w' => ∃ u, e = .returned (.tuple #[u, .bool true]) ∧ Sees w' 2 u (pairsV ρ) ∧ Chg G w1 w' ∧ (∀ g, Value.leads u = some g → G g ∨ w1.heap.size ≤ g) ∧ X w1 u w') :
    Calls Tryz.prog 38 #[.pointer (some ⟨cb, 0, none⟩), .int .i64 t, .func (.func 40) #[] #[.pointer (some ⟨q, 0, none⟩)]] w fun e w' => ∃ v, e = .returned v ∧ (∃ a b c, v = .slice a b c) ∧ Sees w' 3 v (fndV (nxp ρ)) ∧ ∃ w1 u w2, Below w.heap.size w w1 ∧ w.heap.size < w1.heap.size ∧ X w1 u w2 ∧ Chg G w1 w2 ∧ Chg (fun b => b = w.heap.size) w2 w' ∧ ∀ g, Value.leads v = some g → w2.heap.size ≤ g := by
  obtain ⟨W0, hW0⟩ : ∃ x, w.alloc (.cells #[.slice none 0 0] 36) = x := ⟨_, rfl⟩
  have hB0 : Below w.heap.size w W0 := by rw [← hW0]; exact (Below.refl _ _).alloc (Nat.le_refl _) _
  have hz0 : W0.heap.size = w.heap.size + 1 := by rw [← hW0]; simp
  have xb : Blk W0 w.heap.size 36 #[.slice none 0 0] := by rw [← hW0]; exact Blk.made w _ _
  have c0 := (hc.bel hB0 hc.lt).at' 3
  have c1 := (hc.bel hB0 hc.lt).at' 1
  simp at c0 c1
  have v0 := (hB0.cell (p := ⟨vb, 0, none⟩) hvl).trans hv
  have a0 := (hB0.cell (p := ⟨ab, s, none⟩) habl).trans ha
  have hdo0 := hdo W0 hB0 (by omega)
  obtain ⟨q0, hq0⟩ : ∃ q0, w.heap.size = q0 := ⟨_, rfl⟩
  have hxn : ¬ G q0 := fun h => by have := hG _ h; omega
  rw [hq0] at xb
  unfold shareV at hdo0
  have HRO := Lib.hid hρ
  clear hc ha hv hdo
  go_enter Tryz.func38, Tryz.ntmps38
  go_wp2_with fail
  refine wp_loop_rounds 2 ?_
  rw [rounds_succ]
  go_wp2_with (first
    | (go_at_call 40; refine hdo0.mono ?_; clear hdo0; rintro _ w2 ⟨u, rfl, hse, hC2, hl2, hx⟩; obtain ⟨uA, un, uc, rfl⟩ : ∃ a b c, u = .slice a b c := (by obtain ⟨a, b, c, e, -⟩ := hse; exact ⟨a, b, c, e⟩))
    | fail)
  have xb2 := xb.chg hC2 hxn
  obtain ⟨A', n', cc', e1, e2, e3, e4⟩ := id hse
  cases e1
  have hun : ρ.length = un := by rw [pairsV_len] at e2; omega
  have HN := Lib.hid hun
  have HSE := Lib.hid hse
  have HX := Lib.hid (And.intro hx (And.intro hC2 xb2))
  have hul : ∀ b, Value.leads (.slice uA un uc) = some b → b ≠ q0 := fun b hb e => by
    subst e
    rcases hl2 b hb with h | h
    · exact hxn h
    · omega
  have HUL := Lib.hid hul
  have hq2 : q0 < w2.heap.size := xb2.lt
  clear hse hx hC2 xb2 e2 e3 hun hl2 hul v0 a0 c0 c1
  go_loopw [57] (fun iv wr => ∃ j : Nat, j ≤ un ∧ iv = .int .i64 j ∧ Hid (∃ v, Blk wr q0 36 #[v] ∧ wr.ownsRow w2.heap.size 40 3 v j (fndV (nxp (ρ.take j))) ∧ Chg (fun b => b = q0) w2 wr)) (fun iv _ => un - (intOf iv).toNat)
  case atStart => exact ⟨0, Nat.zero_le _, rfl, Lib.hid ⟨_, HX.out.2.2, World.ownsRow_nil _ _ _ _, Chg.refl _ _⟩⟩
  case round =>
    obtain ⟨j, hj, rfl, hI⟩ := hrel
    obtain ⟨v, hbq, hrow, hCr⟩ := hI.out
    by_cases hjl : j < un
    · obtain ⟨b, off, rfl, hbb, hcc⟩ := e4 (by omega)
      have hjr : j < ρ.length := by rw [HN.out]; exact hjl
      obtain ⟨p0, p1⟩ := pairsV_at ρ j hjr
      have hbq0 : ¬ b = q0 := HUL.out b (by obtain ⟨m, rfl⟩ : ∃ m, un = m + 1 := ⟨un - 1, by omega⟩; rfl)
      have d0 := (hCr.cell (p := ⟨b, off + j * 2, none⟩) hbb hbq0).trans (hcc _ _ p0)
      have d1 := (hCr.cell (p := ⟨b, off + j * 2 + 1, none⟩) hbb hbq0).trans (hcc (j * 2 + 1) _ p1)
      obtain ⟨N, hN⟩ : ∃ x, ρ[j] = x := ⟨_, rfl⟩
      rw [hN] at d0 d1
      have htk : fndV (nxp (ρ.take (j + 1))) = fndV (nxp (ρ.take j)) ++ [.int .i64 0, .int .i64 N, .int .i64 (N + 1)] := by
        rw [List.take_succ_eq_append_getElem hjr, hN]
        simp [fndV, nxp]
      have HT := Lib.hid htk
      have hj1 : (j : Int) < (un : Int) := by omega
      have hrr := HRO.out
      have hnr := HN.out
      have hsz := hCr.size
      have htl := fun (wq : World) (hC : Chg (fun b => b = q0) wr wq) (hq : wq.heap[q0]? = wr.heap[q0]?) => tell_walk (a := N) (b := N + 1) (show Blk wq q0 36 #[v] from hq.trans hbq) (row_chg hrow hC fun g hg e => row_blk hrow hbq (by decide) (by rw [← e]; exact hg)) (Nat.le_trans hsz hC.size) (by omega)
      have hbl := hbq.lt
      have HTL := Lib.hid htl
      have HCR := Lib.hid hCr
      clear htk htl hcc hN p0 p1 hI hbq hrow hCr
      go_wp2_with (first
        | (go_at_call 53; refine (HTL.out _ (by repeat (first | exact Chg.refl _ _ | refine Chg.setCell ?_ (.inl (by simp)) _ | refine Chg.alloc ?_ _)) (by first | exact Below.heap_alloc _ _ _ hbl | skip)).mono ?_; rintro _ w8 ⟨rfl, v8, hb8, hr8, hC8⟩)
        | fail)
      go_roundw
      case rel =>
        refine ⟨j + 1, hjl, by go_num, Lib.hid ⟨v8, hb8, by rw [HT.out]; exact hr8, ?_⟩⟩
        refine Chg.trans (Chg.trans HCR.out (b := wr) (c := _) (G := fun _ => False) (by repeat (first | exact Chg.refl _ _ | refine Chg.setCell ?_ (.inl (by simp)) _ | refine Chg.alloc ?_ _)) fun _ _ h => h.elim) hC8 fun i hi h => ?_
        rcases h with h | h
        · exact h
        · omega
      case measure => simp [intOf]; omega
    · have hje : j = un := by omega
      have hj1 : ¬ (j : Int) < (un : Int) := by omega
      have htk : ρ.take j = ρ := List.take_of_length_le (by rw [HN.out]; omega)
      rw [htk] at hrow
      obtain ⟨rA, rc, rfl, -⟩ := row_form hrow
      have bq := hbq.at' 0
      simp at bq
      have hlv : ∀ g, Value.leads (.slice rA j rc) = some g → w2.heap.size ≤ g := fun g hg => (World.ownsRow.lt hrow g (leads_own hrow hg)).1
      have HF := Lib.hid (And.intro (Sees.row hrow) (And.intro hCr hlv))
      clear hI hbq hrow hCr htk e4 hj hjl hje
      go_wp2_with fail
      rw [rounds_succ]
      go_wp2_with fail
      go_ret
      exact ⟨_, rfl, ⟨_, _, _, rfl⟩, HF.out.1, W0, _, w2, hB0, by omega, HX.out.1, HX.out.2.1, by rw [hq0]; exact HF.out.2.1, HF.out.2.2⟩
set_option maxHeartbeats 8000000 in
set_option maxRecDepth 1000000 in
theorem ask_out_end {w : World} {cb vb mb q s ab ac : Nat} {ver t : Int} {wv wp : Value} {wt : TypeId} {G : Nat → Prop} {X : World → World → Prop} (hc : Cel w cb #[.int .i64 ver, .pointer (some ⟨vb, 0, none⟩), wv, .slice (some ⟨ab, s, none⟩) 1 ac]) (ha : w.cell? ⟨ab, s, none⟩ = some (.iface wt wp)) (haf : w.frozen? ⟨ab, s, none⟩ = false) (habl : ab < w.heap.size)
    (hv : w.cell? ⟨vb, 0, none⟩ = some (.pointer (some ⟨mb, 0, none⟩))) (hvl : vb < w.heap.size) (hW : ∀ V, (binOp .eql 114 (.iface wt wp) .nilIface).run Tryz.prog V = .ok (.bool false) V) (hG : ∀ b, G b → b < w.heap.size) (hGc : ¬ G cb) (hGa : ¬ G ab)
    (hdo : ∀ w1, Below w.heap.size w w1 → w.heap.size < w1.heap.size → Calls Tryz.prog 40 #[.iface wt wp, shareV mb t, .pointer (some ⟨q, 0, none⟩)] w1 fun e w' => e = .returned (.tuple #[.slice none 0 0, .bool false]) ∧ Chg G w1 w' ∧ X w1 w') :
    Calls Tryz.prog 38 #[.pointer (some ⟨cb, 0, none⟩), .int .i64 t, .func (.func 40) #[] #[.pointer (some ⟨q, 0, none⟩)]] w fun e w' => ∃ v, e = .returned v ∧ (∃ a b c, v = .slice a b c) ∧ Sees w' 3 v (fndV [(-1, -1)]) ∧ ∃ w1 w2, Below w.heap.size w w1 ∧ w.heap.size < w1.heap.size ∧ X w1 w2 ∧ Chg G w1 w2 ∧ Chg (fun b => b = w.heap.size ∨ b = ab) w2 w' ∧ w'.cell? ⟨ab, s, none⟩ = some .nilIface ∧ ∀ g, Value.leads v = some g → w2.heap.size ≤ g := by
  obtain ⟨W0, hW0⟩ : ∃ x, w.alloc (.cells #[.slice none 0 0] 36) = x := ⟨_, rfl⟩
  have hB0 : Below w.heap.size w W0 := by rw [← hW0]; exact (Below.refl _ _).alloc (Nat.le_refl _) _
  have hz0 : W0.heap.size = w.heap.size + 1 := by rw [← hW0]; simp
  have xb : Blk W0 w.heap.size 36 #[.slice none 0 0] := by rw [← hW0]; exact Blk.made w _ _
  have hc0 := hc.bel hB0 hc.lt
  have c0 := hc0.at' 3
  have c1 := hc0.at' 1
  simp at c0 c1
  have v0 := (hB0.cell (p := ⟨vb, 0, none⟩) hvl).trans hv
  have a0 := (hB0.cell (p := ⟨ab, s, none⟩) habl).trans ha
  have f0 := (hB0.frozen (p := ⟨ab, s, none⟩) habl).trans haf
  have hdo0 := hdo W0 hB0 (by omega)
  obtain ⟨q0, hq0⟩ : ∃ q0, w.heap.size = q0 := ⟨_, rfl⟩
  have hxn : ¬ G q0 := fun h => by have := hG _ h; omega
  have hqa : q0 ≠ ab := by omega
  rw [hq0] at xb
  have hal0 : ab < W0.heap.size := by omega
  unfold shareV at hdo0
  clear hc ha hv hdo haf
  go_enter Tryz.func38, Tryz.ntmps38
  go_wp2_with fail
  refine wp_loop_rounds 2 ?_
  rw [rounds_succ]
  go_wp2_with (first
    | (go_at_call 40; refine hdo0.mono ?_; clear hdo0; rintro _ w2 ⟨rfl, hC2, hx⟩; have hc2 := hc0.chg hC2 hGc; have k3 := hc2.at' 3; simp at k3; have ka := (hC2.cell (p := ⟨ab, s, none⟩) hal0 hGa).trans a0; have kf := (hC2.frozen (p := ⟨ab, s, none⟩) hal0 hGa).trans f0; have xb2 := xb.chg hC2 hxn; have xb3 := xb2.away (p := ⟨ab, s, none⟩) hqa .nilIface; have htl := tell_walk (base := w2.heap.size) (a := -1) (b := -1) xb3 (World.ownsRow_nil _ _ _ _) (by simp [World.setCell]) (Nat.zero_le _))
    | (go_at_call 53; refine htl.mono ?_; clear htl; rintro _ w4 ⟨rfl, v4, hb4, hr4, hC4⟩; have bq := hb4.at' 0; simp at bq; obtain ⟨rA, rc, rfl, -⟩ := row_form hr4)
    | fail)
  rw [rounds_succ]
  go_wp2_with fail
  go_ret
  have hC3 : Chg (fun b => b = q0 ∨ b = ab) w2 (w2.setCell ⟨ab, s, none⟩ .nilIface) := (Chg.refl _ w2).setCell (p := ⟨ab, s, none⟩) (.inr (.inr rfl)) _
  have hal2 : ab < w2.heap.size := Nat.lt_of_lt_of_le hal0 hC2.size
  refine ⟨_, rfl, ⟨_, _, _, rfl⟩, by have := Sees.row hr4; simpa [fndV] using this, W0, w2, hB0, by omega, hx, hC2, ?_, ?_, fun g hg => by have := (World.ownsRow.lt hr4 g (leads_own hr4 hg)).1; simpa using this⟩
  · rw [hq0]
    exact hC3.trans hC4 fun i hi h => h.elim .inl fun h => by omega
  · have hs3 : (w2.setCell ⟨ab, s, none⟩ .nilIface).heap.size = w2.heap.size := by simp [World.setCell]
    refine (hC4.cell (p := ⟨ab, s, none⟩) (by rw [hs3]; exact hal2) (fun h => ?_)).trans ?_
    · rcases h with h | h
      · exact hqa h.symm
      · have h' : w2.heap.size ≤ ab := h
        omega
    · have hh := ka
      simp [World.cell?, World.setCell, Array.getElem?_modify] at hh ⊢
      cases hb : w2.heap[ab]? with
      | none => simp [hb] at hh
      | some o =>
        cases o <;> simp [hb] at hh ⊢
        rename_i cs t fr
        have : s < cs.size := (Array.getElem?_eq_some_iff.1 hh).1
        simp [this]
set_option maxHeartbeats 8000000 in
set_option maxRecDepth 1000000 in
theorem ask_nil_end {w : World} {cb s ab ac q : Nat} {ver t : Int} {wv vv : Value} (hc : Cel w cb #[.int .i64 ver, vv, wv, .slice (some ⟨ab, s, none⟩) 1 ac]) (ha : w.cell? ⟨ab, s, none⟩ = some .nilIface) (habl : ab < w.heap.size) :
    Calls Tryz.prog 38 #[.pointer (some ⟨cb, 0, none⟩), .int .i64 t, .func (.func 40) #[] #[.pointer (some ⟨q, 0, none⟩)]] w fun e w' => e = .returned (.slice none 0 0) ∧ Below w.heap.size w w' := by
  obtain ⟨W0, hW0⟩ : ∃ x, w.alloc (.cells #[.slice none 0 0] 36) = x := ⟨_, rfl⟩
  have hB0 : Below w.heap.size w W0 := by rw [← hW0]; exact (Below.refl _ _).alloc (Nat.le_refl _) _
  have xb : Blk W0 w.heap.size 36 #[.slice none 0 0] := by rw [← hW0]; exact Blk.made w _ _
  have x0 := xb.at' 0
  have hc0 := hc.bel hB0 hc.lt
  have c0 := hc0.at' 3
  simp at c0 x0
  have a0 := (hB0.cell (p := ⟨ab, s, none⟩) habl).trans ha
  have heq : ∀ V, (binOp .eql 114 .nilIface .nilIface).run Tryz.prog V = .ok (.bool true) V := fun V => by kernel_rfl
  clear hc ha
  go_enter Tryz.func38, Tryz.ntmps38
  go_wp2_with fail
  refine wp_loop_rounds 2 ?_
  rw [rounds_succ]
  go_wp2_with fail
  rw [rounds_succ]
  go_wp2_with fail
  go_ret
  exact ⟨rfl, hB0⟩
end Go.Proofs.YtahmcjdddcbhnaaGreatDoor
