/-
  The canary's compare, walked: the names at which two sets' matches in a text differ.
-/
import Derived.Test.YtopicmcaoeameaaGreatDoorEqual
namespace Go.Proofs.YtopicmcaoeameaaGreatDoor
open Go Go.Ev Go.RowKit Go.Smap

theorem Groups.later {w w1 : World} {B base n : Nat} {f : ByteArray → Option Value} {g : ByteArray → List (Int × Int)} (h : Groups w B base n f g) (hb : Below w.heap.size w w1) : Groups w1 B base n f g :=
  ⟨h.map.same (hb.block B h.map.lt), fun s => owns_below (h.row s) hb, h.apart⟩
theorem Groups.bel {M : Nat → Prop} {w w1 : World} {B base n : Nat} {f : ByteArray → Option Value} {g : ByteArray → List (Int × Int)} (h : Groups w B base n f g) (hb : Bel M w.heap.size w w1) (hM : ∀ k, M k → k < B ∧ k < base) : Groups w1 B base n f g :=
  ⟨h.map.same (hb.block B h.map.lt fun e => Nat.lt_irrefl _ (hM _ e).1), fun s => owns_bel (h.row s) hb fun k hk => (hM k hk).2, h.apart⟩
/-- the names at which two sets' matches differ -/
def differ (rs1 rs2 : List Rl) (D1 D2 : List (Int × Int × Int)) (names : List ByteArray) : List ByteArray := names.filter fun s => !decide (grp rs1 D1 s = grp rs2 D2 s)
theorem grp_len (rs : List Rl) (D : List (Int × Int × Int)) (s : ByteArray) : (grp rs D s).length ≤ D.length := Nat.le_trans (Nat.le_of_eq (List.length_map ..)) (List.length_filter_le _ _)
theorem owns_base {w : World} {base base' : Nat} {e : TypeId} {size : Nat} {v : Value} {n : Nat} {xs : List Value} (h : w.ownsRow base e size v n xs) (hb : base' ≤ base) : w.ownsRow base' e size v n xs := by
  refine ⟨h.1, h.2.imp id ?_⟩
  rintro ⟨g, cap, cur, h1, h2, h3⟩
  exact ⟨g, cap, cur, h1, Nat.le_trans hb h2, h3⟩
/-- what compare leaves -/
def comparePost (w w' : World) (e : Ending) (rs1 rs2 : List Rl) (names : List ByteArray) : Except Int (List (Int × Int × Int)) → Except Int (List (Int × Int × Int)) → Prop
  | .error er, _ => e = .returned (.tuple #[.slice none 0 0, .int .i64 er])
  | .ok _, .error er => e = .returned (.tuple #[.slice none 0 0, .int .i64 er])
  | .ok D1, .ok D2 => ∃ v, e = .returned (.tuple #[v, .int .i64 0]) ∧ w'.ownsRow w.heap.size 9 1 v (differ rs1 rs2 D1 D2 names).length ((differ rs1 rs2 D1 D2 names).map Value.string)
theorem info9 : (Tryz.prog.info? 9).map (fun i => (i.zero, i.size, i.bytes)) = some (some (.string ByteArray.empty), 1, 16) := by kernel_rfl
theorem zero4 (w : World) : (zeroValue 4).run Tryz.prog w = .ok (.bool false) w := by kernel_rfl
set_option maxHeartbeats 8000000 in
set_option maxRecDepth 1000000 in
theorem compare_walk {M : Nat → Prop} {lo1 hi1 lo2 hi2 b1 b2 cb bm ng nc : Nat} {na : Option Addr} {w : World} {rs1 rs2 : List Rl} {names : List ByteArray} (hMw : ∀ k, M k → k < w.heap.size) (hs1 : SetAt M lo1 hi1 w b1 rs1) (hs2 : SetAt M lo2 hi2 w b2 rs2) (hhi1 : hi1 ≤ w.heap.size) (hhi2 : hi2 ≤ w.heap.size)
    (hn1 : rs1.length ≤ 100) (hn2 : rs2.length ≤ 100) (hm1 : ∀ r ∈ rs1, r.name.size ≤ maxLen) (hm2 : ∀ r ∈ rs2, r.name.size ≤ maxLen) {ta : Option Addr} {n tc : Nat} (hn : n ≤ 1000) {fuel : Int} {F : Nat → Nat → FR}
    (hF1 : FirstOf M lo1 hi1 w (.slice ta n tc) n fuel F rs1) (hF2 : FirstOf M lo2 hi2 w (.slice ta n tc) n fuel F rs2)
    (hcb : cb < w.heap.size) (hcm : ¬ M cb) (hbmm : ¬ M bm) (hngm : ¬ M ng) (k0 : w.cell? ⟨cb, 0, none⟩ = some (.pointer (some ⟨b1, 0, none⟩))) (k1 : w.cell? ⟨cb, 1, none⟩ = some (.pointer (some ⟨b2, 0, none⟩))) (k8 : w.cell? ⟨cb, 8, none⟩ = some (.slice na names.length nc))
    (k9 : w.cell? ⟨cb, 9, none⟩ = some (.map (some bm))) (hbm : IsMap w bm 0 fun _ => none) (hna : names ≠ [] → na = some ⟨ng, 0, none⟩) (hng : ng < w.heap.size) (hnames : ∀ (i : Nat) (s : ByteArray), names[i]? = some s → s.size ≤ maxLen ∧ w.cell? ⟨ng, i, none⟩ = some (.string s)) (hnl : names.length ≤ 1000) :
    Calls Tryz.prog 28 #[.pointer (some ⟨cb, 0, none⟩), .slice ta n tc, .int .i64 fuel] w fun e w' => Bel M w.heap.size w w' ∧ comparePost w w' e rs1 rs2 names (fnd F n 0 rs1) (fnd F n 0 rs2) := by
  have hcol1 := fun (w1 : World) (hb : Bel M w.heap.size w w1) (bt bf : Nat) (ht : w1.cell? ⟨bt, 0, none⟩ = some (.slice ta n tc)) (hf : w1.cell? ⟨bf, 0, none⟩ = some (.int .i64 fuel)) =>
    collect_walk (fun k hk => Nat.lt_of_lt_of_le (hMw k hk) hb.size) (hs1.bel hb hhi1) (Nat.le_trans hhi1 hb.size) hn1 hm1 hn (hF1.later hb) ht hf
  have hcol2 := fun (w1 : World) (hb : Bel M w.heap.size w w1) (bt bf : Nat) (ht : w1.cell? ⟨bt, 0, none⟩ = some (.slice ta n tc)) (hf : w1.cell? ⟨bf, 0, none⟩ = some (.int .i64 fuel)) =>
    collect_walk (fun k hk => Nat.lt_of_lt_of_le (hMw k hk) hb.size) (hs2.bel hb hhi2) (Nat.le_trans hhi2 hb.size) hn2 hm2 hn (hF2.later hb) ht hf
  obtain ⟨X, hX⟩ : ∃ X, fnd F n 0 rs1 = X := ⟨_, rfl⟩
  obtain ⟨Y, hY⟩ : ∃ Y, fnd F n 0 rs2 = Y := ⟨_, rfl⟩
  rw [hX] at hcol1 ⊢
  rw [hY] at hcol2 ⊢
  have HX : Hid (fnd F n 0 rs1 = X) := hX
  have HY : Hid (fnd F n 0 rs2 = Y) := hY
  have HN : Hid (∀ (i : Nat) (s : ByteArray), names[i]? = some s → s.size ≤ maxLen ∧ w.cell? ⟨ng, i, none⟩ = some (.string s)) := hnames
  have HA : Hid (names ≠ [] → na = some ⟨ng, 0, none⟩) := hna
  clear hX hY hF1 hF2 hs1 hs2 hnames hna
  go_enter Tryz.func28, Tryz.ntmps28
  have hW0 : ∀ o1 o2, Bel M w.heap.size w ((w.alloc o1).alloc o2) := fun o1 o2 => ((Bel.refl _ _ _).alloc (Nat.le_refl _) _).alloc (by simp) _
  have hM0 : ¬ M w.heap.size := fun e => Nat.lt_irrefl _ (hMw _ e)
  have hM1 : ¬ M (w.heap.size + 1) := fun e => by have := hMw _ e; omega
  cases X with
  | error er =>
    have her : er ≠ 0 := fnd_err _ _ _ _ _ HX.out
    go_wp2_with (first
      | (go_at_call 42; refine (hcol1 _ (hW0 _ _) w.heap.size (w.heap.size + 1) (by simp) (by simp)).mono ?_; rintro _ w1 ⟨hb1, rfl⟩)
      | go_in)
    go_ret2
    exact ⟨(hW0 _ _).trans (hb1.mono (by simp; omega)), rfl⟩
  | ok D1 =>
    have M1 : Hid True := trivial
    cases Y with
    | error er =>
      have her : er ≠ 0 := fnd_err _ _ _ _ _ HY.out
      go_wp2_with (first
        | (go_at_call 42; clear M1; refine (hcol1 _ (hW0 _ _) w.heap.size (w.heap.size + 1) (by simp) (by simp)).mono ?_; rintro _ w1 ⟨hb1, B1, f1, rfl, hB1, hG1⟩; have hW1 : Bel M w.heap.size w w1 := (hW0 _ _).trans (hb1.mono (by simp; omega)); have k1' := (hW1.cell (p := ⟨cb, 1, none⟩) hcb hcm).trans k1; have t1' : w1.cell? ⟨w.heap.size, 0, none⟩ = some (.slice ta n tc) := (hb1.cell (p := ⟨w.heap.size, 0, none⟩) (by simp; omega) hM0).trans (by simp); have t2' : w1.cell? ⟨w.heap.size + 1, 0, none⟩ = some (.int .i64 fuel) := (hb1.cell (p := ⟨w.heap.size + 1, 0, none⟩) (by simp) hM1).trans (by simp))
        | (go_at_call 42; refine (hcol2 _ hW1 w.heap.size (w.heap.size + 1) t1' t2').mono ?_; rintro _ w2 ⟨hb2, rfl⟩)
        | go_in)
      go_ret2
      exact ⟨hW1.trans (hb2.mono hW1.size), rfl⟩
    | ok D2 =>
      go_wp2_with (first
        | (go_at_call 42; clear M1; refine (hcol1 _ (hW0 _ _) w.heap.size (w.heap.size + 1) (by simp) (by simp)).mono ?_; rintro _ w1 ⟨hb1, B1, f1, rfl, hB1, hG1⟩; have hW1 : Bel M w.heap.size w w1 := (hW0 _ _).trans (hb1.mono (by simp; omega)); have k1' := (hW1.cell (p := ⟨cb, 1, none⟩) hcb hcm).trans k1; have t1' : w1.cell? ⟨w.heap.size, 0, none⟩ = some (.slice ta n tc) := (hb1.cell (p := ⟨w.heap.size, 0, none⟩) (by simp; omega) hM0).trans (by simp); have t2' : w1.cell? ⟨w.heap.size + 1, 0, none⟩ = some (.int .i64 fuel) := (hb1.cell (p := ⟨w.heap.size + 1, 0, none⟩) (by simp) hM1).trans (by simp))
        | (go_at_call 42; refine (hcol2 _ hW1 w.heap.size (w.heap.size + 1) t1' t2').mono ?_; rintro _ w2 ⟨hb2, B2, f2, rfl, hB2, hG2⟩; have hW2 : Bel M w.heap.size w w2 := hW1.trans (hb2.mono hW1.size); have k8' := (hW2.cell (p := ⟨cb, 8, none⟩) hcb hcm).trans k8)
        | go_in)
      have hD1 := (fnd_facts F n rs1 0 D1 HX.out).1
      have hD2 := (fnd_facts F n rs2 0 D2 HY.out).1
      have hD1' : D1.length ≤ 100 * 1001 := Nat.le_trans hD1 (Nat.mul_le_mul hn1 (by omega))
      have hD2' : D2.length ≤ 100 * 1001 := Nat.le_trans hD2 (Nat.mul_le_mul hn2 (by omega))
      have hsW := hW2.size
      have hG1' := hG1.bel hb2 (fun k hk => by have h1 := hMw k hk; have h2 := hB1; simp at h2; omega)
      obtain ⟨i0, hinf, hz0, hz1, hz2⟩ := info_parts info9
      go_loopw [12, 45] (fun v i wr => ∃ j : Nat, j ≤ names.length ∧ i = .int .i64 j ∧ wr.ownsRow w2.heap.size 9 1 v (differ rs1 rs2 D1 D2 (names.take j)).length ((differ rs1 rs2 D1 D2 (names.take j)).map Value.string) ∧ Below w2.heap.size w2 wr) (fun _ i _ => names.length - (intOf i).toNat)
      case atStart => exact ⟨0, Nat.zero_le _, rfl, World.ownsRow_nil _ _ _ _, Below.refl _ _⟩
      case round =>
        obtain ⟨j, hj, rfl, hown, hbel⟩ := hrel
        by_cases hjl : j < names.length
        · obtain ⟨hsm, hcell⟩ := HN.out j names[j] (List.getElem?_eq_getElem hjl)
          obtain rfl := HA.out (by intro e; rw [e] at hjl; simp at hjl)
          have hwr := hbel.size
          have hdl : (differ rs1 rs2 D1 D2 (names.take j)).length ≤ j := Nat.le_trans (List.length_filter_le _ _) (by rw [List.length_take]; omega)
          have hdn : Hid (differ rs1 rs2 D1 D2 (names.take (j + 1)) = differ rs1 rs2 D1 D2 (names.take j) ++ if grp rs1 D1 names[j] = grp rs2 D2 names[j] then [] else [names[j]]) := by
            show _ = _
            simp only [differ, List.take_succ_eq_append_getElem hjl, List.filter_append, List.filter_cons, List.filter_nil]
            by_cases e : grp rs1 D1 names[j] = grp rs2 D2 names[j] <;> simp [e]
          have r1 := (hG1'.later hbel).row names[j]
          have r2 := (hG2.later hbel).row names[j]
          have l1 := (hG1'.later hbel).map.lookup Tryz.underlying111 Tryz.underlying9 (zero82 _) hsm
          have l2 := (hG2.later hbel).map.lookup Tryz.underlying111 Tryz.underlying9 (zero82 _) hsm
          have l0 := (hbm.same ((hbel.block bm (by have := hbm.lt; omega)).trans (hW2.block bm hbm.lt hbmm))).lookup Tryz.underlying59 Tryz.underlying9 (zero4 _) hsm
          obtain ⟨v1, hv1⟩ : ∃ v1, (f1 names[j]).getD nilS = v1 := ⟨_, rfl⟩
          obtain ⟨v2, hv2⟩ : ∃ v2, (f2 names[j]).getD nilS = v2 := ⟨_, rfl⟩
          rw [hv1] at r1 l1
          rw [hv2] at r2 l2
          have heq := equal_walk r1 r2 (Nat.le_trans (grp_len _ _ _) (by omega)) (Nat.le_trans (grp_len _ _ _) (by omega))
          obtain ⟨q, hq⟩ : ∃ q, decide (grp rs1 D1 names[j] = grp rs2 D2 names[j]) = q := ⟨_, rfl⟩
          rw [hq] at heq
          have HQ : Hid (decide (grp rs1 D1 names[j] = grp rs2 D2 names[j]) = q) := hq
          clear hq hv1 hv2 r1 r2
          obtain ⟨nm, hnm⟩ : ∃ s, names[j] = s := ⟨_, rfl⟩
          rw [hnm] at hcell l0 l1 l2 hdn HQ hsm
          clear hnm
          have cn : wr.cell? ⟨ng, j, none⟩ = some (.string nm) := (hbel.cell (p := ⟨ng, j, none⟩) (by show ng < _; omega)).trans ((hW2.cell (p := ⟨ng, j, none⟩) hng hngm).trans hcell)
          have c9 : wr.cell? ⟨cb, 9, none⟩ = some (.map (some bm)) := (hbel.cell (p := ⟨cb, 9, none⟩) (by show cb < _; omega)).trans ((hW2.cell (p := ⟨cb, 9, none⟩) hcb hcm).trans k9)
          have l0' : (Instr.lookup 59 (.map (some bm)) (.string nm) false).run Tryz.prog wr = .ok (.bool false) wr := l0
          clear l0
          cases q with
          | true =>
            rw [if_pos (by simpa using HQ.out)] at hdn
            go_wp2_with (first
              | (go_at_call 43; refine heq.mono ?_; rintro _ w3 ⟨rfl, hb3⟩)
              | go_in)
            go_roundw
            case rel => exact ⟨j + 1, hjl, by go_num, by rw [hdn.out, List.append_nil]; exact owns_below hown hb3, hbel.trans (hb3.mono hwr)⟩
            case measure => simp [intOf]; omega
          | false =>
            rw [if_neg (by simpa using HQ.out)] at hdn
            go_wp2_with (first
              | (go_at_call 43; refine heq.mono ?_; rintro _ w3 ⟨rfl, hb3⟩)
              | (at_builtin; refine wpList_append_own _ rfl _ _ 58 rfl w2.heap.size 9 i0 _ 1 16 Tryz.underlying58 hinf hz0 hz1 hz2 rfl (by decide) _ _ _ rfl ((owns_below hown hb3).alloc _) ⟨w3.heap.size, 0, none⟩ 1 1 [.string nm] rfl rfl ?c1 ?c2 ?c3 ?c4 ?c5 ?_)
              | go_in)
            case c1 =>
              intro l u hl
              exact new_cells w3 _ 9 rfl rfl hl
            case c2 => intro u hu; simp at hu; subst hu; rfl
            case c3 => unfold maxLen; omega
            case c4 => omega
            case c5 => have := hb3.size; have := hbel.size; simp; omega
            · intro v' w4 hown4 hgrow _
              have hlt := World.ownsRow.lt hown
              have hb3s := hb3.size
              have hb4 : Below w2.heap.size w2 w4 := ((hbel.trans (hb3.mono hwr)).alloc (by omega) _).grown hgrow (by simp; omega) (fun x hx => (hlt x hx).1)
              have hown5 : w4.ownsRow w2.heap.size 9 1 v' (differ rs1 rs2 D1 D2 (names.take (j + 1))).length ((differ rs1 rs2 D1 D2 (names.take (j + 1))).map Value.string) := by
                rw [hdn.out]
                simpa using hown4
              clear hgrow hown4 hown hlt
              go_wp2
              go_roundw
              case rel => exact ⟨j + 1, hjl, by go_num, hown5, hb4⟩
              case measure => simp [intOf]; omega
        · have hje : j = names.length := by omega
          subst hje
          go_wp2_with fail
          go_ret2
          rw [List.take_length] at hown
          exact ⟨hW2.trans (.of (hbel.mono hsW)), _, rfl, owns_base hown hsW⟩
end Go.Proofs.YtopicmcaoeameaaGreatDoor
