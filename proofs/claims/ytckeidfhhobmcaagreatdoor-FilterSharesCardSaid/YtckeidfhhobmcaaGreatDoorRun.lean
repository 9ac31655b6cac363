/-
  FilterShares' whole run: for all pieces, shares and waits the law returns true and changes nothing that was there.
-/
import Derived.Test.YtckeidfhhobmcaaGreatDoorLoop
namespace Go.Proofs.YtckeidfhhobmcaaGreatDoor
open Go Go.Ev

theorem arnd_bd (z : Int) (q : Nat) (hq : 0 < q) : 0 ≤ arnd z q ∧ arnd z q < q := by
  unfold arnd
  exact ⟨Int.emod_nonneg _ (by omega), Int.emod_lt_of_pos _ (by omega)⟩
theorem fit_idsC (v : Nu) : Fit idsC (nuF v) (nuF v) 26 := by
  repeat (first | exact trivial | refine And.intro (by first | exact rfl | exact trivial) ?_)
theorem fit_choose {v v' : Nu} (h : ∀ i, i ≠ 6 → i ≠ 7 → i ≠ 8 → i ≠ 10 → i ≠ 11 → i ≠ 12 → i ≠ 15 → i ≠ 19 → i ≠ 20 → i ≠ 24 → i ≠ 25 → nuF v i = nuF v' i) : Fit idsC (nuF v) (nuF v') 26 := by
  refine Fit.of 26 fun i hi => ?_
  by_cases h6 : i = 6
  · subst h6; exact trivial
  by_cases h7 : i = 7
  · subst h7; exact trivial
  by_cases h8 : i = 8
  · subst h8; exact trivial
  by_cases h10 : i = 10
  · subst h10; exact trivial
  by_cases h11 : i = 11
  · subst h11; exact trivial
  by_cases h12 : i = 12
  · subst h12; exact trivial
  by_cases h15 : i = 15
  · subst h15; exact trivial
  by_cases h19 : i = 19
  · subst h19; exact trivial
  by_cases h20 : i = 20
  · subst h20; exact trivial
  by_cases h24 : i = 24
  · subst h24; exact trivial
  by_cases h25 : i = 25
  · subst h25; exact trivial
  have h1 := (fit_idsC v).at i hi
  unfold At1 at h1 ⊢
  rw [← h i h6 h7 h8 h10 h11 h12 h15 h19 h20 h24 h25]
  exact h1

/-- one round -/
theorem round {w0 : World} {I : Ins} {l y : List Int} (inp : Inp w0 I l y) {i a b : Nat} {v : Nu} {act : Act} {w : World} (ha : a < 5) (hb : b < 5) (inv : Inv l y i v)
    (hat : At Tryz.prog lawU lawN w0 I (nuF v) ⟨frL, fullS a b⟩ act w) {K : Act → World → Prop} {Q : Exit → Act → World → Prop}
    (hK : ∀ a' b' v' act' w', a' < 5 → b' < 5 → Inv l y (i + 1) v' → At Tryz.prog lawU lawN w0 I (nuF v') ⟨frL, fullS a' b'⟩ act' w' → K act' w')
    (hQ : ∀ v' act' w', Inv l y i v' → At Tryz.prog lawU lawN w0 I (nuF v') ⟨frL, fullS a b⟩ act' w' → Q (.exit 0) act' w') :
    bodyX.wpIn Fence.wide 0 Tryz.prog (Exit.then K Q) act w := by
  have hll := inp.ll
  have hyl := inp.yl
  by_cases hgo : i < l.length ∧ i < 20
  · obtain ⟨hil, hi20⟩ := hgo
    obtain ⟨x, hx⟩ : ∃ x, l[i]? = some x := ⟨_, List.getElem?_eq_getElem hil⟩
    obtain ⟨cx0, cx1⟩ := arnd_bd x 2 (by omega)
    obtain ⟨mx0, mx1⟩ := arnd_bd (x.tdiv 2) 9 (by omega)
    obtain ⟨c, hcx⟩ : ∃ c : Nat, arnd x 2 = c := ⟨_, (Int.toNat_of_nonneg cx0).symm⟩
    obtain ⟨m, hmx⟩ : ∃ m : Nat, arnd (x.tdiv 2) 9 = m := ⟨_, (Int.toNat_of_nonneg mx0).symm⟩
    have hc : c < 2 := by omega
    have hm : m < 9 := by omega
    -- what is waited
    obtain ⟨yv, wv, hyw⟩ : ∃ yv wv : Int, (y[i]? = some yv ∧ wv = arnd yv 7) ∨ (y.length ≤ i ∧ wv = 0) := by
      by_cases hy : i < y.length
      · exact ⟨y[i], _, .inl ⟨List.getElem?_eq_getElem hy, rfl⟩⟩
      · exact ⟨0, 0, .inr ⟨by omega, rfl⟩⟩
    have hwv : 0 ≤ wv ∧ wv ≤ 6 := by
      rcases hyw with ⟨_, rfl⟩ | ⟨_, rfl⟩
      · have := arnd_bd yv 7 (by omega); omega
      · omega
    let used' : Int := if v.tick / 10 < (v.tick + wv) / 10 then 0 else v.used
    let v1 : Nu := { v with w := wv, x := x, xh := x.tdiv 2, next := v.tick + wv, qn := (v.tick + wv) / 10, qt := v.tick / 10, qm := v.mt / 10, y := yv, left := v.n - v.u, many := m, sum := used' + m }
    let v2 : Nu := { v1 with used := used' }
    have hused' : (v.tick / 10 < (v.tick + wv) / 10 ∧ used' = 0) ∨ (¬ v.tick / 10 < (v.tick + wv) / 10 ∧ used' = v.used) := by
      by_cases h : v.tick / 10 < (v.tick + wv) / 10
      · exact .inl ⟨h, if_pos h⟩
      · exact .inr ⟨h, if_neg h⟩
    obtain ⟨i1, i2, i3, i4, i5, i6, i7, i8, i9, i10, i11, i12, i13, i14, i15, i16⟩ := inv
    have inv1 : Inv l y i v1 := ⟨i1, i2, i3, i4, i5, i6, i7, i8, i9, i10, i11, i12, i13, i14, i15, i16⟩
    have bd1 : Bd v1 := inv1.bd hll hyl (by show 0 ≤ v.tick + wv ∧ v.tick + wv ≤ 1000; omega) (by show 0 ≤ (m : Int) ∧ (m : Int) ≤ 8; omega)
    have bd2 : Bd v2 := by
      obtain ⟨c1, c2, c3, c4, c5, c6, c7, c8, c9, c10, c11, c12, c13, c14, c15⟩ := bd1
      exact ⟨c1, c2, c3, c4, c5, (by show 0 ≤ used' ∧ used' ≤ 39; omega), c7, c8, c9, c10, c11, c12, c13, c14, c15⟩
    -- the numbers are chosen
    show (seqs [] bodyX).wpIn Fence.wide 0 Tryz.prog (Exit.then K Q) act w
    refine piece (A := []) (A2 := []) (each2_ok run_choose ha hb) v1 inp.ps hat tells0 rfl (fit_choose fun j h6 h7 h8 h10 h11 h12 h15 h19 h20 h24 h25 => ?_) bd1 fun act1 w1 hat1 => ?_
    · unfold nuF
      split <;> first | rfl | contradiction
    -- the head
    show (seqs [hd] (.seq (.block 1 inner) incI)).wpIn Fence.wide 0 Tryz.prog (Exit.then K Q) act1 w1
    refine piece (A := []) (A2 := []) (each2_ok run_stay ha hb) v1 inp.ps hat1 (tells rfl rfl (And.intro (fun ι hι => told_lss hι rfl rfl ?_) (And.intro (fun ι hι => told_lss hι rfl rfl ?_) trivial))) rfl (fit_ids v1) bd1 fun act2 w2 hat2 => ?_
    · show decide (v.i < v.len) = true
      simp only [decide_eq_true_eq]; omega
    · show decide (v.i < 20) = true
      simp only [decide_eq_true_eq]; omega
    show (Code.seq (.block 1 inner) incI).wpIn Fence.wide 0 Tryz.prog (Exit.then K Q) act2 w2
    refine wpIn_seq (wpIn_block ?_)
    -- behind the choice of what is waited
    have key : ∀ act3 w3, At Tryz.prog lawU lawN w0 I (nuF v1) ⟨fr13, fullS a b⟩ act3 w3 → (seqs k3 (seqs k4 k5)).wpIn Fence.wide 0 Tryz.prog (Exit.inBlock 1 (Exit.then (incI.wpIn Fence.wide 0 Tryz.prog (Exit.then K Q)) (Exit.then K Q))) act3 w3 := by
      intro act3 w3 hat3
      have key2 : ∀ act4 w4, At Tryz.prog lawU lawN w0 I (nuF v2) ⟨frN, fullS a b⟩ act4 w4 → (seqs k4 k5).wpIn Fence.wide 0 Tryz.prog (Exit.inBlock 1 (Exit.then (incI.wpIn Fence.wide 0 Tryz.prog (Exit.then K Q)) (Exit.then K Q))) act4 w4 := by
        intro act4 w4 hat4
        have fin : ∀ (s1 s2 : Nat) (v' : Nu) act' w', s1 < 5 → s2 < 5 → Bd v' → v'.n = v2.n → v'.tick = v2.tick → v'.next = v2.next → v'.i = v2.i → v'.len = v2.len → v'.leny = v2.leny → v'.ft = v2.next → 0 ≤ v'.u ∧ v'.u ≤ v'.n → 0 ≤ v'.used ∧ v'.used ≤ v'.n → 0 ≤ v'.mt ∧ v'.mt ≤ v2.next →
            (0 ≤ v'.l1 ∧ v'.l1 ≤ v2.l1 + 8) → (0 ≤ v'.l2 ∧ v'.l2 ≤ v2.l2 + 8) → (0 ≤ v'.w1 ∧ v'.w1 ≤ v2.w1 + 8) → (0 ≤ v'.w2 ∧ v'.w2 ≤ v2.w2 + 8) → (v'.mt / 10 = v2.next / 10 → v'.u = v'.used) → (v'.mt / 10 ≠ v2.next / 10 → v'.used = 0) →
            At Tryz.prog lawU lawN w0 I (nuF v') ⟨frN, fullS s1 s2⟩ act' w' → (Exit.inBlock 1 (Exit.then (incI.wpIn Fence.wide 0 Tryz.prog (Exit.then K Q)) (Exit.then K Q))) .normal act' w' := by
          intro s1 s2 v' act' w' h1 h2 hbd e1 e2 e3 e4 e5 e6 e7 g1 g2 g3 g4 g5 g6 g7 g8 g9 hat'
          show incI.wpIn Fence.wide 0 Tryz.prog (Exit.then K Q) act' w'
          have e2' : v'.tick = v.tick := e2
          have e3' : v'.next = v.tick + wv := e3
          have e4' : v'.i = v.i := e4
          have e7' : v'.ft = v.tick + wv := e7
          have g3' : 0 ≤ v'.mt ∧ v'.mt ≤ v.tick + wv := g3
          have g8' : v'.mt / 10 = (v.tick + wv) / 10 → v'.u = v'.used := g8
          have g9' : v'.mt / 10 ≠ (v.tick + wv) / 10 → v'.used = 0 := g9
          have g4' : 0 ≤ v'.l1 ∧ v'.l1 ≤ v.l1 + 8 := g4
          have g5' : 0 ≤ v'.l2 ∧ v'.l2 ≤ v.l2 + 8 := g5
          have g6' : 0 ≤ v'.w1 ∧ v'.w1 ≤ v.w1 + 8 := g6
          have g7' : 0 ≤ v'.w2 ∧ v'.w2 ≤ v.w2 + 8 := g7
          have e1' : v'.n = v.n := e1
          let v5 : Nu := { v' with tick := v'.next, i := v'.i + 1 }
          have inv5 : Inv l y (i + 1) v5 := by
            refine ⟨by show v'.i + 1 = ((i + 1 : Nat) : Int); omega, e5.trans i2, e6.trans i3, by omega, by show 0 ≤ v'.n ∧ v'.n ≤ 39; omega, g1, g2, by show 0 ≤ v'.next ∧ v'.next ≤ 6 * ((i + 1 : Nat) : Int); omega, by show 0 ≤ v'.mt ∧ v'.mt ≤ v'.next; omega, by show 0 ≤ v'.ft ∧ v'.ft ≤ v'.next; omega,
              by show 0 ≤ v'.l1 ∧ v'.l1 ≤ 8 * ((i + 1 : Nat) : Int); omega, by show 0 ≤ v'.l2 ∧ v'.l2 ≤ 8 * ((i + 1 : Nat) : Int); omega, by show 0 ≤ v'.w1 ∧ v'.w1 ≤ 8 * ((i + 1 : Nat) : Int); omega, by show 0 ≤ v'.w2 ∧ v'.w2 ≤ 8 * ((i + 1 : Nat) : Int); omega, ?_, ?_⟩
            · show v'.mt / 10 = v'.next / 10 → v'.u = v'.used
              rw [e3']; exact g8'
            · show v'.mt / 10 ≠ v'.next / 10 → v'.used = 0
              rw [e3']; exact g9'
          refine last (A := []) (A2 := []) (each2_ok run_inc h1 h2) v5 inp.ps hat' tells0 rfl ?_ (inv5.bd hll hyl hbd.next hbd.many) fun act5 w5 hat5 => hK s1 s2 v5 act5 w5 h1 h2 inv5 hat5
          repeat (first | exact trivial | refine And.intro (by first | exact rfl | exact trivial) ?_)
        have tl : ∀ (s s' : Nat), s < 5 → s' < 5 → At Tryz.prog lawU lawN w0 I (nuF v2) ⟨frN, two c s s'⟩ act4 w4 → (∀ s2, s2 < 5 → ∃ p q, p < 5 ∧ q < 5 ∧ two c s2 s' = fullS p q) → (seqs k4 k5).wpIn Fence.wide 0 Tryz.prog (Exit.inBlock 1 (Exit.then (incI.wpIn Fence.wide 0 Tryz.prog (Exit.then K Q)) (Exit.then K Q))) act4 w4 := by
          intro s s' hs hs' hat5 htwo
          refine tail_ok (v := v2) inp hc hs hs' hm hx i1 hi20 i2 rfl rfl hcx hmx rfl rfl rfl rfl bd2 i6.2 (by show used' ≤ v.n; omega) (by show v.mt ≤ v.tick + wv; omega) (by show v.ft ≤ v.tick + wv; omega) (by show v.tick + wv ≤ 200; omega)
            (by show v.l1 ≤ 200; omega) (by show v.l2 ≤ 200; omega) (by show v.w1 ≤ 200; omega) (by show v.w2 ≤ 200; omega) ?_ ?_ hat5 fun s2 v' act' w' h2 => ?_
          · show v.mt / 10 = (v.tick + wv) / 10 → v.u = used'
            intro h
            rcases hused' with ⟨h1, _⟩ | ⟨h1, h2⟩
            · omega
            · rw [h2]; exact i15 (by omega)
          · show v.mt / 10 ≠ (v.tick + wv) / 10 → used' = 0
            intro h
            rcases hused' with ⟨_, h2⟩ | ⟨h1, h2⟩
            · exact h2
            · rw [h2]; exact i16 (by omega)
          · obtain ⟨p, q, hp, hq, e⟩ := htwo s2 h2
            rw [e]
            exact fin p q v' act' w' hp hq
        have hc' : c = 0 ∨ c = 1 := by omega
        rcases hc' with rfl | rfl
        · exact tl a b ha hb hat4 fun s2 h2 => ⟨s2, b, h2, hb, rfl⟩
        · exact tl b a hb ha hat4 fun s2 h2 => ⟨a, s2, ha, h2, rfl⟩
      have q10 : ∀ z : Int, 0 ≤ z → z.tdiv 10 = z / 10 := fun z hz => Int.tdiv_eq_ediv_of_nonneg hz
      have t1 : ∀ ι : Emb, ι.sym = nuF v1 → Go.Ev.Told ι (3, sNext, J 10, sQn) ∧ Go.Ev.ToldA ι (3, sNext, J 10, sQn) := fun ι hι => told_quo hι rfl rfl (by show (10 : Int) ≠ 0; decide) (by
        show -9223372036854775808 ≤ (v.tick + wv).tdiv 10 ∧ (v.tick + wv).tdiv 10 ≤ 9223372036854775807
        rw [q10 _ (by omega)]; omega) (by
        show V.rel ι sQn (.int .i64 ((v.tick + wv).tdiv 10))
        rw [q10 _ (by omega)]
        exact rsym hι rfl (by omega) (by omega))
      have t2 : ∀ ι : Emb, ι.sym = nuF v1 → Go.Ev.Told ι (3, sTick, J 10, sQt) ∧ Go.Ev.ToldA ι (3, sTick, J 10, sQt) := fun ι hι => told_quo hι rfl rfl (by show (10 : Int) ≠ 0; decide) (by
        show -9223372036854775808 ≤ v.tick.tdiv 10 ∧ v.tick.tdiv 10 ≤ 9223372036854775807
        rw [q10 _ (by omega)]; omega) (by
        show V.rel ι sQt (.int .i64 (v.tick.tdiv 10))
        rw [q10 _ (by omega)]
        exact rsym hι rfl (by omega) (by omega))
      rcases hused' with ⟨h1, h2⟩ | ⟨h1, h2⟩
      · refine piece (A := []) (A2 := []) (each2_ok run_per1 ha hb) v2 inp.ps hat3 (tells rfl rfl (And.intro t1 (And.intro t2 (And.intro (fun ι hι => told_gtr hι rfl rfl ?_) trivial)))) rfl ?_ bd2 fun act4 w4 hat4 => key2 act4 w4 hat4
        · show decide (v.tick / 10 < (v.tick + wv) / 10) = true
          simp only [decide_eq_true_eq]; exact h1
        · repeat (first | exact trivial | refine And.intro (by first | exact rfl | exact trivial | exact h2.symm) ?_)
      · refine piece (A := []) (A2 := []) (each2_ok run_per0 ha hb) v2 inp.ps hat3 (tells rfl rfl (And.intro t1 (And.intro t2 (And.intro (fun ι hι => told_gtr hι rfl rfl ?_) trivial)))) rfl ?_ bd2 fun act4 w4 hat4 => key2 act4 w4 hat4
        · show decide (v.tick / 10 < (v.tick + wv) / 10) = false
          simp only [decide_eq_false_iff_not]; exact h1
        · repeat (first | exact trivial | refine And.intro (by first | exact rfl | exact trivial | exact h2.symm) ?_)
    show (seqs [k2] (seqs k3 (seqs k4 k5))).wpIn Fence.wide 0 Tryz.prog _ act2 w2
    rcases hyw with ⟨hy, hwe⟩ | ⟨hy, hwe⟩
    · have hyb := inp.yb yv (List.mem_of_getElem? hy)
      have hiy : i < y.length := (List.getElem?_eq_some_iff.1 hy).1
      refine piece (A := []) (A2 := []) (each2_ok piece_in ha hb) v1 inp.ps hat2 ⟨rfl, AllT.all (And.intro (fun ι hι => told_geq hι rfl rfl ?_) (And.intro (fun ι hι => told_lss hι rfl rfl ?_) (And.intro (fun ι hι => told_arnd hι rfl rfl ?_) (And.intro (fun ι hι => told_add hι rfl rfl ?_ ?_) trivial)))), fun e he => ?_⟩ rfl (fit_ids v1) bd1 fun act3 w3 hat3 => key act3 w3 hat3
      · show (!decide (v.i < v.leny)) = false
        have : v.i < v.leny := by omega
        simp [this]
      · show decide (v.i < v.leny) = true
        simp only [decide_eq_true_eq]; omega
      · show V.rel ι sW (.int .i64 (arnd yv 7))
        exact rsym hι hwe (by omega) (by omega)
      · show -9223372036854775808 ≤ v.tick + wv ∧ v.tick + wv ≤ 9223372036854775807
        omega
      · show V.rel ι sNext (.int .i64 (v.tick + wv))
        exact rsym hι rfl (by omega) (by omega)
      · have he' : e ∈ ldY := he
        unfold ldY at he'
        simp only [List.mem_cons, List.not_mem_nil, or_false] at he'
        subst he'
        obtain ⟨b, st, g1, g2, g3⟩ := inp.hy i yv hy
        refine ⟨by rw [inp.ps]; exact List.mem_cons_of_mem _ (List.mem_cons_self ..), b, st, .int .i64 yv, g1, g2, ?_, fun ι hι => rsym hι rfl (by unfold imin; omega) (by unfold imax; omega)⟩
        show w0.cell? ⟨b, st + (v.i).toNat, none⟩ = _
        rw [i1]; exact g3
    · refine piece (A := []) (A2 := []) (each2_ok run_no ha hb) v1 inp.ps hat2 (tells rfl rfl (And.intro (fun ι hι => told_geq hι rfl rfl ?_) trivial)) rfl ?_ bd1 fun act3 w3 hat3 => key act3 w3 hat3
      · show (!decide (v.i < v.leny)) = true
        have : ¬ v.i < v.leny := by omega
        simp [this]
      · have hz : v.tick + 0 = v.tick + wv := by rw [hwe]
        repeat (first | exact trivial | refine And.intro (by first | exact rfl | exact trivial | exact hz) ?_)
  · -- the loop ends
    let v1 : Nu := { v with next := 0, many := 0 }
    obtain ⟨i1, i2, i3, i4, i5, i6, i7, i8, i9, i10, i11, i12, i13, i14, i15, i16⟩ := inv
    have inv1 : Inv l y i v1 := ⟨i1, i2, i3, i4, i5, i6, i7, i8, i9, i10, i11, i12, i13, i14, i15, i16⟩
    have bd1 : Bd v1 := inv1.bd hll hyl (by show (0 : Int) ≤ 0 ∧ (0 : Int) ≤ 1000; omega) (by show (0 : Int) ≤ 0 ∧ (0 : Int) ≤ 8; omega)
    show (seqs [] bodyX).wpIn Fence.wide 0 Tryz.prog (Exit.then K Q) act w
    refine piece (A := []) (A2 := []) (each2_ok run_choose ha hb) v1 inp.ps hat tells0 rfl (fit_choose fun j h6 h7 h8 h10 h11 h12 h15 h19 h20 h24 h25 => ?_) bd1 fun act1 w1 hat1 => ?_
    · unfold nuF
      split <;> first | rfl | contradiction
    show (seqs [hd] (.seq (.block 1 inner) incI)).wpIn Fence.wide 0 Tryz.prog (Exit.then K Q) act1 w1
    by_cases hil : i < l.length
    · refine piece (A := []) (A2 := []) (each2_ok run_end2 ha hb) v1 inp.ps hat1 (tells rfl rfl (And.intro (fun ι hι => told_lss hι rfl rfl ?_) (And.intro (fun ι hι => told_lss hι rfl rfl ?_) trivial))) rfl (fit_ids v1) bd1 fun act2 w2 hat2 => hQ v1 act2 w2 inv1 hat2
      · show decide (v.i < v.len) = true
        simp only [decide_eq_true_eq]; omega
      · show decide (v.i < 20) = false
        simp only [decide_eq_false_iff_not]; omega
    · refine piece (A := []) (A2 := []) (each2_ok run_end1 ha hb) v1 inp.ps hat1 (tells rfl rfl (And.intro (fun ι hι => told_lss hι rfl rfl ?_) trivial)) rfl (fit_ids v1) bd1 fun act2 w2 hat2 => hQ v1 act2 w2 inv1 hat2
      · show decide (v.i < v.len) = false
        simp only [decide_eq_false_iff_not]; omega
theorem rounds {w0 : World} {I : Ins} {l y : List Int} (inp : Inp w0 I l y) {Q : Exit → Act → World → Prop}
    (hQ : ∀ i a b v act w, a < 5 → b < 5 → Inv l y i v → At Tryz.prog lawU lawN w0 I (nuF v) ⟨frL, fullS a b⟩ act w → Q (.exit 0) act w) :
    ∀ (m i a b : Nat) (v : Nu) (act : Act) (w : World), i + m = 21 → a < 5 → b < 5 → Inv l y i v → At Tryz.prog lawU lawN w0 I (nuF v) ⟨frL, fullS a b⟩ act w → Code.roundsIn Fence.wide 0 Tryz.prog bodyX Q m act w
  | 0, i, a, b, v, act, w, hi, _, _, inv, _ => by have := inv.i20; omega
  | m + 1, i, a, b, v, act, w, hi, ha, hb, inv, hat =>
    round inp ha hb inv hat (fun a' b' v' act' w' ha' hb' inv' hat' => rounds inp hQ m (i + 1) a' b' v' act' w' (by omega) ha' hb' inv' hat') (fun v' act' w' inv' hat' => hQ i a b v' act' w' ha hb inv' hat')

/-- the law's end -/
theorem end_ok {w0 : World} {I : Ins} {l y : List Int} (inp : Inp w0 I l y) {i a b : Nat} {v : Nu} {act : Act} {w : World} (ha : a < 5) (hb : b < 5) (inv : Inv l y i v) (hat : At Tryz.prog lawU lawN w0 I (nuF v) ⟨frL, fullS a b⟩ act w) :
    ending.wpIn Fence.wide 0 Tryz.prog (fun e a w' => (e = .normal ∨ e = .ret) ∧ ∃ I σ, At Tryz.prog lawU lawN w0 I σ ⟨[(6, .bool true)], []⟩ a w') act w := by
  have hll := inp.ll
  have hyl := inp.yl
  let v1 : Nu := { v with next := 0, many := 0, qn := (v.tick + 10) / 10, qm := v.mt / 10 }
  obtain ⟨i1, i2, i3, i4, i5, i6, i7, i8, i9, i10, i11, i12, i13, i14, i15, i16⟩ := inv
  have inv1 : Inv l y i v1 := ⟨i1, i2, i3, i4, i5, i6, i7, i8, i9, i10, i11, i12, i13, i14, i15, i16⟩
  have bd1 : Bd v1 := inv1.bd hll hyl (by show (0 : Int) ≤ 0 ∧ (0 : Int) ≤ 1000; omega) (by show (0 : Int) ≤ 0 ∧ (0 : Int) ≤ 8; omega)
  show (seqs [] ending).wpIn Fence.wide 0 Tryz.prog _ act w
  refine piece (A := []) (A2 := []) (each2_ok run_choose ha hb) v1 inp.ps hat tells0 rfl (fit_choose fun j h6 h7 h8 h10 h11 h12 h15 h19 h20 h24 h25 => ?_) bd1 fun act1 w1 hat1 => ?_
  · unfold nuF
    split <;> first | rfl | contradiction
  show ending.wpIn Fence.wide 0 Tryz.prog _ act1 w1
  have hass : fullS a b = (cmn ++ (outB (isOut a) (isOut b) ++ conn 0 a)) ++ conn 1 b := by
    unfold fullS full
    simp only [List.append_assoc]
  rw [hass] at hat1
  have q10 : ∀ z : Int, 0 ≤ z → z.tdiv 10 = z / 10 := fun z hz => Int.tdiv_eq_ediv_of_nonneg hz
  have htells : ∀ z : Bool, decide (v.n < 1) = z → Tells (Gfin z) w0 I (nuF v1) := fun z hz => tells rfl rfl (And.intro (fun ι hι => told_lss hι rfl rfl (by
      show decide (v.tick + 10 < v.ft) = false
      simp only [decide_eq_false_iff_not]; omega)) (And.intro (fun ι hι => told_lss hι rfl rfl (by
      show decide (v.tick + 10 < v.mt) = false
      simp only [decide_eq_false_iff_not]; omega)) (And.intro (fun ι hι => told_quo hι rfl rfl (by show (10 : Int) ≠ 0; decide) (by
      show -9223372036854775808 ≤ (v.tick + 10).tdiv 10 ∧ (v.tick + 10).tdiv 10 ≤ 9223372036854775807
      rw [q10 _ (by omega)]; omega) (by
      show V.rel ι sQn (.int .i64 ((v.tick + 10).tdiv 10))
      rw [q10 _ (by omega)]
      exact rsym hι rfl (by omega) (by omega))) (And.intro (fun ι hι => told_quo hι rfl rfl (by show (10 : Int) ≠ 0; decide) (by
      show -9223372036854775808 ≤ v.mt.tdiv 10 ∧ v.mt.tdiv 10 ≤ 9223372036854775807
      rw [q10 _ (by omega)]; omega) (by
      show V.rel ι sQm (.int .i64 (v.mt.tdiv 10))
      rw [q10 _ (by omega)]
      exact rsym hι rfl (by omega) (by omega))) (And.intro (fun ι hι => told_neq hι rfl rfl (by
      show (!((v.tick + 10) / 10 == v.mt / 10)) = true
      have : (v.tick + 10) / 10 ≠ v.mt / 10 := by omega
      simpa using this)) (And.intro (fun ι hι => told_lss hι rfl rfl (by
      show decide (v.n + 0 < 1) = z
      rw [Int.add_zero]; exact hz)) (And.intro (fun ι hι => told_eql hι rfl rfl (by
      show (v.n == 0) = z
      rw [← hz]
      by_cases h : v.n = 0
      · simp [h]
      · have : ¬ v.n < 1 := by omega
        simp [h, this])) trivial)))))))
  cases hz : decide (v.n < 1) with
  | true => exact last (B := conn 1 b) (B2 := []) (A2 := []) (each2_ok run_fin1 ha hb) v1 inp.ps hat1 (htells true hz) rfl (fit_ids v1) bd1 fun act2 w2 hat2 => ⟨.inr rfl, I, nuF v1, hat2⟩
  | false => exact last (B := conn 1 b) (B2 := []) (A2 := []) (each2_ok run_fin0 ha hb) v1 inp.ps hat1 (htells false hz) rfl (fit_ids v1) bd1 fun act2 w2 hat2 => ⟨.inr rfl, I, nuF v1, hat2⟩

/-- a slice of numbers as an argument -/
structure SlArg (w : World) (x : Value) (l : List Int) : Prop where
  ex : ∃ a c, x = .slice a l.length c ∧ (l ≠ [] → ∃ b s, a = some ⟨b, s, none⟩ ∧ b < w.heap.size ∧ ∀ (i : Nat) z, l[i]? = some z → w.cell? ⟨b, s + i, none⟩ = some (.int .i64 z))
  len : (l.length : Int) ≤ 9223372036854775807
  bd : ∀ z ∈ l, -9223372036854775808 ≤ z ∧ z ≤ 9223372036854775807
theorem SlArg.place {w : World} {x : Value} {l : List Int} (h : SlArg w x l) : ∃ p : Option (Nat × Nat), (∀ q, p = some q → q.1 < w.heap.size) ∧ (∃ a c, x = .slice a l.length c ∧ (l.length ≠ 0 → ∃ b s, a = some ⟨b, s, none⟩ ∧ p = some (b, s))) ∧
    ∀ (i : Nat) z, l[i]? = some z → ∃ b s, p = some (b, s) ∧ b < w.heap.size ∧ w.cell? ⟨b, s + i, none⟩ = some (.int .i64 z) := by
  obtain ⟨a, c, hx, hl⟩ := h.ex
  by_cases h0 : l = []
  · subst h0
    exact ⟨none, fun q hq => (by cases hq), ⟨a, c, hx, fun hh => absurd rfl hh⟩, fun i z hz => (by simp at hz)⟩
  · obtain ⟨b, s, ha, hb, hc⟩ := hl h0
    exact ⟨some (b, s), fun q hq => (by cases hq; exact hb), ⟨a, c, hx, fun _ => ⟨b, s, ha, rfl⟩⟩, fun i z hz => ⟨b, s, rfl, hb, hc i z hz⟩⟩
theorem bits3 : bit lawU (toPth 0).num = true ∧ bit lawU (toPth 1).num = true ∧ bit lawU (toPth 2).num = true := by decide +kernel
theorem slots3 : 3 ≤ lawN := by decide +kernel
set_option maxRecDepth 100000 in
theorem known3 : resKnown Tryz.prog Tryz.f3.results.toList = true := by kernel_rfl
set_option maxRecDepth 100000 in
theorem leaves3 : leave Γ0 (resIR Tryz.prog Tryz.f3.results.toList) (regsOf [(6, .bool true)]) .nil .e = .ok (.bool true) .nil .e := by kernel_rfl
theorem getD3 (a b c : Value) (r : Array Value) : (#[a, b, c] ++ r).getD 0 undef = a ∧ (#[a, b, c] ++ r).getD 1 undef = b ∧ (#[a, b, c] ++ r).getD 2 undef = c := by
  refine ⟨?_, ?_, ?_⟩ <;> simp [Array.getD_eq_getD_getElem?, Array.getElem?_append]
theorem walk {l y : List Int} {share : Int} {xl xy : Value} {w : World} (hl : SlArg w xl l) (hy : SlArg w xy y) (hs : -9223372036854775808 ≤ share ∧ share ≤ 9223372036854775807) :
    Calls Tryz.prog 3 #[xl, .int .i64 share, xy] w fun e w' => e = .returned (.bool true) ∧ w.keptBut w' (fun _ => False) := by
  obtain ⟨pl, l1, ⟨al, cl, hxl, l2⟩, l3⟩ := hl.place
  obtain ⟨py, y1, ⟨ay, cy, hxy, y2⟩, y3⟩ := hy.place
  let I : Ins := ⟨ps, fun p => match p.beq (nm 8) with | true => pl | false => (match p.beq (nm 9) with | true => py | false => none)⟩
  have inp : Inp w I l y := ⟨rfl, l3, y3, hl.bd, hy.bd, hl.len, hy.len⟩
  obtain ⟨n0', n1'⟩ := arnd_bd share 40 (by omega)
  let v : Nu := ⟨arnd share 40, 0, 0, 0, 0, 0, 0, 0, 0, 0, 0, 0, 0, 0, 0, 0, l.length, y.length, 0, 0, 0, 0, share, 0, 0⟩
  have hat : At Tryz.prog lawU lawN w I (nuF v) ⟨[(0, inL), (1, sShare), (2, inY)], []⟩ { tmps := #[xl, .int .i64 share, xy] ++ Array.replicate (Tryz.f3.ntmps - 3) undef, defers := [] } w := by
    refine ⟨⟨⟨I.at', fun _ => 0, nuF v⟩, rfl, ⟨fun p o h => (by rw [show hp [] = (.nil : Heap) from rfl, Tr.get_nil] at h; cases h), fun p q b s s' h => (by obtain ⟨o, h1, _⟩ := h; rw [show hp [] = (.nil : Heap) from rfl, Tr.get_nil] at h1; cases h1), fun p b s hp => ?_⟩, fun r z hr => ?_, Defs.nil, fun p hp => rfl, fun p hp => .inr ?_, fun p b t h => (by obtain ⟨o, h1, _⟩ := h; rw [show hp [] = (.nil : Heap) from rfl, Tr.get_nil] at h1; cases h1)⟩, ?_, fun b hb => rfl, Nat.le_refl _, rfl, rfl, rfl⟩
    · have hp' : (match p.beq (nm 8) with | true => pl | false => (match p.beq (nm 9) with | true => py | false => none)) = some (b, s) := hp
      cases h1 : p.beq (nm 8) with
      | true => rw [h1] at hp'; exact l1 _ hp'
      | false =>
        rw [h1] at hp'
        cases h2 : p.beq (nm 9) with
        | true => rw [h2] at hp'; exact y1 _ hp'
        | false => rw [h2] at hp'; cases hp'
    · obtain ⟨i, g1, rfl⟩ := regsOf_mem hr
      simp only [List.mem_cons, List.not_mem_nil, or_false, Prod.mk.injEq] at g1
      rcases g1 with ⟨rfl, rfl⟩ | ⟨rfl, rfl⟩ | ⟨rfl, rfl⟩
      · refine ⟨bits3.1, ?_⟩
        rw [num_toPth]
        show V.rel _ (.inp (nm 8) 17) ((#[xl, .int .i64 share, xy] ++ Array.replicate (Tryz.f3.ntmps - 3) undef).getD 0 undef)
        rw [(getD3 ..).1]
        simp only [V.rel]
        exact ⟨al, l.length, cl, hxl, rfl, hl.len, l2⟩
      · refine ⟨bits3.2.1, ?_⟩
        rw [num_toPth]
        show V.rel _ sShare ((#[xl, .int .i64 share, xy] ++ Array.replicate (Tryz.f3.ntmps - 3) undef).getD 1 undef)
        rw [(getD3 ..).2.1]
        exact rsym rfl rfl (by unfold imin; omega) (by unfold imax; omega)
      · refine ⟨bits3.2.2, ?_⟩
        rw [num_toPth]
        show V.rel _ (.inp (nm 9) 18) ((#[xl, .int .i64 share, xy] ++ Array.replicate (Tryz.f3.ntmps - 3) undef).getD 2 undef)
        rw [(getD3 ..).2.2]
        simp only [V.rel]
        exact ⟨ay, y.length, cy, hxy, rfl, hy.len, y2⟩
    · have hp' : (match p.beq (nm 8) with | true => pl | false => (match p.beq (nm 9) with | true => py | false => none)) ≠ none := hp
      cases h1 : p.beq (nm 8) with
      | true => rw [(Pth.beq_iff _ _).1 h1]; exact List.mem_cons_self ..
      | false =>
        rw [h1] at hp'
        cases h2 : p.beq (nm 9) with
        | true => rw [(Pth.beq_iff _ _).1 h2]; exact List.mem_cons_of_mem _ (List.mem_cons_self ..)
        | false => rw [h2] at hp'; exact absurd rfl hp'
    · have := slots3
      show lawN ≤ (#[xl, .int .i64 share, xy] ++ Array.replicate (Tryz.f3.ntmps - 3) undef).size
      unfold lawN at this ⊢
      simp <;> omega
  refine law_at (U := lawU) (N := lawN) (R2 := [(6, .bool true)]) named Tryz.func3 law_body known3 leaves3 ?_
  rw [law_code]
  have b0 : Bd { v with share := 0 } := by constructor <;> first | exact ⟨n0', by show arnd share 40 ≤ 39; omega⟩ | exact ⟨(show (0 : Int) ≤ l.length by omega), hl.len⟩ | exact ⟨(show (0 : Int) ≤ y.length by omega), hy.len⟩ | (show (0 : Int) ≤ 0 ∧ (0 : Int) ≤ _; omega)
  have htell : Tells G0 w I (nuF v) := tells rfl rfl (And.intro (fun ι hι => told_arnd hι rfl rfl (by
      show V.rel ι sN (.int .i64 (arnd share 40))
      exact rsym hι rfl n0' (by omega))) trivial)
  refine piece (A := []) (A2 := fullS 0 0) (R := [(0, inL), (1, sShare), (2, inY)]) (B := []) (B2 := []) run_pre { v with share := 0 } rfl hat htell rfl ?_ b0 fun act1 w1 hat1 => ?_
  · repeat (first | exact trivial | refine And.intro (by first | exact rfl | exact trivial) ?_)
  show (Code.seq (.seq setI (.block 0 (.loop bodyX))) ending).wpIn Fence.wide 0 Tryz.prog _ act1 w1
  refine wpIn_seq ?_
  show (seqs [setI] (.block 0 (.loop bodyX))).wpIn Fence.wide 0 Tryz.prog _ act1 w1
  refine piece (A := []) (A2 := []) run_set { v with share := 0 } rfl hat1 tells0 rfl ?_ b0 fun act2 w2 hat2 => ?_
  · repeat (first | exact trivial | refine And.intro (by first | exact rfl | exact trivial) ?_)
  show (Code.block 0 (.loop bodyX)).wpIn Fence.wide 0 Tryz.prog _ act2 w2
  refine wpIn_block (wpIn_loop_rounds 21 ?_)
  have inv0 : Inv l y 0 { v with share := 0 } := by
    constructor <;> first | exact rfl | exact ⟨n0', by show arnd share 40 ≤ 39; omega⟩ | exact ⟨by show (0 : Int) ≤ 0; omega, n0'⟩ | omega | (intro _; exact rfl) | (show (0 : Int) ≤ 0 ∧ (0 : Int) ≤ 0; omega) | (show (0 : Int) ≤ 0 ∧ (0 : Int) ≤ _; omega)
  refine rounds inp (fun i a b v' act3 w3 ha hb inv hat3 => ?_) 21 0 0 0 { v with share := 0 } act2 w2 rfl (by omega) (by omega) inv0 hat2
  show ending.wpIn Fence.wide 0 Tryz.prog _ act3 w3
  exact end_ok inp ha hb inv hat3
end Go.Proofs.YtckeidfhhobmcaaGreatDoor
