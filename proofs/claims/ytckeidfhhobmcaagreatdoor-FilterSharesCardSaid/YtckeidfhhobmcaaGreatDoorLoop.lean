/-
  FilterShares' loop and its whole run.
-/
import Derived.Test.YtckeidfhhobmcaaGreatDoorRound
namespace Go.Proofs.YtckeidfhhobmcaaGreatDoor
open Go Go.Ev

/-- the loop's body -/
noncomputable def inner : Code := seqs [k2] (seqs k3 (seqs k4 k5))
noncomputable def bodyX : Code := .seq hd (.seq (.block 1 inner) incI)
/-- the state at the loop's head, the connection c first -/
noncomputable def two (c s s' : Nat) : List (Pth × O) := match c with | 0 => fullS s s' | _ => fullS s' s

theorem Fit.of {asg : Asg} {σ τ : Nat → Int} : ∀ (k : Nat), (∀ i, i < k → At1 asg σ τ i) → Fit asg σ τ k
  | 0, _ => trivial
  | k + 1, h => ⟨h k (by omega), Fit.of k fun i hi => h i (by omega)⟩
def wasF (g o : Bool) : Bool := match g with | true => false | false => o
def nextU (o g : Bool) (s u : Int) : Int := match o, g with | false, false => s | _, _ => u
def selO (c : Nat) (o1 o2 : Bool) : Bool := match c with | 0 => o1 | _ => o2
theorem fit_asg5 {c s1 s2 : Nat} {g : Bool} (v v' : Nu) (hc : c < 2) (hb : ∀ i, i ≠ 5 → nuF v' i = nuF v i)
    (hu : v'.used = nextU (selO c (isOut s1) (isOut s2)) g v.sum v.used) : below26 (asg5 c s1 s2 g) = true ∧ Fit (asg5 c s1 s2 g) (nuF v) (nuF v') 26 := by
  have keep : below26 ids = true ∧ (v'.used = v.used → Fit ids (nuF v) (nuF v') 26) := by
    refine ⟨rfl, fun h5 => ?_⟩
    have h : ∀ i, nuF v i = nuF v' i := fun i => by
      by_cases hi : i = 5
      · subst hi; exact h5.symm
      · exact (hb i hi).symm
    have : nuF v = nuF v' := funext h
    rw [← this]; exact fit_ids v
  have put : below26 ((5, sSum) :: ids) = true ∧ (v'.used = v.sum → Fit ((5, sSum) :: ids) (nuF v) (nuF v') 26) := by
    refine ⟨rfl, fun h5 => Fit.of 26 fun i hi => ?_⟩
    by_cases h : i = 5
    · subst h; exact h5.symm
    · have h1 := (fit_ids v).at i hi
      have h2 : Nat.beq 5 i = false := by
        cases hh : Nat.beq 5 i with
        | false => rfl
        | true => exact absurd (beq_eq hh).symm h
      have h3 : getN ((5, sSum) :: ids) i = getN ids i := by
        show (match Nat.beq 5 i with | true => some sSum | false => getN ids i) = _
        rw [h2]
      unfold At1 at h1 ⊢
      rw [h3]
      rw [← hb i h] at h1
      exact h1
  have hc' : c = 0 ∨ c = 1 := by omega
  cases g with
  | true =>
    have e1 : asg5 c s1 s2 true = ids := by rcases hc' with rfl | rfl <;> rfl
    rw [e1]
    refine ⟨keep.1, keep.2 ?_⟩
    rw [hu]
    cases selO c (isOut s1) (isOut s2) <;> rfl
  | false =>
    have key : asg5 c s1 s2 false = (match selO c (isOut s1) (isOut s2) with | false => (5, sSum) :: ids | true => ids) := by
      rcases hc' with rfl | rfl
      · show (match isOut s1, false with | false, false => [(5, sSum)] | _, _ => []) ++ ids = (match isOut s1 with | false => (5, sSum) :: ids | true => ids)
        cases isOut s1 <;> rfl
      · show (match isOut s2, false with | false, false => [(5, sSum)] | _, _ => []) ++ ids = (match isOut s2 with | false => (5, sSum) :: ids | true => ids)
        cases isOut s2 <;> rfl
    rw [key]
    cases ho : selO c (isOut s1) (isOut s2) with
    | false => rw [ho] at hu; exact ⟨put.1, put.2 hu⟩
    | true => rw [ho] at hu; exact ⟨keep.1, keep.2 hu⟩

theorem perm_out {c : Nat} (hc : c < 2) (s s' : Nat) (o0 o1 g : Bool) :
    ((cmn ++ (conn c s ++ xB g)) ++ (outB o0 o1 ++ conn (oth c) s')).Perm ((outB o0 o1 ++ xB g) ++ (cmn ++ (match c with | 0 => conn 0 s ++ conn 1 s' | _ => conn 0 s' ++ conn 1 s))) := by
  classical
  match c, hc with
  | 0, _ => show List.Perm ((cmn ++ (conn 0 s ++ xB g)) ++ (outB o0 o1 ++ conn 1 s')) ((outB o0 o1 ++ xB g) ++ (cmn ++ (conn 0 s ++ conn 1 s'))); rw [List.perm_iff_count]; intro x; simp only [List.count_append]; omega
  | 1, _ => show List.Perm ((cmn ++ (conn 1 s ++ xB g)) ++ (outB o0 o1 ++ conn 0 s')) ((outB o0 o1 ++ xB g) ++ (cmn ++ (conn 0 s' ++ conn 1 s))); rw [List.perm_iff_count]; intro x; simp only [List.count_append]; omega
theorem perm_full (o0 o1 g : Bool) (s1 s2 : Nat) : ((outB o0 o1 ++ xB g) ++ (cmn ++ (conn 0 s1 ++ conn 1 s2))).Perm (full o0 o1 s1 s2 ++ xB g) := by
  classical
  unfold full
  rw [List.perm_iff_count]; intro x; simp only [List.count_append]; omega
theorem nod_out {c s s' : Nat} (hc : c < 2) (hs : s < 5) (hs' : s' < 5) (o0 o1 g : Bool) : (names ((cmn ++ (conn c s ++ xB g)) ++ (outB o0 o1 ++ conn (oth c) s'))).Nodup := by
  refine perm_nodup (perm_out hc s s' o0 o1 g) ?_
  match c, hc with
  | 0, _ => exact perm_nodup (perm_full o0 o1 g s s') (nodG hs hs' o0 o1 g)
  | 1, _ => exact perm_nodup (perm_full o0 o1 g s' s) (nodG hs' hs o0 o1 g)

theorem perm_end (s1 s2 : Nat) : (outB (isOut s1) (isOut s2) ++ (cmn ++ (conn 0 s1 ++ conn 1 s2))).Perm (fullS s1 s2) := by
  classical
  unfold fullS full
  rw [List.perm_iff_count]; intro x; simp only [List.count_append]; omega

theorem nod_two {c s s' : Nat} (hc : c < 2) (hs : s < 5) (hs' : s' < 5) : (names (two c s s')).Nodup := by
  match c, hc with
  | 0, _ => exact nod hs hs'
  | 1, _ => exact nod hs' hs
/-- the piece that sends and what follows it -/
theorem tail_ok {w0 : World} {I : Ins} {l y : List Int} (inp : Inp w0 I l y) {i c s s' m : Nat} (hc : c < 2) (hs : s < 5) (hs' : s' < 5) (hm : m < 9) {v : Nu} {x : Int} {act : Act} {w : World}
    (hx : l[i]? = some x) (vi : v.i = i) (i19 : i < 20) (vlen : v.len = l.length) (vx : v.x = x) (vxh : v.xh = x.tdiv 2) (hcx : arnd x 2 = c) (hmx : arnd (x.tdiv 2) 9 = m) (vsum : v.sum = v.used + m) (vleft : v.left = v.n - v.u)
    (vqn : v.qn = v.next / 10) (vqm : v.qm = v.mt / 10) (bd : Bd v) (hu : v.u ≤ v.n) (hused : v.used ≤ v.n) (hmt : v.mt ≤ v.next) (hft : v.ft ≤ v.next) (hnx : v.next ≤ 200) (hl1 : v.l1 ≤ 200) (hl2 : v.l2 ≤ 200) (hw1 : v.w1 ≤ 200) (hw2 : v.w2 ≤ 200)
    (same : v.mt / 10 = v.next / 10 → v.u = v.used) (other : v.mt / 10 ≠ v.next / 10 → v.used = 0)
    (hat : At Tryz.prog lawU lawN w0 I (nuF v) ⟨frN, two c s s'⟩ act w) {Q : Exit → Act → World → Prop}
    (hz : ∀ (s2 : Nat) (v' : Nu) act' w', s2 < 5 → Bd v' → v'.n = v.n → v'.tick = v.tick → v'.next = v.next → v'.i = v.i → v'.len = v.len → v'.leny = v.leny → v'.ft = v.next → 0 ≤ v'.u ∧ v'.u ≤ v'.n → 0 ≤ v'.used ∧ v'.used ≤ v'.n → 0 ≤ v'.mt ∧ v'.mt ≤ v.next →
      (0 ≤ v'.l1 ∧ v'.l1 ≤ v.l1 + 8) → (0 ≤ v'.l2 ∧ v'.l2 ≤ v.l2 + 8) → (0 ≤ v'.w1 ∧ v'.w1 ≤ v.w1 + 8) → (0 ≤ v'.w2 ∧ v'.w2 ≤ v.w2 + 8) → (v'.mt / 10 = v.next / 10 → v'.u = v'.used) → (v'.mt / 10 ≠ v.next / 10 → v'.used = 0) →
      At Tryz.prog lawU lawN w0 I (nuF v') ⟨frN, two c s2 s'⟩ act' w' → Q .normal act' w') :
    (seqs k4 k5).wpIn Fence.wide 0 Tryz.prog Q act w := by
  have hxb := inp.lb x (List.mem_of_getElem? hx)
  have hil : i < l.length := (List.getElem?_eq_some_iff.1 hx).1
  have hll := inp.ll
  obtain ⟨bn, bu, btick, bmt, bft, bused, bnext, bl1, bl2, bi, blen, bleny, bw1, bw2, bmany⟩ := bd
  have hxh : -9223372036854775808 ≤ x.tdiv 2 ∧ x.tdiv 2 ≤ 9223372036854775807 := by
    rcases Int.le_total 0 x with h | h
    · rw [Int.tdiv_eq_ediv_of_nonneg h]; omega
    · have e : x.tdiv 2 = -((-x).tdiv 2) := by rw [Int.neg_tdiv]; omega
      rw [e, Int.tdiv_eq_ediv_of_nonneg (by omega)]; omega
  -- how it goes
  obtain ⟨mode, ft, hmode, hrun, hT⟩ : ∃ (mode : Nat) (ft : Bool), mode < 3 ∧ run4 c s m mode ft = true ∧
      ((isOut s = true ∧ mode = 0 ∧ ft = true) ∨ (isOut s = false ∧ mode = 1 ∧ v.mt / 10 ≠ v.next / 10 ∧ decide (v.n < m) = !ft) ∨ (isOut s = false ∧ mode = 2 ∧ v.mt / 10 = v.next / 10 ∧ decide (v.n - v.u < m) = !ft)) := by
    cases ho : isOut s with
    | true =>
      have := (isOut_iff s).1 ho; subst this
      exact ⟨0, true, by omega, send4 hc hm, .inl ⟨rfl, rfl, rfl⟩⟩
    | false =>
      have hs4 : s < 4 := by
        have : s ≠ 4 := fun e => by subst e; cases ho
        omega
      by_cases hp : v.mt / 10 = v.next / 10
      · by_cases hlt : v.n - v.u < m
        · exact ⟨2, false, by omega, (both_ok (send2 hc hs4 hm)).2 (by omega), .inr (.inr ⟨rfl, rfl, hp, by simpa using hlt⟩)⟩
        · exact ⟨2, true, by omega, (both_ok (send2 hc hs4 hm)).1, .inr (.inr ⟨rfl, rfl, hp, by simpa using hlt⟩)⟩
      · by_cases hlt : v.n < m
        · exact ⟨1, false, by omega, (both_ok (send1 hc hs4 hm)).2 (by omega), .inr (.inl ⟨rfl, rfl, hp, by simpa using hlt⟩)⟩
        · exact ⟨1, true, by omega, (both_ok (send1 hc hs4 hm)).1, .inr (.inl ⟨rfl, rfl, hp, by simpa using hlt⟩)⟩
  have hchk := run4_of hs' hrun
  -- what is told
  have t1 : ∀ ι : Emb, ι.sym = nuF v → Go.Ev.Told ι (20, sX, J 2, J (.ofNat c)) ∧ Go.Ev.ToldA ι (20, sX, J 2, J (.ofNat c)) := fun ι hι => told_arnd hι rfl rfl (by
    show V.rel ι (J (.ofNat c)) (.int .i64 (arnd v.x 2))
    rw [vx, hcx]; simp only [J, V.rel]; rfl)
  have t2 : ∀ ι : Emb, ι.sym = nuF v → Go.Ev.Told ι (3, sX, J 2, sXh) ∧ Go.Ev.ToldA ι (3, sX, J 2, sXh) := fun ι hι => told_quo hι rfl rfl (by first | (show (2 : Int) ≠ 0; decide) | (show (10 : Int) ≠ 0; decide)) (by
    show IntKind.i64.min ≤ v.x.tdiv 2 ∧ v.x.tdiv 2 ≤ IntKind.i64.max
    rw [vx]; exact hxh) (by
    show V.rel ι sXh (.int .i64 (v.x.tdiv 2))
    refine rsym hι (show v.xh = _ by rw [vxh, vx]) (by rw [vx]; exact hxh.1) (by rw [vx]; exact hxh.2))
  have t3 : ∀ ι : Emb, ι.sym = nuF v → Go.Ev.Told ι (20, sXh, J 9, J (.ofNat m)) ∧ Go.Ev.ToldA ι (20, sXh, J 9, J (.ofNat m)) := fun ι hι => told_arnd hι rfl rfl (by
    show V.rel ι (J (.ofNat m)) (.int .i64 (arnd v.xh 9))
    rw [vxh, hmx]; simp only [J, V.rel]; rfl)
  have t4 : ∀ ι : Emb, ι.sym = nuF v → Go.Ev.Told ι (7, sI, lenL, .bool true) ∧ Go.Ev.ToldA ι (7, sI, lenL, .bool true) := fun ι hι => told_lss hι rfl rfl (by
    show decide (v.i < v.len) = true
    simp only [decide_eq_true_eq]; omega)
  have t5 : ∀ ι : Emb, ι.sym = nuF v → Go.Ev.Told ι (7, sNext, sFt, .bool false) ∧ Go.Ev.ToldA ι (7, sNext, sFt, .bool false) := fun ι hι => told_lss hι rfl rfl (by
    show decide (v.next < v.ft) = false
    simp only [decide_eq_false_iff_not]; omega)
  have t6 : ∀ ι : Emb, ι.sym = nuF v → Go.Ev.Told ι (7, sNext, sMt, .bool false) ∧ Go.Ev.ToldA ι (7, sNext, sMt, .bool false) := fun ι hι => told_lss hι rfl rfl (by
    show decide (v.next < v.mt) = false
    simp only [decide_eq_false_iff_not]; omega)
  have q10 : ∀ z : Int, 0 ≤ z → z.tdiv 10 = z / 10 := fun z hz => Int.tdiv_eq_ediv_of_nonneg hz
  have t7 : ∀ ι : Emb, ι.sym = nuF v → Go.Ev.Told ι (3, sNext, J 10, sQn) ∧ Go.Ev.ToldA ι (3, sNext, J 10, sQn) := fun ι hι => told_quo hι rfl rfl (by first | (show (2 : Int) ≠ 0; decide) | (show (10 : Int) ≠ 0; decide)) (by
    show -9223372036854775808 ≤ v.next.tdiv 10 ∧ v.next.tdiv 10 ≤ 9223372036854775807
    rw [q10 _ bnext.1]; omega) (by
    show V.rel ι sQn (.int .i64 (v.next.tdiv 10))
    rw [q10 _ bnext.1]
    exact rsym hι vqn (by omega) (by omega))
  have t8 : ∀ ι : Emb, ι.sym = nuF v → Go.Ev.Told ι (3, sMt, J 10, sQm) ∧ Go.Ev.ToldA ι (3, sMt, J 10, sQm) := fun ι hι => told_quo hι rfl rfl (by first | (show (2 : Int) ≠ 0; decide) | (show (10 : Int) ≠ 0; decide)) (by
    show -9223372036854775808 ≤ v.mt.tdiv 10 ∧ v.mt.tdiv 10 ≤ 9223372036854775807
    rw [q10 _ bmt.1]; omega) (by
    show V.rel ι sQm (.int .i64 (v.mt.tdiv 10))
    rw [q10 _ bmt.1]
    exact rsym hι vqm (by omega) (by omega))
  have hT4 : AllT (nuF v) (tab4 c m mode ft) := by
    rcases hT with ⟨_, rfl, rfl⟩ | ⟨_, rfl, hne, hlt⟩ | ⟨_, rfl, heq, hlt⟩
    · exact And.intro t1 (And.intro t2 (And.intro t3 (And.intro t4 (And.intro t5 trivial))))
    · refine And.intro t1 (And.intro t2 (And.intro t3 (And.intro t4 (And.intro t5 (And.intro t6 (And.intro t7 (And.intro t8 (And.intro ?_ (And.intro ?_ trivial)))))))))
      · exact fun ι hι => told_neq hι rfl rfl (by
          show (!(v.qn == v.qm)) = true
          have : v.qn ≠ v.qm := by rw [vqn, vqm]; exact fun e => hne e.symm
          simpa using this)
      · exact fun ι hι => told_lss hι rfl rfl (by
          show decide (v.n + 0 < (Int.ofNat m)) = !ft
          rw [Int.add_zero]; exact hlt)
    · refine And.intro t1 (And.intro t2 (And.intro t3 (And.intro t4 (And.intro t5 (And.intro t6 (And.intro t7 (And.intro t8 (And.intro ?_ (And.intro ?_ (And.intro ?_ trivial))))))))))
      · exact fun ι hι => told_neq hι rfl rfl (by
          show (!(v.qn == v.qm)) = false
          have : v.qn = v.qm := by rw [vqn, vqm]; exact heq.symm
          simpa using this)
      · exact fun ι hι => told_sub hι rfl rfl (by
          show -9223372036854775808 ≤ v.n - v.u ∧ v.n - v.u ≤ 9223372036854775807
          omega) (by
          show V.rel ι sLeft (.int .i64 (v.n - v.u))
          exact rsym hι vleft (by omega) (by omega))
      · exact fun ι hι => told_lss hι rfl rfl (by
          show decide (v.left < (Int.ofNat m)) = !ft
          rw [vleft]; exact hlt)
  have htells : Tells (G4 c m mode ft) w0 I (nuF v) := by
    refine ⟨rfl, AllT.all hT4, fun e he => ?_⟩
    have he' : e ∈ ldL := he
    unfold ldL at he'
    simp only [List.mem_cons, List.not_mem_nil, or_false] at he'
    subst he'
    obtain ⟨b, st, g1, g2, g3⟩ := inp.hl i x hx
    refine ⟨by rw [inp.ps]; exact List.mem_cons_self .., b, st, .int .i64 x, g1, g2, ?_, fun ι hι => rsym hι vx (by unfold imin; omega) (by unfold imax; omega)⟩
    show w0.cell? ⟨b, st + (v.i).toNat, none⟩ = _
    rw [vi]; exact g3
  -- the numbers behind it
  obtain ⟨hbel, hfit⟩ := fit_send v m (c := c) (s := s) (mode := mode) (ft := ft) hc hs hmode
  have ha := aft_ok v m (c := c) (s := s) (mode := mode) (ft := ft) hc hmode bl1.1 bl2.1 bw1.1 bw2.1
  obtain ⟨mu0, mu1, mu2⟩ := aft_mu v m (c := c) (s := s) (mode := mode) (ft := ft) hc hmode
  generalize hv3 : aft c s m mode ft v = v3 at hfit ha mu0 mu1 mu2
  obtain ⟨a1, a2, a3, a4, a5, a6, a7, a8, a9, a10, a11, a12, a13, a14⟩ := ha
  have bmu : (0 ≤ v3.mt ∧ v3.mt ≤ v.next) ∧ (0 ≤ v3.u ∧ v3.u ≤ v.n) := by
    rcases hT with ⟨_, rfl, rfl⟩ | ⟨_, rfl, hne, hlt⟩ | ⟨_, rfl, heq, hlt⟩
    · obtain ⟨e1, e2⟩ := mu0 (.inl rfl); omega
    · cases ft with
      | false => obtain ⟨e1, e2⟩ := mu0 (.inr rfl); omega
      | true =>
        obtain ⟨e1, e2⟩ := mu1 ⟨rfl, rfl⟩
        have : ¬ v.n < m := by simpa using hlt
        omega
    · cases ft with
      | false => obtain ⟨e1, e2⟩ := mu0 (.inr rfl); omega
      | true =>
        obtain ⟨e1, e2⟩ := mu2 ⟨rfl, rfl⟩
        have : ¬ v.n - v.u < m := by simpa using hlt
        omega
  have bd3 : Bd v3 := by constructor <;> omega
  -- the piece
  have hin : At Tryz.prog lawU lawN w0 I (nuF v) ⟨frN, (cmn ++ conn c s) ++ rest4 c s s'⟩ act w := by
    exact at_perm hat (perm_in c hc s s') (nod_two hc hs hs')
  refine piece hchk v3 inp.ps hin htells hbel hfit bd3 fun act1 w1 hat1 => ?_
  show k5.wpIn Fence.wide 0 Tryz.prog Q act1 w1
  -- the law's own count
  have hnew : newS s m ft < 5 := by
    cases ho : isOut s with
    | true => rw [newS_out (.inl ho)]; omega
    | false => cases ft with
      | false => rw [newS_out (.inr rfl)]; omega
      | true => have := (newS_in (m := m) ho).1; omega
  -- g: it goes out now; o: it was out or goes out now
  have hg := goes_iff s ft
  generalize hgg : goesS s ft = g at hg hat1
  generalize hns : newS s m ft = sn at hnew hat1
  have hso : isOut sn = (isOut s || !ft) := by
    rw [← hns]
    cases ho : isOut s with
    | true => rw [newS_out (.inl ho)]; rfl
    | false => cases ft with
      | false => rw [newS_out (.inr rfl)]; rfl
      | true => rw [(newS_in ho).2]; rfl
  obtain ⟨over, hov⟩ : ∃ o : Bool, o = decide (v.n < v3.sum) := ⟨_, rfl⟩
  obtain ⟨u', hue⟩ : ∃ u' : Int, u' = nextU (isOut sn) g v3.sum v3.used := ⟨_, rfl⟩
  have hall : (g = true → over = true) ∧ (g = false → over = true → isOut sn = true) ∧ (0 ≤ u' ∧ u' ≤ v.n ∧ (v3.mt / 10 = v.next / 10 → v3.u = u') ∧ (v3.mt / 10 ≠ v.next / 10 → u' = 0)) := by
    have old : isOut sn = true → v3.mt = v.mt → v3.u = v.u → 0 ≤ u' ∧ u' ≤ v.n ∧ (v3.mt / 10 = v.next / 10 → v3.u = u') ∧ (v3.mt / 10 ≠ v.next / 10 → u' = 0) := fun h1 e1 e2 => by
      have : u' = v3.used := by rw [hue, h1]; rfl
      rw [this, e1, e2, a3]
      exact ⟨bused.1, hused, same, other⟩
    rcases hT with ⟨ho, rfl, rfl⟩ | ⟨ho, rfl, hne, hlt⟩ | ⟨ho, rfl, heq, hlt⟩
    · have hg' : g = false := by rw [hg, ho]; rfl
      have hso' : isOut sn = true := by rw [hso, ho]; rfl
      obtain ⟨e1, e2⟩ := mu0 (.inl rfl)
      exact ⟨fun h => (by rw [hg'] at h; cases h), fun _ _ => hso', old hso' e1 e2⟩
    · have h0 := other hne
      cases ft with
      | false =>
        have hso' : isOut sn = true := by rw [hso, ho]; rfl
        have : v.n < m := by simpa using hlt
        obtain ⟨e1, e2⟩ := mu0 (.inr rfl)
        refine ⟨fun _ => (by rw [hov]; simp only [decide_eq_true_eq]; omega), fun _ _ => hso', old hso' e1 e2⟩
      | true =>
        have hg' : g = false := by rw [hg, ho]; rfl
        have hso' : isOut sn = false := by rw [hso, ho]; rfl
        have : ¬ v.n < m := by simpa using hlt
        obtain ⟨e1, e2⟩ := mu1 ⟨rfl, rfl⟩
        have eu : u' = v3.sum := by rw [hue, hso', hg']; rfl
        refine ⟨fun h => (by rw [hg'] at h; cases h), fun _ h => (by rw [hov] at h; exact absurd (of_decide_eq_true h) (by omega)), by omega, by omega, fun _ => by omega, fun h => absurd (by rw [e1]) h⟩
    · have h0 := same heq
      cases ft with
      | false =>
        have hso' : isOut sn = true := by rw [hso, ho]; rfl
        have : v.n - v.u < m := by simpa using hlt
        obtain ⟨e1, e2⟩ := mu0 (.inr rfl)
        refine ⟨fun _ => (by rw [hov]; simp only [decide_eq_true_eq]; omega), fun _ _ => hso', old hso' e1 e2⟩
      | true =>
        have hg' : g = false := by rw [hg, ho]; rfl
        have hso' : isOut sn = false := by rw [hso, ho]; rfl
        have : ¬ v.n - v.u < m := by simpa using hlt
        obtain ⟨e1, e2⟩ := mu2 ⟨rfl, rfl⟩
        have eu : u' = v3.sum := by rw [hue, hso', hg']; rfl
        refine ⟨fun h => (by rw [hg'] at h; cases h), fun _ h => (by rw [hov] at h; exact absurd (of_decide_eq_true h) (by omega)), by omega, by omega, fun _ => by omega, fun h => absurd (by rw [e1]) h⟩
  obtain ⟨hov1, hov2, hu'⟩ := hall
  let v4 : Nu := { v3 with used := u' }
  have bd4 : Bd v4 := by
    obtain ⟨c1, c2, c3, c4, c5, c6, c7, c8, c9, c10, c11, c12, c13, c14, c15⟩ := bd3
    exact ⟨c1, c2, c3, c4, c5, ⟨hu'.1, by show u' ≤ 39; omega⟩, c7, c8, c9, c10, c11, c12, c13, c14, c15⟩
  have h5 : Tells (G5 over) w0 I (nuF v3) := tells rfl rfl (And.intro (fun ι hι => told_add hι rfl rfl (by
      show -9223372036854775808 ≤ v3.used + v3.many ∧ v3.used + v3.many ≤ 9223372036854775807
      omega) (by
      show V.rel ι sSum (.int .i64 (v3.used + v3.many))
      exact rsym hι (show v3.sum = _ by omega) (by omega) (by omega))) (And.intro (fun ι hι => told_gtr hι rfl rfl (by
      show decide (v3.n < v3.sum) = over
      rw [a1, hov])) trivial))
  have fin : ∀ act' w', At Tryz.prog lawU lawN w0 I (nuF v4) ⟨frN, two c sn s'⟩ act' w' → Q .normal act' w' := fun act' w' h =>
    hz sn v4 act' w' hnew bd4 a1 a2 a4 a5 a6 a7 a9 (by show 0 ≤ v3.u ∧ v3.u ≤ v3.n; omega) (by show 0 ≤ u' ∧ u' ≤ v3.n; omega) bmu.1 (by show 0 ≤ v3.l1 ∧ v3.l1 ≤ _; omega) (by show 0 ≤ v3.l2 ∧ v3.l2 ≤ _; omega)
      (by show 0 ≤ v3.w1 ∧ v3.w1 ≤ _; omega) (by show 0 ≤ v3.w2 ∧ v3.w2 ≤ _; omega) hu'.2.2.1 hu'.2.2.2 h
  have hsame4 : ∀ i, i ≠ 5 → nuF v4 i = nuF v3 i := fun i hi => by
    unfold nuF
    split <;> first | rfl | exact absurd rfl hi
  have gout : g = true → isOut sn = true := fun h => by
    rw [hso]
    rw [h] at hg
    revert hg
    cases isOut s <;> cases ft <;> decide
  have wasOut : wasF g (isOut sn) = isOut s := by
    revert hg hso
    generalize isOut sn = o
    cases g <;> cases isOut s <;> cases ft <;> cases o <;> decide
  clear hchk hrun hT4 htells hbel hfit hin hv3 t1 t2 t3 t4 t5 t6 t7 t8
  match c, hc with
  | 0, _ =>
    have hat2 := at_perm hat1 (perm_out (c := 0) (by omega) sn s' (isOut s) (isOut s') g) (nod_out (by omega) hnew hs' _ _ _)
    have hr : run5 0 sn s' g over = true := by
      cases g with
      | true => rw [hov1 rfl]; exact run5_go (c := 0) (by omega) hnew hs' (gout rfl)
      | false => exact run5_stay (c := 0) (by omega) hnew hs' (hov2 rfl)
    have ew : was5 0 0 sn g = isOut s := by rw [← wasOut]; cases g <;> rfl
    obtain ⟨f1, f2⟩ := fit_asg5 (c := 0) (s1 := sn) (s2 := s') (g := g) v3 v4 (by omega) hsame4 hue
    unfold run5 at hr
    rw [ew] at hr
    exact last hr v4 inp.ps (B := cmn ++ (conn 0 sn ++ conn 1 s')) hat2 h5 f1 f2 bd4 fun act' w' h => fin act' w' (at_perm h (perm_end sn s') (perm_nodup (perm_end sn s') (nod hnew hs')))
  | 1, _ =>
    have hat2 := at_perm hat1 (perm_out (c := 1) (by omega) sn s' (isOut s') (isOut s) g) (nod_out (by omega) hnew hs' _ _ _)
    have hr : run5 1 s' sn g over = true := by
      cases g with
      | true => rw [hov1 rfl]; exact run5_go (c := 1) (by omega) hs' hnew (gout rfl)
      | false => exact run5_stay (c := 1) (by omega) hs' hnew (hov2 rfl)
    have ew : was5 1 1 sn g = isOut s := by rw [← wasOut]; cases g <;> rfl
    obtain ⟨f1, f2⟩ := fit_asg5 (c := 1) (s1 := s') (s2 := sn) (g := g) v3 v4 (by omega) hsame4 hue
    unfold run5 at hr
    rw [ew] at hr
    exact last hr v4 inp.ps (B := cmn ++ (conn 0 s' ++ conn 1 sn)) hat2 h5 f1 f2 bd4 fun act' w' h => fin act' w' (at_perm h (perm_end s' sn) (perm_nodup (perm_end s' sn) (nod hs' hnew)))
end Go.Proofs.YtckeidfhhobmcaaGreatDoor
