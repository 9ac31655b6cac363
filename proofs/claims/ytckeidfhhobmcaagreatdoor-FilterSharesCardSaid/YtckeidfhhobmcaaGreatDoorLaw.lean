/-
  FilterShares' run: the law's loop by induction, each round by the pieces that the kernel evaluated.
-/
import Derived.Test.YtckeidfhhobmcaaGreatDoorSend0
import Derived.Test.YtckeidfhhobmcaaGreatDoorSend1
import Derived.Test.YtckeidfhhobmcaaGreatDoorPre
import Derived.LoopNIn
namespace Go.Proofs.YtckeidfhhobmcaaGreatDoor
open Go Go.Ev

/-- all the numbers that a state or what is told in it names -/
structure Nu where
  n : Int
  u : Int
  tick : Int
  mt : Int
  ft : Int
  used : Int
  w : Int
  x : Int
  xh : Int
  next : Int
  qn : Int
  qt : Int
  l1 : Int
  l2 : Int
  qm : Int
  i : Int
  len : Int
  leny : Int
  y : Int
  left : Int
  w1 : Int
  w2 : Int
  share : Int
  many : Int
  sum : Int
def nuF (v : Nu) : Nat → Int
  | 0 => v.n | 1 => v.u | 2 => v.tick | 3 => v.mt | 4 => v.ft | 5 => v.used | 6 => v.w | 7 => v.x | 8 => v.xh | 10 => v.next | 11 => v.qn | 12 => v.qt | 13 => v.l1 | 14 => v.l2 | 15 => v.qm
  | 16 => v.i | 17 => v.len | 18 => v.leny | 19 => v.y | 20 => v.left | 21 => v.w1 | 22 => v.w2 | 23 => v.share | 24 => v.many | 25 => v.sum | _ => 0
/-- the numbers that states name lie where they should -/
structure Bd (v : Nu) : Prop where
  n : 0 ≤ v.n ∧ v.n ≤ 39
  u : 0 ≤ v.u ∧ v.u ≤ 39
  tick : 0 ≤ v.tick ∧ v.tick ≤ 1000
  mt : 0 ≤ v.mt ∧ v.mt ≤ 1000
  ft : 0 ≤ v.ft ∧ v.ft ≤ 1000
  used : 0 ≤ v.used ∧ v.used ≤ 39
  next : 0 ≤ v.next ∧ v.next ≤ 1000
  l1 : 0 ≤ v.l1 ∧ v.l1 ≤ 1000
  l2 : 0 ≤ v.l2 ∧ v.l2 ≤ 1000
  i : 0 ≤ v.i ∧ v.i ≤ 20
  len : 0 ≤ v.len ∧ v.len ≤ 9223372036854775807
  leny : 0 ≤ v.leny ∧ v.leny ≤ 9223372036854775807
  w1 : 0 ≤ v.w1 ∧ v.w1 ≤ 1000
  w2 : 0 ≤ v.w2 ∧ v.w2 ≤ 1000
  many : 0 ≤ v.many ∧ v.many ≤ 8
theorem Bd.spec {v : Nu} (b : Bd v) : ∀ x ∈ spec, x.2.1 ≤ nuF v x.1 ∧ nuF v x.1 ≤ x.2.2 := by
  intro x hx
  unfold Go.Proofs.YtckeidfhhobmcaaGreatDoor.spec at hx
  simp only [List.mem_cons, List.not_mem_nil, or_false] at hx
  rcases hx with rfl | rfl | rfl | rfl | rfl | rfl | rfl | rfl | rfl | rfl | rfl | rfl | rfl | rfl | rfl
  · exact b.n
  · exact b.u
  · exact b.tick
  · exact b.mt
  · exact b.ft
  · exact b.used
  · exact b.next
  · exact b.l1
  · exact b.l2
  · exact b.i
  · exact b.len
  · exact b.leny
  · exact b.w1
  · exact b.w2
  · exact b.many

/- new numbers -/
def At1 (asg : Asg) (σ τ : Nat → Int) (i : Nat) : Prop := match getN asg i with | some u => numV σ u = τ i | none => True
def Fit (asg : Asg) (σ τ : Nat → Int) : Nat → Prop
  | 0 => True
  | k + 1 => At1 asg σ τ k ∧ Fit asg σ τ k
theorem Fit.at {asg : Asg} {σ τ : Nat → Int} : ∀ {k : Nat}, Fit asg σ τ k → ∀ i, i < k → At1 asg σ τ i
  | 0, _, i, h => absurd h (by omega)
  | k + 1, h, i, hi => by
    by_cases e : i = k
    · subst e; exact h.1
    · exact h.2.at i (by omega)
noncomputable def below26 (asg : Asg) : Bool := List.rec true (fun e _ ih => match Nat.blt e.1 26 with | true => ih | false => false) asg
theorem below26_ok : ∀ {asg : Asg}, below26 asg = true → ∀ {i : Nat} {u : V}, getN asg i = some u → i < 26
  | [], _, i, u, h => by cases h
  | e :: t, hb, i, u, h => by
    have h' : (match Nat.beq e.1 i with | true => some e.2 | false => getN t i) = some u := h
    have hb' : (match Nat.blt e.1 26 with | true => below26 t | false => false) = true := hb
    cases h1 : Nat.blt e.1 26 with
    | false => simp [h1] at hb'
    | true =>
      simp only [h1] at hb'
      cases h2 : Nat.beq e.1 i with
      | true => have := beq_eq h2; have := blt_lt h1; omega
      | false => simp only [h2] at h'; exact below26_ok hb' h'
theorem num_of {asg : Asg} {v v' : Nu} (hb : below26 asg = true) (h : Fit asg (nuF v) (nuF v') 26) (b : Bd v') : Num asg spec (nuF v) (nuF v') := by
  refine ⟨fun i u hu => ?_, fun i lo hi hs => ?_⟩
  · have h1 := h.at i (below26_ok hb hu)
    unfold At1 at h1
    rw [hu] at h1
    exact h1.symm
  · have : ∀ l : Go.Ev.Spec, getS l i = some (lo, hi) → (i, lo, hi) ∈ l := by
      intro l
      induction l with
      | nil => intro hh; cases hh
      | cons x t ih =>
        intro hh
        have h' : (match Nat.beq x.1 i with | true => some x.2 | false => getS t i) = some (lo, hi) := hh
        cases hb : Nat.beq x.1 i with
        | true =>
          rw [hb] at h'
          have e1 := beq_eq hb
          obtain ⟨x1, x2⟩ := x
          cases h'
          subst e1
          exact List.mem_cons_self ..
        | false => rw [hb] at h'; exact List.mem_cons_of_mem _ (ih h')
    exact b.spec _ (this _ hs)

/-- a piece, from the numbers v to the numbers v' -/
theorem piece {kd : Go.Ev.K} {Γ : Glo} {asg : Asg} {codes : List Code} {R R2 : List (Nat × V)} {A A2 B B2 : List (Pth × O)} (h : chk kd Γ asg codes R R2 A A2 B B2 = true) {z : Code} {Q : Exit → Act → World → Prop}
    {v : Nu} (v' : Nu) {a : Act} {w w0 : World} {I : Ins} (hI : I.ps = ps) (hat : At Tryz.prog lawU lawN w0 I (nuF v) ⟨R, A ++ B⟩ a w) (ht : Tells Γ w0 I (nuF v)) (hb : below26 asg = true) (hf : Fit asg (nuF v) (nuF v') 26) (b : Bd v')
    (hz : ∀ a' w', At Tryz.prog lawU lawN w0 I (nuF v') ⟨R2, A2 ++ B2⟩ a' w' → Exit.then (z.wpIn Fence.wide 0 Tryz.prog Q) Q kd.exit a' w') : (seqs codes z).wpIn Fence.wide 0 Tryz.prog Q a w :=
  At.chain (calG_ok Γ) mix (n := n0) (rounds := 1000000) (by rw [hI]; exact h) hat ht (num_of hb hf b) hz
theorem last {kd : Go.Ev.K} {Γ : Glo} {asg : Asg} {code : Code} {R R2 : List (Nat × V)} {A A2 B B2 : List (Pth × O)} (h : chk kd Γ asg [code] R R2 A A2 B B2 = true) {Q : Exit → Act → World → Prop}
    {v : Nu} (v' : Nu) {a : Act} {w w0 : World} {I : Ins} (hI : I.ps = ps) (hat : At Tryz.prog lawU lawN w0 I (nuF v) ⟨R, A ++ B⟩ a w) (ht : Tells Γ w0 I (nuF v)) (hb : below26 asg = true) (hf : Fit asg (nuF v) (nuF v') 26) (b : Bd v')
    (hz : ∀ a' w', At Tryz.prog lawU lawN w0 I (nuF v') ⟨R2, A2 ++ B2⟩ a' w' → Q kd.exit a' w') : code.wpIn Fence.wide 0 Tryz.prog Q a w :=
  At.last (calG_ok Γ) mix (n := n0) (rounds := 1000000) (by rw [hI]; exact h) hat ht (num_of hb hf b) hz

/- what is told -/
def AllT (σ : Nat → Int) : Tab → Prop
  | [] => True
  | e :: t => (∀ ι : Emb, ι.sym = σ → Go.Ev.Told ι e ∧ Go.Ev.ToldA ι e) ∧ AllT σ t
theorem AllT.all {σ : Nat → Int} : ∀ {t : Tab}, AllT σ t → ∀ e ∈ t, ∀ ι : Emb, ι.sym = σ → Go.Ev.Told ι e ∧ Go.Ev.ToldA ι e
  | [], _, e, he => by simp at he
  | x :: t, h, e, he => by
    rcases List.mem_cons.1 he with rfl | he
    · exact h.1
    · exact h.2.all e he
theorem tells {Γ : Glo} {w0 : World} {I : Ins} {σ : Nat → Int} (hv : Γ.val = fun _ => []) (hl : Γ.lds = []) (ht : AllT σ Γ.tab) : Tells Γ w0 I σ :=
  ⟨hv, ht.all, fun e he => by rw [hl] at he; simp at he⟩
theorem tells0 {w0 : World} {I : Ins} {σ : Nat → Int} : Tells Γ0 w0 I σ := tells rfl rfl trivial

/- the inputs -/
structure Inp (w0 : World) (I : Ins) (l y : List Int) : Prop where
  ps : I.ps = ps
  hl : ∀ (i : Nat) z, l[i]? = some z → ∃ b s, I.at' (nm 8) = some (b, s) ∧ b < w0.heap.size ∧ w0.cell? ⟨b, s + i, none⟩ = some (.int .i64 z)
  hy : ∀ (i : Nat) z, y[i]? = some z → ∃ b s, I.at' (nm 9) = some (b, s) ∧ b < w0.heap.size ∧ w0.cell? ⟨b, s + i, none⟩ = some (.int .i64 z)
  lb : ∀ z ∈ l, -9223372036854775808 ≤ z ∧ z ≤ 9223372036854775807
  yb : ∀ z ∈ y, -9223372036854775808 ≤ z ∧ z ≤ 9223372036854775807
  ll : (l.length : Int) ≤ 9223372036854775807
  yl : (y.length : Int) ≤ 9223372036854775807

/-- where the loop's head stands at the round i -/
structure Inv (l y : List Int) (i : Nat) (v : Nu) : Prop where
  hi : v.i = i
  len : v.len = l.length
  leny : v.leny = y.length
  i20 : i ≤ 20
  n : 0 ≤ v.n ∧ v.n ≤ 39
  u : 0 ≤ v.u ∧ v.u ≤ v.n
  used : 0 ≤ v.used ∧ v.used ≤ v.n
  tick : 0 ≤ v.tick ∧ v.tick ≤ 6 * i
  mt : 0 ≤ v.mt ∧ v.mt ≤ v.tick
  ft : 0 ≤ v.ft ∧ v.ft ≤ v.tick
  l1 : 0 ≤ v.l1 ∧ v.l1 ≤ 8 * i
  l2 : 0 ≤ v.l2 ∧ v.l2 ≤ 8 * i
  w1 : 0 ≤ v.w1 ∧ v.w1 ≤ 8 * i
  w2 : 0 ≤ v.w2 ∧ v.w2 ≤ 8 * i
  same : v.mt / 10 = v.tick / 10 → v.u = v.used
  other : v.mt / 10 ≠ v.tick / 10 → v.used = 0
theorem Inv.bd {l y : List Int} {i : Nat} {v : Nu} (h : Inv l y i v) (hl : (l.length : Int) ≤ 9223372036854775807) (hy : (y.length : Int) ≤ 9223372036854775807) (hn : 0 ≤ v.next ∧ v.next ≤ 1000) (hm : 0 ≤ v.many ∧ v.many ≤ 8) : Bd v := by
  obtain ⟨h1, h2, h3, h4, h5, h6, h7, h8, h9, h10, h11, h12, h13, h14, h15, h16⟩ := h
  constructor <;> first | exact hn | exact hm | omega

/-- the told numbers' kinds -/
theorem rsym {ι : Emb} {σ : Nat → Int} (hσ : ι.sym = σ) {i : Nat} {lo hi z : Int} (h : σ i = z) (h1 : lo ≤ z) (h2 : z ≤ hi) : V.rel ι (.sym i .i64 lo hi) (.int .i64 z) := by
  simp only [V.rel]; rw [hσ, h]; exact ⟨rfl, h1, h2⟩

/- blocks in another order -/
theorem hp_perm2 {l m : List (Pth × O)} (h : l.Perm m) (h1 : (names l).Nodup) (p : Pth) : (hp m).get p = (hp l).get p := by
  have h2 : (names m).Nodup := by
    rw [names_eq] at h1 ⊢
    exact ((h.map _).nodup_iff).1 h1
  cases hg : (hp l).get p with
  | some o => exact hp_get_mem h2 (h.mem_iff.1 (hp_mem hg))
  | none =>
    cases hm : (hp m).get p with
    | none => rfl
    | some o =>
      have := hp_get_mem h1 (h.mem_iff.2 (hp_mem hm))
      rw [this] at hg; cases hg
theorem at_perm {w0 : World} {I : Ins} {σ : Nat → Int} {R : List (Nat × V)} {H H2 : List (Pth × O)} {a : Act} {w : World} (h : At Tryz.prog lawU lawN w0 I σ ⟨R, H⟩ a w) (hh : H.Perm H2) (hn : (names H).Nodup) : At Tryz.prog lawU lawN w0 I σ ⟨R, H2⟩ a w :=
  h.perm fun p => hp_perm2 hh hn p
theorem nod {a b : Nat} (ha : a < 5) (hb : b < 5) : (names (fullS a b)).Nodup := by
  have h := each2_ok nodups ha hb
  cases h1 : nodupP (names (fullS a b)) with
  | true => exact nodupP_ok h1
  | false => rw [h1] at h; cases h
theorem nodX {a b : Nat} (ha : a < 5) (hb : b < 5) : (names (fullS a b ++ xB true)).Nodup := by
  have h := each2_ok nodups ha hb
  cases h1 : nodupP (names (fullS a b)) with
  | true => rw [h1] at h; exact nodupP_ok h
  | false => rw [h1] at h; cases h
theorem names_outB (a b c d : Bool) : names (outB a b) = names (outB c d) := rfl
/-- the names in whatever state, whatever the flags -/
theorem nodG {a b : Nat} (ha : a < 5) (hb : b < 5) (o0 o1 g : Bool) : (names (full o0 o1 a b ++ xB g)).Nodup := by
  have e : names (full o0 o1 a b) = names (fullS a b) := by
    unfold fullS full
    simp only [names_app, names_outB o0 o1 (isOut a) (isOut b)]
  cases g with
  | false =>
    have : full o0 o1 a b ++ xB false = full o0 o1 a b := List.append_nil _
    rw [this, e]; exact nod ha hb
  | true => rw [names_app, e, ← names_app]; exact nodX ha hb
theorem perm_nodup {l m : List (Pth × O)} (h : l.Perm m) (hn : (names m).Nodup) : (names l).Nodup := by
  rw [names_eq] at hn ⊢
  exact ((h.map _).nodup_iff).2 hn

/-- one state's blocks, its connection c and the flags apart -/
noncomputable def ins (c s s' : Nat) : List (Pth × O) := (cmn ++ conn c s) ++ rest4 c s s'
theorem perm_in (c : Nat) (hc : c < 2) (s s' : Nat) : (match c with | 0 => fullS s s' | _ => fullS s' s).Perm (ins c s s') := by
  classical
  match c, hc with
  | 0, _ =>
    show (fullS s s').Perm ((cmn ++ conn 0 s) ++ (outB (isOut s) (isOut s') ++ conn 1 s'))
    unfold fullS full
    rw [List.perm_iff_count]; intro x; simp only [List.count_append]; omega
  | 1, _ =>
    show (fullS s' s).Perm ((cmn ++ conn 1 s) ++ (outB (isOut s') (isOut s) ++ conn 0 s'))
    unfold fullS full
    rw [List.perm_iff_count]; intro x; simp only [List.count_append]; omega
end Go.Proofs.YtckeidfhhobmcaaGreatDoor
