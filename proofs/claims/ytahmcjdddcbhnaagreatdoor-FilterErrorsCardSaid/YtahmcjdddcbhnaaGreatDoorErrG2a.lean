/-
  The filter's state as a whole: its versions and connections, where they lie, and which block is whose.
  The filter's state: Use, Remove.
  The filter's state: End, Data.
  The filter's state: Install, Open; any operation.
  The law FilterErrors, walked.
-/
import Derived.Test.YtahmcjdddcbhnaaGreatDoorErrG1b
import Derived.Test.YtahmcjdddcbhnaaGreatDoorRulZW
import Derived.Test.YtahmcjdddcbhnaaGreatDoorErrG0b
import Derived.Test.YtahmcjdddcbhnaaGreatDoorInsWW
import Derived.Test.YtahmcjdddcbhnaaGreatDoorOpnWW
import Derived.Test.YtahmcjdddcbhnaaGreatDoorLivEW
namespace Go.Proofs.YtahmcjdddcbhnaaGreatDoor
open Go Go.Ev Go.RowKit Go.Imap

/-- where a version lies -/
structure VD where
  vb : Nat
  mb : Nat
  ub : Nat
  rb : Nat
  rc : Nat
  lo : Nat
  hi : Nat
  mt : Int
  us : Int
/-- where a connection lies -/
structure CD where
  cb : Nat
  wA : Option Addr
  wc : Nat
  B0 : Nat
  A : Option Addr
  ac : Nat
  bb : Nat
  sb : Nat
  k : Nat
  ι : Emb
  A2 : Option Addr
  c2 : Nat
/-- whose a block is: 0 nobody's, 1 the filter's, 2, 3 its maps', 4, 5, 10 a version's, 6 to 9 a connection's -/
abbrev Col := Nat → Nat × Nat
def isV (n : Nat) (t : Nat × Nat) : Prop := t = (4, n) ∨ t = (5, n) ∨ t = (10, n)
def isC (n : Nat) (t : Nat × Nat) : Prop := t = (6, n) ∨ t = (7, n) ∨ t = (8, n) ∨ t = (9, n)
structure VAt (w : World) (col : Col) (n : Nat) (d : VD) : Prop where
  blk : Blk w d.vb 92 #[.pointer (some ⟨d.mb, 0, none⟩), .slice (some ⟨d.rb, 0, none⟩) 1 d.rc]
  mt : MtAt w d.mb d.ub 1073741824 5 d.mt d.us
  rule : RuleAt w d.rb d.rc d.lo d.hi
  cv : col d.vb = (4, n)
  cm : ∀ b, MFt d.mb d.ub b → col b = (5, n)
  cr : ∀ b, RFt2 d.rb d.lo d.hi b → col b = (10, n)
structure CAt (w : World) (col : Col) (n vb : Nat) (c : CR) (d : CD) : Prop where
  blk : Blk w d.cb 111 #[.int .i64 c.ver, .pointer (some ⟨vb, 0, none⟩), .slice d.wA c.many.toNat d.wc, .slice d.A 1 d.ac]
  whole : w.ownsRow d.B0 5 1 (.slice d.wA c.many.toNat d.wc) c.many.toNat (bv (List.replicate c.many.toNat 0))
  hB0 : d.B0 ≤ w.heap.size
  ws : Sees w 1 (.slice d.A 1 d.ac) [flowV d.bb]
  str : BytAt w d.bb d.sb d.k (c.many.toNat : Int) d.ι d.A2 d.c2
  cc : col d.cb = (6, n)
  cw : ∀ b, (Value.slice d.wA c.many.toNat d.wc).ownBlock = some b → col b = (7, n)
  cl : ∀ b, Value.leads (.slice d.A 1 d.ac) = some b → col b = (8, n)
  cs : ∀ b, BFt d.bb d.k d.ι b → col b = (9, n)
section
variable {w w' : World} {col col' : Col} {n vb : Nat} {c : CR} {d : VD} {e : CD} {F : Nat → Prop}
theorem leads_lt {w : World} {m : Nat} {v : Value} {xs : List Value} (h : Sees w m v xs) {b : Nat} (hb : Value.leads v = some b) : b < w.heap.size := by
  obtain ⟨A, n, c, rfl, h1, h2, h3⟩ := h
  cases n with
  | zero => cases A <;> cases hb
  | succ j =>
    obtain ⟨b', s, rfl, hlt, -⟩ := h3 (by omega)
    cases hb
    exact hlt
theorem VAt.chg (h : VAt w col n d) (hc : Chg F w w') (hF : ∀ b, b < w.heap.size → F b → ¬ isV n (col b)) (hcol : ∀ b, b < w.heap.size → col' b = col b) : VAt w' col' n d := by
  have hv := h.blk.lt
  have hm : ∀ b, MFt d.mb d.ub b → b < w.heap.size := fun b hb => by
    rcases hb with rfl | rfl
    · exact h.mt.blk.lt
    · exact h.mt.used.lt
  have hr := fun b hb => h.rule.lt (b := b) hb
  refine ⟨h.blk.chg hc fun e => hF _ hv e (.inl h.cv), h.mt.chg hc (fun e => hF _ (hm _ (.inl rfl)) e (.inr (.inl (h.cm _ (.inl rfl))))) (fun e => hF _ (hm _ (.inr rfl)) e (.inr (.inl (h.cm _ (.inr rfl))))), h.rule.chg hc fun b hb e => hF _ (hr b hb) e (.inr (.inr (h.cr b hb))), (hcol _ hv).trans h.cv, fun b hb => (hcol _ (hm b hb)).trans (h.cm b hb), fun b hb => (hcol _ (hr b hb)).trans (h.cr b hb)⟩
theorem CAt.chg (h : CAt w col n vb c e) (hc : Chg F w w') (hF : ∀ b, b < w.heap.size → F b → ¬ isC n (col b)) (hcol : ∀ b, b < w.heap.size → col' b = col b) : CAt w' col' n vb c e := by
  have h1 := h.blk.lt
  have h2 := fun b hb => (World.ownsRow.lt h.whole b hb).2
  have h3 := fun b hb => leads_lt h.ws (b := b) hb
  have h4 := fun b hb => h.str.lt (b := b) hb
  exact ⟨h.blk.chg hc fun e => hF _ h1 e (.inl h.cc), row_chg h.whole hc fun b hb e => hF _ (h2 b hb) e (.inr (.inl (h.cw b hb))), Nat.le_trans h.hB0 hc.size, h.ws.chg hc fun b hb e => hF _ (h3 b hb) e (.inr (.inr (.inl (h.cl b hb)))), h.str.chg hc fun b hb e => hF _ (h4 b hb) e (.inr (.inr (.inr (h.cs b hb)))),
    (hcol _ h1).trans h.cc, fun b hb => (hcol _ (h2 b hb)).trans (h.cw b hb), fun b hb => (hcol _ (h3 b hb)).trans (h.cl b hb), fun b hb => (hcol _ (h4 b hb)).trans (h.cs b hb)⟩
end
def ptrV (V : Nat → Option VD) (n : Nat) : Option Value := (V n).map fun d => .pointer (some ⟨d.vb, 0, none⟩)
def ptrC (C : Nat → Option CD) (n : Nat) : Option Value := (C n).map fun d => .pointer (some ⟨d.cb, 0, none⟩)
/-- the filter, as the reference's one says; no more than K bytes are used of a share -/
structure FAt (w : World) (col : Col) (g vm cm : Nat) (V : Nat → Option VD) (C : Nat → Option CD) (s : RF) (K : Int) : Prop where
  blk : Blk w g 80 #[.int .i64 1073741824, .int .i64 5, .int .i64 s.tick, .int .i64 s.use, .map (some vm), .map (some cm)]
  mv : IMap w vm (ptrV V)
  mc : IMap w cm (ptrC C)
  vs : ∀ n d, V n = some d → VAt w col n d ∧ d.mt ≤ s.tick ∧ d.us ≤ K ∧ (n : Int) ∈ s.vs
  cs : ∀ n d, C n = some d → ∃ c ∈ s.cs, ∃ dv, c.num = (n : Int) ∧ V c.ver.toNat = some dv ∧ CAt w col n dv.vb c d
  sv : ∀ v ∈ s.vs, V v.toNat ≠ none
  sc : ∀ c ∈ s.cs, C c.num.toNat ≠ none
  cg : col g = (1, 0)
  cv : col vm = (2, 0)
  cc : col cm = (3, 0)
  fresh : ∀ b, w.heap.size ≤ b → (col b).1 = 0
/-- what an operation leaves -/
structure FPost (w : World) (col : Col) (g vm cm : Nat) (s' : RF) (K' : Int) (w' : World) : Prop where
  ex : ∃ col' V' C', FAt w' col' g vm cm V' C' s' K' ∧ ∀ b, b < w.heap.size → col' b = col b
  chg : Chg (fun b => (col b).1 ≠ 0) w w'
section
variable {w w' : World} {col : Col} {g vm cm : Nat} {V : Nat → Option VD} {C : Nat → Option CD} {s : RF} {K : Int} {F : Nat → Prop}
theorem isV_big {n : Nat} {t : Nat × Nat} (h : isV n t) : 3 < t.1 := by rcases h with rfl | rfl | rfl <;> simp
theorem isC_big {n : Nat} {t : Nat × Nat} (h : isC n t) : 3 < t.1 := by rcases h with rfl | rfl | rfl | rfl <;> simp
theorem FAt.vkeep (h : FAt w col g vm cm V C s K) (hc : Chg F w w') (hF : ∀ b, b < w.heap.size → F b → (col b).1 ≤ 3) {n : Nat} {d : VD} (hv : V n = some d) : VAt w' col n d :=
  (h.vs n d hv).1.chg hc (fun b hb hf hi => by have := hF b hb hf; have := isV_big hi; omega) fun _ _ => rfl
theorem FAt.ckeep (h : FAt w col g vm cm V C s K) (hc : Chg F w w') (hF : ∀ b, b < w.heap.size → F b → (col b).1 ≤ 3) {n : Nat} {d : CD} (hv : C n = some d) : ∃ c ∈ s.cs, ∃ dv, c.num = (n : Int) ∧ V c.ver.toNat = some dv ∧ CAt w' col n dv.vb c d := by
  obtain ⟨c, h1, dv, h2, h3, h4⟩ := h.cs n d hv
  exact ⟨c, h1, dv, h2, h3, h4.chg hc (fun b hb hf hi => by have := hF b hb hf; have := isC_big hi; omega) fun _ _ => rfl⟩
theorem FAt.keep (h : FAt w col g vm cm V C s K) (hc : Chg F w w') (hF : ∀ b, b < w.heap.size → F b → (col b).1 = 0) : FAt w' col g vm cm V C s K := by
  have n1 : ¬ F g := fun e => by have := hF g h.blk.lt e; rw [h.cg] at this; exact absurd this (by decide)
  have n2 : ¬ F vm := fun e => by have := hF vm h.mv.lt e; rw [h.cv] at this; exact absurd this (by decide)
  have n3 : ¬ F cm := fun e => by have := hF cm h.mc.lt e; rw [h.cc] at this; exact absurd this (by decide)
  have hF3 : ∀ b, b < w.heap.size → F b → (col b).1 ≤ 3 := fun b hb hf => by rw [hF b hb hf]; omega
  exact ⟨h.blk.chg hc n1, h.mv.same (hc.block vm h.mv.lt n2), h.mc.same (hc.block cm h.mc.lt n3), fun n d hv => ⟨h.vkeep hc hF3 hv, (h.vs n d hv).2⟩, fun n d hv => h.ckeep hc hF3 hv, h.sv, h.sc, h.cg, h.cv, h.cc, fun b hb => h.fresh b (Nat.le_trans hc.size hb)⟩
theorem FAt.bel (h : FAt w col g vm cm V C s K) (hb : Below w.heap.size w w') : FAt w' col g vm cm V C s K := h.keep (F := fun _ => False) (Chg.of_below hb) fun _ _ h => h.elim
theorem FAt.post (h : FAt w col g vm cm V C s K) (hb : Below w.heap.size w w') : FPost w col g vm cm s K w' := ⟨⟨col, V, C, h.bel hb, fun _ _ => rfl⟩, Chg.of_below hb⟩
theorem FAt.more (h : FAt w col g vm cm V C s K) {K' : Int} (hK : K ≤ K') : FAt w col g vm cm V C s K' :=
  ⟨h.blk, h.mv, h.mc, fun n d hv => ⟨(h.vs n d hv).1, (h.vs n d hv).2.1, Int.le_trans (h.vs n d hv).2.2.1 hK, (h.vs n d hv).2.2.2⟩, h.cs, h.sv, h.sc, h.cg, h.cv, h.cc, h.fresh⟩
theorem FPost.more {s' : RF} {K1 K2 : Int} (h : FPost w col g vm cm s' K1 w') (hK : K1 ≤ K2) : FPost w col g vm cm s' K2 w' := by
  obtain ⟨⟨c', V', C', a, b⟩, d⟩ := h
  exact ⟨⟨c', V', C', a.more hK, b⟩, d⟩
theorem FAt.gv (h : FAt w col g vm cm V C s K) : g ≠ vm := fun e => by have := h.cg; rw [e, h.cv] at this; cases this
theorem FAt.gc (h : FAt w col g vm cm V C s K) : g ≠ cm := fun e => by have := h.cg; rw [e, h.cc] at this; cases this
theorem FAt.vc (h : FAt w col g vm cm V C s K) : vm ≠ cm := fun e => by have := h.cv; rw [e, h.cc] at this; cases this
/-- a version is there, and where -/
theorem FAt.ver (h : FAt w col g vm cm V C s K) (hs : s.Ok) {n : Nat} : (n : Int) ∈ s.vs ↔ ∃ d, V n = some d := by
  constructor
  · intro hn
    have := h.sv _ hn
    rw [Int.toNat_natCast] at this
    cases hv : V n with
    | none => exact absurd hv this
    | some d => exact ⟨d, rfl⟩
  · rintro ⟨d, hd⟩
    exact (h.vs n d hd).2.2.2
theorem num_inj {l : List CR} (h : l.Pairwise fun a b => a.num < b.num) {a b : CR} (ha : a ∈ l) (hb : b ∈ l) (e : a.num = b.num) : a = b := by
  obtain ⟨i, hi, rfl⟩ := List.mem_iff_getElem.1 ha
  obtain ⟨j, hj, rfl⟩ := List.mem_iff_getElem.1 hb
  rcases Nat.lt_trichotomy i j with h1 | h1 | h1
  · have := List.pairwise_iff_getElem.1 h i j hi hj h1; omega
  · subst h1; rfl
  · have := List.pairwise_iff_getElem.1 h j i hj hi h1; omega
/-- a connection is there, and where -/
theorem FAt.con (h : FAt w col g vm cm V C s K) (hs : s.Ok) {c : CR} (hc : c ∈ s.cs) : ∃ d dv, C c.num.toNat = some d ∧ V c.ver.toNat = some dv ∧ CAt w col c.num.toNat dv.vb c d := by
  have := h.sc c hc
  cases hv : C c.num.toNat with
  | none => exact absurd hv this
  | some d =>
    obtain ⟨c', h1, dv, h2, h3, h4⟩ := h.cs _ d hv
    have h0 := (hs.cs c hc).1
    have e : c' = c := num_inj hs.up h1 hc (by omega)
    subst e
    exact ⟨d, dv, rfl, h3, h4⟩
theorem idx_of {cs : List CR} (hu : cs.Pairwise fun a b => a.num < b.num) {c : CR} (hc : c ∈ cs) : ∃ hi : idx cs c.num < cs.length, cs[idx cs c.num] = c := by
  obtain ⟨i, hi, e⟩ := List.mem_iff_getElem.1 hc
  have hx : idx cs c.num = i := idx_at hi (by rw [e]) fun j hj hji e2 => by
    have := List.pairwise_iff_getElem.1 hu j i hj hi hji
    rw [e] at this
    omega
  refine ⟨by omega, ?_⟩
  simp only [hx]
  exact e
theorem idx_none {cs : List CR} {n : Int} (h : ∀ c ∈ cs, c.num ≠ n) : idx cs n = cs.length := idx_no fun j hj => h _ (List.getElem_mem hj)
end
end Go.Proofs.YtahmcjdddcbhnaaGreatDoor
namespace Go.Proofs.YtahmcjdddcbhnaaGreatDoor
open Go Go.Ev Go.RowKit Go.Imap

section
variable {w w' : World} {col : Col} {g vm cm : Nat} {V V' : Nat → Option VD} {C C' : Nat → Option CD} {s s' : RF} {K : Int} {F : Nat → Prop}
/-- what stays of versions and connections, where the filter and its maps are stored anew -/
theorem FAt.anew (h : FAt w col g vm cm V C s K) (hc : Chg F w w') (blk' : Blk w' g 80 #[.int .i64 1073741824, .int .i64 5, .int .i64 s'.tick, .int .i64 s'.use, .map (some vm), .map (some cm)]) (mv' : IMap w' vm (ptrV V')) (mc' : IMap w' cm (ptrC C'))
    (hV : ∀ n d, V' n = some d → V n = some d ∧ (n : Int) ∈ s'.vs ∧ ∀ b, b < w.heap.size → F b → ¬ isV n (col b)) (hC : ∀ n d, C' n = some d → C n = some d ∧ (∀ c ∈ s.cs, c.num = (n : Int) → c ∈ s'.cs ∧ V' c.ver.toNat = V c.ver.toNat) ∧ ∀ b, b < w.heap.size → F b → ¬ isC n (col b))
    (ht : s.tick ≤ s'.tick) (sv' : ∀ v ∈ s'.vs, V' v.toNat ≠ none) (sc' : ∀ c ∈ s'.cs, C' c.num.toNat ≠ none) : FAt w' col g vm cm V' C' s' K := by
  refine ⟨blk', mv', mc', fun n d hd => ?_, fun n d hd => ?_, sv', sc', h.cg, h.cv, h.cc, fun b hb => h.fresh b (Nat.le_trans hc.size hb)⟩
  · obtain ⟨h1, h2, h3⟩ := hV n d hd
    obtain ⟨a1, a2, a3, -⟩ := h.vs n d h1
    exact ⟨a1.chg hc h3 fun _ _ => rfl, Int.le_trans a2 ht, a3, h2⟩
  · obtain ⟨h1, h2, h3⟩ := hC n d hd
    obtain ⟨c, a1, dv, a2, a3, a4⟩ := h.cs n d h1
    obtain ⟨k1, k2⟩ := h2 c a1 a2
    exact ⟨c, k1, dv, a2, k2.trans a3, a4.chg hc h3 fun _ _ => rfl⟩
theorem FAt.atV_no (h : FAt w col g vm cm V C s K) {n : Int} (hn : n ∉ s.vs) : atI (ptrV V) n = none := by
  unfold atI
  split
  · rfl
  · unfold ptrV
    cases hv : V n.toNat with
    | none => rfl
    | some d =>
      have := (h.vs _ d hv).2.2.2
      rw [Int.toNat_of_nonneg (by omega)] at this
      exact absurd this hn
theorem FAt.atV (h : FAt w col g vm cm V C s K) (hs : s.Ok) {n : Int} (hn : n ∈ s.vs) : ∃ d, V n.toNat = some d ∧ ptrV V n.toNat = some (.pointer (some ⟨d.vb, 0, none⟩)) ∧ atI (ptrV V) n = some (.pointer (some ⟨d.vb, 0, none⟩)) ∧ 0 ≤ n ∧ n ≤ 3 := by
  have h0 := hs.vs n hn
  cases hv : V n.toNat with
  | none => exact absurd hv (h.sv n hn)
  | some d =>
    have : ptrV V n.toNat = some (.pointer (some ⟨d.vb, 0, none⟩)) := by unfold ptrV; rw [hv]; rfl
    exact ⟨d, rfl, this, by unfold atI; rw [if_neg (by omega)]; exact this, h0⟩
theorem FAt.atC_no (h : FAt w col g vm cm V C s K) {n : Int} (hn : ∀ c ∈ s.cs, c.num ≠ n) : atI (ptrC C) n = none := by
  unfold atI
  split
  · rfl
  · unfold ptrC
    cases hv : C n.toNat with
    | none => rfl
    | some d =>
      obtain ⟨c, h1, _, h2, _⟩ := h.cs _ d hv
      rw [Int.toNat_of_nonneg (by omega)] at h2
      exact absurd h2 (hn c h1)
theorem contains_iff {l : List Int} {n : Int} : l.contains n = false ↔ n ∉ l := by
  rw [Bool.eq_false_iff, ne_eq, List.contains_iff_mem]
theorem fuse_step (h : FAt w col g vm cm V C s K) (hs : s.Ok) {n : Int} (hn : -1 ≤ n ∧ n ≤ 3) :
    Calls Tryz.prog 18 #[.pointer (some ⟨g, 0, none⟩), .int .i64 n] w fun e w' => e = .returned (.int .i64 (s.usen n).1) ∧ FPost w col g vm cm (s.usen n).2 K w' := by
  unfold RF.usen
  by_cases hc : s.vs.contains n = false
  · rw [if_pos hc]
    refine (quse_no h.blk h.mv (by omega) (h.atV_no (contains_iff.1 hc))).mono ?_
    rintro e w' ⟨rfl, rfl⟩
    exact ⟨rfl, h.post (Below.refl _ _)⟩
  · rw [if_neg hc]
    have hin : n ∈ s.vs := by
      have : s.vs.contains n = true := by simpa using hc
      exact List.contains_iff_mem.1 this
    obtain ⟨d, h1, h2, h3, h4⟩ := h.atV hs hin
    refine (quse_ok h.blk h.mv (by omega) h3).mono ?_
    rintro e w' ⟨rfl, rfl⟩
    have hC : Chg (fun b => b = g) w (w.setCell ⟨g, 3, none⟩ (.int .i64 n)) := Chg.setCell (F := fun b => b = g) (Chg.refl _ w) (p := ⟨g, 3, none⟩) (.inr rfl) _
    have hb := h.blk.put 3 (.int .i64 n)
    refine ⟨rfl, ⟨col, V, C, h.anew (s' := { s with use := n }) hC (by simpa using hb) (h.mv.same (hC.block _ h.mv.lt fun e => h.gv e.symm)) (h.mc.same (hC.block _ h.mc.lt fun e => h.gc e.symm)) (fun m d hd => ⟨hd, (h.vs m d hd).2.2.2, fun b _ e hi => by subst e; have := isV_big hi; rw [h.cg] at this; exact absurd this (by decide)⟩)
      (fun m d hd => ⟨hd, fun c hc _ => ⟨hc, rfl⟩, fun b _ e hi => by subst e; have := isC_big hi; rw [h.cg] at this; exact absurd this (by decide)⟩) (Int.le_refl _) h.sv h.sc, fun _ _ => rfl⟩, hC.more fun b _ e => by subst e; rw [h.cg]; decide⟩
/-- the version of the connection with a number -/
def verOf (cs : List CR) (n : Nat) : Int := ((cs[idx cs (n : Int)]?).map CR.ver).getD 0
theorem verOf_of {cs : List CR} (hu : cs.Pairwise fun a b => a.num < b.num) {c : CR} (hc : c ∈ cs) {n : Nat} (e : c.num = (n : Int)) : verOf cs n = c.ver := by
  obtain ⟨hi, h1⟩ := idx_of hu hc
  unfold verOf
  rw [← e, List.getElem?_eq_getElem hi, h1]
  rfl
theorem ptrC_some {n : Nat} {v : Value} (h : ptrC C n = some v) : ∃ d, C n = some d ∧ v = .pointer (some ⟨d.cb, 0, none⟩) := by
  unfold ptrC at h
  cases hd : C n with
  | none => rw [hd] at h; cases h
  | some d => rw [hd] at h; cases h; exact ⟨d, rfl, rfl⟩
theorem frem_step (h : FAt w col g vm cm V C s K) (hs : s.Ok) {n : Int} (hn : -1 ≤ n ∧ n ≤ 3) :
    Calls Tryz.prog 19 #[.pointer (some ⟨g, 0, none⟩), .int .i64 n] w fun e w' => e = .returned (.int .i64 (s.rem n).1) ∧ FPost w col g vm cm (s.rem n).2 K w' := by
  unfold RF.rem
  by_cases hc : s.vs.contains n = false
  · rw [if_pos hc]
    refine (qremove_no h.blk h.mv (by omega) (h.atV_no (contains_iff.1 hc))).mono ?_
    rintro e w' ⟨rfl, rfl⟩
    exact ⟨rfl, h.post (Below.refl _ _)⟩
  · rw [if_neg hc]
    have hin : n ∈ s.vs := by
      have : s.vs.contains n = true := by simpa using hc
      exact List.contains_iff_mem.1 this
    obtain ⟨d, h1, h2, h3, h4⟩ := h.atV hs hin
    by_cases hu : s.use = n
    · rw [if_pos hu]
      have hb := h.blk
      rw [hu] at hb
      refine (qremove_cur hb h.mv (by omega) h3).mono ?_
      rintro e w' ⟨rfl, rfl⟩
      exact ⟨rfl, h.post (Below.refl _ _)⟩
    · rw [if_neg hu]
      have hnn : ((n.toNat : Nat) : Int) = n := by omega
      have hw := qremove_rng (ver := verOf s.cs) (n := n.toNat) h.blk h.mv h.mc (by omega) h2 (by omega) fun m v hv => by
        obtain ⟨dc, e1, rfl⟩ := ptrC_some hv
        obtain ⟨c, k1, dv, k2, k3, k4⟩ := h.cs m dc e1
        have := k4.blk.at' 0
        simp at this
        exact ⟨dc.cb, rfl, k4.blk.lt, by rw [verOf_of hs.up k1 k2]; exact this⟩
      rw [hnn] at hw
      refine hw.mono ?_
      rintro e w' (⟨⟨m, g1, g2⟩, rfl, hB⟩ | ⟨hfree, rfl, hM, hC⟩)
      · cases hv : ptrC C m with
        | none => exact absurd hv g1
        | some v =>
          obtain ⟨dc, e1, -⟩ := ptrC_some hv
          obtain ⟨c, k1, dv, k2, -⟩ := h.cs m dc e1
          have hany : s.cs.any (fun c => c.ver == n) = true := List.any_eq_true.2 ⟨c, k1, by rw [verOf_of hs.up k1 k2] at g2; simpa using g2⟩
          rw [if_pos hany]
          exact ⟨rfl, h.post hB⟩
      · have hno : ∀ c ∈ s.cs, c.ver ≠ n := fun c hc => by
          obtain ⟨dc, dv, k1, k2, k3⟩ := h.con hs hc
          have h0 := (hs.cs c hc).1
          have := hfree c.num.toNat (by unfold ptrC; rw [k1]; simp)
          rw [verOf_of hs.up hc (by omega)] at this
          exact this
        have hany : ¬ s.cs.any (fun c => c.ver == n) = true := fun hh => by
          obtain ⟨c, k1, k2⟩ := List.any_eq_true.1 hh
          exact hno c k1 (by simpa using k2)
        rw [if_neg hany]
        have hgv := h.gv
        have hvc := h.vc
        refine ⟨rfl, ⟨col, fun u => if u = n.toNat then none else V u, C, h.anew (s' := { s with vs := s.vs.filter fun v => v != n }) hC (h.blk.chg hC hgv) ?_ (h.mc.same (hC.block _ h.mc.lt fun e => hvc e.symm)) (fun m d hd => ?_) (fun m d hd => ?_) (Int.le_refl _) (fun v hv => ?_) h.sc, fun _ _ => rfl⟩, hC.more fun b _ e => by subst e; rw [h.cv]; decide⟩
        · have e : (ptrV fun u => if u = n.toNat then none else V u) = fun u => if u = n.toNat then none else ptrV V u := by
            funext u
            unfold ptrV
            by_cases hu : u = n.toNat <;> simp [hu]
          rw [e]
          exact hM
        · have hd' : (if m = n.toNat then none else V m) = some d := hd
          split at hd'
          · cases hd'
          · rename_i hmn
            refine ⟨hd', List.mem_filter.2 ⟨(h.vs m d hd').2.2.2, ?_⟩, fun b _ e hi => by subst e; have := isV_big hi; rw [h.cv] at this; exact absurd this (by decide)⟩
            simp only [bne_iff_ne, ne_eq]
            omega
        · refine ⟨hd, fun c hc _ => ⟨hc, ?_⟩, fun b _ e hi => by subst e; have := isC_big hi; rw [h.cv] at this; exact absurd this (by decide)⟩
          have h0 := hs.vs _ (hs.cs c hc).2.1
          have := hno c hc
          rw [if_neg (by omega)]
        · obtain ⟨v1, v2⟩ := List.mem_filter.1 hv
          have h0 := hs.vs v v1
          simp only [bne_iff_ne, ne_eq] at v2
          rw [if_neg (by omega)]
          exact h.sv v v1
end
end Go.Proofs.YtahmcjdddcbhnaaGreatDoor
namespace Go.Proofs.YtahmcjdddcbhnaaGreatDoor
open Go Go.Ev Go.RowKit Go.Imap

theorem lateE_le {tk t : Int} (h : lateE tk t = 0) : tk ≤ t ∧ 0 ≤ t ∧ t ≤ 1099511627776 := by
  unfold lateE at h
  split at h
  · cases h
  · split at h
    · cases h
    · omega
theorem mem_del {cs : List CR} (hu : cs.Pairwise fun a b => a.num < b.num) {x : CR} (hx : x ∈ cs) {c : CR} : c ∈ cs.take (idx cs x.num) ++ cs.drop (idx cs x.num + 1) ↔ c ∈ cs ∧ c.num ≠ x.num := by
  obtain ⟨hi, e⟩ := idx_of hu hx
  rw [← List.eraseIdx_eq_take_drop_succ, List.mem_eraseIdx_iff_getElem]
  constructor
  · rintro ⟨j, hj, hne, rfl⟩
    refine ⟨List.getElem_mem hj, fun e2 => ?_⟩
    rcases Nat.lt_or_ge j (idx cs x.num) with h1 | h1
    · have := List.pairwise_iff_getElem.1 hu j _ hj hi h1
      rw [e] at this
      omega
    · have := List.pairwise_iff_getElem.1 hu _ j hi hj (by omega)
      rw [e] at this
      omega
  · rintro ⟨hc, hne⟩
    obtain ⟨j, hj, rfl⟩ := List.mem_iff_getElem.1 hc
    exact ⟨j, hj, fun e2 => hne (by subst e2; rw [e]), rfl⟩
theorem mem_put {cs : List CR} (hu : cs.Pairwise fun a b => a.num < b.num) {x y : CR} (hx : x ∈ cs) {c : CR} : c ∈ cs.set (idx cs x.num) y ↔ c = y ∨ (c ∈ cs ∧ c.num ≠ x.num) := by
  obtain ⟨hi, e⟩ := idx_of hu hx
  constructor
  · intro h
    obtain ⟨j, hj, ej⟩ := List.mem_iff_getElem.1 h
    rw [List.getElem_set] at ej
    split at ej
    · exact .inl ej.symm
    · rename_i hne
      rw [List.length_set] at hj
      have : c ∈ cs.eraseIdx (idx cs x.num) := List.mem_eraseIdx_iff_getElem.2 ⟨j, hj, fun e2 => hne e2.symm, ej⟩
      rw [List.eraseIdx_eq_take_drop_succ] at this
      exact .inr ((mem_del hu hx).1 this)
  · rintro (rfl | hc)
    · exact List.mem_iff_getElem.2 ⟨idx cs x.num, by rw [List.length_set]; exact hi, by simp⟩
    · have := (mem_del hu hx).2 hc
      rw [← List.eraseIdx_eq_take_drop_succ, List.mem_eraseIdx_iff_getElem] at this
      obtain ⟨j, hj, hne, ej⟩ := this
      refine List.mem_iff_getElem.2 ⟨j, by rw [List.length_set]; exact hj, ?_⟩
      rw [List.getElem_set, if_neg (fun e2 => hne e2.symm)]
      exact ej
/-- is there a connection with a number? -/
theorem idx_cases {cs : List CR} (hu : cs.Pairwise fun a b => a.num < b.num) (n : Int) : (cs[idx cs n]? = none ∧ ∀ c ∈ cs, c.num ≠ n) ∨ ∃ c ∈ cs, c.num = n ∧ cs[idx cs n]? = some c := by
  by_cases h : ∃ c ∈ cs, c.num = n
  · obtain ⟨c, hc, rfl⟩ := h
    obtain ⟨hi, e⟩ := idx_of hu hc
    exact .inr ⟨c, hc, rfl, by rw [List.getElem?_eq_getElem hi, e]⟩
  · have h' : ∀ c ∈ cs, c.num ≠ n := fun c hc e => h ⟨c, hc, e⟩
    refine .inl ⟨?_, h'⟩
    rw [idx_none h', List.getElem?_eq_none (Nat.le_refl _)]
section
variable {w w' : World} {col : Col} {g vm cm : Nat} {V : Nat → Option VD} {C : Nat → Option CD} {s : RF} {K : Int}
theorem ffin_step (h : FAt w col g vm cm V C s K) (hs : s.Ok) {n t : Int} (hn : -1 ≤ n ∧ n ≤ 3) :
    Calls Tryz.prog 22 #[.pointer (some ⟨g, 0, none⟩), .int .i64 n, .int .i64 t] w fun e w' => e = .returned (.tuple #[.slice none 0 0, .int .i64 (s.fin n t).1]) ∧ FPost w col g vm cm (s.fin n t).2 K w' := by
  unfold RF.fin
  by_cases hl : lateE s.tick t ≠ 0
  · rw [if_pos hl]
    refine (qend_late h.blk hl).mono ?_
    rintro e w' ⟨rfl, rfl⟩
    exact ⟨rfl, h.post (Below.refl _ _)⟩
  rw [if_neg hl]
  have hl0 : lateE s.tick t = 0 := Classical.not_not.1 hl
  rcases idx_cases hs.up n with ⟨hi, hno⟩ | ⟨c, hc, rfl, hi⟩
  · rw [hi]
    refine (qend_no h.blk h.mc (by omega) (h.atC_no hno) hl0).mono ?_
    rintro e w' ⟨rfl, hB⟩
    exact ⟨rfl, h.post hB⟩
  rw [hi]
  obtain ⟨d, dv, k1, k2, k3⟩ := h.con hs hc
  have h0 := (hs.cs c hc).1
  have hv := (h.vs _ dv k2).1
  have hnn : ((c.num.toNat : Nat) : Int) = c.num := by omega
  have hf : ptrC C c.num.toNat = some (.pointer (some ⟨d.cb, 0, none⟩)) := by unfold ptrC; rw [k1]; rfl
  have hst := k3.cs
  have ne9 : ∀ {b : Nat} {t : Nat × Nat}, col b = t → t.1 ≠ 9 → ¬ BFt d.bb d.k d.ι b := fun {b t} e h9 hb => by rw [hst b hb] at e; subst e; exact h9 rfl
  have hw := qend_ok (s := c.num.toNat) h.blk h.mc (by omega) hf hl0 k3.blk ⟨_, _, _, rfl⟩ k3.ws hv.blk k3.str (ne9 k3.cc (by simp)) (ne9 h.cg (by decide)) (ne9 h.cc (by decide)) fun b hb => by
    have e := k3.cl b hb
    refine ⟨fun e2 => ?_, fun e2 => ?_⟩
    · subst e2; rw [h.cg] at e; cases e
    · subst e2; rw [h.cc] at e; cases e
  rw [hnn] at hw
  refine hw.mono ?_
  rintro e w' ⟨rfl, q1, q2, q3⟩
  have hF : ∀ b, (b = g ∨ b = cm ∨ BFt d.bb d.k d.ι b) → col b = (1, 0) ∨ col b = (3, 0) ∨ col b = (9, c.num.toNat) := fun b hb => by
    rcases hb with rfl | rfl | hb
    · exact .inl h.cg
    · exact .inr (.inl h.cc)
    · exact .inr (.inr (hst b hb))
  have hvm : ¬ (vm = g ∨ vm = cm ∨ BFt d.bb d.k d.ι vm) := fun e => by
    rcases hF vm e with e | e | e <;> rw [h.cv] at e <;> cases e
  obtain ⟨t1, t2, t3⟩ := lateE_le hl0
  refine ⟨rfl, ⟨col, V, fun u => if u = c.num.toNat then none else C u, h.anew (s' := { s with cs := s.cs.take (idx s.cs c.num) ++ s.cs.drop (idx s.cs c.num + 1), tick := t }) q3 q1 (h.mv.same (q3.block _ h.mv.lt hvm)) ?_ (fun m x hx => ⟨hx, (h.vs m x hx).2.2.2, fun b _ e hi => ?_⟩) (fun m x hx => ?_) t1 h.sv (fun c' hc' => ?_), fun _ _ => rfl⟩, q3.more fun b _ e => ?_⟩
  · have e : (ptrC fun u => if u = c.num.toNat then none else C u) = fun u => if u = c.num.toNat then none else ptrC C u := by
      funext u
      unfold ptrC
      by_cases hu : u = c.num.toNat <;> simp [hu]
    rw [e]
    exact q2
  · rcases hF b e with e | e | e <;> rw [e] at hi <;> rcases hi with hi | hi | hi <;> cases hi
  · have hx' : (if m = c.num.toNat then none else C m) = some x := hx
    split at hx'
    · cases hx'
    · rename_i hmn
      refine ⟨hx', fun c' hc' e' => ⟨(mem_del hs.up hc).2 ⟨hc', by omega⟩, rfl⟩, fun b _ e hi => ?_⟩
      rcases hF b e with e | e | e <;> rw [e] at hi <;> rcases hi with hi | hi | hi | hi <;> cases hi
      exact hmn rfl
  · obtain ⟨a1, a2⟩ := (mem_del hs.up hc).1 hc'
    have h1 := (hs.cs c' a1).1
    rw [if_neg (by omega)]
    exact h.sc c' a1
  · rcases hF b e with e | e | e <;> rw [e] <;> simp
/-- new blocks are of two kinds -/
def col2 (col : Col) (a b c : Nat) (t1 t2 : Nat × Nat) : Col := fun k => if k < a then col k else if k < b then t1 else if k < c then t2 else (0, 0)
theorem usedAt_le {pe tk us t : Int} (h : 0 ≤ us) : usedAt pe tk us t ≤ us := by
  unfold usedAt
  split
  · exact h
  · exact Int.le_refl _
set_option maxHeartbeats 1000000 in
theorem fsnd_step (h : FAt w col g vm cm V C s K) (hs : s.Ok) {n t : Int} (hn : -1 ≤ n ∧ n ≤ 3) {pA : Option Addr} {m pc : Nat} (hm : m ≤ 40000) (hp : Sees w 1 (.slice pA m pc) (bv (List.replicate m 0))) (hp0 : ∀ b, Value.leads (.slice pA m pc) = some b → (col b).1 = 0) (hK : K + m ≤ 1000000000) (hK0 : 0 ≤ K) :
    Calls Tryz.prog 21 #[.pointer (some ⟨g, 0, none⟩), .int .i64 n, .slice pA m pc, .int .i64 t] w fun e w' => e = .returned (.tuple #[.slice none 0 0, .int .i64 (s.snd n t m).1]) ∧ FPost w col g vm cm (s.snd n t m).2 (K + m) w' := by
  unfold RF.snd
  by_cases hl : lateE s.tick t ≠ 0
  · rw [if_pos hl]
    refine (qdata_late h.blk hl).mono ?_
    rintro e w' ⟨rfl, hB⟩
    exact ⟨rfl, (h.post hB).more (by omega)⟩
  rw [if_neg hl]
  have hl0 : lateE s.tick t = 0 := Classical.not_not.1 hl
  rcases idx_cases hs.up n with ⟨hi, hno⟩ | ⟨c, hc, rfl, hi⟩
  · rw [hi]
    refine (qdata_no h.blk h.mc (by omega) (h.atC_no hno) hl0).mono ?_
    rintro e w' ⟨rfl, hB⟩
    exact ⟨rfl, (h.post hB).more (by omega)⟩
  rw [hi]
  obtain ⟨d, dv, k1, k2, k3⟩ := h.con hs hc
  obtain ⟨h0, -, hmany, hmany2⟩ := hs.cs c hc
  obtain ⟨hv, hvt, hvu, -⟩ := h.vs _ dv k2
  have hnn : ((c.num.toNat : Nat) : Int) = c.num := by omega
  have hmm : ((c.many.toNat : Nat) : Int) = c.many := by omega
  have hf : ptrC C c.num.toNat = some (.pointer (some ⟨d.cb, 0, none⟩)) := by unfold ptrC; rw [k1]; rfl
  have hat : atI (ptrC C) c.num = some (.pointer (some ⟨d.cb, 0, none⟩)) := by unfold atI; rw [if_neg (by omega)]; exact hf
  show Calls _ _ _ _ fun e w' => e = .returned (.tuple #[.slice none 0 0, .int .i64 (if 65536 < c.many + (m : Int) then ((4 : Int), s) else (0, { s with cs := s.cs.set (idx s.cs c.num) { c with many := c.many + m }, tick := t })).1]) ∧ FPost w col g vm cm (if 65536 < c.many + (m : Int) then ((4 : Int), s) else (0, { s with cs := s.cs.set (idx s.cs c.num) { c with many := c.many + m }, tick := t })).2 (K + m) w'
  by_cases hbig : 65536 < c.many + (m : Int)
  · rw [if_pos hbig]
    refine (qdata_much h.blk h.mc (by omega) hat hl0 k3.blk (by omega) (by omega) (by omega)).mono ?_
    rintro e w' ⟨rfl, hB⟩
    exact ⟨rfl, (h.post hB).more (by omega)⟩
  rw [if_neg hbig]
  obtain ⟨t1, t2, t3⟩ := lateE_le hl0
  have hst := k3.cs
  have hmt := hv.cm
  have huse := hv.mt.hus
  have hul := usedAt_le (pe := 5) (tk := dv.mt) (us := dv.us) (t := t) huse.1
  have hu0 : 0 ≤ usedAt 5 dv.mt dv.us t := by
    unfold usedAt
    split
    · exact Int.le_refl _
    · exact huse.1
  have hown : ∀ b, (b = g ∨ b = d.cb ∨ (Value.slice d.wA c.many.toNat d.wc).ownBlock = some b) → col b = (1, 0) ∨ col b = (6, c.num.toNat) ∨ col b = (7, c.num.toNat) := fun b hb => by
    rcases hb with rfl | rfl | hb
    · exact .inl h.cg
    · exact .inr (.inl k3.cc)
    · exact .inr (.inr (k3.cw b hb))
  have hfoot : ∀ b, (MFt dv.mb dv.ub b ∨ BFt d.bb d.k d.ι b) → col b = (5, c.ver.toNat) ∨ col b = (9, c.num.toNat) := fun b hb => hb.imp (hmt b) (hst b)
  have hw := qdata_ok (s := c.num.toNat) (n := m) h.blk h.mc (t := t) (by omega) hf hl0 k3.blk k3.whole k3.hB0 hp (by omega) k3.ws hv.blk hv.mt k3.str
    (fun b hb hb2 => by have e1 := hst b hb; have e2 := hmt b hb2; rw [e1] at e2; cases e2) ⟨by omega, t3⟩ (by omega) (by omega)
    (fun b hb hb2 => by rcases hfoot b hb with e1 | e1 <;> rcases hown b hb2 with e2 | e2 | e2 <;> rw [e1] at e2 <;> cases e2)
    (fun b hb hb2 => by have e1 := k3.cl b hb; rcases hown b hb2 with e2 | e2 | e2 <;> rw [e1] at e2 <;> cases e2)
    (fun b hb => ⟨fun hb2 => (by have e1 := hp0 b hb; rcases hown b hb2 with e2 | e2 | e2 <;> rw [e2] at e1 <;> cases e1), fun hb2 => (by have e1 := hp0 b hb; rw [hmt b hb2] at e1; cases e1)⟩)
  rw [hnn] at hw
  refine hw.mono ?_
  rintro e w' ⟨rfl, A4, c4, w5, g5, m5, y5, r5, at5, C5, fed⟩
  obtain ⟨kk, ι2, A2, c2, hB2, hF2⟩ := fed.byt
  have hC : Chg (fun b => (b = g ∨ b = d.cb ∨ (Value.slice d.wA c.many.toNat d.wc).ownBlock = some b) ∨ MFt dv.mb dv.ub b ∨ BFt d.bb d.k d.ι b) w w' := (C5.more fun _ _ e => .inl e).trans fed.chg fun _ _ e => .inr e
  have hFc : ∀ b, ((b = g ∨ b = d.cb ∨ (Value.slice d.wA c.many.toNat d.wc).ownBlock = some b) ∨ MFt dv.mb dv.ub b ∨ BFt d.bb d.k d.ι b) → col b = (1, 0) ∨ col b = (6, c.num.toNat) ∨ col b = (7, c.num.toNat) ∨ col b = (5, c.ver.toNat) ∨ col b = (9, c.num.toNat) := fun b hb => by
    rcases hb with hb | hb
    · rcases hown b hb with e | e | e
      · exact .inl e
      · exact .inr (.inl e)
      · exact .inr (.inr (.inl e))
    · rcases hfoot b hb with e | e
      · exact .inr (.inr (.inr (.inl e)))
      · exact .inr (.inr (.inr (.inr e)))
  have hfl : ∀ b, (MFt dv.mb dv.ub b ∨ BFt d.bb d.k d.ι b) → b < w.heap.size := fun b hb => by
    rcases hb with (rfl | rfl) | hb
    · exact hv.mt.blk.lt
    · exact hv.mt.used.lt
    · exact k3.str.lt hb
  have s5 := C5.size
  have s6 := fed.chg.size
  let col' : Col := col2 col w.heap.size w5.heap.size w'.heap.size (7, c.num.toNat) (9, c.num.toNat)
  have hold : ∀ b, b < w.heap.size → col' b = col b := fun b hb => if_pos hb
  have hnew7 : ∀ b, w.heap.size ≤ b → b < w5.heap.size → col' b = (7, c.num.toNat) := fun b h1 h2 => by
    show (if b < w.heap.size then col b else if b < w5.heap.size then _ else _) = _
    rw [if_neg (by omega), if_pos h2]
  have hnew9 : ∀ b, w5.heap.size ≤ b → b < w'.heap.size → col' b = (9, c.num.toNat) := fun b h1 h2 => by
    show (if b < w.heap.size then col b else if b < w5.heap.size then _ else if b < w'.heap.size then _ else _) = _
    rw [if_neg (by omega), if_neg (by omega), if_pos h2]
  have nf : ∀ {b : Nat} {t : Nat × Nat}, col b = t → t.1 ≠ 5 → t.1 ≠ 9 → ¬ (MFt dv.mb dv.ub b ∨ BFt d.bb d.k d.ι b) := fun {b t} e n5 n9 hb => by
    rcases hfoot b hb with e2 | e2 <;> rw [e2] at e <;> subst e
    · exact n5 rfl
    · exact n9 rfl
  have hlen : (c.many + (m : Int)).toNat = c.many.toNat + m := by omega
  have hown5 : ∀ b, (Value.slice A4 (c.many.toNat + m) c4).ownBlock = some b → b < w'.heap.size ∧ col' b = (7, c.num.toNat) ∧ ¬ (MFt dv.mb dv.ub b ∨ BFt d.bb d.k d.ι b) := fun b hb => by
    have hlt := (World.ownsRow.lt r5 b hb).2
    rcases at5 with e | ⟨q, e, hq⟩
    · rw [e] at hb
      have hlw := (World.ownsRow.lt k3.whole b hb).2
      exact ⟨by omega, (hold b hlw).trans (k3.cw b hb), nf (k3.cw b hb) (by simp) (by simp)⟩
    · rw [hb] at e
      cases e
      exact ⟨by omega, hnew7 b hq hlt, fun hx => by have := hfl b hx; omega⟩
  refine ⟨rfl, ⟨col', fun u => if u = c.ver.toNat then some { dv with mt := t, us := usedAt 5 dv.mt dv.us t + m } else V u, fun u => if u = c.num.toNat then some { d with wA := A4, wc := c4, k := kk, ι := ι2, A2 := A2, c2 := c2 } else C u, ⟨?_, ?_, ?_, fun u x hx => ?_, fun u x hx => ?_, fun v hv' => ?_, fun c' hc' => ?_, (hold _ h.blk.lt).trans h.cg, (hold _ h.mv.lt).trans h.cv, (hold _ h.mc.lt).trans h.cc, fun b hb => ?_⟩, hold⟩, hC.more fun b _ e => ?_⟩
  · exact g5.chg fed.chg (nf h.cg (by decide) (by decide))
  · have e : (ptrV fun u => if u = c.ver.toNat then some { dv with mt := t, us := usedAt 5 dv.mt dv.us t + m } else V u) = ptrV V := by
      funext u
      unfold ptrV
      by_cases hu : u = c.ver.toNat
      · subst hu; simp [k2]
      · simp [hu]
    rw [e]
    exact h.mv.same (hC.block _ h.mv.lt fun e => by rcases hFc _ e with e | e | e | e | e <;> rw [h.cv] at e <;> cases e)
  · have e : (ptrC fun u => if u = c.num.toNat then some { d with wA := A4, wc := c4, k := kk, ι := ι2, A2 := A2, c2 := c2 } else C u) = ptrC C := by
      funext u
      unfold ptrC
      by_cases hu : u = c.num.toNat
      · subst hu; simp [k1]
      · simp [hu]
    rw [e]
    exact h.mc.same (hC.block _ h.mc.lt fun e => by rcases hFc _ e with e | e | e | e | e <;> rw [h.cc] at e <;> cases e)
  · have hx' : (if u = c.ver.toNat then some { dv with mt := t, us := usedAt 5 dv.mt dv.us t + m } else V u) = some x := hx
    split at hx'
    · rename_i hu
      subst hu
      cases hx'
      have hvl := hv.blk.lt
      refine ⟨⟨hv.blk.chg hC fun e => ?_, fed.met, hv.rule.chg hC fun b hb e => ?_, (hold _ hvl).trans hv.cv, fun b hb => ?_, fun b hb => (hold _ (hv.rule.lt hb)).trans (hv.cr b hb)⟩, Int.le_refl _, by show usedAt 5 dv.mt dv.us t + m ≤ K + m; omega, (h.vs _ dv k2).2.2.2⟩
      · rcases hFc _ e with e | e | e | e | e <;> rw [hv.cv] at e <;> cases e
      · rcases hFc _ e with e | e | e | e | e <;> rw [hv.cr b hb] at e <;> cases e
      · exact (hold _ (hfl b (.inl hb))).trans (hmt b hb)
    · rename_i hu
      obtain ⟨a1, a2, a3, a4⟩ := h.vs u x hx'
      refine ⟨a1.chg hC (fun b _ e hi => ?_) hold, by show x.mt ≤ t; omega, by omega, a4⟩
      rcases hFc _ e with e | e | e | e | e <;> rw [e] at hi <;> rcases hi with hi | hi | hi <;> cases hi
      exact hu rfl
  · have hx' : (if u = c.num.toNat then some { d with wA := A4, wc := c4, k := kk, ι := ι2, A2 := A2, c2 := c2 } else C u) = some x := hx
    split at hx'
    · rename_i hu
      subst hu
      cases hx'
      refine ⟨{ c with many := c.many + m }, (mem_put hs.up hc).2 (.inl rfl), { dv with mt := t, us := usedAt 5 dv.mt dv.us t + m }, hnn.symm, by show (if c.ver.toNat = c.ver.toNat then _ else _) = _; rw [if_pos rfl], ?_⟩
      have hwsl := fun b hb => leads_lt k3.ws (b := b) hb
      refine ⟨?_, ?_, Nat.le_trans k3.hB0 hC.size, k3.ws.chg hC fun b hb e => ?_, ?_, (hold _ k3.blk.lt).trans k3.cc, fun b hb => ?_, fun b hb => (hold _ (hwsl b hb)).trans (k3.cl b hb), fun b hb => ?_⟩
      · show Blk w' d.cb 111 #[.int .i64 c.ver, .pointer (some ⟨dv.vb, 0, none⟩), .slice A4 (c.many + (m : Int)).toNat c4, .slice d.A 1 d.ac]
        rw [hlen]
        exact y5.chg fed.chg (nf k3.cc (by simp) (by simp))
      · show w'.ownsRow d.B0 5 1 (.slice A4 (c.many + (m : Int)).toNat c4) (c.many + (m : Int)).toNat (bv (List.replicate (c.many + (m : Int)).toNat 0))
        rw [hlen]
        exact row_chg r5 fed.chg fun b hb => (hown5 b hb).2.2
      · rcases hFc _ e with e | e | e | e | e <;> rw [k3.cl b hb] at e <;> cases e
      · show BytAt w' d.bb d.sb kk ((c.many + (m : Int)).toNat : Int) ι2 A2 c2
        rw [hlen]
        exact hB2
      · have hb' : (Value.slice A4 (c.many + (m : Int)).toNat c4).ownBlock = some b := hb
        rw [hlen] at hb'
        exact (hown5 b hb').2.1
      · have hb' : BFt d.bb kk ι2 b := hb
        have hlt := hB2.lt hb'
        rcases hF2 b hb' with h1 | h1
        · exact (hold _ (hfl b (.inr h1))).trans (hst b h1)
        · exact hnew9 b h1 hlt
    · rename_i hu
      obtain ⟨c', b1, dv', b2, b3, b4⟩ := h.cs u x hx'
      have hvb : ∃ dv'', (if c'.ver.toNat = c.ver.toNat then some { dv with mt := t, us := usedAt 5 dv.mt dv.us t + m } else V c'.ver.toNat) = some dv'' ∧ dv''.vb = dv'.vb := by
        split
        · rename_i e
          rw [e, k2] at b3
          cases b3
          exact ⟨_, rfl, rfl⟩
        · exact ⟨dv', b3, rfl⟩
      obtain ⟨dv'', e1, e2⟩ := hvb
      refine ⟨c', (mem_put hs.up hc).2 (.inr ⟨b1, by omega⟩), dv'', b2, e1, ?_⟩
      rw [e2]
      refine b4.chg hC (fun b _ e hi => ?_) hold
      rcases hFc _ e with e | e | e | e | e <;> rw [e] at hi <;> rcases hi with hi | hi | hi | hi <;> cases hi <;> exact hu rfl
  · show (if v.toNat = c.ver.toNat then _ else V v.toNat) ≠ none
    split
    · simp
    · exact h.sv v hv'
  · show (if c'.num.toNat = c.num.toNat then _ else C c'.num.toNat) ≠ none
    split
    · simp
    · rcases (mem_put hs.up hc).1 hc' with rfl | ⟨a1, _⟩
      · rename_i hne; exact absurd rfl hne
      · exact h.sc c' a1
  · show (if b < w.heap.size then col b else if b < w5.heap.size then _ else if b < w'.heap.size then _ else _).1 = 0
    rw [if_neg (by omega), if_neg (by omega), if_neg (by omega)]
  · rcases hFc b e with e | e | e | e | e <;> rw [e] <;> simp
end
end Go.Proofs.YtahmcjdddcbhnaaGreatDoor
namespace Go.Proofs.YtahmcjdddcbhnaaGreatDoor
open Go Go.Ev Go.RowKit Go.Imap

theorem len_few : ∀ {l : List Int}, l.Nodup → (∀ x ∈ l, 0 ≤ x ∧ x ≤ 3) → l.length ≤ 4 := fun {l} hn h => by
  have h1 : (l.map Int.toNat).length ≤ 4 := by
    refine few_below 4 _ ?_ ?_
    · refine List.Pairwise.map (R := fun a b => a ≠ b ∧ a ∈ l ∧ b ∈ l) Int.toNat ?_ (List.Pairwise.imp_of_mem (fun ha hb h => ⟨h, ha, hb⟩) hn)
      rintro a b ⟨hne, ha, hb⟩ e
      have h2 := h a ha
      have h3 := h b hb
      omega
    · intro a ha
      obtain ⟨x, hx, rfl⟩ := List.mem_map.1 ha
      have := h x hx
      omega
  simpa using h1
theorem cs_few {s : RF} (hs : s.Ok) : s.cs.length ≤ 4 := by
  have h1 : (s.cs.map CR.num).Nodup := (cs_sorted hs.up).imp fun h => Int.ne_of_lt h
  have := len_few h1 fun x hx => by
    obtain ⟨c, hc, rfl⟩ := List.mem_map.1 hx
    exact (hs.cs c hc).1
  simpa using this
theorem mem_opn {cs : List CR} {n : Int} {x c : CR} : c ∈ cs.take (pos cs n) ++ [x] ++ cs.drop (pos cs n) ↔ c = x ∨ c ∈ cs := by
  have e : c ∈ cs ↔ c ∈ cs.take (pos cs n) ∨ c ∈ cs.drop (pos cs n) := by rw [← List.mem_append, List.take_append_drop]
  rw [e, List.mem_append, List.mem_append, List.mem_singleton]
  constructor
  · rintro ((h | h) | h)
    · exact .inr (.inl h)
    · exact .inl h
    · exact .inr (.inr h)
  · rintro (h | h | h)
    · exact .inl (.inr h)
    · exact .inl (.inl h)
    · exact .inr h
section
variable {w w' : World} {col : Col} {g vm cm sb rb : Nat} {V : Nat → Option VD} {C : Nat → Option CD} {s : RF} {K : Int}
theorem FAt.fewV (h : FAt w col g vm cm V C s K) (hs : s.Ok) : ∀ m, ptrV V m ≠ none → m < 4 := fun m hm => by
  unfold ptrV at hm
  cases hd : V m with
  | none => rw [hd] at hm; exact absurd rfl hm
  | some d =>
    have := hs.vs _ (h.vs m d hd).2.2.2
    omega
theorem FAt.fewC (h : FAt w col g vm cm V C s K) (hs : s.Ok) : ∀ m, ptrC C m ≠ none → m < 4 := fun m hm => by
  unfold ptrC at hm
  cases hd : C m with
  | none => rw [hd] at hm; exact absurd rfl hm
  | some d =>
    obtain ⟨c, h1, _, h2, _⟩ := h.cs m d hd
    have := (hs.cs c h1).1
    omega
set_option maxHeartbeats 1000000 in
theorem finst_step (h : FAt w col g vm cm V C s K) (hs : s.Ok) (hS : SetZ w sb rb) (hK : 0 ≤ K) {n : Int} (hn : -1 ≤ n ∧ n ≤ 3) :
    Calls Tryz.prog 17 #[.pointer (some ⟨g, 0, none⟩), .int .i64 n, .pointer (some ⟨sb, 0, none⟩)] w fun e w' => e = .returned (.int .i64 (s.inst n).1) ∧ FPost w col g vm cm (s.inst n).2 K w' := by
  unfold RF.inst
  by_cases h0 : n < 0 ∨ 1024 < n
  · rw [if_pos h0]
    refine (qinst_neg (by omega)).mono ?_
    rintro e w' ⟨rfl, rfl⟩
    exact ⟨rfl, h.post (Below.refl _ _)⟩
  rw [if_neg h0]
  by_cases hc : s.vs.contains n = true
  · rw [if_pos hc]
    obtain ⟨d, h1, h2, h3, h4⟩ := h.atV hs (List.contains_iff_mem.1 hc)
    refine (qinst_twice h.blk h.mv (by omega) h3).mono ?_
    rintro e w' ⟨rfl, rfl⟩
    exact ⟨rfl, h.post (Below.refl _ _)⟩
  rw [if_neg hc]
  have hlen := len_few hs.nd hs.vs
  rw [if_neg (by omega)]
  have hni : n ∉ s.vs := fun hh => hc (List.contains_iff_mem.2 hh)
  have hnn : ((n.toNat : Nat) : Int) = n := by omega
  have hfn : ptrV V n.toNat = none := by
    have := h.atV_no hni
    unfold atI at this
    rwa [if_neg (by omega)] at this
  have hw := qinst_ok (n := n.toNat) h.blk h.mv hS (by omega) hfn (h.fewV hs) (by omega) (by omega)
  rw [hnn] at hw
  refine hw.mono ?_
  rintro e w' ⟨rfl, ⟨vb, mb, ub, rb', rc, lo, hi, a1, a2, a3, a4, a5, a6, a7, a8, a9, a10, a11⟩, hC⟩
  have l1 := a3.lt
  have l2 := a4.blk.lt
  have l3 := a4.used.lt
  have l4 := fun b hb => a5.lt (b := b) hb
  have hsz := hC.size
  have hvm : ∀ b, b = vm → col b = (2, 0) := fun b e => by subst e; exact h.cv
  have hcm' : ¬ cm = vm := fun e => by have := h.cc; rw [hvm cm e] at this; cases this
  let col' : Col := fun b => if b < w.heap.size then col b else if b < w'.heap.size then (if b = vb then (4, n.toNat) else if b = mb ∨ b = ub then (5, n.toNat) else if b = rb' ∨ (lo ≤ b ∧ b < hi) then (10, n.toNat) else (0, 0)) else (0, 0)
  have hold : ∀ b, b < w.heap.size → col' b = col b := fun b hb => if_pos hb
  refine ⟨rfl, ⟨col', fun u => if u = n.toNat then some ⟨vb, mb, ub, rb', rc, lo, hi, 0, 0⟩ else V u, C, ⟨a1, ?_, h.mc.same (hC.block _ h.mc.lt hcm'), fun u x hx => ?_, fun u x hx => ?_, fun v hv => ?_, h.sc, (hold _ h.blk.lt).trans h.cg, (hold _ h.mv.lt).trans h.cv, (hold _ h.mc.lt).trans h.cc, fun b hb => ?_⟩, hold⟩, hC.more fun b _ e => by rw [hvm b e]; simp⟩
  · have e : (ptrV fun u => if u = n.toNat then some ⟨vb, mb, ub, rb', rc, lo, hi, 0, 0⟩ else V u) = fun u => if u = n.toNat then some (.pointer (some ⟨vb, 0, none⟩)) else ptrV V u := by
      funext u
      unfold ptrV
      by_cases hu : u = n.toNat <;> simp [hu]
    rw [e]
    exact a2
  · have hx' : (if u = n.toNat then some (⟨vb, mb, ub, rb', rc, lo, hi, 0, 0⟩ : VD) else V u) = some x := hx
    split at hx'
    · rename_i hu
      subst hu
      cases hx'
      refine ⟨⟨a3, a4, a5, ?_, fun b hb => ?_, fun b hb => ?_⟩, hs.tick.1, hK, by show _ ∈ s.vs ++ [n]; rw [hnn]; simp⟩
      · show (if vb < w.heap.size then _ else if vb < w'.heap.size then (if vb = vb then _ else _) else _) = _
        rw [if_neg (by omega), if_pos l1, if_pos rfl]
      · have hb1 : rb' < b ∧ b < w'.heap.size ∧ (b = mb ∨ b = ub) := by
          rcases hb with rfl | rfl
          · exact ⟨by omega, l2, .inl rfl⟩
          · exact ⟨by omega, l3, .inr rfl⟩
        show (if b < w.heap.size then _ else if b < w'.heap.size then (if b = vb then _ else if b = mb ∨ b = ub then _ else _) else _) = _
        rw [if_neg (by omega), if_pos hb1.2.1, if_neg (by omega), if_pos hb1.2.2]
      · have hl := l4 b hb
        have hb1 : lo ≤ b ∧ b ≤ rb' := by rcases hb with rfl | hb <;> (simp only at *; omega)
        show (if b < w.heap.size then _ else if b < w'.heap.size then (if b = vb then _ else if b = mb ∨ b = ub then _ else if b = rb' ∨ (lo ≤ b ∧ b < hi) then _ else _) else _) = _
        have hb2 : b = rb' ∨ (lo ≤ b ∧ b < hi) := hb
        rw [if_neg (by omega), if_pos hl, if_neg (by omega), if_neg (by omega), if_pos hb2]
    · obtain ⟨b1, b2, b3, b4⟩ := h.vs u x hx'
      refine ⟨b1.chg hC (fun b _ e hi => ?_) hold, b2, b3, by show _ ∈ s.vs ++ [n]; simp [b4]⟩
      have := isV_big hi
      rw [hvm b e] at this
      exact absurd this (by decide)
  · obtain ⟨c, k1, dv, k2, k3, k4⟩ := h.cs u x hx
    have hvn : c.ver ≠ n := fun e => hni (e ▸ (hs.cs c k1).2.1)
    have hv0 := hs.vs _ (hs.cs c k1).2.1
    refine ⟨c, k1, dv, k2, by show (if c.ver.toNat = n.toNat then _ else V c.ver.toNat) = _; rw [if_neg (by omega)]; exact k3, k4.chg hC (fun b _ e hi => ?_) hold⟩
    have := isC_big hi
    rw [hvm b e] at this
    exact absurd this (by decide)
  · show (if v.toNat = n.toNat then _ else V v.toNat) ≠ none
    split
    · simp
    · rename_i hne
      have hv' : v ∈ s.vs ++ [n] := hv
      rw [List.mem_append, List.mem_singleton] at hv'
      rcases hv' with hv' | rfl
      · exact h.sv v hv'
      · exact absurd rfl hne
  · have e : col' b = (0, 0) := by
      show (if b < w.heap.size then _ else if b < w'.heap.size then _ else _) = _
      rw [if_neg (by omega), if_neg (by omega)]
    rw [e]
set_option maxHeartbeats 1000000 in
theorem fopn_step (h : FAt w col g vm cm V C s K) (hs : s.Ok) {n t : Int} (hn : -1 ≤ n ∧ n ≤ 3) :
    Calls Tryz.prog 20 #[.pointer (some ⟨g, 0, none⟩), .int .i64 n, .int .i64 t] w fun e w' => e = .returned (.int .i64 (s.opn n t).1) ∧ FPost w col g vm cm (s.opn n t).2 K w' := by
  unfold RF.opn
  by_cases h0 : n < 0 ∨ 1099511627776 < n
  · rw [if_pos h0]
    refine (qopen_neg (by omega)).mono ?_
    rintro e w' ⟨rfl, rfl⟩
    exact ⟨rfl, h.post (Below.refl _ _)⟩
  rw [if_neg h0]
  by_cases hl : lateE s.tick t ≠ 0
  · rw [if_pos hl]
    refine (qopen_late h.blk (by omega) hl).mono ?_
    rintro e w' ⟨rfl, rfl⟩
    exact ⟨rfl, h.post (Below.refl _ _)⟩
  rw [if_neg hl]
  have hl0 : lateE s.tick t = 0 := Classical.not_not.1 hl
  have hnn : ((n.toNat : Nat) : Int) = n := by omega
  rcases idx_cases hs.up n with ⟨hi, hno⟩ | ⟨c, hc, rfl, hi⟩
  case inr =>
    obtain ⟨hlt, -⟩ := List.getElem?_eq_some_iff.1 hi
    rw [if_pos hlt]
    obtain ⟨d, dv, k1, k2, k3⟩ := h.con hs hc
    have hat : atI (ptrC C) c.num = some (.pointer (some ⟨d.cb, 0, none⟩)) := by unfold atI ptrC; rw [if_neg (by omega), k1]; rfl
    refine (qopen_there h.blk h.mc (by omega) hat hl0).mono ?_
    rintro e w' ⟨rfl, rfl⟩
    exact ⟨rfl, h.post (Below.refl _ _)⟩
  have hnlt : ¬ idx s.cs n < s.cs.length := by rw [idx_none hno]; omega
  rw [if_neg hnlt]
  by_cases hu : s.use < 0
  · rw [if_pos hu]
    have hu1 : s.use = -1 := by
      rcases hs.use with e | e
      · exact e
      · have := hs.vs _ e; omega
    have hb := h.blk
    rw [hu1] at hb
    refine (qopen_none hb h.mc h.mv (by omega) (h.atC_no hno) hl0).mono ?_
    rintro e w' ⟨rfl, hB⟩
    exact ⟨rfl, h.post hB⟩
  rw [if_neg hu]
  have hlen := cs_few hs
  rw [if_neg (by omega)]
  have huse : s.use ∈ s.vs := by
    rcases hs.use with e | e
    · omega
    · exact e
  obtain ⟨dv, k1, k2, k3, k4⟩ := h.atV hs huse
  have hdv := (h.vs _ dv k1).1
  have huu : ((s.use.toNat : Nat) : Int) = s.use := by omega
  have hfn : ptrC C n.toNat = none := by
    have := h.atC_no hno
    unfold atI at this
    rwa [if_neg (by omega)] at this
  have hb := h.blk
  rw [← huu] at hb
  have hw := qopen_ok (n := n.toNat) (cv := s.use.toNat) hb h.mc h.mv (by omega) hfn (h.fewC hs) hl0 (by omega) k2 hdv.blk hdv.rule
  rw [hnn, huu] at hw
  refine hw.mono ?_
  rintro e w' ⟨rfl, ⟨cb, wb, wc, bb, sb, ι, lo, hi, a1, a2, a3, a4, a5, a6, a7, a8, a9, a10⟩, hC⟩
  obtain ⟨t1, t2, t3⟩ := lateE_le hl0
  have l1 := a3.lt
  have l2 := fun b hb => leads_lt a4 (b := b) hb
  have l3 := fun b hb => a5.lt (b := b) hb
  have hsz := hC.size
  have hF : ∀ b, (b = g ∨ b = cm) → col b = (1, 0) ∨ col b = (3, 0) := fun b e => by
    rcases e with rfl | rfl
    · exact .inl h.cg
    · exact .inr h.cc
  have hvm : ¬ (vm = g ∨ vm = cm) := fun e => by rcases hF vm e with e | e <;> rw [h.cv] at e <;> cases e
  let col' : Col := fun b => if b < w.heap.size then col b else if b < w'.heap.size then (if b = cb then (6, n.toNat) else if lo ≤ b ∧ b < hi then (9, n.toNat) else if b = wb then (8, n.toNat) else (0, 0)) else (0, 0)
  have hold : ∀ b, b < w.heap.size → col' b = col b := fun b hb => if_pos hb
  refine ⟨rfl, ⟨col', V, fun u => if u = n.toNat then some ⟨cb, none, 0, 0, some ⟨wb, 0, none⟩, wc, bb, sb, 0, ι, none, 0⟩ else C u, ⟨?_, h.mv.same (hC.block _ h.mv.lt hvm), ?_, fun u x hx => ?_, fun u x hx => ?_, h.sv, fun c hc => ?_, (hold _ h.blk.lt).trans h.cg, (hold _ h.mv.lt).trans h.cv, (hold _ h.mc.lt).trans h.cc, fun b hb => ?_⟩, hold⟩, hC.more fun b _ e => by rcases hF b e with e | e <;> rw [e] <;> simp⟩
  · exact a1
  · have e : (ptrC fun u => if u = n.toNat then some ⟨cb, none, 0, 0, some ⟨wb, 0, none⟩, wc, bb, sb, 0, ι, none, 0⟩ else C u) = fun u => if u = n.toNat then some (.pointer (some ⟨cb, 0, none⟩)) else ptrC C u := by
      funext u
      unfold ptrC
      by_cases hu : u = n.toNat <;> simp [hu]
    rw [e]
    exact a2
  · obtain ⟨b1, b2, b3, b4⟩ := h.vs u x hx
    refine ⟨b1.chg hC (fun b _ e hi => ?_) hold, Int.le_trans b2 t1, b3, b4⟩
    have := isV_big hi
    rcases hF b e with e | e <;> rw [e] at this <;> exact absurd this (by decide)
  · have hx' : (if u = n.toNat then some (⟨cb, none, 0, 0, some ⟨wb, 0, none⟩, wc, bb, sb, 0, ι, none, 0⟩ : CD) else C u) = some x := hx
    split at hx'
    · rename_i hu
      subst hu
      cases hx'
      refine ⟨⟨n, s.use, 0⟩, mem_opn.2 (.inl rfl), dv, hnn.symm, k1, a3, World.ownsRow_nil _ _ _ _, Nat.zero_le _, a4, a5, ?_, fun b hb => ?_, fun b hb => ?_, fun b hb => ?_⟩
      · show (if cb < w.heap.size then _ else if cb < w'.heap.size then (if cb = cb then _ else _) else _) = _
        rw [if_neg (by omega), if_pos l1, if_pos rfl]
      · cases hb
      · have e : b = wb := by cases hb; rfl
        have hl := l2 b hb
        show (if b < w.heap.size then _ else if b < w'.heap.size then (if b = cb then _ else if lo ≤ b ∧ b < hi then _ else if b = wb then _ else _) else _) = _
        rw [if_neg (by omega), if_pos hl, if_neg (by omega), if_neg (by omega), if_pos e]
      · have hl := l3 b hb
        have hb1 := a6 b hb
        show (if b < w.heap.size then _ else if b < w'.heap.size then (if b = cb then _ else if lo ≤ b ∧ b < hi then _ else _) else _) = _
        rw [if_neg (by omega), if_pos hl, if_neg (by omega), if_pos hb1]
    · obtain ⟨c, b1, dv', b2, b3, b4⟩ := h.cs u x hx'
      refine ⟨c, mem_opn.2 (.inr b1), dv', b2, b3, b4.chg hC (fun b _ e hi => ?_) hold⟩
      have := isC_big hi
      rcases hF b e with e | e <;> rw [e] at this <;> exact absurd this (by decide)
  · show (if c.num.toNat = n.toNat then _ else C c.num.toNat) ≠ none
    split
    · simp
    · rename_i hne
      rcases mem_opn.1 hc with rfl | hc'
      · exact absurd rfl hne
      · exact h.sc c hc'
  · have e : col' b = (0, 0) := by
      show (if b < w.heap.size then _ else if b < w'.heap.size then _ else _) = _
      rw [if_neg (by omega), if_neg (by omega)]
    rw [e]
end
end Go.Proofs.YtahmcjdddcbhnaaGreatDoor
namespace Go.Proofs.YtahmcjdddcbhnaaGreatDoor
open Go Go.Ev Go.RowKit Go.Imap

theorem qnew_any {w : World} {a b : Int} : Calls Tryz.prog 13 #[.int .i64 a, .int .i64 b] w fun e w' => ∃ (X : Option Addr) (E : Int), e = .returned (.tuple #[.pointer X, .int .i64 E]) ∧ Hid ((newOk a b ∧ (∃ q, X = some ⟨q, 0, none⟩) ∧ E = 0) ∨ (¬ newOk a b ∧ X = none ∧ E = 1)) ∧ Below w.heap.size w w' := by
  by_cases h : newOk a b
  · refine (qnew_walk h).mono ?_
    rintro e w' ⟨rfl, -, -, -, hb⟩
    exact ⟨_, _, rfl, Lib.hid (.inl ⟨h, ⟨_, rfl⟩, rfl⟩), hb⟩
  · refine (qnew_no h).mono ?_
    rintro e w' ⟨rfl, rfl⟩
    exact ⟨_, _, rfl, Lib.hid (.inr ⟨h, rfl, rfl⟩), Below.refl _ _⟩
/-- the filter that the script begins with -/
def s0 : RF := ⟨[], [], -1, 0⟩
theorem s0_ok : s0.Ok := ⟨List.nodup_nil, fun v h => by simp [s0] at h, List.Pairwise.nil, fun c h => by simp [s0] at h, .inl rfl, fun _ => rfl, by decide⟩
theorem s0_few : s0.Few := by constructor <;> decide
def col0 (g vm cm : Nat) : Col := fun b => if b = g then (1, 0) else if b = vm then (2, 0) else if b = cm then (3, 0) else (0, 0)
theorem fat0 {w : World} {n : Nat} (h : Blk w (n + 2) 80 #[.int .i64 1073741824, .int .i64 5, .int .i64 0, .int .i64 (-1), .map (some n), .map (some (n + 1))]) (h1 : IMap w n fun _ => none) (h2 : IMap w (n + 1) fun _ => none) :
    FAt w (col0 (n + 2) n (n + 1)) (n + 2) n (n + 1) (fun _ => none) (fun _ => none) s0 0 := by
  have l1 := h.lt
  refine ⟨h, h1, h2, fun m d hd => (by cases hd), fun m d hd => (by cases hd), fun v hv => by simp [s0] at hv, fun c hc => by simp [s0] at hc, ?_, ?_, ?_, fun b hb => ?_⟩
  · unfold col0; rw [if_pos rfl]
  · unfold col0; rw [if_neg (by omega), if_pos rfl]
  · unfold col0; rw [if_neg (by omega), if_neg (by omega), if_pos rfl]
  · unfold col0; rw [if_neg (by omega), if_neg (by omega), if_neg (by omega)]
theorem infoU8' : (Tryz.prog.info? 5).map (fun i => (i.zero, i.size, i.bytes)) = some (some (.int .u8 0), 1, 1) := by kernel_rfl
theorem make_zeros (w : World) {m : Nat} (hm : m ≤ 1000000) : ∃ w', (Instr.makeSlice 23 (.int .i64 (m : Int)) (.int .i64 (m : Int))).run Tryz.prog w = .ok (.slice (some ⟨w.heap.size, 0, none⟩) m m) w' ∧ Sees w' 1 (.slice (some ⟨w.heap.size, 0, none⟩) m m) (bv (List.replicate m 0)) ∧ Below w.heap.size w w' ∧ w.heap.size < w'.heap.size := by
  obtain ⟨i0, hi0, hz0, hz1, hz2⟩ := info_parts' infoU8'
  obtain ⟨w', h1, h2, h3⟩ := run_makeSlice_full (P := Tryz.prog) w w.heap.size 23 5 i0 (.int .u8 0) 1 Tryz.underlying23 hi0 hz0 hz1 .i64 .i64 m (by omega) (by rw [hz2]; omega) (by unfold maxLen; omega) (Nat.le_refl _)
  refine ⟨w', h1, ?_, (Below.refl _ w).grown h3 (Nat.le_refl _) (fun k hk => by cases hk), (World.ownsRow.lt h2 _ rfl).2⟩
  have hs := Sees.row h2
  have e : (madeCells (Value.int .u8 0).cells (m * 1)).toList = bv (List.replicate m 0) := by
    refine List.ext_getElem? fun i => ?_
    have h0 : ∀ k : Nat, (Value.int .u8 0).cells[k % (Value.int .u8 0).cells.size]! = Value.int .u8 0 := fun k => by
      have : (Value.int .u8 0).cells = #[Value.int .u8 0] := rfl
      rw [this]
      have e : k % (#[Value.int .u8 0] : Array Value).size = 0 := Nat.mod_one k
      rw [e]
      rfl
    unfold madeCells bv
    by_cases hi : i < m
    · simp [hi, h0]
    · simp [hi]
  rw [e] at hs
  exact hs
theorem cellsInt' : Tryz.prog.cellsOf 3 = 1 := by kernel_rfl
theorem pair_same (a b : Int) (W : World) : (Op.equalIn 10000 65 (.agg #[.int .i64 a, .int .i64 b]) (.agg #[.int .i64 a, .int .i64 b])).run Tryz.prog W = .ok true W := by
  obtain ⟨i0, hi0, -⟩ := info_parts' infoInt
  have h1 : ∀ (d : Nat) (x : Int), (Op.equalIn (d + 1) 3 (.int .i64 x) (.int .i64 x)).run Tryz.prog W = .ok true W := fun d x => by
    rw [run_equalIn_int W d 3 .i64 .i64 x x Tryz.underlying3]
    simp
  have p0 : ∀ x y : Value, (part 3 #[x, y] 0).run Tryz.prog W = .ok x W := fun x y => by kernel_rfl
  have p1 : ∀ x y : Value, (part 3 #[x, y] 1).run Tryz.prog W = .ok y W := fun x y => by kernel_rfl
  show (Op.equalIn (9999 + 1) 65 _ _).run Tryz.prog W = _
  rw [run_equalIn_array W 9999 _ _ Tryz.underlying65 hi0, cellsInt']
  have hr : List.range 2 = [0, 1] := rfl
  rw [hr]
  have h9 : (9999 : Nat) = 9998 + 1 := rfl
  rw [h9]
  simp only [Op.eqItems, Sem.run_bind, Nat.zero_mul, Nat.one_mul, p0, p1, h1, Result.andThen_ok, Bool.not_true, Bool.false_eq_true, if_false, Sem.run_pure]
/-- what is laid ahead of the script, and stays -/
structure Fixd (X : Nat → Prop) (col : Col) (gr : Nat) (v1 v2 : Value) (w0 wr : World) : Prop where
  chg : Chg (fun b => ¬ X b) w0 wr
  lt : ∀ b, X b → b < w0.heap.size
  col : ∀ b, X b → (col b).1 = 0
  ref : ∀ b, X b → ¬ RFt gr v1 v2 b
/-- the reference's filter says sR, the filter sF -/
structure Mid (X : Nat → Prop) (B gr g vm cm : Nat) (w0 w : World) (sR sF : RF) (K : Int) : Prop where
  ex : ∃ v1 v2 col V C, RAt w B gr v1 v2 sR ∧ FAt w col g vm cm V C sF K ∧ (∀ k, RFt gr v1 v2 k → (col k).1 = 0) ∧ Fixd X col gr v1 v2 w0 w
  hB : B ≤ w.heap.size
section
variable {X : Nat → Prop} {B gr g vm cm : Nat} {w0 w w' : World} {sR sF s : RF} {K : Int}
theorem Fixd.bel {col : Col} {v1 v2 : Value} (h : Fixd X col gr v1 v2 w0 w) (hb : Below w.heap.size w w') : Fixd X col gr v1 v2 w0 w' := ⟨h.chg.then_below hb h.chg.size, h.lt, h.col, h.ref⟩
theorem Mid.bel (h : Mid X B gr g vm cm w0 w sR sF K) (hb : Below w.heap.size w w') : Mid X B gr g vm cm w0 w' sR sF K := by
  obtain ⟨⟨v1, v2, col, V, C, a, b, c, d⟩, e⟩ := h
  exact ⟨⟨v1, v2, col, V, C, a.bel hb, b.bel hb, c, d.bel hb⟩, Nat.le_trans e hb.size⟩
theorem Mid.keep (h : Mid X B gr g vm cm w0 w sR sF K) : Chg (fun b => ¬ X b) w0 w := by
  obtain ⟨⟨v1, v2, col, V, C, a, b, c, d⟩, e⟩ := h
  exact d.chg
theorem Mid.ref (h : Mid X B gr g vm cm w0 w s s K) (hs : s.Ok) (hf : s.Few) {o : ROp} (ho : o.Ok) :
    Calls Tryz.prog 16 #[.pointer (some ⟨gr, 0, none⟩), .agg o.cells.toArray] w fun e w' => e = .returned (.int .i64 (s.step o).1) ∧ Mid X B gr g vm cm w0 w' (s.step o).2 s K := by
  obtain ⟨⟨v1, v2, col, V, C, a, b, c, d⟩, hB⟩ := h
  refine (rdo_walk a hB hs hf ho).mono ?_
  rintro e w' ⟨rfl, ⟨u1, u2, a', hf'⟩, hC⟩
  have hsz := d.chg.size
  refine ⟨rfl, ⟨u1, u2, col, V, C, a', b.keep hC fun k _ hk => c k hk, fun k hk => ?_, ⟨d.chg.trans hC fun k _ hk hx => d.ref k hx hk, d.lt, d.col, fun k hx hk => ?_⟩⟩, Nat.le_trans hB hC.size⟩
  · rcases hf' k hk with h1 | h1
    · exact c k h1
    · exact b.fresh k h1
  · rcases hf' k hk with h1 | h1
    · exact d.ref k hx h1
    · have := d.lt k hx; omega
theorem Mid.fil (h : Mid X B gr g vm cm w0 w sR s K) {s' : RF} {K' : Int} {f : Nat} {xs : Array Value} {r : Value} (hstep : ∀ col V C, FAt w col g vm cm V C s K → (∀ b, X b → (col b).1 = 0) → Calls Tryz.prog f xs w fun e w' => e = .returned r ∧ FPost w col g vm cm s' K' w') :
    Calls Tryz.prog f xs w fun e w' => e = .returned r ∧ Mid X B gr g vm cm w0 w' sR s' K' := by
  obtain ⟨⟨v1, v2, col, V, C, a, b, c, d⟩, hB⟩ := h
  refine (hstep col V C b d.col).mono ?_
  rintro e w' ⟨rfl, ⟨col', V', C', b', hold⟩, hC⟩
  have hsz := d.chg.size
  refine ⟨rfl, ⟨v1, v2, col', V', C', a.chg hC fun k hk hne => hne (c k hk), b', fun k hk => (congrArg Prod.fst (hold k (a.lt hk).2)).trans (c k hk), ⟨d.chg.trans hC fun k _ hk hx => hk (d.col k hx), d.lt, fun k hx => (congrArg Prod.fst (hold k (Nat.lt_of_lt_of_le (d.lt k hx) hsz))).trans (d.col k hx), d.ref⟩⟩, Nat.le_trans hB hC.size⟩
/-- one block more that stays -/
theorem Mid.inner (h : Mid X B gr g vm cm w0 w sR sF K) (hb : Below w.heap.size w w') {q : Nat} (hq : w.heap.size ≤ q ∧ q < w'.heap.size) : Mid (fun b => X b ∨ b = q) B gr g vm cm w' w' sR sF K := by
  obtain ⟨⟨v1, v2, col, V, C, a, b, c, d⟩, hB⟩ := h
  have hsz := d.chg.size
  have hs2 := hb.size
  refine ⟨⟨v1, v2, col, V, C, a.bel hb, b.bel hb, c, Chg.refl _ _, fun k hk => ?_, fun k hk => ?_, fun k hk => ?_⟩, Nat.le_trans hB hs2⟩
  · rcases hk with hk | rfl
    · have := d.lt k hk; omega
    · exact hq.2
  · rcases hk with hk | rfl
    · exact d.col k hk
    · exact b.fresh _ hq.1
  · rcases hk with hk | rfl
    · exact d.ref k hk
    · intro hr
      have := (a.lt hr).2
      omega
theorem Mid.outer {q : Nat} {w1 w2 : World} {sR' sF' : RF} {K' : Int} (h : Mid X B gr g vm cm w0 w sR sF K) (hb : Below w.heap.size w w1) (h' : Mid (fun b => X b ∨ b = q) B gr g vm cm w1 w2 sR' sF' K') : Mid X B gr g vm cm w0 w2 sR' sF' K' := by
  obtain ⟨⟨v1, v2, col, V, C, a, b, c, d⟩, hB⟩ := h
  obtain ⟨⟨u1, u2, col', V', C', a', b', c', d'⟩, hB'⟩ := h'
  have hsz := d.chg.size
  exact ⟨⟨u1, u2, col', V', C', a', b', c', (d.chg.then_below hb hsz).trans d'.chg fun k _ hk hx => hk (.inl hx), d.lt, fun k hk => d'.col k (.inl hk), fun k hk => d'.ref k (.inl hk)⟩, hB'⟩
theorem Mid.cell (h : Mid X B gr g vm cm w0 w sR sF K) {p : Addr} (hp : X p.block) (hl : p.block < w0.heap.size) : w.cell? p = w0.cell? p := h.keep.cell hl fun hn => hn hp
theorem Mid.more {K' : Int} (h : Mid X B gr g vm cm w0 w sR sF K) (hK : K ≤ K') : Mid X B gr g vm cm w0 w sR sF K' := by
  obtain ⟨⟨v1, v2, col, V, C, a, b, c, d⟩, e⟩ := h
  exact ⟨⟨v1, v2, col, V, C, a, b.more hK, c, d⟩, e⟩
theorem fconns_step {col : Col} {V : Nat → Option VD} {C : Nat → Option CD} (h : FAt w col g vm cm V C s K) (hs : s.Ok) : Calls Tryz.prog 23 #[.pointer (some ⟨g, 0, none⟩)] w fun e w' => ∃ v, e = .returned v ∧ w'.ownsRow w.heap.size 65 2 v s.cs.length (s.cs.flatMap pairC) ∧ Below w.heap.size w w' := by
  have hlen := cs_few hs
  refine qconns_walk h.blk h.mc hs.up (fun c hc => by have := (hs.cs c hc).1; omega) (fun m => ?_) (fun c hc => ?_) (by omega)
  · constructor
    · intro hm
      cases hd : C m with
      | none => unfold ptrC at hm; rw [hd] at hm; exact absurd rfl hm
      | some d =>
        obtain ⟨c, h1, _, h2, _⟩ := h.cs m d hd
        exact ⟨c, h1, h2⟩
    · rintro ⟨c, hc, e⟩
      have := h.sc c hc
      rw [e, Int.toNat_natCast] at this
      unfold ptrC
      cases hd : C m with
      | none => exact absurd hd this
      | some d => simp
  · obtain ⟨d, dv, k1, k2, k3⟩ := h.con hs hc
    have := k3.blk.at' 0
    simp at this
    exact ⟨d.cb, by unfold ptrC; rw [k1]; rfl, k3.blk.lt, this⟩
theorem Mid.conns (h : Mid X B gr g vm cm w0 w sR s K) (hs : s.Ok) : Calls Tryz.prog 23 #[.pointer (some ⟨g, 0, none⟩)] w fun e w' => ∃ v, e = .returned v ∧ w'.ownsRow w.heap.size 65 2 v s.cs.length (s.cs.flatMap pairC) ∧ Mid X B gr g vm cm w0 w' sR s K := by
  obtain ⟨v1, v2, col, V, C, a, b, c, d⟩ := h.ex
  refine (fconns_step b hs).mono ?_
  rintro e w' ⟨v, rfl, h1, h2⟩
  exact ⟨v, rfl, h1, h.bel h2⟩
/-- the beginning -/
theorem mid0 {w w1 w2 w3 W4 w5 : World} {sb rb n : Nat} {u : Value} {xs : List Value} (hB1 : Below w.heap.size w w1) (hg : Blk w2 (w1.heap.size + 2) 80 #[.int .i64 1073741824, .int .i64 5, .int .i64 0, .int .i64 (-1), .map (some w1.heap.size), .map (some (w1.heap.size + 1))]) (hv : IMap w2 w1.heap.size fun _ => none) (hc : IMap w2 (w1.heap.size + 1) fun _ => none)
    (hsl : w2.heap.size ≤ sb) (hrl : w2.heap.size ≤ rb) (hB3 : Below w2.heap.size w2 w3) (hS : SetZ w3 sb rb) (hr : Blk W4 w3.heap.size 51 #[.slice none 0 0, .slice none 0 0, .int .i64 (-1), .int .i64 0]) (hB4 : Below w3.heap.size w3 W4) (hrow : w5.ownsRow W4.heap.size 55 4 u n xs) (hB5 : Below W4.heap.size W4 w5) :
    Mid (fun b => b < w.heap.size ∨ b = sb ∨ b = rb ∨ u.ownBlock = some b) w3.heap.size w3.heap.size (w1.heap.size + 2) w1.heap.size (w1.heap.size + 1) w5 w5 s0 s0 0 := by
  have z1 := hB1.size
  have z3 := hB3.size
  have z4 := hB4.size
  have z5 := hB5.size
  have zg := hg.lt
  have zr := hr.lt
  have l0 := hS.l0
  have l1 := hS.l1
  have hown := fun b hb => World.ownsRow.lt hrow b hb
  have b35 : Below w3.heap.size w3 w5 := hB4.trans (hB5.mono z4)
  have b25 : Below w2.heap.size w2 w5 := hB3.trans (b35.mono z3)
  have hX : ∀ b, (b < w.heap.size ∨ b = sb ∨ b = rb ∨ u.ownBlock = some b) → b < w5.heap.size ∧ b ≠ w3.heap.size ∧ (col0 (w1.heap.size + 2) w1.heap.size (w1.heap.size + 1) b).1 = 0 := fun b hb => by
    have hb' : (b < w.heap.size ∨ w2.heap.size ≤ b) ∧ b < w5.heap.size ∧ b ≠ w3.heap.size := by
      rcases hb with hb | rfl | rfl | hb
      · exact ⟨.inl hb, by omega, by omega⟩
      · exact ⟨.inr hsl, by omega, by omega⟩
      · exact ⟨.inr hrl, by omega, by omega⟩
      · have := hown b hb
        exact ⟨.inr (by omega), by omega, by omega⟩
    refine ⟨hb'.2.1, hb'.2.2, ?_⟩
    unfold col0
    rw [if_neg (by omega), if_neg (by omega), if_neg (by omega)]
  have hrs : RAt w5 w3.heap.size w3.heap.size (.slice none 0 0) (.slice none 0 0) s0 := ⟨hr.bel hB5 hr.lt, World.ownsRow_nil _ _ _ _, World.ownsRow_nil _ _ _ _, Nat.le_refl _⟩
  refine ⟨⟨.slice none 0 0, .slice none 0 0, _, _, _, hrs, (fat0 hg hv hc).bel b25, fun k hk => ?_, Chg.refl _ _, fun k hk => (hX k hk).1, fun k hk => (hX k hk).2.2, fun k hk hf => ?_⟩, by omega⟩
  · rcases hk with rfl | hk | hk
    · unfold col0
      rw [if_neg (by omega), if_neg (by omega), if_neg (by omega)]
    · cases hk
    · cases hk
  · rcases hf with rfl | hf | hf
    · exact (hX _ hk).2.1 rfl
    · cases hf
    · cases hf
theorem SetZ.mid {sb rb : Nat} (hS : SetZ w0 sb rb) (h : Mid X B gr g vm cm w0 w sR sF K) (h1 : X sb) (h2 : X rb) : SetZ w sb rb := hS.chg h.keep (fun hn => hn h1) (fun hn => hn h2)
theorem step_0 (s : RF) (n t m : Int) : s.step ⟨0, n, t, m⟩ = s.inst n := by simp [RF.step]
theorem step_1 (s : RF) (n t m : Int) : s.step ⟨1, n, t, m⟩ = s.usen n := by simp [RF.step]
theorem step_2 (s : RF) (n t m : Int) : s.step ⟨2, n, t, m⟩ = s.rem n := by simp [RF.step]
theorem step_3 (s : RF) (n t m : Int) : s.step ⟨3, n, t, m⟩ = s.opn n t := by simp [RF.step]
theorem step_4 (s : RF) (n t m : Int) : s.step ⟨4, n, t, m⟩ = s.snd n t m := by simp [RF.step]
theorem step_5 (s : RF) (n t m : Int) : s.step ⟨5, n, t, m⟩ = s.fin n t := by simp [RF.step]
end
end Go.Proofs.YtahmcjdddcbhnaaGreatDoor
