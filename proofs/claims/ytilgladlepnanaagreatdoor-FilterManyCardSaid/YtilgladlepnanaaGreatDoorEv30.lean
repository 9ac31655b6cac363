/-
  A verified evaluator, part 30: a region that draws its order, whole.
-/
import Derived.Test.YtilgladlepnanaaGreatDoorEv29
namespace Go.Ev
noncomputable section
open Go

/-- how many are not listed -/
def unl (M : Nat) (S : Array Bool) : Nat := ((List.range M).filter fun i => !(S.getD i true)).length
theorem unl_zero {M : Nat} {S : Array Bool} (h : unl M S = 0) (i : Nat) (hi : i < M) : S.getD i true = true := by
  unfold unl at h
  have h1 := List.length_eq_zero_iff.1 h
  cases hs : S.getD i true with
  | true => rfl
  | false =>
    have : i ∈ (List.range M).filter fun i => !(S.getD i true) := List.mem_filter.2 ⟨List.mem_range.2 hi, by simp only [hs]; rfl⟩
    rw [h1] at this; cases this
theorem filter_lt {α : Type} {p q : α → Bool} : ∀ {l : List α}, (∀ x, p x = true → q x = true) → ∀ x, x ∈ l → q x = true → p x = false → (l.filter p).length < (l.filter q).length
  | [], _, x, hx, _, _ => by simp at hx
  | y :: l, h, x, hx, h1, h2 => by
    have mono : ∀ (l : List α), (l.filter p).length ≤ (l.filter q).length := fun l => by
      induction l with
      | nil => simp
      | cons z l ih =>
        rw [List.filter_cons, List.filter_cons]
        cases hp : p z with
        | true => rw [h z hp]; simpa using ih
        | false => cases q z <;> simp <;> omega
    rw [List.filter_cons, List.filter_cons]
    rcases List.mem_cons.1 hx with rfl | hx
    · rw [h1, h2]
      have := mono l
      simp
      omega
    · have ih := filter_lt h x hx h1 h2
      cases hp : p y with
      | true => rw [h y hp]; simpa using ih
      | false => cases q y <;> simp <;> omega
theorem unl_set {M i : Nat} {S : Array Bool} (hi : i < M) (hs : S.getD i true = false) : unl M (S.setIfInBounds i true) < unl M S := by
  unfold unl
  have hlt : i < S.size := by
    rcases Nat.lt_or_ge i S.size with h | h
    · exact h
    · simp [Array.getD_eq_getD_getElem?, Array.getElem?_eq_none h] at hs
  have gd : ∀ j, (S.setIfInBounds i true).getD j true = if i = j then true else S.getD j true := fun j => by
    simp only [Array.getD_eq_getD_getElem?, Array.getElem?_setIfInBounds]
    by_cases e : i = j
    · subst e; simp [hlt]
    · simp [e]
  refine filter_lt (fun j hj => ?_) i (List.mem_range.2 hi) (by rw [hs]; rfl) (by rw [gd, if_pos rfl]; rfl)
  rw [gd] at hj
  by_cases e : i = j
  · rw [if_pos e] at hj; cases hj
  · rw [if_neg e] at hj; exact hj

section
variable {P : Program} {Γ : Glo} {cal : Cal} {R : Regs} {ops : Array Oper} {bs : Nat → Nat} {L : Nat → List V} {H : Nat → Heap} {n : Nat → Pth} {pa : Nat → List Past} {ca : Nat → List Calm} {pe : Nat → List Pend}
  {ι0 ι ι' : Emb} {w0 w w' : World} {a a0 : Act} {S : Array Bool} {q N U m : Nat} {F : Fence} {Q : Exit → Act → World → Prop}

/-- none is ready: all are listed -/
theorem ready_nil (od : OrdR ops bs N) (hsz : S.size = ops.size) (h : Region.ready .any ops S = []) : ∀ i, i < ops.size → S.getD i false = true := by
  intro i
  induction i using Nat.strongRecOn with
  | _ i ih =>
    intro hi
    cases hs : S.getD i false with
    | true => rfl
    | false =>
      exfalso
      obtain ⟨o, ho⟩ := DRun.op i hi
      have hmem : i ∈ Region.ready .any ops S := mem_ready.2 ⟨by
        simp only [Array.getD_eq_getD_getElem?] at hs ⊢
        have hlt : i < S.size := by omega
        simp [hlt] at hs ⊢; exact hs, o, ho, fun e he hb => by
        have hlt := od.back i o ho e (by simpa using he) hb
        exact ih e.on hlt (by omega)⟩
      rw [h] at hmem; cases hmem

theorem any_ok (k : CalOK P Γ cal) (hF : FW F) (d : DRun P Γ cal R ops (fun i => dstsOf (ops.toList.take i) []) bs L H n pa ca pe) (od : OrdR ops bs N)
    (gok0 : GOK Γ ι0 (H 0) w0) (hfr : Fr ι0 (H 0) (mergeS (fun _ => true) (H ops.size) (pe ops.size))) (henv : EnvR ι0 U R a0.tmps)
    (hQ : ∀ ι' a' w', Step P ι0 (H 0) w0 ι' (mergeS (fun _ => true) (H ops.size) (pe ops.size)) w' → EnvD ι' (dstsOf ops.toList []) (L ops.size) R a'.tmps → N ≤ a'.tmps.size → a'.defers = a0.defers → Q .normal a' w') :
    ∀ (fuel : Nat) (S : Array Bool) (q : Nat) (a : Act) (w : World) (ι : Emb), AnyInv P ops bs L H pa pe N ι0 w0 a0 S q a w ι → unl ops.size S ≤ fuel → wpAnyIn F m P .any ops Q fuel S a w := by
  have done : ∀ (S : Array Bool) (q : Nat) (a : Act) (w : World) (ι : Emb), AnyInv P ops bs L H pa pe N ι0 w0 a0 S q a w ι → (∀ i, i < ops.size → S.getD i false = true) → Q .normal a w := by
    intro S q a w ι iv hall
    have hH : H ops.size = H q := d.same' iv.qle (Nat.le_refl _) fun ℓ g1 g2 g3 => by
      have := (iv.loud ℓ g2 g3).1 (hall ℓ g2); omega
    have hB : mergeS (fun i => S.getD i false) (H q) (pe ops.size) = mergeS (fun _ => true) (H ops.size) (pe ops.size) := by
      rw [hH]
      exact mergeS_congr _ fun j p ob hmem => hall j ((d.pe_spec ops.size (Nat.le_refl _)).2 _ _ _ hmem).1
    have hst := iv.step
    rw [hB] at hst
    refine hQ ι a w hst ⟨fun t c hc => ?_, fun t v hn hv => ?_⟩ iv.t3 iv.t4
    · obtain ⟨h1, _⟩ := idx_spec (ops := ops) (t := t) ops.size (Nat.le_refl _)
      have htk : ops.toList.take ops.size = ops.toList := by rw [← Array.length_toList, List.take_length]
      rw [htk] at h1
      obtain ⟨g1, o, g2, g3⟩ := h1 c hc
      have hL := (d.L_get ops.size (Nat.le_refl _)).2 (ops.size - 1 - c) (by omega)
      have e : ops.size - 1 - (ops.size - 1 - c) = c := by omega
      rw [e] at hL
      exact ⟨_, hL, iv.t1 _ o t g2 (hall _ (by omega)) g3⟩
    · obtain ⟨_, h2⟩ := idx_spec (ops := ops) (t := t) ops.size (Nat.le_refl _)
      have htk : ops.toList.take ops.size = ops.toList := by rw [← Array.length_toList, List.take_length]
      rw [htk] at h2
      rw [iv.t2 t fun j o hoj _ => h2 hn j o ((Array.getElem?_eq_some_iff.1 hoj).1) hoj]
      have := (henv (toPth t) v hv).2
      rw [num_toPth] at this
      exact V.rel.mono iv.step.ext _ _ this
  intro fuel
  induction fuel with
  | zero =>
    intro S q a w ι iv hu
    have hall : ∀ i, i < ops.size → S.getD i false = true := fun i hi => by
      have h1 := unl_zero (Nat.le_zero.1 hu) i hi
      have hlt : i < S.size := by rw [iv.size]; exact hi
      simp only [Array.getD_eq_getD_getElem?] at h1 ⊢
      simp [hlt] at h1 ⊢; exact h1
    refine ⟨?_, done S q a w ι iv hall⟩
    cases hr : Region.ready .any ops S with
    | nil => rfl
    | cons i l =>
      exfalso
      have hmem : i ∈ Region.ready .any ops S := by rw [hr]; exact List.mem_cons_self ..
      obtain ⟨hun, o, ho, _⟩ := mem_ready.1 hmem
      have hlt : i < ops.size := (Array.getElem?_eq_some_iff.1 ho).1
      have h1 := unl_zero (Nat.le_zero.1 hu) i hlt
      rw [hun] at h1; cases h1
  | succ fuel ih =>
    intro S q a w ι iv hu
    refine ⟨fun hr => done S q a w ι iv (ready_nil od iv.size hr), fun i hi => ?_⟩
    refine step_any k hF d od gok0 hfr henv iv hi fun q' a' w' ι' iv' => ih _ q' a' w' ι' iv' ?_
    obtain ⟨hun, o, ho, _⟩ := mem_ready.1 hi
    have hlt : i < ops.size := (Array.getElem?_eq_some_iff.1 ho).1
    have := unl_set hlt hun
    omega

/-- what regIR has looked at -/
theorem ordR_of (hb : below N (dstsOf ops.toList []) = true) (ha : apartAll ops (befs ops.toList []) ops.toList 0 = true) (he : edgesBack ops.toList 0 = true) :
    OrdR ops (fun i => ((befs ops.toList [])[i]?).getD 0) N := by
  refine ⟨fun i j oi oj hij hi hj => ?_, fun i o ho j hbit => ?_, fun i o ho e hm hbd => ?_, fun i o t ho ht => ?_⟩
  · obtain ⟨b, h1, h2⟩ := apartAll_get ops _ ops.toList 0 ha i j oi oj hij (by simpa using hi) (by simpa using hj)
    rw [Nat.zero_add] at h1 h2
    simp only [h1, Option.getD_some]
    exact h2
  · obtain ⟨_, _, h3⟩ := befs_spec ops.toList []
    have h4 := h3 i o (by simpa using ho)
    simp only [List.length_nil, Nat.zero_add] at h4
    simp only [h4, Option.getD_some] at hbit
    obtain ⟨e, g1, g2, g3⟩ := bit_befOf _ _ _ hbit
    refine ⟨e, g1, g2, ?_⟩
    rcases g3 with rfl | ⟨b, g4, g5⟩
    · exact .inl rfl
    · rw [List.getElem?_take] at g4
      by_cases hlt : e.on < i
      · rw [if_pos hlt] at g4
        right
        simp only [g4, Option.getD_some]; exact g5
      · rw [if_neg hlt] at g4; cases g4
  · have := edgesBack_get ops.toList 0 he i o (by simpa using ho) e hm hbd
    omega
  · have hlt : i < ops.size := (Array.getElem?_eq_some_iff.1 ho).1
    have hsplit : ops.toList = ops.toList.take (i + 1) ++ ops.toList.drop (i + 1) := (List.take_append_drop _ _).symm
    have hol : ops.toList[i]? = some o := by simpa using ho
    have hd : ∀ (l1 l2 : List Oper) (D : List (Option Nat)), dstsOf (l1 ++ l2) D = dstsOf l2 (dstsOf l1 D) := by
      intro l1
      induction l1 with
      | nil => intro l2 D; rfl
      | cons x l1 ih => intro l2 D; rw [List.cons_append, dstsOf_cons, ih, dstsOf_cons]
    rw [hsplit, hd] at hb
    have h1 := below_dsts _ _ hb
    rw [take_succ_of hol, dstsOf_append] at h1
    exact (below_cons h1).1 t ht
/-- a region that draws its order -/
theorem regd_ok (k : CalOK P Γ cal) (hF : FW F) (hmix : P.follows .mixedOrders = true) {id : Nat} {H0 : Heap} {n0 : Pth} {LM : List V} {HM : Heap} {nM : Pth} {paM : List Past} {caM : List Calm} {peM : List Pend}
    (h : evDs cal Γ R (dopsIR P ops ops.toList (befs ops.toList []) [] 0) 0 [] H0 n0 [] [] [] = .ok LM HM nM paM caM peM)
    (hb : below N (dstsOf ops.toList []) = true) (ha : apartAll ops (befs ops.toList []) ops.toList 0 = true) (he : edgesBack ops.toList 0 = true) :
    Mono H0 (mergeAll HM peM) ∧ ∀ (ι : Emb) (w : World) (a : Act) (Q : Exit → Act → World → Prop), HOK P ι H0 w → GOK Γ ι H0 w → Fr ι H0 (mergeAll HM peM) → EnvR ι U R a.tmps → N ≤ a.tmps.size →
      (∀ ι' a' w', Step P ι H0 w ι' (mergeAll HM peM) w' → EnvD ι' (dstsOf ops.toList []) LM R a'.tmps → N ≤ a'.tmps.size → a'.defers = a.defers → Q .normal a' w') →
      (Code.region id ops true).wpIn F m P Q a w := by
  obtain ⟨L, H, n, pa, ca, pe, rfl, rfl, rfl, rfl, d⟩ := run_of h
  have od := ordR_of hb ha he
  rw [mergeAll_eq]
  refine ⟨(d.mono' k (Nat.zero_le _) (Nat.le_refl _)).trans (merge_mono _ _ _), fun ι w a Q hok gok hfr henv hN hQ => ?_⟩
  refine wpIn_region_any hmix ?_
  have hst0 := drew_step hok
  refine any_ok k hF d od (gok.step hst0) hfr henv (fun ι' a' w' hs hE hN' hD => hQ ι' a' w' (hst0.trans hs (Mono.refl _) ((d.mono' k (Nat.zero_le _) (Nat.le_refl _)).trans (merge_mono _ _ _))) hE hN' hD) ops.size _ 0 a _ ι ?_ ?_
  · refine ⟨by simp, fun i hi => ?_, Nat.zero_le _, fun ℓ hl _ => ?_, ?_, fun j o t _ hj => ?_, fun t _ => rfl, hN, rfl⟩
    · exfalso
      simp [Array.getD_eq_getD_getElem?, Array.getElem?_replicate] at hi
      split at hi <;> simp at hi
    · constructor
      · intro h
        simp [Array.getD_eq_getD_getElem?, Array.getElem?_replicate] at h
        split at h <;> simp at h
      · intro h; omega
    · have e : mergeS (fun i => (Array.replicate ops.size false).getD i false) (H 0) (pe ops.size) = mergeS (fun _ => false) (H 0) (pe ops.size) := mergeS_congr _ fun j p ob _ => by
        simp [Array.getD_eq_getD_getElem?, Array.getElem?_replicate]
        split <;> rfl
      rw [e]
      refine Step.congr (Step.refl hst0.hok) fun p => ?_
      rw [mergeS_get]
      cases (H 0).get p with
      | some o => rfl
      | none =>
        simp only
        cases hp : pget (fun _ => false) p (pe ops.size) with
        | none => rfl
        | some z => obtain ⟨_, _, h2⟩ := pget_mem hp; cases h2
    · exfalso
      simp [Array.getD_eq_getD_getElem?, Array.getElem?_replicate] at hj
      split at hj <;> simp at hj
  · unfold unl
    have := List.length_filter_le (fun i => !((Array.replicate ops.size false).getD i true)) (List.range ops.size)
    simpa using this
end
end
end Go.Ev
