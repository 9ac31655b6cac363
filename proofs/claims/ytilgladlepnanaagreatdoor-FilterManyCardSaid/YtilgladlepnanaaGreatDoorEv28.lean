/-
  A verified evaluator, part 28: a region that draws its order: whatever the order.
-/
import Derived.Test.YtilgladlepnanaaGreatDoorEv27
namespace Go.Ev
noncomputable section
open Go

theorem met_ok' {ι : Emb} {L : List V} {o : Oper} {ops : Array Oper} {D : List (Option Nat)} {tmps : Array Value} {j : Nat} {g : Option (Nat × Bool)} {b : Bool}
    (e : ∀ t ∈ looksOf ops o, ∀ i, idxOf t D 0 = some i → ∃ v, L[i]? = some v ∧ V.rel ι v (tmps.getD t undef)) (hg : guardI ops D j o.guard = some g) (hm : met g L = some b) :
    Region.wanted o (yielded ops tmps) = b := by
  -- the slots that are not looked at do not count
  let L' : List V := L
  unfold guardI at hg
  unfold Region.wanted
  cases hgd : o.guard with
  | none =>
    simp [hgd] at hg; subst hg
    have hm' : some true = some b := hm
    cases hm'; rfl
  | some jw =>
    obtain ⟨q, want⟩ := jw
    simp only [hgd] at hg ⊢
    cases ho : ops[q]? with
    | none => simp [ho] at hg
    | some oq =>
      simp only [ho] at hg
      cases hd : oq.dst with
      | none => simp [hd] at hg
      | some t =>
        simp only [hd] at hg
        cases hi : idxOf t D 0 with
        | none => simp [hi] at hg
        | some i =>
          simp only [hi] at hg
          cases hb : Nat.beq (i + q + 1) j with
          | false => simp [hb] at hg
          | true =>
            simp [hb] at hg; subst hg
            have hlk : t ∈ looksOf ops o := by
              unfold looksOf
              rw [app_eq, List.mem_append]
              right
              simp [hgd, ho, hd]
            obtain ⟨u, h1, h2⟩ := e t hlk i hi
            simp only [met, nth_eq, h1] at hm
            have hy : yielded ops tmps q = (match tmps[t]? with | some (.bool b) => some b | _ => none) := by
              unfold yielded
              simp only [ho, hd, Option.bind_some]
              rfl
            rw [hy]
            rw [Array.getD_eq_getD_getElem?] at h2
            cases u <;> try (cases hm; done)
            case bool c =>
              simp only [V.rel] at h2
              cases ht : tmps[t]? with
              | none => simp [ht, undef] at h2
              | some x =>
                simp [ht] at h2; subst h2
                cases want with
                | true =>
                  have hm' : some c = some b := hm
                  (first | (cases hm'; cases c <;> rfl) | (cases hm'; cases b <;> rfl))
                | false =>
                  have hm' : some (!c) = some b := hm
                  (first | (cases hm'; cases c <;> rfl) | (cases hm'; cases b <;> rfl))
            case tup l =>
              cases l with
              | cons => cases hm
              | nil =>
                have hm' : some false = some b := hm
                cases hm'
                simp only [V.rel] at h2
                obtain ⟨cs, hx, _⟩ := h2
                cases ht : tmps[t]? with
                | none => simp
                | some x => simp [ht] at hx; subst hx; simp

theorem tmpsOf_mem {t : Nat} : ∀ {l : List Operand}, Operand.tmp t ∈ l → t ∈ tmpsOf l
  | [], h => by simp at h
  | x :: l, h => by
    rcases List.mem_cons.1 h with e | h
    · subst e; exact List.mem_cons_self ..
    · have := tmpsOf_mem h
      cases x <;> first | exact this | exact List.mem_cons_of_mem _ this
theorem dstsOf_append (o : Oper) : ∀ (l : List Oper) (D : List (Option Nat)), dstsOf (l ++ [o]) D = o.dst :: dstsOf l D
  | [], D => rfl
  | x :: l, D => by rw [List.cons_append, dstsOf_cons, dstsOf_append o l, dstsOf_cons]
theorem idx_spec {ops : Array Oper} {t : Nat} : ∀ (i : Nat), i ≤ ops.size →
    (∀ c, idxOf t (dstsOf (ops.toList.take i) []) 0 = some c → c < i ∧ ∃ o, ops[i - 1 - c]? = some o ∧ o.dst = some t) ∧
    (idxOf t (dstsOf (ops.toList.take i) []) 0 = none → ∀ j o, j < i → ops[j]? = some o → o.dst ≠ some t)
  | 0, _ => ⟨fun c h => by simp [dstsOf, idxOf] at h, fun _ j o hj => by omega⟩
  | i + 1, hi => by
    obtain ⟨h1, h2⟩ := idx_spec (ops := ops) (t := t) i (by omega)
    have hlt : i < ops.size := by omega
    have ho : ops.toList[i]? = some ops[i] := by simp [hlt]
    rw [take_succ_of ho, dstsOf_append]
    generalize dstsOf (ops.toList.take i) [] = D at h1 h2
    cases hd : ops[i].dst with
    | none =>
      refine ⟨fun c hc => ?_, fun hn j o hj hoj => ?_⟩
      · rw [idxOf_cons_none] at hc
        cases h : idxOf t D 0 with
        | none => simp [h] at hc
        | some k =>
          simp [h] at hc; subst hc
          obtain ⟨g1, o, g2, g3⟩ := h1 k h
          have e : i + 1 - 1 - (k + 1) = i - 1 - k := by omega
          exact ⟨by omega, o, by rw [e]; exact g2, g3⟩
      · rw [idxOf_cons_none] at hn
        simp at hn
        by_cases e : j = i
        · subst e
          have : o = ops[j] := by
            have := Array.getElem?_eq_some_iff.1 hoj
            exact this.2.symm
          rw [this, hd]; simp
        · exact h2 hn j o (by omega) hoj
    | some u =>
      by_cases hut : u = t
      · subst hut
        refine ⟨fun c hc => ?_, fun hn => ?_⟩
        · rw [idxOf_cons_same] at hc
          cases hc
          exact ⟨by omega, ops[i], by simp [hlt], hd⟩
        · rw [idxOf_cons_same] at hn; cases hn
      · refine ⟨fun c hc => ?_, fun hn j o hj hoj => ?_⟩
        · rw [idxOf_cons_other D hut] at hc
          cases h : idxOf t D 0 with
          | none => simp [h] at hc
          | some k =>
            simp [h] at hc; subst hc
            obtain ⟨g1, o, g2, g3⟩ := h1 k h
            have e : i + 1 - 1 - (k + 1) = i - 1 - k := by omega
            exact ⟨by omega, o, by rw [e]; exact g2, g3⟩
        · rw [idxOf_cons_other D hut] at hn
          simp at hn
          by_cases e : j = i
          · subst e
            have : o = ops[j] := by
              have := Array.getElem?_eq_some_iff.1 hoj
              exact this.2.symm
            rw [this, hd]
            intro e2; cases e2; exact hut rfl
          · exact h2 hn j o (by omega) hoj
theorem mergeS_congr {S T : Nat → Bool} (A : Heap) : ∀ {pend : List Pend}, (∀ j p ob, Pend.mk j p ob ∈ pend → S j = T j) → mergeS S A pend = mergeS T A pend
  | [], _ => rfl
  | .mk i p o :: t, h => by
    have ih := mergeS_congr (S := S) (T := T) A (pend := t) fun j q ob hm => h j q ob (List.mem_cons_of_mem _ hm)
    have hi := h i p o (List.mem_cons_self ..)
    show (match S i with
      | true => (match Tr.get p (mergeS S A t) with | none => Tr.set p o (mergeS S A t) | some _ => mergeS S A t)
      | false => mergeS S A t) = (match T i with
      | true => (match Tr.get p (mergeS T A t) with | none => Tr.set p o (mergeS T A t) | some _ => mergeS T A t)
      | false => mergeS T A t)
    rw [ih, hi]
theorem Fr.refl (ι : Emb) (A : Heap) : Fr ι A A := fun _ h1 h2 => absurd h1 h2
theorem getD_true {S : Array Bool} {i j : Nat} (hi : i < S.size) : (S.setIfInBounds i true).getD j false = if i = j then true else S.getD j false := by
  simp only [Array.getD_eq_getD_getElem?, Array.getElem?_setIfInBounds]
  by_cases e : i = j
  · subst e; simp [hi]
  · simp [e]

section
variable {P : Program} {Γ : Glo} {cal : Cal} {R : Regs} {ops : Array Oper} {D : Nat → List (Option Nat)} {bs : Nat → Nat} {L : Nat → List V} {H : Nat → Heap} {n : Nat → Pth} {pa : Nat → List Past} {ca : Nat → List Calm} {pe : Nat → List Pend}
  {ι0 ι ι' : Emb} {w0 w w' : World} {a a0 : Act} {S : Array Bool} {q N : Nat}

/-- what is known of the operations -/
structure OrdR (ops : Array Oper) (bs : Nat → Nat) (N : Nat) : Prop where
  apart : ∀ (i j : Nat) (oi oj : Oper), i < j → ops[i]? = some oi → ops[j]? = some oj → Apart ops (bs j) i oi oj
  bef : ∀ (i : Nat) (o : Oper), ops[i]? = some o → ∀ j, bit (bs i) j = true → ∃ e ∈ o.after.toList, Region.binds .any e = true ∧ (e.on = j ∨ bit (bs e.on) j = true)
  back : ∀ (i : Nat) (o : Oper), ops[i]? = some o → ∀ e ∈ o.after.toList, Region.binds .any e = true → e.on < i
  dst : ∀ (i : Nat) (o : Oper) (t : Nat), ops[i]? = some o → o.dst = some t → t < N
/-- between two operations: those of S have been done; the loud ones among them are those before q -/
structure AnyInv (P : Program) (ops : Array Oper) (bs : Nat → Nat) (L : Nat → List V) (H : Nat → Heap) (pa : Nat → List Past) (pe : Nat → List Pend) (N : Nat) (ι0 : Emb) (w0 : World) (a0 : Act) (S : Array Bool) (q : Nat) (a : Act) (w : World) (ι : Emb) : Prop where
  size : S.size = ops.size
  closed : ∀ i, S.getD i false = true → ∀ j, bit (bs i) j = true → S.getD j false = true
  qle : q ≤ ops.size
  loud : ∀ ℓ, ℓ < ops.size → LoudEx H pa ℓ → (S.getD ℓ false = true ↔ ℓ < q)
  step : Step P ι0 (H 0) w0 ι (mergeS (fun i => S.getD i false) (H q) (pe ops.size)) w
  t1 : ∀ (j : Nat) (o : Oper) (t : Nat), ops[j]? = some o → S.getD j false = true → o.dst = some t → V.rel ι (val L j) (a.tmps.getD t undef)
  t2 : ∀ (t : Nat), (∀ (j : Nat) (o : Oper), ops[j]? = some o → S.getD j false = true → o.dst ≠ some t) → a.tmps.getD t undef = a0.tmps.getD t undef
  t3 : N ≤ a.tmps.size
  t4 : a.defers = a0.defers

theorem OrdR.distinct (od : OrdR ops bs N) {i j : Nat} {oi oj : Oper} (hne : i ≠ j) (hi : ops[i]? = some oi) (hj : ops[j]? = some oj) {t u : Nat} (ht : oi.dst = some t) (hu : oj.dst = some u) : t ≠ u := by
  rcases Nat.lt_or_gt_of_ne hne with h | h
  · exact (od.apart i j oi oj h hi hj).1 t u ht hu
  · exact fun e => (od.apart j i oj oi h hj hi).1 u t hu ht e.symm
theorem AnyInv.next (od : OrdR ops bs N) (iv : AnyInv P ops bs L H pa pe N ι0 w0 a0 S q a w ι) {i q' : Nat} {o : Oper} {x : Value} (ho : ops[i]? = some o) (hi : S.getD i false = false)
    (hcl : ∀ j, bit (bs i) j = true → S.getD j false = true) (hle : ι.le ι') (hv : V.rel ι' (val L i) x) (hq : q' ≤ ops.size)
    (hl : ∀ ℓ, ℓ < ops.size → LoudEx H pa ℓ → ((S.setIfInBounds i true).getD ℓ false = true ↔ ℓ < q'))
    (hs : Step P ι0 (H 0) w0 ι' (mergeS (fun j => (S.setIfInBounds i true).getD j false) (H q') (pe ops.size)) w') :
    AnyInv P ops bs L H pa pe N ι0 w0 a0 (S.setIfInBounds i true) q' (a.put o.dst x) w' ι' := by
  have hlt : i < S.size := by rw [iv.size]; exact (Array.getElem?_eq_some_iff.1 ho).1
  have gd : ∀ j, (S.setIfInBounds i true).getD j false = if i = j then true else S.getD j false := fun j => getD_true hlt
  refine ⟨by simp [iv.size], fun j hj l hb => ?_, hq, hl, hs, fun j oj t hoj hj ht => ?_, fun t hn => ?_, by rw [put_size]; exact iv.t3, by rw [put_defers]; exact iv.t4⟩
  · rw [gd] at hj ⊢
    by_cases e2 : i = l
    · rw [if_pos e2]
    · rw [if_neg e2]
      by_cases e : i = j
      · subst e; exact hcl l hb
      · rw [if_neg e] at hj; exact iv.closed j hj l hb
  · rw [gd] at hj
    cases hd : o.dst with
    | none =>
      by_cases e : i = j
      · subst e; rw [ho] at hoj; cases hoj; rw [hd] at ht; cases ht
      · rw [if_neg e] at hj
        exact V.rel.mono hle _ _ (iv.t1 j oj t hoj hj ht)
    | some u =>
      have hu : u < a.tmps.size := Nat.lt_of_lt_of_le (od.dst i o u ho hd) iv.t3
      show V.rel ι' (val L j) ((a.tmps.setIfInBounds u x).getD t undef)
      rw [getD_set _ _ _ _ hu]
      by_cases e : i = j
      · subst e; rw [ho] at hoj; cases hoj
        rw [hd] at ht; cases ht
        rw [if_pos rfl]; exact hv
      · rw [if_neg e] at hj
        rw [if_neg (od.distinct e ho hoj hd ht)]
        exact V.rel.mono hle _ _ (iv.t1 j oj t hoj hj ht)
  · have h0 := iv.t2 t fun j oj hoj hj => hn j oj hoj (by rw [gd]; split <;> first | rfl | exact hj)
    cases hd : o.dst with
    | none => exact h0
    | some u =>
      have hu : u < a.tmps.size := Nat.lt_of_lt_of_le (od.dst i o u ho hd) iv.t3
      show (a.tmps.setIfInBounds u x).getD t undef = _
      rw [getD_set _ _ _ _ hu, if_neg]
      · exact h0
      · intro e; subst e
        exact hn i o ho (by rw [gd, if_pos rfl]) hd
/-- what operation i looks at is as it was evaluated -/
theorem AnyInv.slot (d : DRun P Γ cal R ops (fun i => dstsOf (ops.toList.take i) []) bs L H n pa ca pe) (od : OrdR ops bs N) (iv : AnyInv P ops bs L H pa pe N ι0 w0 a0 S q a w ι)
    {U : Nat} (henv : EnvR ι0 U R a0.tmps) {i : Nat} {o : Oper} (ho : ops[i]? = some o) (hi : S.getD i false = false) (hcl : ∀ j, bit (bs i) j = true → S.getD j false = true) {t : Nat} (ht : t ∈ looksOf ops o) :
    (∀ c, idxOf t (dstsOf (ops.toList.take i) []) 0 = some c → ∃ v, (L i)[c]? = some v ∧ V.rel ι v (a.tmps.getD t undef)) ∧
    (idxOf t (dstsOf (ops.toList.take i) []) 0 = none → ∀ v, R.get (toPth t) = some v → V.rel ι v (a.tmps.getD t undef)) := by
  have hlt : i < ops.size := (Array.getElem?_eq_some_iff.1 ho).1
  obtain ⟨h1, h2⟩ := idx_spec (ops := ops) (t := t) i (by omega)
  refine ⟨fun c hc => ?_, fun hn v hv => ?_⟩
  · obtain ⟨g1, oj, g2, g3⟩ := h1 c hc
    have hap := od.apart (i - 1 - c) i oj o (by omega) g2 ho
    have hb : bit (bs i) (i - 1 - c) = true := by
      cases hb : bit (bs i) (i - 1 - c) with
      | true => rfl
      | false => exact absurd ht ((hap.2 hb).2 t g3)
    have hL := (d.L_get i (by omega)).2 (i - 1 - c) (by omega)
    have e : i - 1 - (i - 1 - c) = c := by omega
    rw [e] at hL
    exact ⟨_, hL, iv.t1 _ oj t g2 (hcl _ hb) g3⟩
  · have h0 := iv.t2 t fun j oj hoj hj htj => by
      rcases Nat.lt_trichotomy j i with hlt' | rfl | hgt
      · exact h2 hn j oj hlt' hoj htj
      · rw [hi] at hj; cases hj
      · have hap := od.apart i j o oj hgt ho hoj
        cases hb : bit (bs j) i with
        | true =>
          have := iv.closed j hj i hb
          rw [hi] at this; cases this
        | false => exact absurd ht ((hap.2 hb).1 t htj)
    rw [h0]
    have := (henv (toPth t) v hv).2
    rw [num_toPth] at this
    exact V.rel.mono iv.step.ext _ _ this
end
end
end Go.Ev
