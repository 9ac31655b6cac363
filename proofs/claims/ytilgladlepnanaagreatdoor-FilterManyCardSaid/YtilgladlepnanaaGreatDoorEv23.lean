/-
  A verified evaluator, part 23: regions in the text's order.
-/
import Derived.Test.YtilgladlepnanaaGreatDoorEv22
namespace Go.Ev
noncomputable section
open Go

/-- the fences in use: none at all; in a round -/
def FW (F : Fence) : Prop := F = Fence.wide ∨ ∃ l, F = Fence.wide.inRound l
section
variable {P : Program} {Γ : Glo} {ι : Emb} {H H' : Heap} {w w' : World} {ρ : Operand → Value} {L : List V} {R : Regs} {r : Operand → Src} {cal : Cal} {n n' : Pth} {v : V} {o : Oper} {F : Fence} {m : Nat}
theorem FW.fn (h : FW F) (f : Nat) : F.fn f := by rcases h with rfl | ⟨l, rfl⟩ <;> exact trivial
theorem FW.depth (h : FW F) : F.depth.isSome = false := by rcases h with rfl | ⟨l, rfl⟩ <;> rfl
theorem FW.calls (h : FW F) {f : Nat} {xs : Array Value} {Q : Ending → World → Prop} (hc : Calls P f xs w Q) : CallsIn F m P f xs w Q := by
  have h1 : CallsIn Fence.wide m P f xs w Q := callsIn_wide.2 hc
  rcases h with rfl | ⟨l, rfl⟩
  · exact h1
  · exact CallsIn.inRound l h1
theorem FW.round (h : FW F) {l f : Nat} {tmps : Array Value} {as bd : Code} {Q : Ending → World → Prop} (hc : RoundIn Fence.wide m P l f tmps as bd w Q) : RoundIn F m P l f tmps as bd w Q := by
  rcases h with rfl | ⟨l', rfl⟩
  · exact hc
  · exact RoundIn.inRound l' hc
theorem OpOK.wpIn {a : Act} {R : Value → World → Prop} {next : Act → World → Prop} {Q : Exit → Act → World → Prop} (hF : FW F) (hd : ∀ c, o.op ≠ .defer c) (h : OpOK P a.eval o w R)
    (hn : ∀ x w', R x w' → next (a.put o.dst x) w') : o.wpIn F m P a w next Q := by
  refine ⟨fun f _ => hF.fn f, ?_⟩
  rw [Oper.semAt_eq _ _ _ hd]
  unfold OpOK at h
  split at h
  · rename_i x w' hr; rw [hr]; exact hn _ _ h
  · rename_i w' hr; rw [hr]; exact hn _ _ h
  · rename_i f args w' hr
    rw [hr, Oper.uponIn_enter]
    refine ⟨fun hs => Bool.noConfusion (hF.depth.symm.trans hs), hF.calls (h.mono fun e w'' => ?_)⟩
    rintro ⟨x, rfl, hx⟩
    exact hn _ _ hx
  · rename_i l f tmps as bd w' hr
    rw [hr, Oper.uponIn_round]
    refine ⟨fun hs => Bool.noConfusion (hF.depth.symm.trans hs), hF.round ((h (m - 1)).mono fun e w'' => ?_)⟩
    rintro ⟨x, rfl, hx⟩
    exact hn _ _ hx
  · exact h.elim

/- what a region's results so far say of the frame -/
structure EnvD (ι : Emb) (D : List (Option Nat)) (L : List V) (R : Regs) (tmps : Array Value) : Prop where
  loc : ∀ t i, idxOf t D 0 = some i → ∃ v, L[i]? = some v ∧ V.rel ι v (tmps.getD t undef)
  reg : ∀ t v, idxOf t D 0 = none → R.get (toPth t) = some v → V.rel ι v (tmps.getD t undef)
theorem idxOf_succ (t : Nat) : ∀ (D : List (Option Nat)) (i : Nat), idxOf t D (i + 1) = (idxOf t D i).map (· + 1)
  | [], i => rfl
  | d :: D, i => by
    have ih := idxOf_succ t D (i + 1)
    simp only [idxOf]
    cases d with
    | none => exact ih
    | some u =>
      cases h : Nat.beq u t with
      | true => simp only [h]; rfl
      | false => simp only [h]; exact ih
theorem idxOf_cons_none (t : Nat) (D : List (Option Nat)) : idxOf t (none :: D) 0 = (idxOf t D 0).map (· + 1) := idxOf_succ t D 0
theorem idxOf_cons_same (t : Nat) (D : List (Option Nat)) : idxOf t (some t :: D) 0 = some 0 := by simp [idxOf]
theorem idxOf_cons_other {u t : Nat} (D : List (Option Nat)) (h : u ≠ t) : idxOf t (some u :: D) 0 = (idxOf t D 0).map (· + 1) := by
  have hb : Nat.beq u t = false := by
    cases hb : Nat.beq u t with
    | false => rfl
    | true => exact absurd (beq_eq hb) h
  simp only [idxOf, hb]
  exact idxOf_succ t D 0
theorem EnvD.mono {ι' : Emb} (h : ι.le ι') {D : List (Option Nat)} {tmps : Array Value} (e : EnvD ι D L R tmps) : EnvD ι' D L R tmps :=
  ⟨fun t i hi => let ⟨v, h1, h2⟩ := e.loc t i hi; ⟨v, h1, V.rel.mono h _ _ h2⟩, fun t v h1 h2 => V.rel.mono h _ _ (e.reg t v h1 h2)⟩
theorem EnvD.put {D : List (Option Nat)} {a : Act} {dst : Option Nat} {x : Value} (e : EnvD ι D L R a.tmps) (hv : V.rel ι v x) (hd : ∀ t, dst = some t → t < a.tmps.size) :
    EnvD ι (dst :: D) (v :: L) R (a.put dst x).tmps := by
  cases dst with
  | none =>
    refine ⟨fun t i hi => ?_, fun t u hi hu => ?_⟩
    · rw [idxOf_cons_none] at hi
      cases h : idxOf t D 0 with
      | none => simp [h] at hi
      | some j =>
        simp [h] at hi; subst hi
        obtain ⟨u, h1, h2⟩ := e.loc t j h
        exact ⟨u, by simpa using h1, h2⟩
    · rw [idxOf_cons_none] at hi
      simp at hi
      exact e.reg t u hi hu
  | some d =>
    have hlt := hd d rfl
    have ht : (a.put (some d) x).tmps = a.tmps.setIfInBounds d x := rfl
    refine ⟨fun t i hi => ?_, fun t u hi hu => ?_⟩
    · by_cases hdt : d = t
      · subst hdt
        rw [idxOf_cons_same] at hi
        cases hi
        exact ⟨v, rfl, by rw [ht, getD_set _ _ _ _ hlt, if_pos rfl]; exact hv⟩
      · rw [idxOf_cons_other D hdt] at hi
        cases h : idxOf t D 0 with
        | none => simp [h] at hi
        | some j =>
          simp [h] at hi; subst hi
          obtain ⟨u, h1, h2⟩ := e.loc t j h
          exact ⟨u, by simpa using h1, by rw [ht, getD_set _ _ _ _ hlt, if_neg hdt]; exact h2⟩
    · by_cases hdt : d = t
      · subst hdt
        rw [idxOf_cons_same] at hi; cases hi
      · rw [idxOf_cons_other D hdt] at hi
        simp at hi
        rw [ht, getD_set _ _ _ _ hlt, if_neg hdt]
        exact e.reg t u hi hu
theorem put_size (a : Act) (dst : Option Nat) (x : Value) : (a.put dst x).tmps.size = a.tmps.size := by
  cases dst with
  | none => rfl
  | some d => show (a.tmps.setIfInBounds d x).size = _; simp
theorem put_defers (a : Act) (dst : Option Nat) (x : Value) : (a.put dst x).defers = a.defers := by cases dst <;> rfl
theorem src_ok {D : List (Option Nat)} {a : Act} (e : EnvD ι D L R a.tmps) (x : Operand) : V.rel ι (src L R (rs D x)) (a.eval x) := by
  cases x with
  | tmp t =>
    show V.rel ι (src L R (match idxOf t D 0 with | some i => .loc i | none => .reg (toPth t))) (a.tmps.getD t undef)
    cases h : idxOf t D 0 with
    | some i =>
      obtain ⟨v, h1, h2⟩ := e.loc t i h
      simp only [src, nth_eq, h1]; exact h2
    | none =>
      simp only [src]
      cases hR : R.get (toPth t) with
      | none => simp [V.rel]
      | some v => exact e.reg t v h hR
  | const y => exact ofV_rel 3 y
  | global g => show V.rel ι (.gptr g 0) _; simp only [V.rel]; rfl
  | func f => show V.rel ι (.fn f [] []) _; simp only [V.rel]; exact ⟨#[], #[], rfl, rels_nil, rels_nil⟩
theorem cxt_of {D : List (Option Nat)} {a : Act} (hok : HOK P ι H w) (gok : GOK Γ ι H w) (e : EnvD ι D L R a.tmps) : Cxt P Γ ι H w a.eval L R (rs D) :=
  ⟨hok, gok, src_ok e, fun _ => rfl, fun _ => rfl⟩
theorem met_ok {ops : Array Oper} {D : List (Option Nat)} {tmps : Array Value} {j : Nat} {g : Option (Nat × Bool)} {b : Bool} (e : EnvD ι D L R tmps) (hg : guardI ops D j o.guard = some g) (hm : met g L = some b) :
    Region.wanted o (yielded ops tmps) = b := by
  unfold guardI at hg
  unfold Region.wanted
  cases hgd : o.guard with
  | none =>
    simp [hgd] at hg; subst hg
    have hm' : some true = some b := hm
    cases hm'; rfl
  | some jw =>
    obtain ⟨q, want⟩ := jw
    simp only [hgd] at hg ⊢
    cases ho : ops[q]? with
    | none => simp [ho] at hg
    | some oq =>
      simp only [ho] at hg
      cases hd : oq.dst with
      | none => simp [hd] at hg
      | some t =>
        simp only [hd] at hg
        cases hi : idxOf t D 0 with
        | none => simp [hi] at hg
        | some i =>
          simp only [hi] at hg
          cases hb : Nat.beq (i + q + 1) j with
          | false => simp [hb] at hg
          | true =>
            simp [hb] at hg; subst hg
            obtain ⟨u, h1, h2⟩ := e.loc t i hi
            simp only [met, nth_eq, h1] at hm
            have hy : yielded ops tmps q = (match tmps[t]? with | some (.bool b) => some b | _ => none) := by
              unfold yielded
              simp only [ho, hd, Option.bind_some]
              rfl
            rw [hy]
            rw [Array.getD_eq_getD_getElem?] at h2
            cases u <;> try (cases hm; done)
            case bool c =>
              simp only [V.rel] at h2
              cases ht : tmps[t]? with
              | none => simp [ht, undef] at h2
              | some x =>
                simp [ht] at h2; subst h2
                cases want with
                | true =>
                  have hm' : some c = some b := hm
                  (first | (cases hm'; cases c <;> rfl) | (cases hm'; cases b <;> rfl))
                | false =>
                  have hm' : some (!c) = some b := hm
                  (first | (cases hm'; cases c <;> rfl) | (cases hm'; cases b <;> rfl))
            case tup l =>
              cases l with
              | cons => cases hm
              | nil =>
                have hm' : some false = some b := hm
                cases hm'
                simp only [V.rel] at h2
                obtain ⟨cs, hx, _⟩ := h2
                cases ht : tmps[t]? with
                | none => simp
                | some x => simp [ht] at hx; subst hx; simp

theorem below_cons {N : Nat} {d : Option Nat} {D : List (Option Nat)} (h : below N (d :: D) = true) : (∀ t, d = some t → t < N) ∧ below N D = true := by
  simp only [below, Bool.and_eq_true] at h
  refine ⟨fun t ht => ?_, h.2⟩
  subst ht
  exact blt_lt h.1
theorem below_dsts {N : Nat} : ∀ (l : List Oper) (D : List (Option Nat)), below N (dstsOf l D) = true → below N D = true
  | [], D, h => h
  | o :: l, D, h => (below_cons (below_dsts l (o.dst :: D) h)).2

theorem opsIR_cons (ops : Array Oper) (o : Oper) (l : List Oper) (D : List (Option Nat)) (j : Nat) : opsIR P ops (o :: l) D j = (match guardI ops D j o.guard with
    | some g => .mk g (opI P (rs D) o.op)
    | none => .mk none .bad) :: opsIR P ops l (o.dst :: D) (j + 1) := rfl
theorem evOps_cons (o : IOp) (l : List IOp) (L : List V) (H : Heap) (n : Pth) : evOps cal Γ R (o :: l) L H n = (match evOp1 cal Γ R o L H n with | .ok L' H' n' => evOps cal Γ R l L' H' n' | .bad => .bad) := rfl

theorem undef_rel : V.rel ι (.tup []) undef := by simp only [V.rel]; exact ⟨#[], rfl, rels_nil⟩
/-- a region's operations, one after the other -/
theorem ops_ok (k : CalOK P Γ cal) (hF : FW F) {ops : Array Oper} {N : Nat} : ∀ (l : List Oper) (i : Nat) (D : List (Option Nat)) (L : List V) (H : Heap) (n : Pth) (L' : List V) (H' : Heap) (n' : Pth),
    ops.toList.drop i = l → below N (dstsOf l D) = true → evOps cal Γ R (opsIR P ops l D i) L H n = .ok L' H' n' → Mono H H' ∧
    ∀ (ι : Emb) (w : World) (a : Act) (Q : Exit → Act → World → Prop), HOK P ι H w → GOK Γ ι H w → Fr ι H H' → EnvD ι D L R a.tmps → N ≤ a.tmps.size →
      (∀ ι' a' w', Step P ι H w ι' H' w' → EnvD ι' (dstsOf l D) L' R a'.tmps → N ≤ a'.tmps.size → a'.defers = a.defers → Q .normal a' w') →
      wpOpsIn F m P ops Q (List.range' i l.length) a w
  | [], i, D, L, H, n, L', H', n', hl, hb, he => by
    have he' : ROut.ok L H n = .ok L' H' n' := he
    cases he'
    refine ⟨Mono.refl _, fun ι w a Q hok gok hfr henv hN hQ => ?_⟩
    exact hQ ι a w (Step.refl hok) henv hN rfl
  | o :: l, i, D, L, H, n, L', H', n', hl, hb, he => by
    rw [opsIR_cons, evOps_cons] at he
    cases h1 : evOp1 cal Γ R (match guardI ops D i o.guard with | some g => .mk g (opI P (rs D) o.op) | none => .mk none .bad) L H n with
    | bad => simp [h1] at he
    | ok L1 H1 n1 =>
      simp only [h1] at he
      have hoi : ops[i]? = some o := by
        have : ops.toList[i]? = some o := by
          have := congrArg (·[0]?) hl
          simpa [List.getElem?_drop] using this
        simpa using this
      have hl' : ops.toList.drop (i + 1) = l := by
        have := congrArg List.tail hl
        simpa [List.tail_drop] using this
      obtain ⟨m1, rest⟩ := ops_ok k hF l (i + 1) (o.dst :: D) L1 H1 n1 L' H' n' hl' hb he
      have hdst := (below_cons (below_dsts l (o.dst :: D) hb)).1
      cases hg : guardI ops D i o.guard with
      | none => simp only [hg] at h1; cases h1
      | some g =>
        simp only [hg] at h1
        unfold evOp1 at h1
        simp only at h1
        cases hm : met g L with
        | none => simp [hm] at h1
        | some b =>
          cases b with
          | true =>
            simp only [hm] at h1
            cases hev : evI (opI P (rs D) o.op) cal Γ L R H n with
            | bad => simp [hev] at h1
            | ok v H1' n1' =>
              simp [hev] at h1
              obtain ⟨rfl, rfl, rfl⟩ := h1
              have m0 := evI_mono k _ hev
              refine ⟨m0.trans m1, fun ι w a Q hok gok hfr henv hN hQ => ?_⟩
              have hw := met_ok (o := o) henv hg hm
              rw [List.length_cons, List.range'_succ]
              unfold wpOpsIn
              simp only [hoi]
              rw [if_pos hw]
              have hop := op_ok (o := o) k (cxt_of hok gok henv) hev (Fr.split hfr m1)
              refine hop.wpIn hF (no_defer hev) ?_
              rintro x w1 ⟨ι1, hv, hs⟩
              refine rest ι1 w1 _ Q hs.hok (gok.step hs) (Fr.after hfr hs m0) ((henv.mono hs.ext).put hv fun t ht => Nat.lt_of_lt_of_le (hdst t ht) hN) (by rw [put_size]; exact hN) ?_
              intro ι' a' w' hs' he' hN' hd'
              exact hQ ι' a' w' (hs.trans hs' m0 m1) he' hN' (by rw [hd', put_defers])
          | false =>
            simp [hm] at h1
            obtain ⟨rfl, rfl, rfl⟩ := h1
            refine ⟨m1, fun ι w a Q hok gok hfr henv hN hQ => ?_⟩
            have hw := met_ok (o := o) henv hg hm
            rw [List.length_cons, List.range'_succ]
            unfold wpOpsIn
            simp only [hoi]
            rw [if_neg (by rw [hw]; simp)]
            refine ⟨fun f _ => hF.fn f, rest ι w _ Q hok gok hfr (henv.put undef_rel fun t ht => Nat.lt_of_lt_of_le (hdst t ht) hN) (by rw [put_size]; exact hN) ?_⟩
            intro ι' a' w' hs' he' hN' hd'
            exact hQ ι' a' w' hs' he' hN' (by rw [hd', put_defers])
end
end
end Go.Ev
