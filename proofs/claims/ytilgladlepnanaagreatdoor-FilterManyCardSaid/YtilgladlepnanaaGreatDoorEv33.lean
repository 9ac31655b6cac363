/-
  A verified evaluator, part 33: functions; calls, however deep.
-/
import Derived.Test.YtilgladlepnanaaGreatDoorEv32
namespace Go.Ev
noncomputable section
open Go

section
variable {P : Program} {Γ : Glo} {ι ι' ι2 : Emb} {H H' H2 : Heap} {w w' w2 w0 : World} {R R' : Regs} {cal : Cal} {n n' : Pth} {U N m rounds : Nat} {F : Fence} {a : Act} {out : Out}

/- names only grow -/
theorem evOps_mono (k : CalOK P Γ cal) : ∀ (l : List IOp) (L : List V) (H : Heap) (n : Pth) (L' : List V) (H' : Heap) (n' : Pth), evOps cal Γ R l L H n = .ok L' H' n' → Mono H H'
  | [], L, H, n, L', H', n', h => by
    have h' : ROut.ok L H n = .ok L' H' n' := h
    cases h'; exact Mono.refl _
  | o :: l, L, H, n, L', H', n', h => by
    rw [evOps_cons] at h
    cases h1 : evOp1 cal Γ R o L H n with
    | bad => simp [h1] at h
    | ok L1 H1 n1 =>
      simp only [h1] at h
      refine Mono.trans ?_ (evOps_mono k l L1 H1 n1 L' H' n' h)
      unfold evOp1 at h1
      split at h1
      split at h1 <;> try (cases h1; done)
      · split at h1 <;> try (cases h1; done)
        rename_i he
        cases h1
        exact evI_mono k _ he
      · cases h1; exact Mono.refl _
theorem evDs_mono (k : CalOK P Γ cal) : ∀ (l : List DOp) (i : Nat) (L : List V) (H : Heap) (n : Pth) (pa : List Past) (ca : List Calm) (pe : List Pend) (L' : List V) (H' : Heap) (n' : Pth) (pa' : List Past) (ca' : List Calm) (pe' : List Pend),
    evDs cal Γ R l i L H n pa ca pe = .ok L' H' n' pa' ca' pe' → Mono H H'
  | [], i, L, H, n, pa, ca, pe, L', H', n', pa', ca', pe', h => by
    have h' : DOut.ok L H n pa ca pe = .ok L' H' n' pa' ca' pe' := h
    cases h'; exact Mono.refl _
  | o :: l, i, L, H, n, pa, ca, pe, L', H', n', pa', ca', pe', h => by
    rw [evDs_cons] at h
    cases h1 : evDOp cal Γ R i o L H n pa ca pe with
    | bad => simp [h1] at h
    | ok L1 H1 n1 pa1 ca1 pe1 =>
      simp only [h1] at h
      refine Mono.trans ?_ (evDs_mono k l _ L1 H1 n1 pa1 ca1 pe1 L' H' n' pa' ca' pe' h)
      unfold evDOp at h1
      split at h1
      split at h1 <;> try (cases h1; done)
      · unfold evD1 at h1
        split at h1
        · split at h1 <;> cases h1
          exact Mono.refl _
        · split at h1 <;> try (cases h1; done)
          split at h1 <;> cases h1
          exact Mono.refl _
        · split at h1 <;> try (cases h1; done)
          split at h1 <;> try (cases h1; done)
          split at h1 <;> cases h1
          exact Mono.refl _
        · split at h1 <;> try (cases h1; done)
          split at h1 <;> try (cases h1; done)
          rename_i he
          split at h1 <;> cases h1
          rw [merge_eq] at he
          exact (merge_mono _ _ _).trans (evI_mono k _ he)
      · cases h1; exact Mono.refl _
theorem evCode_to (k : CalOK P Γ cal) (c : IR) : ∀ (R : Regs) (H : Heap) (n : Pth), Out.to H (evCode cal Γ c rounds R H n) := by
  induction c with
  | bad => exact fun R H n => trivial
  | skip => exact fun R H n => Mono.refl _
  | ret => exact fun R H n => Mono.refl _
  | exit id => exact fun R H n => Mono.refl _
  | seq x y hx hy =>
    intro R H n
    have m1 := hx R H n
    show Out.to H (match evCode cal Γ x rounds R H n with
      | .nrm R' H' n' => evCode cal Γ y rounds R' H' n'
      | .brk i R' H' n' => .brk i R' H' n'
      | .ret R' H' n' => .ret R' H' n'
      | .bad => .bad)
    generalize evCode cal Γ x rounds R H n = o at m1
    cases o with
    | nrm R' H' n' => exact Out.to_trans m1 (hy R' H' n')
    | _ => exact m1
  | cond c x y hx hy =>
    intro R H n
    show Out.to H (match src [] R c with
      | .bool t => (match t with | true => evCode cal Γ x rounds R H n | false => evCode cal Γ y rounds R H n)
      | _ => .bad)
    split
    · split
      · exact hx R H n
      · exact hy R H n
    · trivial
  | block id x hx =>
    intro R H n
    have m1 := hx R H n
    show Out.to H (match evCode cal Γ x rounds R H n with
      | .nrm R' H' n' => .nrm R' H' n'
      | .brk i R' H' n' => (match Nat.beq i id with | true => .nrm R' H' n' | false => .brk i R' H' n')
      | .ret R' H' n' => .ret R' H' n'
      | .bad => .bad)
    generalize evCode cal Γ x rounds R H n = o at m1
    cases o with
    | brk i R' H' n' => simp only; split <;> exact m1
    | _ => exact m1
  | loop x hx =>
    intro R H n
    show Out.to H (goL (evCode cal Γ x rounds) rounds R H n)
    have mono : ∀ j R H n, Out.to H (goL (evCode cal Γ x rounds) j R H n) := by
      intro j
      induction j with
      | zero => intro R H n; trivial
      | succ j ih =>
        intro R H n
        have m1 := hx R H n
        rw [goL_succ]
        generalize evCode cal Γ x rounds R H n = o at m1
        cases o with
        | nrm R' H' n' => exact Out.to_trans m1 (ih R' H' n')
        | _ => exact m1
    exact mono rounds R H n
  | reg ops exps =>
    intro R H n
    show Out.to H (match evOps cal Γ R ops [] H n with
      | .ok L H' n' => .nrm (expo L R exps) H' n'
      | .bad => .bad)
    cases he : evOps cal Γ R ops [] H n with
    | bad => trivial
    | ok L' H' n' => exact evOps_mono k _ _ _ _ _ _ _ he
  | regd ops exps =>
    intro R H n
    show Out.to H (match evDs cal Γ R ops 0 [] H n [] [] [] with
      | .ok L H' n' _ _ pend => .nrm (expo L R exps) (mergeAll H' pend) n'
      | .bad => .bad)
    cases he : evDs cal Γ R ops 0 [] H n [] [] [] with
    | bad => trivial
    | ok L' H' n' pa' ca' pe' =>
      show Mono H (mergeAll H' pe')
      rw [mergeAll_eq]
      exact (evDs_mono k _ _ _ _ _ _ _ _ _ _ _ _ _ _ he).trans (merge_mono _ _ _)
  | rf f ps x y _ _ =>
    intro R H n
    show Out.to H (coRf cal f ps x y rounds R H n)
    unfold coRf
    split <;> try trivial
    split <;> try trivial
    rename_i he
    have m1 := (k.fn _ _ _ _ _ _ _ he).1
    have m2 := ((Mono.set _ _ _).trans m1).trans (Mono.set _ n .dead)
    split <;> try trivial
    split <;> exact m2

/- results -/
def resF (tmps : Array Value) : ResultVar → Sem Value
  | .tmp t => pure (tmps.getD t undef)
  | .cell a t => do loadVar t (← asAddr (tmps.getD a undef))
theorem results_eq (fn : Func) (tmps : Array Value) : results fn tmps = (do
    let vs ← fn.results.mapM (resF tmps)
    pure (if h : vs.size = 1 then vs[0] else .tuple vs)) := by
  unfold results
  congr
theorem resKnown_tmp {t : Nat} {l : List ResultVar} : resKnown P (.tmp t :: l) = resKnown P l := rfl
theorem resAll_cons (r : RV) (rs : List RV) : resAll Γ R H (r :: rs) = (match resOf Γ R H r, resAll Γ R H rs with | some v, some l => some (v :: l) | _, _ => none) := rfl
theorem get_slot {tmps : Array Value} (henv : EnvR ι U R tmps) {t : Nat} {v : V} (h : R.get (toPth t) = some v) : V.rel ι v (tmps.getD t undef) := by
  have := (henv (toPth t) v h).2
  rw [num_toPth] at this; exact this
theorem results_ok (hok : HOK P ι H w) (gok : GOK Γ ι H w) {tmps : Array Value} (henv : EnvR ι U R tmps) : ∀ (l : List ResultVar) (vs : List V), resKnown P l = true → resAll Γ R H (resIR P l) = some vs →
    ∃ xs : List Value, (l.mapM (resF tmps)).run P w = .ok xs w ∧ V.rels ι vs xs
  | [], vs, _, h => by
    have h' : some [] = some vs := h
    cases h'
    exact ⟨[], by simp [run_ofPure], rels_nil⟩
  | r :: l, vs, hkn, h => by
    have key : ∀ (q : RV), resIR P (r :: l) = q :: resIR P l → resKnown P l = true → (∀ v, resOf Γ R H q = some v → ∃ x, (resF tmps r).run P w = .ok x w ∧ V.rel ι v x) →
        ∃ xs : List Value, ((r :: l).mapM (resF tmps)).run P w = .ok xs w ∧ V.rels ι vs xs := by
      intro q hq hkl hx
      rw [hq, resAll_cons] at h
      cases h1 : resOf Γ R H q with
      | none => simp [h1] at h
      | some v =>
        cases h2 : resAll Γ R H (resIR P l) with
        | none => simp [h1, h2] at h
        | some vs' =>
          simp only [h1, h2, Option.some.injEq] at h
          subst h
          obtain ⟨x, hx1, hx2⟩ := hx v h1
          obtain ⟨xs, h3, h4⟩ := results_ok hok gok henv l vs' hkl h2
          refine ⟨x :: xs, ?_, rels_cons hx2 h4⟩
          rw [List.mapM_cons, run_ok_bind hx1, run_ok_bind h3]; rfl
    cases r with
    | tmp t =>
      refine key (.tmp (toPth t)) rfl hkn fun v hv => ⟨_, rfl, get_slot henv hv⟩
    | cell c t =>
      have hkn' : (match aggT P t, sizeT P t with | some _, some _ => resKnown P l | _, _ => false) = true := hkn
      cases hag : aggT P t with
      | none => simp [hag] at hkn'
      | some b =>
        cases hsz : sizeT P t with
        | none => simp [hag, hsz] at hkn'
        | some k =>
          simp only [hag, hsz] at hkn'
          cases b with
          | false =>
            refine key (.cell (toPth c) none) (by simp only [resIR, hag]) hkn' fun v hv => ?_
            unfold resOf at hv
            simp only at hv
            cases hr : R.get (toPth c) with
            | none => simp [hr] at hv
            | some u =>
              simp only [hr] at hv
              obtain ⟨ad, y, hx, hrun, hvy⟩ := cellAt_ok hok gok hv (get_slot henv hr)
              refine ⟨y, ?_, hvy⟩
              show (do loadVar t (← asAddr (tmps.getD c undef)) : Sem Value).run P w = _
              rw [hx, run_ok_bind (show (asAddr (.pointer (some ad))).run P w = .ok ad w from rfl)]
              unfold loadVar
              rw [run_ok_bind (run_isAgg hag)]
              exact hrun
          | true =>
            refine key (.cell (toPth c) (some k)) (by simp only [resIR, hag, hsz]) hkn' fun v hv => ?_
            unfold resOf at hv
            simp only at hv
            cases hr : R.get (toPth c) with
            | none => simp [hr] at hv
            | some u =>
              simp only [hr] at hv
              cases hc : cellsAt Γ H u k with
              | none => simp [hc] at hv
              | some cl =>
                simp [hc] at hv
                subst hv
                obtain ⟨ad, ys, hx, hrun, hvy, _⟩ := cellsAt_ok hok gok hc (get_slot henv hr)
                refine ⟨.agg ys, ?_, by simp only [V.rel]; exact ⟨ys, rfl, hvy⟩⟩
                show (do loadVar t (← asAddr (tmps.getD c undef)) : Sem Value).run P w = _
                rw [hx, run_ok_bind (show (asAddr (.pointer (some ad))).run P w = .ok ad w from rfl)]
                unfold loadVar
                rw [run_ok_bind (run_isAgg hag)]
                simp only [if_true]
                rw [run_ok_bind (run_sizeOf hsz), run_ok_bind hrun]; rfl
theorem leave_ok (hok : HOK P ι H w) (gok : GOK Γ ι H w) {fn : Func} {tmps : Array Value} {v : V} (henv : EnvR ι U R tmps) (hkn : resKnown P fn.results.toList = true)
    (h : leave Γ (resIR P fn.results.toList) R H n = .ok v H' n') : H' = H ∧ ∃ x, (results fn tmps).run P w = .ok x w ∧ V.rel ι v x := by
  unfold leave at h
  cases hr : resAll Γ R H (resIR P fn.results.toList) with
  | none => simp [hr] at h
  | some vs =>
    obtain ⟨xs, h1, h2⟩ := results_ok (w := w) hok gok henv fn.results.toList vs hkn hr
    have hrun : (results fn tmps).run P w = .ok (if h : xs.toArray.size = 1 then xs.toArray[0] else .tuple xs.toArray) w := by
      rw [results_eq]
      rw [Array.mapM_eq_mapM_toList]
      have h3 : ((List.toArray <$> fn.results.toList.mapM (resF tmps) : Sem (Array Value))).run P w = .ok xs.toArray w := by
        rw [map_eq_pure_bind, run_ok_bind h1]; rfl
      rw [run_ok_bind h3]; rfl
    have hl := rels_length h2
    rw [hr] at h
    match vs, h, h2, hl with
    | [], h, h2, hl =>
      simp at h
      obtain ⟨rfl, rfl, rfl⟩ := h
      refine ⟨rfl, _, hrun, ?_⟩
      have : ¬ (xs.toArray.size = 1) := by simp at hl ⊢; rw [hl]; simp
      rw [dif_neg this]
      simp only [V.rel]; exact ⟨_, rfl, h2⟩
    | [u], h, h2, hl =>
      simp at h
      obtain ⟨rfl, rfl, rfl⟩ := h
      refine ⟨rfl, _, hrun, ?_⟩
      obtain ⟨x, t, rfl, hx, ht⟩ := rels_cons_inv h2
      have := rels_nil_inv ht; subst this
      simpa using hx
    | u1 :: u2 :: t, h, h2, hl =>
      simp at h
      obtain ⟨rfl, rfl, rfl⟩ := h
      refine ⟨rfl, _, hrun, ?_⟩
      have : ¬ (xs.toArray.size = 1) := by simp at hl ⊢; rw [hl]; simp
      rw [dif_neg this]
      simp only [V.rel]; exact ⟨_, rfl, h2⟩

/- the marks are taken -/
/-- the same world but for blocks of the kind B -/
structure Shut (B : Nat → Prop) (w w' : World) : Prop where
  size : w'.heap.size = w.heap.size
  other : ∀ b, ¬ B b → w'.heap[b]? = w.heap[b]?
  tape : w'.tape = w.tape
  os : w'.os = w.os
  out : w'.output = w.output
theorem leaves_ok {fn : Func} {tmps : Array Value} {Q : Ending → World → Prop} {B : Nat → Prop} : ∀ (ds : List Deferred) (w1 : World), (∀ d ∈ ds, ∃ b, d.target = .collected b ∧ B b ∧ w1.heap[b]? = some (.deferred (some []))) →
    ds.Pairwise (fun d e => d.target ≠ e.target) → (∀ w2, Shut B w1 w2 → ∃ x, (results fn tmps).run P w2 = .ok x w2 ∧ Q (.returned x) w2) → LeavesInM F m P fn tmps Q ds .returning w1
  | [], w1, _, _, hQ => hQ w1 ⟨rfl, fun _ _ => rfl, rfl, rfl, rfl⟩
  | d :: ds, w1, hd, hp, hQ => by
    obtain ⟨b, ht, hb, hh⟩ := hd d (List.mem_cons_self ..)
    refine ⟨by simp, .inl ⟨b, _, ht, run_takeDeferred hh, ?_⟩⟩
    refine leaves_ok (B := B) ds _ (fun e he => ?_) (List.pairwise_cons.1 hp).2 fun w2 hs => ?_
    · obtain ⟨c, h1, h2, h3⟩ := hd e (List.mem_cons_of_mem _ he)
      refine ⟨c, h1, h2, ?_⟩
      rw [World.putObj_heap_other]
      · exact h3
      · intro e2
        subst e2
        exact (List.pairwise_cons.1 hp).1 e he (by rw [ht, h1])
    · refine hQ w2 ⟨by rw [hs.size]; simp, fun c hc => ?_, hs.tape, hs.os, hs.out⟩
      rw [hs.other c hc, World.putObj_heap_other]
      intro e2; subst e2; exact hc hb
theorem Step.shut {B : Nat → Prop} (h : Step P ι H w ι' H' w') (hs : Shut B w' w2) (h1 : ∀ b, B b → w.heap.size ≤ b) (h2 : ∀ b, B b → ∀ p s, Live H' p → ι' p ≠ some (b, s)) : Step P ι H w ι' H' w2 := by
  refine ⟨h.ext, h.new, ⟨fun p o hp => O.ok_mono (h.hok.obj p o hp) (Emb.le.refl _) fun b s hd hp' => hs.other b fun hb => h2 b hb p s ⟨o, hp, hd⟩ hp', h.hok.inj, fun p b s hp => by rw [hs.size]; exact h.hok.lt p b s hp⟩,
    fun b hb hn => (hs.other b fun hB => absurd (h1 b hB) (by omega)).trans (h.kept b hb hn), by rw [hs.size]; exact h.size, h.back, hs.tape.trans h.tape, hs.os.trans h.os, hs.out.trans h.out⟩

/- functions -/
theorem slots_eq : ∀ (k i : Nat), slots k i = (List.range' i k).map toPth
  | 0, _ => rfl
  | k + 1, i => by
    show toPth i :: slots k (i + 1) = _
    rw [slots_eq k (i + 1), List.range'_succ]; rfl
theorem fn_ok (k : CalOK P Γ cal) (hmix : P.follows .mixedOrders = true) (hname : ∀ (f : Nat) (fn : Func), P.funcs[f]? = some fn → (fn.name == "runtime.NumGoroutine") = false)
    {f : Nat} {args : List V} {v : V} (h : evFun cal Γ rounds (funIR P f) args H n = .ok v H' n') :
    Mono H H' ∧ Callable P f ∧ ∀ ι w (xs : Array Value), HOK P ι H w → GOK Γ ι H w → Fr ι H H' → V.rels ι args xs.toList → Calls P f xs w (fun e w' => ∃ x, e = .returned x ∧ Post P ι H w H' v x w') := by
  unfold funIR at h
  cases hf : P.funcs[f]? with
  | none => simp only [hf] at h; cases h
  | some fn =>
    simp only [hf] at h
    cases hb : fn.body with
    | none => simp only [hb] at h; cases h
    | some c =>
      cases hkn : resKnown P fn.results.toList with
      | false => simp only [hb, hkn] at h; cases h
      | true =>
        simp only [hb, hkn] at h
        unfold evFun at h
        simp only at h
        cases hso : setOver .nil (slots (fn.params.size + fn.nfree) 0) args with
        | none => simp [hso] at h
        | some R =>
          simp only [hso] at h
          obtain ⟨mo, ko⟩ := code_ok (rounds := rounds) k hmix c false (maskOf fn c) fn.ntmps R H n
          have hcall : Callable P f := ⟨fn, hf, by rw [hb]; rfl, hname f fn hf⟩
          -- the end, whichever way
          have main : ∀ (R' : Regs) (H1 : Heap) (n1 : Pth) (out : Out), evCode cal Γ (codeIR P (maskOf fn c) fn.ntmps c false) rounds R H n = out → (out = .nrm R' H1 n1 ∨ out = .ret R' H1 n1) → leave Γ (resIR P fn.results.toList) R' H1 n1 = .ok v H' n' →
              Mono H H' ∧ Callable P f ∧ ∀ ι w (xs : Array Value), HOK P ι H w → GOK Γ ι H w → Fr ι H H' → V.rels ι args xs.toList → Calls P f xs w (fun e w' => ∃ x, e = .returned x ∧ Post P ι H w H' v x w') := by
            intro R' H1 n1 out hout hor hl
            rw [hout] at mo ko
            have hH1 : H' = H1 := by
              unfold leave at hl
              split at hl <;> cases hl <;> rfl
            subst hH1
            have mH : Mono H H' := by rcases hor with rfl | rfl <;> exact mo
            have hnb : out ≠ .bad := by rcases hor with rfl | rfl <;> simp
            refine ⟨mH, hcall, fun ι w xs hok gok hfr hxs => callsIn_wide.1 (callsIn_of_wp_marks (n := 0) hf hb trivial ?_)⟩
            have hfr' : Out.fr ι H out := by rcases hor with rfl | rfl <;> exact hfr
            rw [slots_eq] at hso
            have hlen := setOver_length hso
            have hxl := rels_length hxs
            simp only [List.length_map, List.length_range', Array.length_toList] at hlen hxl
            have henv : EnvR ι (maskOf fn c) R (xs ++ Array.replicate (fn.ntmps - xs.size) undef) := by
              intro q u hq
              obtain ⟨h1, h2⟩ := setOver_rel (val := fun j => (xs ++ Array.replicate (fn.ntmps - xs.size) undef).getD j undef) (q := q) hso hxs (fun i t x hi hx => by
                have hlt : i < fn.params.size + fn.nfree := by
                  have := (List.getElem?_eq_some_iff.1 hi).1
                  simpa using this
                have ht : t = i := by
                  rw [List.getElem?_range' hlt] at hi
                  simp at hi; omega
                subst ht
                have hx' : xs[t]? = some x := by simpa using hx
                have hlt2 : t < xs.size := (Array.getElem?_eq_some_iff.1 hx').1
                simp only [Array.getD_eq_getD_getElem?, Array.getElem?_append_left hlt2, hx', Option.getD_some]) (fun v hv => by rw [Tr.get_nil] at hv; cases hv) u hq
              refine ⟨?_, h1⟩
              rcases h2 with ⟨t, ht, e⟩ | h2
              · rw [← e, num_toPth]
                have hlt : t < fn.params.size + fn.nfree := by
                  have := List.mem_range'_1.1 ht; omega
                unfold maskOf
                rw [bit_or, bit_eq, Nat.testBit_two_pow_sub_one]
                simp [hlt]
              · rw [Tr.get_nil] at h2; cases h2
            have hwp := ko hnb Fence.wide 0 ι w w { tmps := xs ++ Array.replicate (fn.ntmps - xs.size) undef, defers := [] } (.inl rfl) (fun _ => ⟨rfl, Nat.le_refl _⟩) hok gok hfr' henv (by simp; omega) Defs.nil
            refine wpIn_mono hwp fun e act w1 hpost => ?_
            have fin : Left P ι (maskOf fn c) fn.ntmps H w w R' H' act w1 → LeavesInM Fence.wide 0 P fn act.tmps (fun e w' => ∃ x, e = .returned x ∧ Post P ι H w H' v x w') act.defers .returning w1 := by
              rintro ⟨ι1, henv1, hN1, hs1, hd1⟩
              refine leaves_ok (B := fun b => w.heap.size ≤ b ∧ w1.heap[b]? = some (.deferred (some [])) ∧ ∀ p s, Live H' p → ι1 p ≠ some (b, s)) act.defers w1 (fun d hd => ?_) hd1.apart fun w2 hsh => ?_
              · obtain ⟨b, h1, h2, h3, h4⟩ := hd1.all d hd
                exact ⟨b, h1, ⟨h2, h3, h4⟩, h3⟩
              · have hs2 := hs1.shut hsh (fun b hb => hb.1) (fun b hb => hb.2.2)
                have gok1 := gok.step hs1
                have gok2 : GOK Γ ι1 H' w2 := ⟨fun g i u hu => by
                  obtain ⟨cc, el, fr, kk, mm, hh, e1, e2⟩ := gok1.val g i u hu
                  refine ⟨cc, el, fr, kk, mm, ?_, e1, e2⟩
                  rw [hsh.other g fun hB => by rw [hB.2.1] at hh; cases hh]; exact hh, gok1.off⟩
                obtain ⟨_, x, hx1, hx2⟩ := leave_ok hs2.hok gok2 henv1 hkn hl
                exact ⟨x, hx1, x, rfl, ι1, hx2, hs2⟩
            rcases hor with rfl | rfl
            · obtain ⟨rfl, hleft⟩ := hpost; exact fin hleft
            · obtain ⟨rfl, hleft⟩ := hpost; exact fin hleft
          generalize hout : evCode cal Γ (codeIR P (maskOf fn c) fn.ntmps c false) rounds R H n = out at h
          cases out with
          | bad => cases h
          | brk id R' H1 n1 => cases h
          | nrm R' H1 n1 => exact main R' H1 n1 _ hout (.inl rfl) h
          | ret R' H1 n1 => exact main R' H1 n1 _ hout (.inr rfl) h
/-- calls, at most d deep -/
theorem cal_ok (hmix : P.follows .mixedOrders = true) (hname : ∀ (f : Nat) (fn : Func), P.funcs[f]? = some fn → (fn.name == "runtime.NumGoroutine") = false) :
    ∀ d, CalOK P Γ (evCal (funIR P) Γ rounds d)
  | 0 => ⟨fun f args H n v H' n' h => (by cases h), fun c R H n => ⟨trivial, fun code U N _ hb => absurd rfl hb⟩⟩
  | d + 1 => by
    have ih := cal_ok hmix hname d
    refine ⟨fun f args H n v H' n' h => fn_ok ih hmix hname h, fun c R H n => ⟨evCode_to ih c R H n, fun code U N hc hb ι w w0 a l m hok gok hfr henv hN hd => ?_⟩⟩
    have h1 := (code_ok (rounds := rounds) ih hmix code true U N R H n).2
    subst hc
    exact h1 hb (Fence.wide.inRound l) m ι w w0 a (.inr ⟨l, rfl⟩) (fun h => by cases h) hok gok hfr henv hN hd
end
end
end Go.Ev
