/-
  A verified evaluator, part 20: what is asked of calls and of code; calls; rounds; every operation.
  A verified evaluator, part 21: calls; rounds.
-/
import Derived.Test.YtilgladlepnanaaGreatDoorEv19
namespace Go.Ev
noncomputable section
open Go

/-- the marks of the frame's loops over functions -/
structure Defs (w0 : World) (ι : Emb) (H : Heap) (w : World) (ds : List Deferred) : Prop where
  all : ∀ d ∈ ds, ∃ b, d.target = .collected b ∧ w0.heap.size ≤ b ∧ w.heap[b]? = some (.deferred (some [])) ∧ ∀ p s, Live H p → ι p ≠ some (b, s)
  apart : ds.Pairwise fun d e => d.target ≠ e.target
def Out.to (H : Heap) : Out → Prop
  | .bad => True
  | .nrm _ H' _ => Mono H H'
  | .brk _ _ H' _ => Mono H H'
  | .ret _ H' _ => Mono H H'
def Out.fr (ι : Emb) (H : Heap) : Out → Prop
  | .bad => True
  | .nrm _ H' _ => Fr ι H H'
  | .brk _ _ H' _ => Fr ι H H'
  | .ret _ H' _ => Fr ι H H'
/-- how code is left -/
def Left (P : Program) (ι : Emb) (U N : Nat) (H : Heap) (w0 w : World) (R' : Regs) (H' : Heap) (a : Act) (w' : World) : Prop :=
  ∃ ι', EnvR ι' U R' a.tmps ∧ N ≤ a.tmps.size ∧ Step P ι H w ι' H' w' ∧ Defs w0 ι' H' w' a.defers
def CodePost (P : Program) (ι : Emb) (U N : Nat) (H : Heap) (w0 w : World) : Out → Exit → Act → World → Prop
  | .bad, _, _, _ => False
  | .nrm R' H' _, e, a, w' => e = .normal ∧ Left P ι U N H w0 w R' H' a w'
  | .brk id R' H' _, e, a, w' => e = .exit id ∧ Left P ι U N H w0 w R' H' a w'
  | .ret R' H' _, e, a, w' => e = .ret ∧ Left P ι U N H w0 w R' H' a w'

def Callable (P : Program) (f : Nat) : Prop := ∃ fn, P.funcs[f]? = some fn ∧ fn.body.isSome = true ∧ (fn.name == "runtime.NumGoroutine") = false
structure CalOK (P : Program) (Γ : Glo) (cal : Cal) : Prop where
  fn : ∀ f args H n v H' n', cal.fn f args H n = .ok v H' n' → Mono H H' ∧ Callable P f ∧
    ∀ ι w (xs : Array Value), HOK P ι H w → GOK Γ ι H w → Fr ι H H' → V.rels ι args xs.toList → Calls P f xs w (fun e w' => ∃ x, e = .returned x ∧ Post P ι H w H' v x w')
  rd : ∀ c R H n, Out.to H (cal.rd c R H n) ∧
    ∀ code U N, c = codeIR P U N code true → cal.rd c R H n ≠ .bad → ∀ ι w w0 a l m, HOK P ι H w → GOK Γ ι H w → Out.fr ι H (cal.rd c R H n) → EnvR ι U R a.tmps → N ≤ a.tmps.size →
      Defs w0 ι H w a.defers → code.wpIn (Fence.wide.inRound l) m P (CodePost P ι U N H w0 w (cal.rd c R H n)) a w

section
variable {P : Program} {Γ : Glo} {ι ι' : Emb} {H H' : Heap} {w w' w0 : World}
theorem Defs.nil : Defs w0 ι H w [] := ⟨fun d hd => by simp at hd, List.Pairwise.nil⟩
theorem Defs.step {ds : List Deferred} (h : Defs w0 ι H w ds) (s : Step P ι H w ι' H' w') : Defs w0 ι' H' w' ds := by
  refine ⟨fun d hd => ?_, h.apart⟩
  obtain ⟨b, ht, h0, hh, hn⟩ := h.all d hd
  have hb : b < w.heap.size := (Array.getElem?_eq_some_iff.1 hh).1
  refine ⟨b, ht, h0, (s.kept b hb hn).trans hh, fun p q hl hp => ?_⟩
  obtain ⟨q', s', hq, hq'⟩ := s.back p b q hl hp hb
  exact hn q' s' hq hq'
theorem EnvR.step {U : Nat} {R : Regs} {tmps : Array Value} (h : EnvR ι U R tmps) (s : Step P ι H w ι' H' w') : EnvR ι' U R tmps := h.mono s.ext
end

/- arguments that become slots -/
theorem setOver_nil (R : Regs) (l : List V) : setOver R [] l = (match l with | [] => some R | _ :: _ => none) := rfl
theorem setOver_cons (R : Regs) (p : Pth) (ps : List Pth) (l : List V) : setOver R (p :: ps) l = (match l with
      | [] => none
      | v :: t => (match setOver R ps t with | some R' => some (Tr.set p v R') | none => none)) := rfl
theorem setOver_length : ∀ {ps : List Pth} {vs : List V} {R R1 : Regs}, setOver R ps vs = some R1 → vs.length = ps.length
  | [], vs, R, R1, h => by
    rw [setOver_nil] at h
    cases vs with
    | nil => rfl
    | cons => cases h
  | p :: ps, vs, R, R1, h => by
    rw [setOver_cons] at h
    cases vs with
    | nil => cases h
    | cons v t =>
      cases hs : setOver R ps t with
      | none => simp [hs] at h
      | some R' => simp [setOver_length hs]
theorem setOver_rel {ι : Emb} {val : Nat → Value} {q : Pth} : ∀ {ps : List Nat} {vs : List V} {xs : List Value} {R R1 : Regs}, setOver R (ps.map toPth) vs = some R1 → V.rels ι vs xs →
    (∀ (i t : Nat) (x : Value), ps[i]? = some t → xs[i]? = some x → val t = x) → (∀ v, R.get q = some v → (∀ t ∈ ps, toPth t ≠ q) → V.rel ι v (val q.num)) →
    ∀ v, R1.get q = some v → V.rel ι v (val q.num) ∧ ((∃ t ∈ ps, toPth t = q) ∨ R.get q = some v)
  | [], vs, xs, R, R1, h, hr, hv, h0, v, hq => by
    rw [List.map_nil, setOver_nil] at h
    cases vs with
    | cons => cases h
    | nil =>
      simp at h; subst h
      exact ⟨h0 v hq (fun t ht => by simp at ht), .inr hq⟩
  | t :: ps, vs, xs, R, R1, h, hr, hv, h0, v, hq => by
    rw [List.map_cons, setOver_cons] at h
    cases vs with
    | nil => cases h
    | cons u us =>
      obtain ⟨x, ys, rfl, hx, hys⟩ := rels_cons_inv hr
      cases hs : setOver R (ps.map toPth) us with
      | none => simp [hs] at h
      | some R' =>
        simp only [hs, Option.some.injEq] at h
        subst h
        rw [Tr.get_set] at hq
        by_cases e : toPth t = q
        · rw [if_pos e] at hq
          cases hq
          have h1 := hv 0 t x rfl rfl
          refine ⟨?_, .inl ⟨t, List.mem_cons_self .., e⟩⟩
          rw [← e, num_toPth, h1]; exact hx
        · rw [if_neg e] at hq
          obtain ⟨h1, h2⟩ := setOver_rel hs hys (fun i t' x' hi hx' => hv (i + 1) t' x' (by simpa using hi) (by simpa using hx'))
            (fun v' hv' hn => h0 v' hv' fun t' ht' => by
              rcases List.mem_cons.1 ht' with rfl | ht'
              · exact e
              · exact hn t' ht') v hq
          refine ⟨h1, ?_⟩
          rcases h2 with ⟨t', ht', e'⟩ | h2
          · exact .inl ⟨t', List.mem_cons_of_mem _ ht', e'⟩
          · exact .inr h2
theorem hasNat_iff (t : Nat) : ∀ l : List Nat, hasNat t l = true ↔ t ∈ l
  | [] => by simp [hasNat]
  | x :: l => by
    have ih := hasNat_iff t l
    show (match Nat.beq x t with | true => true | false => hasNat t l) = true ↔ _
    cases h : Nat.beq x t with
    | true => have := beq_eq h; subst this; simp
    | false =>
      have hne : x ≠ t := fun e => by subst e; simp at h
      simp [ih, Ne.symm hne]
theorem nodupN_cons {t : Nat} {l : List Nat} (h : nodupN (t :: l) = true) : t ∉ l ∧ nodupN l = true := by
  have h' : (match hasNat t l with | true => false | false => nodupN l) = true := h
  cases ht : hasNat t l with
  | true => simp [ht] at h'
  | false =>
    simp only [ht] at h'
    exact ⟨fun hm => by rw [(hasNat_iff t l).2 hm] at ht; exact Bool.noConfusion ht, h'⟩
theorem belowAll_mem {N : Nat} : ∀ {l : List Nat}, belowAll N l = true → ∀ t ∈ l, t < N
  | [], _, t, ht => by simp at ht
  | x :: l, h, t, ht => by
    have h' : (Nat.blt x N && belowAll N l) = true := h
    rw [Bool.and_eq_true] at h'
    rcases List.mem_cons.1 ht with rfl | ht
    · exact blt_lt h'.1
    · exact belowAll_mem h'.2 t ht
theorem allBits_mem {U : Nat} : ∀ {l : List Nat}, allBits U l = true → ∀ t ∈ l, bit U t = true
  | [], _, t, ht => by simp at ht
  | x :: l, h, t, ht => by
    have h' : (bit U x && allBits U l) = true := h
    rw [Bool.and_eq_true] at h'
    rcases List.mem_cons.1 ht with rfl | ht
    · exact h'.1
    · exact allBits_mem h'.2 t ht
def putAll (l : List (Nat × Value)) (tmps : Array Value) : Array Value := l.foldl (fun tmps (x : Nat × Value) => tmps.setIfInBounds x.1 x.2) tmps
theorem putAll_size : ∀ (l : List (Nat × Value)) (tmps : Array Value), (putAll l tmps).size = tmps.size
  | [], _ => rfl
  | x :: l, tmps => by
    show (putAll l (tmps.setIfInBounds x.1 x.2)).size = _
    rw [putAll_size l]; simp
theorem getD_set (tmps : Array Value) (t j : Nat) (x : Value) (ht : t < tmps.size) : (tmps.setIfInBounds t x).getD j undef = if t = j then x else tmps.getD j undef := by
  simp only [Array.getD_eq_getD_getElem?, Array.getElem?_setIfInBounds]
  by_cases e : t = j
  · subst e; simp [ht]
  · simp [e]
theorem putAll_get : ∀ (ps : List Nat) (xs : List Value) (tmps : Array Value), nodupN ps = true → (∀ t ∈ ps, t < tmps.size) →
    (∀ (i t : Nat) (x : Value), ps[i]? = some t → xs[i]? = some x → (putAll (ps.zip xs) tmps).getD t undef = x) ∧ ∀ j, j ∉ ps → (putAll (ps.zip xs) tmps).getD j undef = tmps.getD j undef
  | [], xs, tmps, _, _ => ⟨fun i t x h => by simp at h, fun j _ => by simp [putAll]⟩
  | t :: ps, [], tmps, _, _ => ⟨fun i t x _ h => by simp at h, fun j _ => by simp [putAll]⟩
  | t :: ps, x :: xs, tmps, hn, hb => by
    obtain ⟨h1, h2⟩ := nodupN_cons hn
    obtain ⟨ih1, ih2⟩ := putAll_get ps xs (tmps.setIfInBounds t x) h2 (fun t' ht' => by simpa using hb t' (List.mem_cons_of_mem _ ht'))
    have ht := hb t (List.mem_cons_self ..)
    refine ⟨fun i t' x' hi hx => ?_, fun j hj => ?_⟩
    · cases i with
      | zero =>
        simp at hi hx; subst hi; subst hx
        show (putAll (ps.zip xs) (tmps.setIfInBounds t x)).getD t undef = x
        rw [ih2 t h1, getD_set _ _ _ _ ht, if_pos rfl]
      | succ i =>
        exact ih1 i t' x' (by simpa using hi) (by simpa using hx)
    · show (putAll (ps.zip xs) (tmps.setIfInBounds t x)).getD j undef = _
      simp at hj
      rw [ih2 j hj.2, getD_set _ _ _ _ ht, if_neg (Ne.symm hj.1)]
/-- the arguments of yield, laid over the record's slots -/
theorem setOver_env {ι : Emb} {U N : Nat} {R R1 : Regs} {tmps args : Array Value} {ps : Array Nat} {vs : List V} (hs : setOver R (ps.toList.map toPth) vs = some R1) (hr : V.rels ι vs args.toList)
    (he : EnvR ι U R tmps) (hN : N ≤ tmps.size) (hb : belowAll N ps.toList = true) (ha : allBits U ps.toList = true) (hn : nodupN ps.toList = true) :
    args.size = ps.size ∧ EnvR ι U R1 ((ps.zip args).foldl (fun tmps (t, a) => tmps.setIfInBounds t a) tmps) ∧ N ≤ ((ps.zip args).foldl (fun tmps (t, a) => tmps.setIfInBounds t a) tmps).size := by
  have hfold : ((ps.zip args).foldl (fun tmps (x : Nat × Value) => tmps.setIfInBounds x.1 x.2) tmps) = putAll (ps.toList.zip args.toList) tmps := by
    rw [← Array.foldl_toList, Array.toList_zip]; rfl
  have hl := setOver_length hs
  have hrl := rels_length hr
  simp only [Array.length_toList, List.length_map] at hl hrl
  obtain ⟨g1, g2⟩ := putAll_get ps.toList args.toList tmps hn (fun t ht => Nat.lt_of_lt_of_le (belowAll_mem hb t ht) hN)
  refine ⟨by omega, ?_, ?_⟩
  · show EnvR ι U R1 ((ps.zip args).foldl (fun tmps (x : Nat × Value) => tmps.setIfInBounds x.1 x.2) tmps)
    rw [hfold]
    intro q v hq
    obtain ⟨h1, h2⟩ := setOver_rel (val := fun j => (putAll (ps.toList.zip args.toList) tmps).getD j undef) (q := q) hs hr (fun i t x hi hx => g1 i t x hi hx)
      (fun v hv hne => by
        rw [g2 q.num (fun hm => hne q.num hm (Pth.num_inj (num_toPth _)))]
        exact (he q v hv).2) v hq
    refine ⟨?_, h1⟩
    rcases h2 with ⟨t, ht, e⟩ | h2
    · rw [← e, num_toPth]; exact allBits_mem ha t ht
    · exact (he q v h2).1
  · show N ≤ ((ps.zip args).foldl (fun tmps (x : Nat × Value) => tmps.setIfInBounds x.1 x.2) tmps).size
    rw [hfold, putAll_size]; exact hN
end
end Go.Ev
namespace Go.Ev
noncomputable section
open Go

section
variable {P : Program} {Γ : Glo} {ι : Emb} {H H' : Heap} {w w' : World} {ρ : Operand → Value} {L : List V} {R : Regs} {r : Operand → Src} {cal : Cal} {n n' : Pth} {v : V} {o : Oper}

theorem run_callFunc {f : Nat} {xs : Array Value} (h : Callable P f) : (callFunc f xs).run P w = .ok (.enter f xs) w := by
  obtain ⟨fn, hf, hb, hn⟩ := h
  unfold callFunc
  have hp : (program).run P w = .ok P w := rfl
  rw [run_ok_bind hp]
  simp only [hf, hn, Bool.false_eq_true, if_false]
  cases hbd : fn.body with
  | none => simp [hbd] at hb
  | some c => simp [hbd]
theorem OpOK.enter {f : Nat} {xs : Array Value} {w' : World} {R : Value → World → Prop} (h : (execOp ρ o).run P w = .ok (.enter f xs) w') (hR : Calls P f xs w' (fun e w'' => ∃ x, e = .returned x ∧ R x w'')) : OpOK P ρ o w R := by
  unfold OpOK; rw [h]; exact hR
theorem exec_call {cl : Call} {q : Operand} {g : Nat} {a b : Array Value} (ho : o.op = .call cl) (hcl : cl.callee = .value q) (hq : ρ q = .func (.func g) a b) (hc : Callable P g) :
    (execOp ρ o).run P w = .ok (.enter g (a ++ cl.args.map ρ ++ b)) w := by
  unfold execOp
  rw [ho]
  simp only []
  unfold resolve
  rw [hcl]
  simp only [hq, Deferred.ofValue]
  rw [run_ok_bind (run_ofPure _)]
  simp only [invoke]
  exact run_callFunc hc
theorem exec_yield {cl : Call} {q : Operand} {l : Nat} (ho : o.op = .call cl) (hcl : cl.callee = .value q) (hq : ρ q = .func (.yield l) #[] #[]) :
    (execOp ρ o).run P w = (Instr.yield l (cl.args.map ρ)).run P w := by
  unfold execOp
  rw [ho]
  simp only []
  unfold resolve
  rw [hcl]
  simp only [hq, Deferred.ofValue]
  rw [run_ok_bind (run_ofPure _)]
  simp only [invoke, Array.empty_append]

theorem ok_call (k : CalOK P Γ cal) (c : Cxt P Γ ι H w ρ L R r) {cl : Call} {f : Nat} (ho : o.op = .call cl) (hcl : cl.callee = .value (.func f))
    (he : evI (.call f (cl.args.toList.map r)) cal Γ L R H n = .ok v H' n') (hfr : Fr ι H H') : OpOK P ρ o w (Post P ι H w H' v) := by
  have he' : cal.fn f (srcs L R (cl.args.toList.map r)) H n = .ok v H' n' := he
  obtain ⟨_, hcal, hk⟩ := k.fn _ _ _ _ _ _ _ he'
  refine OpOK.enter (exec_call ho hcl (c.hf f) hcal) (hk ι w _ c.hok c.gok hfr ?_)
  have := srcs_rels c.hs cl.args.toList
  simpa using this

theorem RoundIn.inRound {F : Fence} {m : Nat} {l : Nat} {f : FuncId} {tmps : Array Value} {as bd : Code} {Q : Ending → World → Prop} (l' : Nat) (h : RoundIn F m P l f tmps as bd w Q) :
    RoundIn (F.inRound l') m P l f tmps as bd w Q := h
theorem OpOK.round {l f : Nat} {tmps : Array Value} {as bd : Code} {w' : World} {R : Value → World → Prop} (h : (execOp ρ o).run P w = .ok (.round l f tmps as bd) w')
    (hR : ∀ m, RoundIn Fence.wide m P l f tmps as bd w' (fun e w'' => ∃ x, e = .returned x ∧ R x w'')) : OpOK P ρ o w R := by
  unfold OpOK; rw [h]; exact hR

/-- a named record of a loop over a function -/
theorem loop_of (h : HOK P ι H w) {p : Pth} {l : Nat} {busy done : Bool} {pend : Option (Option Nat)} {R : Regs} {ps : List Pth} {a b : IR} (hp : H.get p = some (.loop busy pend done R ps a b)) (hι : ι p = some (l, 0)) :
    ∃ lp U N, w.heap[l]? = some (.loop lp) ∧ lp.state = stateOf busy done ∧ pendR pend lp.pending ∧
      lp.params.toList.map toPth = ps ∧ a = codeIR P U N lp.assign true ∧ b = codeIR P U N lp.body true ∧ EnvR ι U R lp.tmps ∧ N ≤ lp.tmps.size ∧
      belowAll N lp.params.toList = true ∧ allBits U lp.params.toList = true ∧ nodupN lp.params.toList = true := by
  obtain ⟨l', lp, U, N, hι', rest⟩ := h.obj p _ hp
  rw [hι] at hι'; cases hι'
  exact ⟨lp, U, N, rest⟩
/-- the record is written to -/
theorem Step.loop (h : HOK P ι H w) {p : Pth} {l : Nat} {busy done busy' done' : Bool} {pend pend' : Option (Option Nat)} {R : Regs} {ps : List Pth} {a b : IR} (hp : H.get p = some (.loop busy pend done R ps a b))
    (hι : ι p = some (l, 0)) {lp : Loop} (hl : w.heap[l]? = some (.loop lp)) {st : LoopState} {pe : Option Code} (hs : st = stateOf busy' done') (hpe : pendR pend' pe) :
    Step P ι H w ι (H.set p (.loop busy' pend' done' R ps a b)) (w.putObj l (.loop { lp with state := st, pending := pe })) := by
  obtain ⟨lp', U, N, hl', _, _, rest⟩ := loop_of h hp hι
  rw [hl] at hl'; cases hl'
  have hsz : l < w.heap.size := (Array.getElem?_eq_some_iff.1 hl).1
  refine Step.write h hp (by simp) hι ⟨by simp, fun b' hb' => World.putObj_heap_other hb', rfl, rfl, rfl⟩ ?_
  exact ⟨l, { lp with state := st, pending := pe }, U, N, hι, World.putObj_heap_same hsz, hs, hpe, rest⟩

theorem round_ok (k : CalOK P Γ cal) (hok : HOK P ι H w) (gok : GOK Γ ι H w) {p : Pth} {l : Nat} {args : List V} {xs : Array Value} (hι : ι p = some (l, 0)) (hr : V.rels ι args xs.toList)
    (he : evYield cal p args H n = .ok v H' n') (hfr : Fr ι H H') :
    ∃ f tmps as bd, (Instr.yield l xs).run P w = .ok (.round l f tmps as bd) w ∧ ∀ m, RoundIn Fence.wide m P l f tmps as bd w (fun e w'' => ∃ x, e = .returned x ∧ Post P ι H w H' v x w'') := by
  unfold evYield at he
  split at he <;> try (cases he; done)
  rename_i pe0 R0 ps a b hg
  obtain ⟨lp, U, N, hl, hst, hpe, hps, ha, hb, henv, hN, hbel, hbits, hnod⟩ := loop_of hok hg hι
  subst hps
  split at he <;> try (cases he; done)
  rename_i R1 hso
  obtain ⟨hsz, henv1, hN1⟩ := setOver_env hso hr henv hN hbel hbits hnod
  refine ⟨lp.fn, _, lp.assign, lp.body, run_yield hl hsz, fun m => roundIn_of_wpIn trivial ?_⟩
  split at he <;> try (cases he; done)
  rename_i R2 H2 n2 hrd
  obtain ⟨hmo, hrun⟩ := k.rd a R1 H n
  rw [hrd] at hmo hrun
  have m02 : Mono H H2 := hmo
  split at he <;> try (cases he; done)
  rename_i pd2 R2' ps2 a2 b2 hg2
  -- the rest, whatever the body does
  have rest : ∀ (H3 : Heap), Mono (H2.set p (.loop true pd2 false R2' ps2 a2 b2)) H3 → Mono H3 H' → Fr ι H H2 ∧ ∀ ι2 w1, Step P ι H w ι2 H2 w1 → Fr ι2 (H2.set p (.loop true pd2 false R2' ps2 a2 b2)) H3 := by
    intro H3 m1 m2
    have f3 : Fr ι H H3 := Fr.split hfr m2
    have f2 : Fr ι H (H2.set p (.loop true pd2 false R2' ps2 a2 b2)) := Fr.split f3 m1
    have f1 : Fr ι H H2 := Fr.split f2 (Mono.set _ _ _)
    refine ⟨f1, fun ι2 w1 s q hq hq3 => Fr.after f3 s m02 q ?_ hq3⟩
    rw [Tr.get_set] at hq
    by_cases e : p = q
    · simp [e] at hq
    · rw [if_neg e] at hq; exact hq
  obtain ⟨hmo3, hrun3⟩ := k.rd b R2 (H2.set p (.loop true pd2 false R2' ps2 a2 b2)) n2
  -- from the assignment's end on
  have main : Fr ι H H2 → (∀ ι2 w1, Step P ι H w ι2 H2 w1 → Out.fr ι2 (H2.set p (.loop true pd2 false R2' ps2 a2 b2)) (cal.rd b R2 (H2.set p (.loop true pd2 false R2' ps2 a2 b2)) n2)) →
      cal.rd b R2 (H2.set p (.loop true pd2 false R2' ps2 a2 b2)) n2 ≠ .bad →
      (∀ ι2 w1 w2 e act w3, Step P ι H w ι2 H2 w1 → Step P ι2 H2 w1 ι2 (H2.set p (.loop true pd2 false R2' ps2 a2 b2)) w2 → ι2 p = some (l, 0) →
        CodePost P ι2 U N (H2.set p (.loop true pd2 false R2' ps2 a2 b2)) w w2 (cal.rd b R2 (H2.set p (.loop true pd2 false R2' ps2 a2 b2)) n2) e act w3 →
        roundPost P l (fun e w'' => ∃ x, e = .returned x ∧ Post P ι H w H' v x w'') e act w3) →
      lp.assign.wpIn (Fence.wide.inRound l) m P (Exit.then (fun a₁ w₁ => ∃ w₂, (Instr.beginRound l).run P w₁ = .ok () w₂ ∧
        lp.body.wpIn (Fence.wide.inRound l) m P (roundPost P l (fun e w'' => ∃ x, e = .returned x ∧ Post P ι H w H' v x w'')) a₁ w₂) (fun _ _ _ => False))
        { tmps := (lp.params.zip xs).foldl (fun tmps (t, a) => tmps.setIfInBounds t a) lp.tmps, defers := [] } w := by
    intro f1 f2 hnb fin
    refine wpIn_mono (hrun lp.assign U N ha (by simp) ι w w _ l m hok gok f1 henv1 hN1 Defs.nil) ?_
    intro e act w1 hpost
    obtain ⟨rfl, ι2, henv2, hN2, hs1, hdefs⟩ := hpost
    have hι2 : ι2 p = some (l, 0) := hs1.ext.name _ _ hι
    obtain ⟨lp2, U2, N2, hl2, hst2, hpe2, _⟩ := loop_of hs1.hok hg2 hι2
    have s2 := Step.loop (busy' := true) (done' := false) (pend' := pd2) (st := .busy) (pe := lp2.pending) hs1.hok hg2 hι2 hl2 rfl hpe2
    refine ⟨w1.putObj l (.loop { lp2 with state := .busy }), run_beginRound hl2 (by rw [hst2]; rfl), ?_⟩
    have gok2 := (gok.step hs1).step s2
    refine wpIn_mono (hrun3 lp.body U N hb hnb ι2 _ w act l m s2.hok gok2 (f2 ι2 w1 hs1) (henv2.step s2) hN2 (hdefs.step s2)) ?_
    intro e3 act3 w3 hpost3
    exact fin ι2 w1 _ e3 act3 w3 hs1 s2 hι2 hpost3
  -- the end of the round
  have close : ∀ (jump : Option Code) (R3 : Regs) (H3 : Heap) (pend' : Option (Option Nat)) (done' : Bool) (R' : Regs) (ps' : List Pth) (a' b' : IR) (pe3 : Option (Option Nat)),
      Mono (H2.set p (.loop true pd2 false R2' ps2 a2 b2)) H3 → H3.get p = some (.loop true pe3 false R' ps' a' b') → H' = H3.set p (.loop false pend' done' R' ps' a' b') → pendR pend' jump →
      (if jump.isNone then LoopState.ready else LoopState.done) = stateOf false done' → v = .bool jump.isNone →
      ∀ ι2 w1 w2 act w3, Step P ι H w ι2 H2 w1 → Step P ι2 H2 w1 ι2 (H2.set p (.loop true pd2 false R2' ps2 a2 b2)) w2 → ι2 p = some (l, 0) →
        Left P ι2 U N (H2.set p (.loop true pd2 false R2' ps2 a2 b2)) w w2 R3 H3 act w3 →
        ∃ x w', (Instr.endRound l jump).run P w3 = .ok x w' ∧ ∃ x', Ending.returned x = .returned x' ∧ Post P ι H w H' v x' w' := by
    intro jump R3 H3 pend' done' R' ps' a' b' pe3 m3 hg3 hH' hj hst' hv ι2 w1 w2 act w3 s1 s2 hι2 hleft
    obtain ⟨ι3, _, _, s3, _⟩ := hleft
    have hι3 : ι3 p = some (l, 0) := s3.ext.name _ _ hι2
    obtain ⟨lp3, U3, N3, hl3, _⟩ := loop_of s3.hok hg3 hι3
    have s4 := Step.loop (busy' := false) (done' := done') (pend' := pend') (st := if jump.isNone then .ready else .done) (pe := jump) s3.hok hg3 hι3 hl3 hst' hj
    refine ⟨_, _, run_endRound jump hl3, _, rfl, ι3, by rw [hv]; simp [V.rel], ?_⟩
    rw [hH']
    exact ((s1.trans s2 m02 (Mono.set _ _ _)).trans s3 (m02.trans (Mono.set _ _ _)) m3).trans s4 ((m02.trans (Mono.set _ _ _)).trans m3) (Mono.set _ _ _)
  split at he <;> try (cases he; done)
  · rename_i R3 H3 n3 hrd3
    rw [hrd3] at hmo3 main
    have m23 : Mono (H2.set p (.loop true pd2 false R2' ps2 a2 b2)) H3 := hmo3
    split at he <;> try (cases he; done)
    rename_i pe3 R' ps' a' b' hg3
    simp at he
    obtain ⟨rfl, rfl, rfl⟩ := he
    obtain ⟨f1, f2⟩ := rest H3 m23 (Mono.set _ _ _)
    refine main f1 f2 (by simp) fun ι2 w1 w2 e act w3 s1 s2 hι2 hp => ?_
    obtain ⟨rfl, hleft⟩ := hp
    exact close none R3 H3 none false R' ps' a' b' pe3 m23 hg3 rfl rfl rfl rfl ι2 w1 w2 act w3 s1 s2 hι2 hleft
  · rename_i id R3 H3 n3 hrd3
    rw [hrd3] at hmo3 main
    have m23 : Mono (H2.set p (.loop true pd2 false R2' ps2 a2 b2)) H3 := hmo3
    split at he <;> try (cases he; done)
    rename_i pe3 R' ps' a' b' hg3
    simp at he
    obtain ⟨rfl, rfl, rfl⟩ := he
    obtain ⟨f1, f2⟩ := rest H3 m23 (Mono.set _ _ _)
    refine main f1 f2 (by simp) fun ι2 w1 w2 e act w3 s1 s2 hι2 hp => ?_
    obtain ⟨rfl, hleft⟩ := hp
    exact close (some (.exit id)) R3 H3 (some (some id)) true R' ps' a' b' pe3 m23 hg3 rfl rfl rfl rfl ι2 w1 w2 act w3 s1 s2 hι2 hleft
  · rename_i R3 H3 n3 hrd3
    rw [hrd3] at hmo3 main
    have m23 : Mono (H2.set p (.loop true pd2 false R2' ps2 a2 b2)) H3 := hmo3
    split at he <;> try (cases he; done)
    rename_i pe3 R' ps' a' b' hg3
    simp at he
    obtain ⟨rfl, rfl, rfl⟩ := he
    obtain ⟨f1, f2⟩ := rest H3 m23 (Mono.set _ _ _)
    refine main f1 f2 (by simp) fun ι2 w1 w2 e act w3 s1 s2 hι2 hp => ?_
    obtain ⟨rfl, hleft⟩ := hp
    exact close (some .ret) R3 H3 (some none) true R' ps' a' b' pe3 m23 hg3 rfl rfl rfl rfl ι2 w1 w2 act w3 s1 s2 hι2 hleft
end
end
end Go.Ev
