/-
  A verified evaluator, part 20: what is asked of calls and of code; calls; rounds; every operation.
-/
import Derived.Test.YtldbmeifhklhkaaGreatDoorEv19
namespace Go.Ev
noncomputable section
open Go

/-- the marks of the frame's loops over functions -/
structure Defs (w0 : World) (ι : Emb) (H : Heap) (w : World) (ds : List Deferred) : Prop where
  all : ∀ d ∈ ds, ∃ b, d.target = .collected b ∧ w0.heap.size ≤ b ∧ w.heap[b]? = some (.deferred (some [])) ∧ ∀ p s, Live H p → ι p ≠ some (b, s)
  apart : ds.Pairwise fun d e => d.target ≠ e.target
def Out.to (H : Heap) : Out → Prop
  | .bad => True
  | .nrm _ H' _ => Mono H H'
  | .brk _ _ H' _ => Mono H H'
  | .ret _ H' _ => Mono H H'
def Out.fr (ι : Emb) (H : Heap) : Out → Prop
  | .bad => True
  | .nrm _ H' _ => Fr ι H H'
  | .brk _ _ H' _ => Fr ι H H'
  | .ret _ H' _ => Fr ι H H'
/-- how code is left -/
def Left (P : Program) (ι : Emb) (U N : Nat) (H : Heap) (w0 w : World) (R' : Regs) (H' : Heap) (a : Act) (w' : World) : Prop :=
  ∃ ι', EnvR ι' U R' a.tmps ∧ N ≤ a.tmps.size ∧ Step P ι H w ι' H' w' ∧ Defs w0 ι' H' w' a.defers
def CodePost (P : Program) (ι : Emb) (U N : Nat) (H : Heap) (w0 w : World) : Out → Exit → Act → World → Prop
  | .bad, _, _, _ => False
  | .nrm R' H' _, e, a, w' => e = .normal ∧ Left P ι U N H w0 w R' H' a w'
  | .brk id R' H' _, e, a, w' => e = .exit id ∧ Left P ι U N H w0 w R' H' a w'
  | .ret R' H' _, e, a, w' => e = .ret ∧ Left P ι U N H w0 w R' H' a w'

def Callable (P : Program) (f : Nat) : Prop := ∃ fn, P.funcs[f]? = some fn ∧ fn.body.isSome = true ∧ (fn.name == "runtime.NumGoroutine") = false
structure CalOK (P : Program) (Γ : Glo) (cal : Cal) : Prop where
  fn : ∀ f args H n v H' n', cal.fn f args H n = .ok v H' n' → Mono H H' ∧ Callable P f ∧
    ∀ ι w (xs : Array Value), HOK P ι H w → GOK Γ ι H w → Fr ι H H' → V.rels ι args xs.toList → Calls P f xs w (fun e w' => ∃ x, e = .returned x ∧ Post P ι H w H' v x w')
  rd : ∀ c R H n, Out.to H (cal.rd c R H n) ∧
    ∀ code U N, c = codeIR P U N code true → cal.rd c R H n ≠ .bad → ∀ ι w w0 a l m, HOK P ι H w → GOK Γ ι H w → Out.fr ι H (cal.rd c R H n) → EnvR ι U R a.tmps → N ≤ a.tmps.size →
      Defs w0 ι H w a.defers → code.wpIn (Fence.wide.inRound l) m P (CodePost P ι U N H w0 w (cal.rd c R H n)) a w

section
variable {P : Program} {Γ : Glo} {ι ι' : Emb} {H H' : Heap} {w w' w0 : World}
theorem Defs.nil : Defs w0 ι H w [] := ⟨fun d hd => by simp at hd, List.Pairwise.nil⟩
theorem Defs.step {ds : List Deferred} (h : Defs w0 ι H w ds) (s : Step P ι H w ι' H' w') : Defs w0 ι' H' w' ds := by
  refine ⟨fun d hd => ?_, h.apart⟩
  obtain ⟨b, ht, h0, hh, hn⟩ := h.all d hd
  have hb : b < w.heap.size := (Array.getElem?_eq_some_iff.1 hh).1
  refine ⟨b, ht, h0, (s.kept b hb hn).trans hh, fun p q hl hp => ?_⟩
  obtain ⟨q', s', hq, hq'⟩ := s.back p b q hl hp hb
  exact hn q' s' hq hq'
theorem EnvR.step {U : Nat} {R : Regs} {tmps : Array Value} (h : EnvR ι U R tmps) (s : Step P ι H w ι' H' w') : EnvR ι' U R tmps := h.mono s.ext
end

/- arguments that become slots -/
theorem setOver_nil (R : Regs) (l : List V) : setOver R [] l = (match l with | [] => some R | _ :: _ => none) := rfl
theorem setOver_cons (R : Regs) (p : Pth) (ps : List Pth) (l : List V) : setOver R (p :: ps) l = (match l with
      | [] => none
      | v :: t => (match setOver R ps t with | some R' => some (Tr.set p v R') | none => none)) := rfl
theorem setOver_length : ∀ {ps : List Pth} {vs : List V} {R R1 : Regs}, setOver R ps vs = some R1 → vs.length = ps.length
  | [], vs, R, R1, h => by
    rw [setOver_nil] at h
    cases vs with
    | nil => rfl
    | cons => cases h
  | p :: ps, vs, R, R1, h => by
    rw [setOver_cons] at h
    cases vs with
    | nil => cases h
    | cons v t =>
      cases hs : setOver R ps t with
      | none => simp [hs] at h
      | some R' => simp [setOver_length hs]
theorem setOver_rel {ι : Emb} {val : Nat → Value} {q : Pth} : ∀ {ps : List Nat} {vs : List V} {xs : List Value} {R R1 : Regs}, setOver R (ps.map toPth) vs = some R1 → V.rels ι vs xs →
    (∀ (i t : Nat) (x : Value), ps[i]? = some t → xs[i]? = some x → val t = x) → (∀ v, R.get q = some v → (∀ t ∈ ps, toPth t ≠ q) → V.rel ι v (val q.num)) →
    ∀ v, R1.get q = some v → V.rel ι v (val q.num) ∧ ((∃ t ∈ ps, toPth t = q) ∨ R.get q = some v)
  | [], vs, xs, R, R1, h, hr, hv, h0, v, hq => by
    rw [List.map_nil, setOver_nil] at h
    cases vs with
    | cons => cases h
    | nil =>
      simp at h; subst h
      exact ⟨h0 v hq (fun t ht => by simp at ht), .inr hq⟩
  | t :: ps, vs, xs, R, R1, h, hr, hv, h0, v, hq => by
    rw [List.map_cons, setOver_cons] at h
    cases vs with
    | nil => cases h
    | cons u us =>
      obtain ⟨x, ys, rfl, hx, hys⟩ := rels_cons_inv hr
      cases hs : setOver R (ps.map toPth) us with
      | none => simp [hs] at h
      | some R' =>
        simp only [hs, Option.some.injEq] at h
        subst h
        rw [Tr.get_set] at hq
        by_cases e : toPth t = q
        · rw [if_pos e] at hq
          cases hq
          have h1 := hv 0 t x rfl rfl
          refine ⟨?_, .inl ⟨t, List.mem_cons_self .., e⟩⟩
          rw [← e, num_toPth, h1]; exact hx
        · rw [if_neg e] at hq
          obtain ⟨h1, h2⟩ := setOver_rel hs hys (fun i t' x' hi hx' => hv (i + 1) t' x' (by simpa using hi) (by simpa using hx'))
            (fun v' hv' hn => h0 v' hv' fun t' ht' => by
              rcases List.mem_cons.1 ht' with rfl | ht'
              · exact e
              · exact hn t' ht') v hq
          refine ⟨h1, ?_⟩
          rcases h2 with ⟨t', ht', e'⟩ | h2
          · exact .inl ⟨t', List.mem_cons_of_mem _ ht', e'⟩
          · exact .inr h2
theorem hasNat_iff (t : Nat) : ∀ l : List Nat, hasNat t l = true ↔ t ∈ l
  | [] => by simp [hasNat]
  | x :: l => by
    have ih := hasNat_iff t l
    show (match Nat.beq x t with | true => true | false => hasNat t l) = true ↔ _
    cases h : Nat.beq x t with
    | true => have := beq_eq h; subst this; simp
    | false =>
      have hne : x ≠ t := fun e => by subst e; simp at h
      simp [ih, Ne.symm hne]
theorem nodupN_cons {t : Nat} {l : List Nat} (h : nodupN (t :: l) = true) : t ∉ l ∧ nodupN l = true := by
  have h' : (match hasNat t l with | true => false | false => nodupN l) = true := h
  cases ht : hasNat t l with
  | true => simp [ht] at h'
  | false =>
    simp only [ht] at h'
    exact ⟨fun hm => by rw [(hasNat_iff t l).2 hm] at ht; exact Bool.noConfusion ht, h'⟩
theorem belowAll_mem {N : Nat} : ∀ {l : List Nat}, belowAll N l = true → ∀ t ∈ l, t < N
  | [], _, t, ht => by simp at ht
  | x :: l, h, t, ht => by
    have h' : (Nat.blt x N && belowAll N l) = true := h
    rw [Bool.and_eq_true] at h'
    rcases List.mem_cons.1 ht with rfl | ht
    · exact blt_lt h'.1
    · exact belowAll_mem h'.2 t ht
theorem allBits_mem {U : Nat} : ∀ {l : List Nat}, allBits U l = true → ∀ t ∈ l, bit U t = true
  | [], _, t, ht => by simp at ht
  | x :: l, h, t, ht => by
    have h' : (bit U x && allBits U l) = true := h
    rw [Bool.and_eq_true] at h'
    rcases List.mem_cons.1 ht with rfl | ht
    · exact h'.1
    · exact allBits_mem h'.2 t ht
def putAll (l : List (Nat × Value)) (tmps : Array Value) : Array Value := l.foldl (fun tmps (x : Nat × Value) => tmps.setIfInBounds x.1 x.2) tmps
theorem putAll_size : ∀ (l : List (Nat × Value)) (tmps : Array Value), (putAll l tmps).size = tmps.size
  | [], _ => rfl
  | x :: l, tmps => by
    show (putAll l (tmps.setIfInBounds x.1 x.2)).size = _
    rw [putAll_size l]; simp
theorem getD_set (tmps : Array Value) (t j : Nat) (x : Value) (ht : t < tmps.size) : (tmps.setIfInBounds t x).getD j undef = if t = j then x else tmps.getD j undef := by
  simp only [Array.getD_eq_getD_getElem?, Array.getElem?_setIfInBounds]
  by_cases e : t = j
  · subst e; simp [ht]
  · simp [e]
theorem putAll_get : ∀ (ps : List Nat) (xs : List Value) (tmps : Array Value), nodupN ps = true → (∀ t ∈ ps, t < tmps.size) →
    (∀ (i t : Nat) (x : Value), ps[i]? = some t → xs[i]? = some x → (putAll (ps.zip xs) tmps).getD t undef = x) ∧ ∀ j, j ∉ ps → (putAll (ps.zip xs) tmps).getD j undef = tmps.getD j undef
  | [], xs, tmps, _, _ => ⟨fun i t x h => by simp at h, fun j _ => by simp [putAll]⟩
  | t :: ps, [], tmps, _, _ => ⟨fun i t x _ h => by simp at h, fun j _ => by simp [putAll]⟩
  | t :: ps, x :: xs, tmps, hn, hb => by
    obtain ⟨h1, h2⟩ := nodupN_cons hn
    obtain ⟨ih1, ih2⟩ := putAll_get ps xs (tmps.setIfInBounds t x) h2 (fun t' ht' => by simpa using hb t' (List.mem_cons_of_mem _ ht'))
    have ht := hb t (List.mem_cons_self ..)
    refine ⟨fun i t' x' hi hx => ?_, fun j hj => ?_⟩
    · cases i with
      | zero =>
        simp at hi hx; subst hi; subst hx
        show (putAll (ps.zip xs) (tmps.setIfInBounds t x)).getD t undef = x
        rw [ih2 t h1, getD_set _ _ _ _ ht, if_pos rfl]
      | succ i =>
        exact ih1 i t' x' (by simpa using hi) (by simpa using hx)
    · show (putAll (ps.zip xs) (tmps.setIfInBounds t x)).getD j undef = _
      simp at hj
      rw [ih2 j hj.2, getD_set _ _ _ _ ht, if_neg (Ne.symm hj.1)]
/-- the arguments of yield, laid over the record's slots -/
theorem setOver_env {ι : Emb} {U N : Nat} {R R1 : Regs} {tmps args : Array Value} {ps : Array Nat} {vs : List V} (hs : setOver R (ps.toList.map toPth) vs = some R1) (hr : V.rels ι vs args.toList)
    (he : EnvR ι U R tmps) (hN : N ≤ tmps.size) (hb : belowAll N ps.toList = true) (ha : allBits U ps.toList = true) (hn : nodupN ps.toList = true) :
    args.size = ps.size ∧ EnvR ι U R1 ((ps.zip args).foldl (fun tmps (t, a) => tmps.setIfInBounds t a) tmps) ∧ N ≤ ((ps.zip args).foldl (fun tmps (t, a) => tmps.setIfInBounds t a) tmps).size := by
  have hfold : ((ps.zip args).foldl (fun tmps (x : Nat × Value) => tmps.setIfInBounds x.1 x.2) tmps) = putAll (ps.toList.zip args.toList) tmps := by
    rw [← Array.foldl_toList, Array.toList_zip]; rfl
  have hl := setOver_length hs
  have hrl := rels_length hr
  simp only [Array.length_toList, List.length_map] at hl hrl
  obtain ⟨g1, g2⟩ := putAll_get ps.toList args.toList tmps hn (fun t ht => Nat.lt_of_lt_of_le (belowAll_mem hb t ht) hN)
  refine ⟨by omega, ?_, ?_⟩
  · show EnvR ι U R1 ((ps.zip args).foldl (fun tmps (x : Nat × Value) => tmps.setIfInBounds x.1 x.2) tmps)
    rw [hfold]
    intro q v hq
    obtain ⟨h1, h2⟩ := setOver_rel (val := fun j => (putAll (ps.toList.zip args.toList) tmps).getD j undef) (q := q) hs hr (fun i t x hi hx => g1 i t x hi hx)
      (fun v hv hne => by
        rw [g2 q.num (fun hm => hne q.num hm (Pth.num_inj (num_toPth _)))]
        exact (he q v hv).2) v hq
    refine ⟨?_, h1⟩
    rcases h2 with ⟨t, ht, e⟩ | h2
    · rw [← e, num_toPth]; exact allBits_mem ha t ht
    · exact (he q v h2).1
  · show N ≤ ((ps.zip args).foldl (fun tmps (x : Nat × Value) => tmps.setIfInBounds x.1 x.2) tmps).size
    rw [hfold, putAll_size]; exact hN
end
end Go.Ev
