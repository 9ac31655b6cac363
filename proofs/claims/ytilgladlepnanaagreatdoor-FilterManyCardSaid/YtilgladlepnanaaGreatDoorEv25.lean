/-
  A verified evaluator, part 25: a region that draws its order: what goes before what; merged memories; what an operation looks at.
-/
import Derived.Test.YtilgladlepnanaaGreatDoorEv24
namespace Go.Ev
noncomputable section
open Go

/- what an operation looks at -/
section
variable {P : Program} {r r' : Operand → Src}
theorem structParts_congr (fs : Array Field) : ∀ (ps : List (Nat × Operand)), (∀ p ∈ ps, r p.2 = r' p.2) → structParts P fs r ps = structParts P fs r' ps
  | [], _ => rfl
  | p :: ps, h => by simp only [structParts, structParts_congr fs ps fun q hq => h q (List.mem_cons_of_mem _ hq), h p (List.mem_cons_self ..)]
theorem arrayParts_congr (k : Nat) : ∀ (ps : List (Nat × Operand)), (∀ p ∈ ps, r p.2 = r' p.2) → arrayParts k r ps = arrayParts k r' ps
  | [], _ => rfl
  | p :: ps, h => by simp only [arrayParts, arrayParts_congr k ps fun q hq => h q (List.mem_cons_of_mem _ hq), h p (List.mem_cons_self ..)]
theorem opI_congr (op : Op) (h : ∀ x ∈ op.operands.toList, r x = r' x) : opI P r op = opI P r' op := by
  cases op
  case build t ps =>
    have h' : ∀ p ∈ ps.toList, r p.2 = r' p.2 := fun p hp => h _ (by simp only [Op.operands]; exact List.mem_map.2 ⟨p, hp, rfl⟩)
    simp only [opI, structParts_congr _ _ h', arrayParts_congr _ _ h']
  case buildSlice t m ps =>
    have h' : ∀ p ∈ ps.toList, r p.2 = r' p.2 := fun p hp => h _ (by simp only [Op.operands]; exact List.mem_map.2 ⟨p, hp, rfl⟩)
    simp only [opI, arrayParts_congr _ _ h']
  case makeFunc f a b =>
    have ha : a.toList.map r = a.toList.map r' := List.map_congr_left fun x hx => h x (by simp only [Op.operands, Array.toList_append]; exact List.mem_append_left _ hx)
    have hb : b.toList.map r = b.toList.map r' := List.map_congr_left fun x hx => h x (by simp only [Op.operands, Array.toList_append]; exact List.mem_append_right _ hx)
    cases f <;> try (simp only [opI, ha, hb]; done)
    rename_i m
    simp only [opI]
    cases hla : a.toList with
    | nil => rfl
    | cons x l =>
      cases l with
      | cons y l => rfl
      | nil =>
        cases b.toList with
        | cons y l => rfl
        | nil =>
          simp only
          rw [h x (by simp only [Op.operands, Array.toList_append]; exact List.mem_append_left _ (by rw [hla]; simp))]
  case makeMap t rv =>
    cases rv with
    | none => rfl
    | some q =>
      cases q with
      | const y => cases y <;> rfl
      | _ => rfl
  case slice t x lo hi mx =>
    have hx : r x = r' x := h x (by simp [Op.operands])
    have h1 : lo.map r = lo.map r' := by cases lo with | none => rfl | some q => simp only [Option.map_some]; rw [h q (by simp [Op.operands])]
    have h2 : hi.map r = hi.map r' := by cases hi with | none => rfl | some q => simp only [Option.map_some]; rw [h q (by simp [Op.operands])]
    have h3 : mx.map r = mx.map r' := by cases mx with | none => rfl | some q => simp only [Option.map_some]; rw [h q (by simp [Op.operands])]
    simp only [opI, hx, h1, h2, h3]
  case next it b =>
    have hx : r it = r' it := h it (by simp [Op.operands])
    cases b <;> simp only [opI, hx]
  case call c =>
    have h1 : c.args.toList.map r = c.args.toList.map r' := List.map_congr_left fun x hx => h x (by
      simp only [Op.operands, Call.operands]
      cases c.callee <;> simp <;> first | exact hx | exact .inr hx | (right; simpa using hx) | simpa using hx)
    simp only [opI, h1]
    cases hc : c.callee with
    | value q =>
      cases q with
      | func f => rfl
      | _ =>
        simp only
        rw [h _ (by simp [Op.operands, Call.operands, hc])]
    | invoke q m =>
      simp only
      rw [h _ (by simp [Op.operands, Call.operands, hc])]
    | _ => rfl
  all_goals first
    | rfl
    | (simp only [Op.operands, Array.toList, List.mem_cons, List.mem_nil_iff, List.not_mem_nil, or_false, forall_eq_or_imp, forall_eq] at h; simp only [opI, h]; done)
end

/- bits -/
theorem bit_eq (m i : Nat) : bit m i = m.testBit i := by
  unfold bit
  rw [Nat.testBit_eq_decide_div_mod_eq]
  show Nat.beq ((m >>> i) % 2) 1 = _
  rw [Nat.shiftRight_eq_div_pow]
  cases h : decide (m / 2 ^ i % 2 = 1) with
  | true => simp at h; rw [h]; rfl
  | false =>
    have h' : ¬ (m / 2 ^ i % 2 = 1) := by simpa using h
    cases hb : Nat.beq (m / 2 ^ i % 2) 1 with
    | false => rfl
    | true => exact absurd (beq_eq hb) h'
theorem bit_or (a b i : Nat) : bit (Nat.lor a b) i = (bit a i || bit b i) := by
  rw [bit_eq, bit_eq, bit_eq]
  show (a ||| b).testBit i = _
  rw [Nat.testBit_or]
theorem bit_pow (k i : Nat) : bit (2 ^ k) i = true ↔ k = i := by
  rw [bit_eq, Nat.testBit_two_pow]; simp
theorem bit_zero (i : Nat) : bit 0 i = false := by rw [bit_eq]; simp
theorem befOf_cons (acc : List Nat) (e : Edge) (l : List Edge) : befOf acc (e :: l) = (match Region.binds .any e with
    | true => Nat.lor (Nat.lor (2 ^ e.on) (match nth acc e.on with | some b => b | none => 0)) (befOf acc l)
    | false => befOf acc l) := rfl
theorem bit_befOf (acc : List Nat) (j : Nat) : ∀ (l : List Edge), bit (befOf acc l) j = true → ∃ e ∈ l, Region.binds .any e = true ∧ (e.on = j ∨ ∃ b, acc[e.on]? = some b ∧ bit b j = true)
  | [], h => by
    have h' : bit 0 j = true := h
    rw [bit_zero] at h'; cases h'
  | e :: l, h => by
    rw [befOf_cons] at h
    cases hb : Region.binds .any e with
    | false =>
      simp only [hb] at h
      obtain ⟨e', h1, h2⟩ := bit_befOf acc j l h
      exact ⟨e', List.mem_cons_of_mem _ h1, h2⟩
    | true =>
      simp only [hb] at h
      rw [bit_or, bit_or, Bool.or_eq_true, Bool.or_eq_true] at h
      rcases h with (h | h) | h
      · exact ⟨e, List.mem_cons_self .., hb, .inl ((bit_pow _ _).1 h)⟩
      · rw [nth_eq] at h
        cases ha : acc[e.on]? with
        | none => simp only [ha] at h; rw [bit_zero] at h; cases h
        | some b => simp only [ha] at h; exact ⟨e, List.mem_cons_self .., hb, .inr ⟨b, ha, h⟩⟩
      · obtain ⟨e', h1, h2⟩ := bit_befOf acc j l h
        exact ⟨e', List.mem_cons_of_mem _ h1, h2⟩
theorem befs_cons (o : Oper) (l : List Oper) (acc : List Nat) : befs (o :: l) acc = befs l (app acc [befOf acc o.after.toList]) := rfl
theorem befs_spec : ∀ (l : List Oper) (acc : List Nat), (befs l acc).length = acc.length + l.length ∧ (befs l acc).take acc.length = acc ∧
    ∀ j o, l[j]? = some o → (befs l acc)[acc.length + j]? = some (befOf ((befs l acc).take (acc.length + j)) o.after.toList)
  | [], acc => ⟨by simp [befs], by simp [befs], fun j o h => by simp at h⟩
  | o :: l, acc => by
    have e : app acc [befOf acc o.after.toList] = acc ++ [befOf acc o.after.toList] := app_eq _ _
    obtain ⟨h1, h2, h3⟩ := befs_spec l (app acc [befOf acc o.after.toList])
    rw [befs_cons]
    generalize befs l (app acc [befOf acc o.after.toList]) = bs at h1 h2 h3
    rw [e] at h1 h2 h3
    simp only [List.length_append, List.length_cons, List.length_nil] at h1 h2 h3
    have ht : bs.take acc.length = acc := by
      have := congrArg (List.take acc.length) h2
      rw [List.take_take] at this
      simpa using this
    refine ⟨by simp; omega, ht, fun j o' hj => ?_⟩
    cases j with
    | zero =>
      simp at hj; subst hj
      have h4 : (bs.take (acc.length + (0 + 1)))[acc.length]? = some (befOf acc o.after.toList) := by rw [h2]; simp
      rw [List.getElem?_take] at h4
      simp at h4
      simp only [Nat.add_zero, ht]
      exact h4
    | succ j =>
      have := h3 j o' (by simpa using hj)
      have e2 : acc.length + (0 + 1) + j = acc.length + (j + 1) := by omega
      rw [e2] at this
      exact this
theorem edgeBack_mem (i : Nat) : ∀ (l : List Edge), edgeBack i l = true → ∀ e ∈ l, Region.binds .any e = true → e.on < i
  | [], _, e, he, _ => by simp at he
  | x :: l, h, e, he, hb => by
    have h' : (match Region.binds .any x with
      | true => (match Nat.blt x.on i with | true => edgeBack i l | false => false)
      | false => edgeBack i l) = true := h
    cases hx : Region.binds .any x with
    | true =>
      simp only [hx] at h'
      cases hl : Nat.blt x.on i with
      | false => simp [hl] at h'
      | true =>
        simp only [hl] at h'
        rcases List.mem_cons.1 he with rfl | he
        · exact blt_lt hl
        · exact edgeBack_mem i l h' e he hb
    | false =>
      simp only [hx] at h'
      rcases List.mem_cons.1 he with rfl | he
      · rw [hx] at hb; cases hb
      · exact edgeBack_mem i l h' e he hb
theorem edgesBack_get : ∀ (l : List Oper) (i : Nat), edgesBack l i = true → ∀ j o, l[j]? = some o → ∀ e ∈ o.after.toList, Region.binds .any e = true → e.on < i + j
  | [], _, _, j, o, h => by simp at h
  | x :: l, i, h, j, o, hj => by
    have h' : (match edgeBack i x.after.toList with | true => edgesBack l (i + 1) | false => false) = true := h
    cases hx : edgeBack i x.after.toList with
    | false => simp [hx] at h'
    | true =>
      simp only [hx] at h'
      cases j with
      | zero => simp at hj; subst hj; exact fun e he hb => edgeBack_mem i _ hx e he hb
      | succ j =>
        have := edgesBack_get l (i + 1) h' j o (by simpa using hj)
        exact fun e he hb => by have := this e he hb; omega

/- operations apart -/
theorem apartFrom_cons (ops : Array Oper) (i : Nat) (d : Option Nat) (looks : List Nat) (o : Oper) (l : List Oper) (bs : List Nat) (m : Nat) : apartFrom ops i d looks (o :: l) bs m = (match nth bs m with
    | some b => (match bit b i with
      | true => (match d, o.dst with | some t, some u => !(Nat.beq t u) | _, _ => true)
      | false => !(clash d looks o.dst) && !(clash o.dst (looksOf ops o) d)) && apartFrom ops i d looks l bs (m + 1)
    | none => false) := rfl
/-- what is known of two operations, i standing before j -/
def Apart (ops : Array Oper) (b : Nat) (i : Nat) (oi oj : Oper) : Prop :=
  (∀ t u, oi.dst = some t → oj.dst = some u → t ≠ u) ∧ (bit b i = false → (∀ t, oj.dst = some t → t ∉ looksOf ops oi) ∧ (∀ t, oi.dst = some t → t ∉ looksOf ops oj))
theorem clash_false {d d' : Option Nat} {looks : List Nat} (h : clash d looks d' = false) : (∀ t, d' = some t → d ≠ some t) ∧ ∀ t, d' = some t → t ∉ looks := by
  refine ⟨fun t ht hd => ?_, fun t ht hm => ?_⟩
  · subst ht; subst hd
    simp [clash] at h
  · subst ht
    have := (hasNat_iff t looks).2 hm
    simp [clash, this] at h
theorem apartFrom_get (ops : Array Oper) (i : Nat) (oi : Oper) (bs : List Nat) : ∀ (l : List Oper) (m : Nat), apartFrom ops i oi.dst (looksOf ops oi) l bs m = true →
    ∀ j oj, l[j]? = some oj → ∃ b, bs[m + j]? = some b ∧ Apart ops b i oi oj
  | [], _, _, j, oj, hj => by simp at hj
  | o :: l, m, h, j, oj, hj => by
    rw [apartFrom_cons, nth_eq] at h
    cases hb : bs[m]? with
    | none => simp [hb] at h
    | some b =>
      simp only [hb, Bool.and_eq_true] at h
      cases j with
      | succ j =>
        obtain ⟨b', h1, h2⟩ := apartFrom_get ops i oi bs l (m + 1) h.2 j oj (by simpa using hj)
        exact ⟨b', by rw [← h1]; congr 1; omega, h2⟩
      | zero =>
        simp at hj; subst hj
        refine ⟨b, hb, ?_⟩
        have h1 := h.1
        cases hbit : bit b i with
        | true =>
          simp only [hbit] at h1
          refine ⟨fun t u ht hu => ?_, fun hf => by rw [hbit] at hf; cases hf⟩
          simp only [ht, hu, Bool.not_eq_true'] at h1
          intro e; subst e
          simp at h1
        | false =>
          simp only [hbit, Bool.and_eq_true, Bool.not_eq_true'] at h1
          obtain ⟨c1, c2⟩ := clash_false h1.1
          obtain ⟨c3, c4⟩ := clash_false h1.2
          exact ⟨fun t u ht hu e => by subst e; exact c1 t hu ht, fun _ => ⟨c2, c4⟩⟩
theorem apartAll_cons (ops : Array Oper) (bs : List Nat) (o : Oper) (l : List Oper) (m : Nat) : apartAll ops bs (o :: l) m = (apartFrom ops m o.dst (looksOf ops o) l bs (m + 1) && apartAll ops bs l (m + 1)) := rfl
theorem apartAll_get (ops : Array Oper) (bs : List Nat) : ∀ (l : List Oper) (m : Nat), apartAll ops bs l m = true → ∀ i j oi oj, i < j → l[i]? = some oi → l[j]? = some oj →
    ∃ b, bs[m + j]? = some b ∧ Apart ops b (m + i) oi oj
  | [], _, _, i, j, oi, oj, _, hi, _ => by simp at hi
  | o :: l, m, h, i, j, oi, oj, hij, hi, hj => by
    rw [apartAll_cons, Bool.and_eq_true] at h
    cases j with
    | zero => omega
    | succ j =>
      cases i with
      | zero =>
        simp at hi; subst hi
        obtain ⟨b, h1, h2⟩ := apartFrom_get ops m o bs l (m + 1) h.1 j oj (by simpa using hj)
        exact ⟨b, by rw [← h1]; congr 1; omega, by simpa using h2⟩
      | succ i =>
        obtain ⟨b, h1, h2⟩ := apartAll_get ops bs l (m + 1) h.2 i j oi oj (by omega) (by simpa using hi) (by simpa using hj)
        refine ⟨b, by rw [← h1]; congr 1; omega, ?_⟩
        have e : m + (i + 1) = m + 1 + i := by omega
        rw [e]; exact h2

/- merged memories -/
noncomputable def mergeS (S : Nat → Bool) (H : Heap) (pend : List Pend) : Heap :=
  List.rec H (fun q _ ih => match q with
    | .mk i p o => (match S i with
      | true => (match Tr.get p ih with | none => Tr.set p o ih | some _ => ih)
      | false => ih)) pend
theorem merge_eq (bef : Nat) (H : Heap) (pend : List Pend) : merge bef H pend = mergeS (bit bef) H pend := rfl
theorem mergeAll_eq (H : Heap) : ∀ (pend : List Pend), mergeAll H pend = mergeS (fun _ => true) H pend
  | [] => rfl
  | .mk i p o :: t => by
    have ih := mergeAll_eq H t
    show (match Tr.get p (mergeAll H t) with | none => Tr.set p o (mergeAll H t) | some _ => mergeAll H t) = _
    rw [ih]; rfl
def pget (S : Nat → Bool) (p : Pth) : List Pend → Option O
  | [] => none
  | .mk i p' o :: t => match pget S p t with
    | some x => some x
    | none => match S i, p'.beq p with | true, true => some o | _, _ => none
theorem mergeS_get (S : Nat → Bool) (H : Heap) (p : Pth) : ∀ (pend : List Pend), (mergeS S H pend).get p = match H.get p with | some o => some o | none => pget S p pend
  | [] => by
    show H.get p = _
    cases H.get p <;> rfl
  | .mk i p' o :: t => by
    have ih := mergeS_get S H p t
    show Tr.get p (match S i with
      | true => (match Tr.get p' (mergeS S H t) with | none => Tr.set p' o (mergeS S H t) | some _ => mergeS S H t)
      | false => mergeS S H t) = _
    cases hs : S i with
    | false =>
      simp only [ih, pget, hs]
      cases H.get p with
      | some x => rfl
      | none => cases pget S p t <;> rfl
    | true =>
      cases hp : Tr.get p' (mergeS S H t) with
      | none =>
        simp only
        rw [Tr.get_set]
        by_cases e : p' = p
        · subst e
          rw [if_pos rfl]
          rw [hp] at ih
          cases hh : H.get p' with
          | some x => rw [hh] at ih; cases ih
          | none =>
            rw [hh] at ih
            simp only at ih ⊢
            simp only [pget, ← ih, hs, (Pth.beq_iff p' p').2 rfl]
        · rw [if_neg e, ih]
          have hb : p'.beq p = false := by
            cases hb : p'.beq p with
            | false => rfl
            | true => exact absurd ((Pth.beq_iff p' p).1 hb) e
          cases H.get p with
          | some x => rfl
          | none =>
            simp only [pget, hb]
            cases pget S p t with
            | some x => rfl
            | none => cases S i <;> rfl
      | some y =>
        simp only
        rw [ih]
        cases hh : H.get p with
        | some x => rfl
        | none =>
          simp only [pget, hs]
          cases hg : pget S p t with
          | some x => rfl
          | none =>
            simp only
            cases hb : p'.beq p with
            | false => rfl
            | true =>
              have := (Pth.beq_iff p' p).1 hb
              subst this
              rw [hp, hh, hg] at ih
              cases ih
theorem pget_mem {S : Nat → Bool} {p : Pth} {o : O} : ∀ {pend : List Pend}, pget S p pend = some o → ∃ i, Pend.mk i p o ∈ pend ∧ S i = true
  | [], h => by cases h
  | .mk i p' o' :: t, h => by
    simp only [pget] at h
    cases hg : pget S p t with
    | some x =>
      rw [hg] at h; cases h
      obtain ⟨j, h1, h2⟩ := pget_mem hg
      exact ⟨j, List.mem_cons_of_mem _ h1, h2⟩
    | none =>
      rw [hg] at h
      cases hs : S i <;> cases hb : p'.beq p <;> simp only [hs, hb] at h <;> try (cases h; done)
      cases h
      have := (Pth.beq_iff p' p).1 hb
      subst this
      exact ⟨i, List.mem_cons_self .., hs⟩
/-- the names are different ones -/
def Names : List Pend → Prop
  | [] => True
  | .mk _ p _ :: t => (∀ i o, Pend.mk i p o ∉ t) ∧ Names t
theorem pget_of_mem {S : Nat → Bool} {p : Pth} {o : O} {i : Nat} : ∀ {pend : List Pend}, Names pend → Pend.mk i p o ∈ pend → S i = true → pget S p pend = some o
  | [], _, h, _ => by simp at h
  | .mk j q x :: t, hn, h, hs => by
    obtain ⟨h1, h2⟩ := hn
    rcases List.mem_cons.1 h with e | h
    · cases e
      have hnone : pget S p t = none := by
        cases hg : pget S p t with
        | none => rfl
        | some y =>
          obtain ⟨k, hk, _⟩ := pget_mem hg
          exact absurd hk (h1 k y)
      simp only [pget, hnone, hs, (Pth.beq_iff p p).2 rfl]
    · simp only [pget, pget_of_mem h2 h hs]
theorem names_unique {i j : Nat} {p : Pth} {o o' : O} : ∀ {pend : List Pend}, Names pend → Pend.mk i p o ∈ pend → Pend.mk j p o' ∈ pend → i = j ∧ o = o'
  | [], _, h, _ => by simp at h
  | .mk k q x :: t, hn, ha, hb => by
    obtain ⟨h1, h2⟩ := hn
    rcases List.mem_cons.1 ha with e | h
    · cases e
      rcases List.mem_cons.1 hb with e | h'
      · cases e; exact ⟨rfl, rfl⟩
      · exact absurd h' (h1 j o')
    · rcases List.mem_cons.1 hb with e | h'
      · cases e; exact absurd h (h1 i o)
      · exact names_unique h2 h h'
theorem merge_sub {S T : Nat → Bool} {H : Heap} {pd pend : List Pend} (hST : ∀ i, T i = true → S i = true) (hpd : ∀ q, q ∈ pd → q ∈ pend) (hn : Names pend) : Sub (mergeS T H pd) (mergeS S H pend) := by
  intro p o hp
  rw [mergeS_get] at hp ⊢
  cases h : H.get p with
  | some x => rw [h] at hp; exact hp
  | none =>
    rw [h] at hp
    obtain ⟨i, h1, h2⟩ := pget_mem hp
    exact pget_of_mem hn (hpd _ h1) (hST i h2)
end
end Go.Ev
