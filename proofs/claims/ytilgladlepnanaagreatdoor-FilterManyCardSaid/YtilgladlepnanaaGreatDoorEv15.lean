/-
  A verified evaluator, part 15: maps: writing, deleting, ranging.
-/
import Derived.Test.YtilgladlepnanaaGreatDoorEv14
namespace Go.Ev
noncomputable section
open Go

section
variable {P : Program} {Γ : Glo} {ι : Emb} {H H' : Heap} {w : World} {ρ : Operand → Value} {L : List V} {R : Regs} {r : Operand → Src} {cal : Cal} {n n' : Pth} {v : V} {o : Oper}

theorem ERel_setVal {u : V} {y : Value} (hy : V.rel ι u y) : ∀ (es : List (V × V × Nat)) (ms : List MapEntry) (i : Nat) (m : MapEntry), ERel ι es ms → ms[i]? = some m →
    ERel ι (setVal es u i) (ms.modify i fun e => { e with key := m.key, val := y })
  | [], ms, i, m, h, hi => by
    have h' : ms = [] := h
    subst h'; simp at hi
  | e :: es, ms, 0, m, h, hi => by
    obtain ⟨m0, t, rfl, hk, hv, hb, ht⟩ := h
    simp at hi; subst hi
    show ERel ι ((e.1, u, e.2.2) :: es) _
    exact ⟨{ m0 with val := y }, t, by simp, hk, hy, hb, ht⟩
  | e :: es, ms, i + 1, m, h, hi => by
    obtain ⟨m0, t, rfl, hk, hv, hb, ht⟩ := h
    simp at hi
    show ERel ι (e :: setVal es u i) _
    exact ⟨m0, _, by simp, hk, hv, hb, ERel_setVal hy es t i m ht hi⟩
theorem ERel_append {k u : V} {x y : Value} {b : Nat} (hk : V.rel ι k x) (hu : V.rel ι u y) : ∀ (es : List (V × V × Nat)) (ms : List MapEntry), ERel ι es ms →
    ERel ι (es ++ [(k, u, b)]) (ms ++ [{ key := x, val := y, born := b }])
  | [], ms, h => by
    have h' : ms = [] := h
    subst h'
    exact ⟨_, [], rfl, hk, hu, rfl, rfl⟩
  | e :: es, ms, h => by
    obtain ⟨m0, t, rfl, hk', hv, hb, ht⟩ := h
    exact ⟨m0, _, rfl, hk', hv, hb, ERel_append hk hu es t ht⟩
theorem ERel_dropAt : ∀ (es : List (V × V × Nat)) (ms : List MapEntry) (i : Nat), ERel ι es ms → ERel ι (dropAt es i) (ms.eraseIdx i)
  | [], ms, i, h => by
    have h' : ms = [] := h
    subst h'; exact rfl
  | e :: es, ms, 0, h => by
    obtain ⟨m0, t, rfl, hk, hv, hb, ht⟩ := h
    exact ht
  | e :: es, ms, i + 1, h => by
    obtain ⟨m0, t, rfl, hk, hv, hb, ht⟩ := h
    show ERel ι (e :: dropAt es i) _
    exact ⟨m0, _, rfl, hk, hv, hb, ERel_dropAt es t i ht⟩
theorem ERel_length : ∀ {es : List (V × V × Nat)} {ms : List MapEntry}, ERel ι es ms → ms.length = es.length
  | [], ms, h => by
    have h' : ms = [] := h
    subst h'; rfl
  | e :: es, ms, h => by
    obtain ⟨m0, t, rfl, _, _, _, ht⟩ := h
    simp [ERel_length ht]
/-- a map's store, with the key's kind known -/
theorem mapupd_run {t kt et : TypeId} {m k x : Operand} {e : EK} (c : Cxt P Γ ι H w ρ L R r) (hu : P.underlying t = some (.map kt et)) (hk : keyOf P kt = some e)
    (he : evMapupd e (r m) (r k) (r x) cal Γ L R H n = .ok v H' n') :
    ∃ w', (Instr.mapUpdate t (ρ m) (ρ k) (ρ x)).run P w = .ok () w' ∧ Step P ι H w ι H' w' ∧ v = .unk := by
  unfold evMapupd at he
  obtain ⟨b, d, rfl, hbt, hd, hb⟩ := keyOf_base hk
  have hm := c.hs m
  have hkk := c.hs k
  have hxx := c.hs x
  cases hbm : src L R (r m) <;> simp only [hbm] at he <;> try (cases he; done)
  rename_i p
  cases hg : H.get p with
  | none => simp [hg] at he
  | some ob =>
    cases ob <;> simp only [hg] at he <;> try (cases he; done)
    rename_i es cl
    obtain ⟨bk, es', hι, hh, hr⟩ := map_of c.hok hg
    rw [hbm] at hm; simp only [V.rel] at hm
    obtain ⟨b2, hι2, hme⟩ := hm
    rw [hι] at hι2; cases hι2
    obtain ⟨f1, f2⟩ := findNow_ok hb hkk es es'.toList 0 hr
    have pre : ∀ (res : Option (Nat × Value)) (w' : World), Instr.findNow d (ρ k) es'.toList 0 = some res →
        (match res with
          | some (i, _) => do
            let key ← Instr.keyThatStays (((es'[i]?).map (·.key)).getD (ρ k)) (ρ k)
            setObj bk (.map (es'.modify i fun e => { e with key, val := ρ x }) cl)
          | none => setObj bk (.map (es'.push { key := ρ k, val := ρ x, born := cl }) (cl + 1)) : Sem Unit).run P w = .ok () w' →
        (Instr.mapUpdate t (ρ m) (ρ k) (ρ x)).run P w = .ok () w' := by
      intro res w' hf hres
      unfold Instr.mapUpdate
      rw [run_ok_bind (run_underlying hu w), hme]
      simp only []
      rw [run_ok_bind (run_getObj_map hh)]
      simp only []
      rw [run_ok_bind (run_checkKey hd hb), run_ok_bind (run_findKey hd hf)]
      exact hres
    cases hf : findKey (.base b) (src L R (r k)) es 0 with
    | none => simp [hf] at he
    | some res =>
      cases res with
      | none =>
        simp [hf] at he
        obtain ⟨rfl, rfl, rfl⟩ := he
        obtain ⟨hsb, hnew⟩ := sameBut_putObj (ob' := .map (es'.push { key := ρ k, val := ρ x, born := cl }) (cl + 1)) hh
        refine ⟨_, pre none _ (f1 hf) (run_setObj_map _ hh), Step.write c.hok hg (by simp) hι hsb ⟨bk, _, hι, hnew, ?_⟩, rfl⟩
        rw [app_eq, Array.toList_push]
        exact ERel_append hkk hxx es _ hr
      | some jv =>
        obtain ⟨j, vv⟩ := jv
        simp [hf] at he
        obtain ⟨rfl, rfl, rfl⟩ := he
        obtain ⟨_, mm, hmm, hrv, hfn, hkey, hsame⟩ := f2 j vv hf
        have hmm' : es'[j]? = some mm := by simpa using hmm
        obtain ⟨hsb, hnew⟩ := sameBut_putObj (ob' := .map (es'.modify j fun e => { e with key := mm.key, val := ρ x }) cl) hh
        refine ⟨_, pre (some (j, mm.val)) _ hfn ?_, Step.write c.hok hg (by simp) hι hsb ⟨bk, _, hι, hnew, ?_⟩, rfl⟩
        · simp only []
          have hst : (Instr.keyThatStays (((es'[j]?).map (·.key)).getD (ρ k)) (ρ k)).run P w = .ok mm.key w := by
            rw [hmm']
            simp only [Option.map_some, Option.getD_some]
            unfold Instr.keyThatStays
            rw [if_pos hsame, hkey]; rfl
          rw [run_ok_bind hst]
          exact run_setObj_map _ hh
        · rw [Array.toList_modify]
          exact ERel_setVal hxx es _ j mm hr (by simpa using hmm')
theorem ok_mapupd (c : Cxt P Γ ι H w ρ L R r) {t : TypeId} {m k x : Operand} (ho : o.op = .mapUpdate t m k x ∨ o.op = .insert t m k x)
    (he : evI (opI P r (.mapUpdate t m k x)) cal Γ L R H n = .ok v H' n') : OpOK P ρ o w (Post P ι H w H' v) := by
  unfold opI at he
  cases hu : P.underlying t with
  | none => simp [hu] at he; cases he
  | some dd =>
    cases dd <;> simp only [hu] at he <;> try (cases he; done)
    rename_i kt et
    cases hk : keyOf P kt with
    | none => simp [hk] at he; cases he
    | some e =>
      have he' : evMapupd e (r m) (r k) (r x) cal Γ L R H n = .ok v H' n' := by simp only [hk] at he; exact he
      obtain ⟨w', hrun, hst, rfl⟩ := mapupd_run c hu hk he'
      refine OpOK.skip (w' := w') ?_ ⟨ι, by simp [V.rel], hst⟩
      unfold execOp
      rcases ho with ho | ho <;> rw [ho] <;> exact run_u hrun
theorem delete_eq (t a ty : TypeId) (x y : Value) : Builtin.delete_ #[t, a] ty #[x, y] = (do
    let .map keyType _ ← underlying t | stuck "delete: map type expected"
    match x with
    | .map none => Instr.checkKey true 10000 keyType y
    | .map (some r) =>
      let .map es clock ← getObj r | stuck "delete: map expected"
      Instr.checkKey es.isEmpty 10000 keyType y
      match ← Instr.findKey keyType y es.toList with
      | some (i, _) => setObj r (.map (es.eraseIdxIfInBounds i) clock)
      | none => setObj r (.map es clock)
    | _ => stuck "delete: map expected"
    pure (.tuple #[])) := rfl
theorem delete_run {t kt et : TypeId} {m k : Operand} {e : EK} {at2 : TypeId} {ty : TypeId} (c : Cxt P Γ ι H w ρ L R r) (hu : P.underlying t = some (.map kt et)) (hk : keyOf P kt = some e)
    (he : evDelete e (r m) (r k) cal Γ L R H n = .ok v H' n') :
    ∃ w', (Builtin.delete_ #[t, at2] ty #[ρ m, ρ k]).run P w = .ok (.tuple #[]) w' ∧ Step P ι H w ι H' w' ∧ v = .tup [] := by
  unfold evDelete at he
  obtain ⟨b, d, rfl, hbt, hd, hb⟩ := keyOf_base hk
  have hm := c.hs m
  have hkk := c.hs k
  cases hbm : src L R (r m) <;> simp only [hbm] at he <;> try (cases he; done)
  rename_i p
  cases hg : H.get p with
  | none => simp [hg] at he
  | some ob =>
    cases ob <;> simp only [hg] at he <;> try (cases he; done)
    rename_i es cl
    obtain ⟨bk, es', hι, hh, hr⟩ := map_of c.hok hg
    rw [hbm] at hm; simp only [V.rel] at hm
    obtain ⟨b2, hι2, hme⟩ := hm
    rw [hι] at hι2; cases hι2
    obtain ⟨f1, f2⟩ := findNow_ok hb hkk es es'.toList 0 hr
    have pre : ∀ (res : Option (Nat × Value)) (w' : World), Instr.findNow d (ρ k) es'.toList 0 = some res →
        (match res with
          | some (i, _) => setObj bk (.map (es'.eraseIdxIfInBounds i) cl)
          | none => setObj bk (.map es' cl) : Sem Unit).run P w = .ok () w' →
        (Builtin.delete_ #[t, at2] ty #[ρ m, ρ k]).run P w = .ok (.tuple #[]) w' := by
      intro res w' hf hres
      rw [hme, delete_eq]
      rw [run_ok_bind (run_underlying hu w)]
      simp only []
      rw [run_ok_bind (run_getObj_map hh)]
      simp only []
      rw [run_ok_bind (run_checkKey hd hb), run_ok_bind (run_findKey hd hf)]
      cases res with
      | none => simp only [] at hres ⊢; rw [run_ok_bind hres]; rfl
      | some q => simp only [] at hres ⊢; rw [run_ok_bind hres]; rfl
    cases hf : findKey (.base b) (src L R (r k)) es 0 with
    | none => simp [hf] at he
    | some res =>
      cases res with
      | none =>
        simp [hf] at he
        obtain ⟨rfl, rfl, rfl⟩ := he
        obtain ⟨hsb, hnew⟩ := sameBut_putObj (ob' := .map es' cl) hh
        exact ⟨_, pre none _ (f1 hf) (run_setObj_map _ hh), Step.write c.hok hg (by simp) hι hsb ⟨bk, _, hι, hnew, hr⟩, rfl⟩
      | some jv =>
        obtain ⟨j, vv⟩ := jv
        simp [hf] at he
        obtain ⟨rfl, rfl, rfl⟩ := he
        obtain ⟨_, mm, hmm, hrv, hfn, hkey, hsame⟩ := f2 j vv hf
        have hmm' : es'[j]? = some mm := by simpa using hmm
        have hj : j < es'.size := (Array.getElem?_eq_some_iff.1 hmm').1
        obtain ⟨hsb, hnew⟩ := sameBut_putObj (ob' := .map (es'.eraseIdxIfInBounds j) cl) hh
        refine ⟨_, pre (some (j, mm.val)) _ hfn (run_setObj_map _ hh), Step.write c.hok hg (by simp) hι hsb ⟨bk, _, hι, hnew, ?_⟩, rfl⟩
        have : (es'.eraseIdxIfInBounds j).toList = es'.toList.eraseIdx j := by
          simp [Array.eraseIdxIfInBounds, hj]
        rw [this]
        exact ERel_dropAt es _ j hr
theorem leftOf_cons (seen : List Nat) (e : V × V × Nat) (es : List (V × V × Nat)) : leftOf seen (e :: es) = (match notSeen seen e.2.2 with | true => e :: leftOf seen es | false => leftOf seen es) := rfl
theorem notSeen_eq : ∀ (seen : List Nat) (b : Nat), notSeen seen b = !(seen.contains b)
  | [], b => rfl
  | s :: t, b => by
    show (match Nat.beq s b with | true => false | false => notSeen t b) = _
    rw [notSeen_eq t b, List.contains_cons]
    have : Nat.beq s b = (b == s) := by rw [Bool.eq_iff_iff]; simp only [Nat.beq_eq, beq_iff_eq]; exact eq_comm
    rw [this]
    cases (b == s) <;> simp
theorem leftOf_ok (seen : List Nat) : ∀ (es : List (V × V × Nat)) (ms : List MapEntry), ERel ι es ms → ERel ι (leftOf seen es) (ms.filter fun e => !(seen.contains e.born))
  | [], ms, h => by
    have h' : ms = [] := h
    subst h'; exact rfl
  | e :: es, ms, h => by
    obtain ⟨m0, t, rfl, hk, hv, hb, ht⟩ := h
    rw [leftOf_cons, notSeen_eq, List.filter_cons, ← hb]
    have ih := leftOf_ok seen es t ht
    cases seen.contains m0.born with
    | true => simp only [Bool.not_true, Bool.false_eq_true, if_false]; exact ih
    | false => simp only [Bool.not_false, if_true]; exact ⟨m0, _, rfl, hk, hv, hb, ih⟩
theorem anyBefore_ok (last : Nat) : ∀ (es : List (V × V × Nat)) (ms : List MapEntry), ERel ι es ms → anyBefore last es = !(ms.all fun e => decide (e.born ≥ last))
  | [], ms, h => by
    have h' : ms = [] := h
    subst h'; rfl
  | e :: es, ms, h => by
    obtain ⟨m0, t, rfl, hk, hv, hb, ht⟩ := h
    show (match Nat.blt e.2.2 last with | true => true | false => anyBefore last es) = _
    rw [anyBefore_ok last es t ht, List.all_cons, ← hb]
    have : Nat.blt m0.born last = !(decide (m0.born ≥ last)) := by rw [Bool.eq_iff_iff]; simp [Nat.blt_eq]
    rw [this]
    cases decide (m0.born ≥ last) <;> simp
theorem ok_range (c : Cxt P Γ ι H w ρ L R r) {t : TypeId} {x : Operand} (ho : o.op = .range t x) (he : evI (opI P r (.range t x)) cal Γ L R H n = .ok v H' n') (hfr : Fr ι H H') :
    OpOK P ρ o w (Post P ι H w H' v) := by
  unfold opI at he
  cases hu : P.underlying t with
  | none => simp [hu] at he; cases he
  | some dd =>
    cases dd <;> simp only [hu] at he <;> try (cases he; done)
    have he' : evRange (r x) cal Γ L R H n = .ok v H' n' := he
    unfold evRange at he'
    have hx := c.hs x
    have fin : ∀ (ob : O) (it : Obj), ob ≠ .dead → fresh H n ob (.ptr n 0) = .ok v H' n' → (∀ hι : ι n = none, ob.ok P (upd ι n (w.heap.size, 0) 0) (w.alloc it) n) →
        (Instr.range t (ρ x)).run P w = .ok (.pointer (some ⟨w.heap.size, 0, none⟩)) (w.alloc it) → OpOK P ρ o w (Post P ι H w H' v) := by
      intro ob it hd hf hok hrun
      unfold fresh at hf
      cases hn : H.get n with
      | some q => simp [hn] at hf
      | none =>
        simp [hn] at hf
        obtain ⟨rfl, rfl, rfl⟩ := hf
        have hι : ι n = none := hfr n hn (by rw [Tr.get_set_same]; simp)
        refine OpOK.value (w' := w.alloc it) (by unfold execOp; rw [ho]; exact run_v hrun) ⟨_, ?_, Step.alloc it c.hok hn hι hd rfl rfl rfl rfl (hok hι)⟩
        simp only [V.rel]
        exact ⟨_, _, upd_same _ _ _ _, rfl⟩
    cases hbx : src L R (r x) <;> simp only [hbx] at he' <;> try (cases he'; done)
    case nilmp =>
      rw [hbx] at hx; simp only [V.rel] at hx
      refine fin _ (.mapIter none 0 #[] 0) (by simp) he' (fun hι => ⟨_, _, _, upd_same _ _ _ _, by show (w.heap.push _)[_]? = _; simp, rfl, rfl⟩) ?_
      unfold Instr.range
      rw [run_ok_bind (run_underlying hu w), hx]
      simp only []
      rw [run_ok_bind (run_ofPure _), run_ok_bind (run_newObj_alloc P w _)]; rfl
    case mp p =>
      cases hg : H.get p with
      | none => simp [hg] at he'
      | some ob =>
        cases ob <;> simp only [hg] at he' <;> try (cases he'; done)
        rename_i es cl
        obtain ⟨bk, es', hι0, hh, hr⟩ := map_of c.hok hg
        rw [hbx] at hx; simp only [V.rel] at hx
        obtain ⟨b2, hι2, hme⟩ := hx
        rw [hι0] at hι2; cases hι2
        refine fin _ (.mapIter (some bk) cl #[] cl) (by simp) he' (fun hι => ⟨_, _, _, upd_same _ _ _ _, by show (w.heap.push _)[_]? = _; simp, rfl, bk, (upd_le_new hι c.hok).name _ _ hι0, rfl⟩) ?_
        unfold Instr.range
        rw [run_ok_bind (run_underlying hu w), hme]
        simp only []
        rw [run_ok_bind (run_getObj_map hh)]
        simp only []
        rw [run_ok_bind (run_ofPure _), run_ok_bind (run_newObj_alloc P w _)]; rfl
end
end
end Go.Ev
