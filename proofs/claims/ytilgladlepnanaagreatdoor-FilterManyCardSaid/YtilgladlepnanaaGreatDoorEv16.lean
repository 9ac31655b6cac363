/-
  A verified evaluator, part 16: steps of a range over a map; lengths; aggregates; least and greatest.
-/
import Derived.Test.YtilgladlepnanaaGreatDoorEv15
namespace Go.Ev
noncomputable section
open Go

section
variable {P : Program} {Γ : Glo} {ι : Emb} {H H' : Heap} {w : World} {ρ : Operand → Value} {L : List V} {R : Regs} {r : Operand → Src} {cal : Cal} {n n' : Pth} {v : V} {o : Oper}

theorem run_choose_forced {q : Question} (h : q.forced = true) : (choose q).run P w = .ok 0 w := by simp [choose, Sem.run, h]
theorem run_getObj_iter {b : Nat} {m : Option Nat} {a : Nat} {s : Array Nat} {l : Nat} (h : w.heap[b]? = some (.mapIter m a s l)) : (getObj b).run P w = .ok (.mapIter m a s l) w := by simp [getObj, Sem.run, h]
theorem run_setObj_iter {b : Nat} {m : Option Nat} {a : Nat} {s : Array Nat} {l : Nat} (ob : Obj) (h : w.heap[b]? = some (.mapIter m a s l)) : (setObj b ob).run P w = .ok () (w.putObj b ob) := by simp [setObj, Sem.run, h, World.putObj]
theorem next_eq (a : Addr) (sp : Option Nat) (bk : Nat) (ty : TypeId) (ha : a = ⟨bk, 0, sp⟩) : Instr.next (.pointer (some a)) false ty = (do
    match ← getObj bk, false with
    | .stringIter s pos, true =>
      if pos < s.size then
        let (c, width) := Utf8.decode s pos
        setObj bk (.stringIter s (pos + width))
        pure (.tuple #[.bool true, goInt pos, .int .i32 c])
      else pure (.tuple #[.bool false])
    | .mapIter none _ _ _, false => pure (.tuple #[.bool false])
    | .mapIter (some m) since seen last, false =>
      let .map es clock ← getObj m | stuck "Next: map expected"
      if !seen.isEmpty && !es.isEmpty && es.all (·.born ≥ last) then
        unsupported (.noEntry "instr/Next: every entry that the ranged map held at the last iteration is gone, and it holds new ones")
      let left := es.filter fun e => !seen.contains e.born
      let old := left.filter (·.born < since)
      let new := left.filter (·.born ≥ since)
      let candidates := (if old.isEmpty then #[none] else #[]) ++ (old ++ new).map some
      match candidates[← choose (.mapNext candidates.size)]? with
      | some (some e) =>
        setObj bk (.mapIter (some m) since (seen.push e.born) clock)
        pure (.tuple #[.bool true, e.key, e.val])
      | some none => pure (.tuple #[.bool false])
      | none => stuck "Next: no such candidate"
    | _, _ => stuck "Next: iterator of the other kind") := by subst ha; rfl
theorem ok_next (c : Cxt P Γ ι H w ρ L R r) {it : Operand} (ho : o.op = .next it false) (he : evI (.next (r it)) cal Γ L R H n = .ok v H' n') : OpOK P ρ o w (Post P ι H w H' v) := by
  have he' : evNext (r it) cal Γ L R H n = .ok v H' n' := he
  unfold evNext at he'
  have hx := c.hs it
  cases hb : src L R (r it) <;> simp only [hb] at he' <;> try (cases he'; done)
  rename_i q off
  cases off with
  | succ k => simp at he'
  | zero =>
  simp only [] at he'
  rw [hb] at hx; simp only [V.rel] at hx
  cases hg : H.get q with
  | none => simp [hg] at he'
  | some ob =>
    cases ob <;> simp only [hg] at he' <;> try (cases he'; done)
    rename_i m since seen last
    obtain ⟨bk, m', seen', hι, hh, hseen, hm⟩ := c.hok.obj q _ hg
    obtain ⟨b2, s2, hι2, hxe⟩ := hx
    rw [hι] at hι2; cases hι2
    have hexec : ∀ {y w'}, (Instr.next (ρ it) false o.type).run P w = .ok y w' → (execOp ρ o).run P w = .ok (.value y) w' := fun h => by unfold execOp; rw [ho]; exact run_v h
    have hne := next_eq (⟨bk, 0 + 0, none⟩ : Addr) none bk o.type rfl
    cases m with
    | none =>
      simp at he'
      obtain ⟨rfl, rfl, rfl⟩ := he'
      simp only at hm; subst hm
      refine OpOK.value (hexec (y := .tuple #[.bool false]) (w' := w) ?_) (Post.pure c.hok ?_)
      · rw [hxe, hne, run_ok_bind (run_getObj_iter hh)]; rfl
      · simp only [V.rel]; exact ⟨_, rfl, rels_one (by simp [V.rel])⟩
    | some p =>
      obtain ⟨bm, hbm, rfl⟩ := hm
      simp only [] at he'
      cases hgp : H.get p with
      | none => simp [hgp] at he'
      | some obp =>
        cases obp <;> simp only [hgp] at he' <;> try (cases he'; done)
        rename_i es cl
        obtain ⟨bk2, es', hιp, hhp, hr⟩ := map_of c.hok hgp
        rw [hbm] at hιp; cases hιp
        -- not the case that the model leaves open
        have hopen : ((!seen'.isEmpty && !es'.isEmpty && es'.all (fun e => decide (e.born ≥ last))) = false) ∧
            stepOf H n q p since seen cl (leftOf seen es) = .ok v H' n' := by
          have hab := anyBefore_ok (ι := ι) last es es'.toList hr
          have hall : es'.all (fun e => decide (e.born ≥ last)) = es'.toList.all fun e => decide (e.born ≥ last) := by simp
          have hse : seen'.isEmpty = seen.isEmpty := by rw [← hseen]; cases seen' with | mk l => cases l <;> rfl
          have hee : es'.isEmpty = es.isEmpty := by
            have := ERel_length hr
            cases es' with
            | mk l => cases l <;> cases es <;> simp at this <;> rfl
          rw [hall, hse, hee]
          cases seen with
          | nil => exact ⟨rfl, by cases es <;> exact he'⟩
          | cons s0 st =>
            cases es with
            | nil => exact ⟨by cases seen' <;> rfl, he'⟩
            | cons e0 et =>
              cases hq : anyBefore last (e0 :: et) with
              | false => simp [hq] at he'
              | true =>
                simp only [hq] at he'
                rw [hq] at hab
                refine ⟨?_, he'⟩
                have : (es'.toList.all fun e => decide (e.born ≥ last)) = false := by
                  cases hx : (es'.toList.all fun e => decide (e.born ≥ last)) with
                  | false => rfl
                  | true => rw [hx] at hab; cases hab
                rw [this]; rfl
        obtain ⟨hopen1, he2⟩ := hopen
        have hleft := leftOf_ok (ι := ι) seen es es'.toList hr
        have hfl : (es'.filter fun e => !(seen'.contains e.born)).toList = es'.toList.filter fun e => !(seen.contains e.born) := by
          rw [Array.toList_filter, ← hseen]; congr 1; funext e; simp
        rw [← hfl] at hleft
        generalize hlf : (es'.filter fun e => !(seen'.contains e.born)) = left at hleft
        cases hlo : leftOf seen es with
        | nil =>
          rw [hlo] at he2 hleft
          simp [stepOf] at he2
          obtain ⟨rfl, rfl, rfl⟩ := he2
          have hl0 : left = #[] := by
            have : left.toList = [] := hleft
            exact Array.toList_eq_nil_iff.1 this
          refine OpOK.value (hexec (y := .tuple #[.bool false]) (w' := w) ?_) (Post.pure c.hok ?_)
          · rw [hxe, hne, run_ok_bind (run_getObj_iter hh)]
            simp only []
            rw [run_ok_bind (run_getObj_map hhp)]
            have hfe : ∀ f : MapEntry → Bool, (#[] : Array MapEntry).filter f = #[] := fun f => by simp
            have hc1 : ((if (#[] : Array MapEntry).isEmpty = true then #[none] else #[]) ++ ((#[] : Array MapEntry) ++ #[]).map some) = #[none] := by simp
            simp only [hopen1, Bool.false_eq_true, if_false, hlf, hl0, hfe, hc1]
            have hc0 : (choose (.mapNext 1)).run P w = .ok 0 w := run_choose_forced rfl
            exact (run_ok_bind hc0).trans rfl
          · simp only [V.rel]; exact ⟨_, rfl, rels_one (by simp [V.rel])⟩
        | cons e1 et =>
          cases et with
          | cons e2 et => rw [hlo] at he2; simp [stepOf] at he2
          | nil =>
            rw [hlo] at he2 hleft
            obtain ⟨k1, v1, b1⟩ := e1
            simp only [stepOf] at he2
            cases hbs : Nat.blt b1 since with
            | false => simp [hbs] at he2
            | true =>
              simp [hbs] at he2
              obtain ⟨rfl, rfl, rfl⟩ := he2
              obtain ⟨m0, t0, hl1, hk, hv, hbn, ht⟩ := hleft
              have ht' : t0 = [] := ht
              subst ht'
              simp only at hbn hk hv
              have hl1' : left = #[m0] := Array.toList_inj.1 hl1
              have hlt := blt_lt hbs
              obtain ⟨hsb, hnew⟩ := sameBut_putObj (ob' := .mapIter (some bm) since (seen'.push m0.born) cl) hh
              refine OpOK.value (hexec (y := .tuple #[.bool true, m0.key, m0.val]) (w' := w.putObj bk (.mapIter (some bm) since (seen'.push m0.born) cl)) ?_) ⟨ι, ?_, Step.write c.hok hg (by simp) hι hsb ⟨bk, _, _, hι, hnew, ?_, bm, hbm, rfl⟩⟩
              · rw [hxe, hne, run_ok_bind (run_getObj_iter hh)]
                simp only []
                rw [run_ok_bind (run_getObj_map hhp)]
                simp only [hopen1, Bool.false_eq_true, if_false, hlf, hl1']
                have hf1 : (#[m0].filter fun e => decide (e.born < since)) = #[m0] := by
                  have : decide (m0.born < since) = true := by simp; omega
                  exact Array.toList_inj.1 (by simp [Array.toList_filter, List.filter_cons, this])
                have hf2 : (#[m0].filter fun e => decide (e.born ≥ since)) = #[] := by
                  have : decide (m0.born ≥ since) = false := by simp; omega
                  exact Array.toList_inj.1 (by simp [Array.toList_filter, List.filter_cons, this])
                have hc1 : ((if (#[m0] : Array MapEntry).isEmpty = true then #[none] else #[]) ++ ((#[m0] : Array MapEntry) ++ #[]).map some) = #[some m0] := by simp
                simp only [hf1, hf2, hc1]
                have hc0 : (choose (.mapNext 1)).run P w = .ok 0 w := run_choose_forced rfl
                refine (run_ok_bind hc0).trans ?_
                show (do setObj bk (.mapIter (some bm) since (seen'.push m0.born) cl); pure (.tuple #[.bool true, m0.key, m0.val]) : Sem Value).run P w = _
                rw [run_ok_bind (run_setObj_iter _ hh)]; rfl
              · simp only [V.rel]; exact ⟨_, rfl, rels_cons (by simp [V.rel]) (rels_cons hk (rels_one hv))⟩
              · rw [Array.toList_push, hseen, app_eq, hbn]
theorem ok_entry (c : Cxt P Γ ι H w ρ L R r) {it : Operand} (ho : o.op = .entry it) (he : evI (.entry (r it)) cal Γ L R H n = .ok v H' n') : OpOK P ρ o w (Post P ι H w H' v) := by
  have he' : evEntry (r it) cal Γ L R H n = .ok v H' n' := he
  unfold evEntry at he'
  have hx := c.hs it
  cases hb : src L R (r it) <;> simp only [hb] at he' <;> try (cases he'; done)
  rename_i q off
  cases off with
  | succ k => simp at he'
  | zero =>
  simp only [] at he'
  rw [hb] at hx; simp only [V.rel] at hx
  cases hg : H.get q with
  | none => simp [hg] at he'
  | some ob =>
    cases ob <;> simp only [hg] at he' <;> try (cases he'; done)
    rename_i m since seen last
    cases m with
    | none => simp at he'
    | some p =>
    obtain ⟨bk, m', seen', hι, hh, hseen, hm⟩ := c.hok.obj q _ hg
    obtain ⟨b2, s2, hι2, hxe⟩ := hx
    rw [hι] at hι2; cases hι2
    obtain ⟨bm, hbm, rfl⟩ := hm
    simp only [] at he'
    cases hgp : H.get p with
    | none => simp [hgp] at he'
    | some obp =>
      cases hla : lastOf seen with
      | none => cases obp <;> simp [hgp, hla] at he'
      | some bs =>
        cases obp <;> simp only [hgp, hla] at he' <;> try (cases he'; done)
        rename_i es cl
        cases hcl : Nat.beq cl last with
        | false => simp [hcl] at he'
        | true =>
          have := beq_eq hcl; subst this
          simp only [hcl] at he'
          cases hfb : findBorn bs es with
          | none => simp [hfb] at he'
          | some e1 =>
            obtain ⟨k1, v1, b1⟩ := e1
            simp [hfb] at he'
            obtain ⟨rfl, rfl, rfl⟩ := he'
            obtain ⟨bk2, es', hιp, hhp, hr⟩ := map_of c.hok hgp
            rw [hbm] at hιp; cases hιp
            have hlast : ∀ l : List Nat, lastOf l = l.getLast? := fun l => by
              induction l with
              | nil => rfl
              | cons x t ih =>
                show (match lastOf t with | some y => some y | none => some x) = _
                rw [ih]
                cases t with
                | nil => rfl
                | cons y t =>
                  rw [List.getLast?_cons_cons]
                  cases h : (y :: t).getLast? with
                  | none => simp at h
                  | some z => rfl
            have hback : seen'.back? = some bs := by
              rw [hlast] at hla
              rw [← Array.getLast?_toList, hseen]; exact hla
            have hfind : ∀ (es : List (V × V × Nat)) (ms : List MapEntry), ERel ι es ms → findBorn bs es = some (k1, v1, b1) → ∃ m0, ms.find? (·.born == bs) = some m0 ∧ V.rel ι k1 m0.key ∧ V.rel ι v1 m0.val := by
              intro es
              induction es with
              | nil => intro ms _ h; simp [findBorn] at h
              | cons e t ih =>
                intro ms h hf
                obtain ⟨m0, t', rfl, hk, hv, hbn, ht⟩ := h
                have hf' : (match Nat.beq e.2.2 bs with | true => some e | false => findBorn bs t) = some (k1, v1, b1) := hf
                rw [List.find?_cons]
                have hq : (m0.born == bs) = Nat.beq e.2.2 bs := by rw [← hbn, Bool.eq_iff_iff]; simp
                rw [hq]
                cases hc : Nat.beq e.2.2 bs with
                | true =>
                  simp [hc] at hf'
                  subst hf'
                  exact ⟨m0, rfl, hk, hv⟩
                | false =>
                  simp only [hc] at hf'
                  exact ih t' ht hf'
            obtain ⟨m0, hm0, hk0, hv0⟩ := hfind es es'.toList hr hfb
            refine OpOK.same c (s := Instr.entry (ρ it)) (x := .tuple #[m0.key, m0.val]) (by unfold execOp; rw [ho]) ?_ (by simp only [V.rel]; exact ⟨_, rfl, rels_cons hk0 (rels_one hv0)⟩)
            rw [hxe]
            show (do
              let .mapIter (some m) _ seen stepped ← getObj bk | stuck "Entry: an iterator over a map that is not nil expected"
              let some stamp := seen.back? | stuck "Entry: no step yet"
              let .map es clock ← getObj m | stuck "Entry: map expected"
              if clock != stepped then unsupported (.noEntry "instr/Entry: an insertion since the step")
              match es.find? (·.born == stamp) with
              | some e => pure (.tuple #[e.key, e.val])
              | none => unsupported (.noEntry "instr/Entry.removed") : Sem Value).run P w = _
            rw [run_ok_bind (run_getObj_iter hh)]
            simp only [hback]
            rw [run_ok_bind (run_getObj_map hhp)]
            simp only [bne_self_eq_false, Bool.false_eq_true, if_false]
            have : es'.find? (·.born == bs) = some m0 := by rw [← Array.find?_toList]; exact hm0
            rw [this]; rfl
end
end
end Go.Ev
