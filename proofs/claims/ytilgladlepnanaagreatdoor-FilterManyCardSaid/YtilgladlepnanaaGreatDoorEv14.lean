/-
  A verified evaluator, part 14: maps.
-/
import Derived.Test.YtilgladlepnanaaGreatDoorEv13
namespace Go.Ev
noncomputable section
open Go

section
variable {P : Program} {Γ : Glo} {ι : Emb} {H H' : Heap} {w : World} {ρ : Operand → Value} {L : List V} {R : Regs} {r : Operand → Src} {cal : Cal} {n n' : Pth} {v : V} {o : Oper}

theorem findKey_cons (e : EK) (k : V) (x : V × V × Nat) (es : List (V × V × Nat)) (i : Nat) : findKey e k (x :: es) i = (match eqOf e k x.1 with
      | some true => some (some (i, x.2.1))
      | some false => findKey e k es (Nat.succ i)
      | none => none) := rfl
theorem findKey_nil (e : EK) (k : V) (i : Nat) : findKey e k [] i = some none := rfl
/-- the kinds of keys: numbers, strings, truth values -/
theorem keyOf_base {t : TypeId} {e : EK} (h : keyOf P t = some e) : ∃ b d, e = .base b ∧ baseT P t = some b ∧ P.underlying t = some d ∧
    ((b = .int ∧ ∃ k, d = .int k) ∨ (b = .str ∧ d = .string) ∨ (b = .bool ∧ d = .bool)) := by
  unfold keyOf at h
  cases hb : baseT P t with
  | none => simp [hb] at h
  | some b =>
    simp [hb] at h
    subst h
    unfold baseT at hb
    cases hu : P.underlying t with
    | none => simp [hu] at hb
    | some d =>
      cases d <;> simp [hu] at hb <;> subst hb
      · exact ⟨.bool, _, rfl, rfl, rfl, by simp⟩
      · exact ⟨.int, _, rfl, rfl, rfl, by simp⟩
      · exact ⟨.str, _, rfl, rfl, rfl, by simp⟩
theorem sameNow_ok {b : BK} {d : TypeDesc} {u u' : V} {x y : Value} {c : Bool} (hb : (b = .int ∧ ∃ k, d = .int k) ∨ (b = .str ∧ d = .string) ∨ (b = .bool ∧ d = .bool))
    (h : baseEq b u u' = some c) (hx : V.rel ι u x) (hy : V.rel ι u' y) : Instr.sameNow d x y = some c ∧ (c = true → x = y ∧ Instr.sameBits 10000 y x = true) := by
  rcases hb with ⟨rfl, k0, rfl⟩ | ⟨rfl, rfl⟩ | ⟨rfl, rfl⟩
  · have h' : intEq u u' = some c := h
    obtain ⟨k, a, b, rfl, rfl, h⟩ := intEq_ok h' hx hy
    refine ⟨by simp [Instr.sameNow, h], fun hc => ?_⟩
    subst hc
    have : a = b := by simpa using h
    subst this
    exact ⟨rfl, by simp [Instr.sameBits]⟩
  · cases u <;> simp [baseEq] at h
    cases u' <;> simp at h
    simp only [V.rel] at hx hy
    obtain ⟨p, rfl, rfl⟩ := hx
    obtain ⟨q, rfl, rfl⟩ := hy
    rw [natsEq_map] at h
    have e1 : (p == q) = c := by rw [bytes_beq]; exact h
    refine ⟨by simp only [Instr.sameNow]; rw [e1], fun hc => ?_⟩
    subst hc
    have : p = q := by
      have : p.data.toList = q.data.toList := by simpa using h
      exact WideShapes.bytes_inj this
    subst this
    refine ⟨rfl, ?_⟩
    simp only [Instr.sameBits]
    exact e1
  · cases u <;> simp [baseEq] at h
    cases u' <;> simp at h
    rename_i a b
    simp only [V.rel] at hx hy
    subst hx; subst hy
    have e1 : (a == b) = c := by cases a <;> cases b <;> simpa using h
    refine ⟨by simp only [Instr.sameNow]; rw [e1], fun hc => ?_⟩
    subst hc
    have : a = b := by simpa using e1
    subst this
    exact ⟨rfl, by simp [Instr.sameBits]⟩
theorem findNow_ok {b : BK} {d : TypeDesc} {u : V} {x : Value} (hb : (b = .int ∧ ∃ k, d = .int k) ∨ (b = .str ∧ d = .string) ∨ (b = .bool ∧ d = .bool)) (hx : V.rel ι u x) :
    ∀ (es : List (V × V × Nat)) (ms : List MapEntry) (i : Nat), ERel ι es ms →
      (findKey (.base b) u es i = some none → Instr.findNow d x ms i = some none) ∧
      (∀ j v, findKey (.base b) u es i = some (some (j, v)) → i ≤ j ∧ ∃ m, ms[j - i]? = some m ∧ V.rel ι v m.val ∧ Instr.findNow d x ms i = some (some (j, m.val)) ∧ m.key = x ∧ Instr.sameBits 10000 m.key x = true)
  | [], ms, i, h => by
    have h' : ms = [] := h
    subst h'
    rw [findKey_nil]
    exact ⟨fun _ => rfl, fun j v hj => by simp at hj⟩
  | e :: es, ms, i, h => by
    obtain ⟨m, t, rfl, hk, hv, hbn, ht⟩ := h
    obtain ⟨ih1, ih2⟩ := findNow_ok hb hx es t (Nat.succ i) ht
    rw [findKey_cons]
    show (_ → _) ∧ _
    cases hq : baseEq b u e.1 with
    | none => simp [eqOf, hq]
    | some c =>
      obtain ⟨hs, hsame⟩ := sameNow_ok hb hq hx hk
      cases c with
      | true =>
        obtain ⟨e1, e2⟩ := hsame rfl
        simp only [eqOf, hq]
        refine ⟨fun hn => by simp at hn, fun j v hj => ?_⟩
        simp at hj
        obtain ⟨rfl, rfl⟩ := hj
        refine ⟨Nat.le_refl _, m, by simp, hv, ?_, e1.symm, e2⟩
        unfold Instr.findNow
        rw [hs]
      | false =>
        simp only [eqOf, hq]
        refine ⟨fun hn => ?_, fun j v hj => ?_⟩
        · unfold Instr.findNow
          rw [hs]
          exact ih1 hn
        · obtain ⟨hle, m', hm', hv', hf, hk1, hk2⟩ := ih2 j v hj
          refine ⟨by omega, m', ?_, hv', ?_, hk1, hk2⟩
          · have : j - i = (j - Nat.succ i) + 1 := by omega
            rw [this]; simpa using hm'
          · unfold Instr.findNow
            rw [hs]
            exact hf
/-- a number that is surely among the keys -/
theorem allInt_cons (k : IntKind) (e : V × V × Nat) (es : List (V × V × Nat)) : allInt k (e :: es) = (match e.1 with
    | .int j _ => (match keq k j with | true => allInt k es | false => false)
    | _ => false) := rfl
theorem hasInt_cons (k : IntKind) (c : Int) (e : V × V × Nat) (es : List (V × V × Nat)) : hasInt k c (e :: es) = (match e.1 with
    | .int j a => (match keq k j, ieq a c with | true, true => true | _, _ => hasInt k c es)
    | _ => hasInt k c es) := rfl
theorem hasAll_succ (k : IntKind) (st : Nat) (es : List (V × V × Nat)) (m : Nat) (c : Int) : hasAll k st es (m + 1) c = (match hasInt k c es with | true => hasAll k st es m (c + st) | false => false) := rfl
theorem hasAll_ok {k : IntKind} {st : Nat} {es : List (V × V × Nat)} : ∀ (m : Nat) (c : Int), hasAll k st es m c = true → ∀ j : Nat, j < m → hasInt k (c + (j : Int) * (st : Int)) es = true
  | 0, _, _, j, hj => absurd hj (Nat.not_lt_zero _)
  | m + 1, c, h, j, hj => by
    rw [hasAll_succ] at h
    cases hi : hasInt k c es with
    | false => simp [hi] at h
    | true =>
      simp only [hi] at h
      cases j with
      | zero => simpa using hi
      | succ j =>
        have := hasAll_ok m (c + st) h j (by omega)
        have e : c + (st : Int) + (j : Int) * (st : Int) = c + ((j + 1 : Nat) : Int) * (st : Int) := by
          rw [Int.natCast_add, Int.add_mul]; simp; omega
        rw [e] at this; exact this
theorem findNow_has {k k0 : IntKind} {c : Int} : ∀ (es : List (V × V × Nat)) (ms : List MapEntry) (i : Nat), ERel ι es ms → allInt k es = true → hasInt k c es = true →
    ∃ j y, Instr.findNow (.int k0) (.int k c) ms i = some (some (j, y))
  | [], ms, i, _, _, h => by cases h
  | e :: es, ms, i, h, ha, hh => by
    obtain ⟨m, t, rfl, hk, hv, hbn, ht⟩ := h
    rw [allInt_cons] at ha
    rw [hasInt_cons] at hh
    cases he : e.1 <;> simp only [he] at ha <;> try (cases ha; done)
    rename_i j a
    simp only [he] at hh
    rw [he] at hk
    simp only [V.rel] at hk
    cases hkj : keq k j with
    | false => simp [hkj] at ha
    | true =>
      simp only [hkj] at ha hh
      have := (keq_iff k j).1 hkj
      subst this
      unfold Instr.findNow
      rw [hk]
      simp only [Instr.sameNow, if_true]
      by_cases e1 : c = a
      · subst e1; simp
      · have e2 : (c == a) = false := by simpa using e1
        have e3 : ieq a c = false := by rw [ieq_eq]; simpa using fun e => e1 e.symm
        rw [e2]
        simp only [e3] at hh
        exact findNow_has es t (i + 1) ht ha hh
theorem coversInt_ok {u : V} {x : Value} {es : List (V × V × Nat)} (h : coversInt u es = true) (hx : V.rel ι u x) : ∃ k c, x = .int k c ∧ allInt k es = true ∧ hasInt k c es = true := by
  cases u <;> simp only [coversInt] at h <;> try (cases h; done)
  case sym i k lo hi =>
    simp only [V.rel] at hx
    obtain ⟨rfl, h1, h2⟩ := hx
    cases hd : natOf (hi - lo) with
    | none => simp [hd] at h
    | some d =>
      cases ha : allInt k es with
      | false => simp [hd, ha] at h
      | true =>
        cases hb : Nat.ble d 4096 with
        | false => simp [hd, ha, hb] at h
        | true =>
          simp only [hd, ha, hb] at h
          have e1 := natOf_some hd
          refine ⟨k, _, rfl, ha, ?_⟩
          have := hasAll_ok _ _ h (ι.sym i - lo).toNat (by omega)
          have e2 : lo + (((ι.sym i - lo).toNat : Nat) : Int) * ((1 : Nat) : Int) = ι.sym i := by omega
          rw [e2] at this; exact this
  case iv k lo hi st =>
    simp only [V.rel] at hx
    obtain ⟨j, rfl, h1⟩ := hx
    cases hd : natOf (hi - lo) with
    | none => simp [hd] at h
    | some d =>
      cases ha : allInt k es with
      | false => simp [hd, ha] at h
      | true =>
        cases hs : Nat.blt 0 st with
        | false => simp [hd, ha, hs] at h
        | true =>
          cases hb : Nat.ble d 4096 with
          | false => simp [hd, ha, hs, hb] at h
          | true =>
            simp only [hd, ha, hs, hb] at h
            have e1 := natOf_some hd
            have hst := blt_lt hs
            refine ⟨k, _, rfl, ha, hasAll_ok _ _ h j ?_⟩
            have e2 : ((j * st : Nat) : Int) ≤ (d : Int) := by rw [Int.natCast_mul]; omega
            have e3 : j * st ≤ d := by exact_mod_cast e2
            have : j ≤ d / st := (Nat.le_div_iff_mul_le hst).2 e3
            show j < Nat.succ (Nat.div d st)
            have e4 : Nat.div d st = d / st := rfl
            omega
theorem run_findKey {t : TypeId} {d : TypeDesc} {x : Value} {ms : List MapEntry} {res : Option (Nat × Value)} (hd : P.underlying t = some d) (h : Instr.findNow d x ms 0 = some res) :
    (Instr.findKey t x ms).run P w = .ok res w := by
  unfold Instr.findKey
  rw [run_ok_bind (run_underlying hd w), h]; rfl
theorem run_checkKey {t : TypeId} {d : TypeDesc} {b : BK} {x : Value} {em : Bool} (hd : P.underlying t = some d) (hb : (b = .int ∧ ∃ k, d = .int k) ∨ (b = .str ∧ d = .string) ∨ (b = .bool ∧ d = .bool)) :
    (Instr.checkKey em 10000 t x).run P w = .ok () w := by
  unfold Instr.checkKey
  rw [run_ok_bind (run_underlying hd w)]
  rcases hb with ⟨_, k, rfl⟩ | ⟨_, rfl⟩ | ⟨_, rfl⟩ <;> rfl
theorem run_getObj_map {b : Nat} {es : Array MapEntry} {cl : Nat} (h : w.heap[b]? = some (.map es cl)) : (getObj b).run P w = .ok (.map es cl) w := by simp [getObj, Sem.run, h]
theorem run_setObj_map {b : Nat} {es : Array MapEntry} {cl : Nat} (ob : Obj) (h : w.heap[b]? = some (.map es cl)) : (setObj b ob).run P w = .ok () (w.putObj b ob) := by simp [setObj, Sem.run, h, World.putObj]
theorem sameBut_putObj {b : Nat} {ob ob' : Obj} (h : w.heap[b]? = some ob) : SameBut b w (w.putObj b ob') ∧ (w.putObj b ob').heap[b]? = some ob' := by
  have hlt := (Array.getElem?_eq_some_iff.1 h).1
  exact ⟨⟨World.putObj_size, fun b' hb => World.putObj_heap_other hb, rfl, rfl, rfl⟩, World.putObj_heap_same hlt⟩
theorem map_of (h : HOK P ι H w) {p : Pth} {es : List (V × V × Nat)} {cl : Nat} (hp : H.get p = some (.map es cl)) :
    ∃ b es', ι p = some (b, 0) ∧ w.heap[b]? = some (.map es' cl) ∧ ERel ι es es'.toList := h.obj p _ hp
theorem ok_lookup (c : Cxt P Γ ι H w ρ L R r) {t : TypeId} {m k : Operand} {ok : Bool} (ho : o.op = .lookup t m k ok) (he : evI (opI P r (.lookup t m k ok)) cal Γ L R H n = .ok v H' n') :
    OpOK P ρ o w (Post P ι H w H' v) := by
  unfold opI at he
  cases hu : P.underlying t with
  | none => simp [hu] at he; cases he
  | some dd =>
    cases dd <;> simp only [hu] at he <;> try (cases he; done)
    rename_i kt et
    cases hk : keyOf P kt with
    | none => simp [hk] at he; cases he
    | some e =>
      cases hz : zeroT P et with
      | none => simp [hk, hz] at he; cases he
      | some z =>
        have he' : evLookup e (ofV 4 z) (r m) (r k) ok cal Γ L R H n = .ok v H' n' := by simp only [hk, hz] at he; exact he
        unfold evLookup at he'
        obtain ⟨b, d, rfl, hbt, hd, hb⟩ := keyOf_base hk
        have hm := c.hs m
        have hkk := c.hs k
        cases hes : mapAt H (src L R (r m)) with
        | none => simp [hes] at he'
        | some es =>
          simp only [hes] at he'
          -- the entries
          have hent : ∃ ms : Array MapEntry, ERel ι es ms.toList ∧ ((ρ m = .map none ∧ ms = #[]) ∨ ∃ bk cl, ρ m = .map (some bk) ∧ w.heap[bk]? = some (.map ms cl)) := by
            unfold mapAt at hes
            cases hbm : src L R (r m) <;> simp [hbm] at hes
            · subst hes
              rw [hbm] at hm; simp only [V.rel] at hm
              exact ⟨#[], rfl, .inl ⟨hm, rfl⟩⟩
            · rename_i p
              cases hg : H.get p with
              | none => simp [hg] at hes
              | some ob =>
                cases ob <;> simp [hg] at hes
                subst hes
                obtain ⟨bk, es', hι, hh, hr⟩ := map_of c.hok hg
                rw [hbm] at hm; simp only [V.rel] at hm
                obtain ⟨b2, hι2, hme⟩ := hm
                rw [hι] at hι2; cases hι2
                exact ⟨es', hr, .inr ⟨bk, _, hme, hh⟩⟩
          obtain ⟨ms, hr, hrun⟩ := hent
          obtain ⟨f1, f2⟩ := findNow_ok hb hkk es ms.toList 0 hr
          have fin : ∀ (u : V) (y : Value) (bb : Bool) (res : Option (Nat × Value)), V.rel ι u y → Instr.findNow d (ρ k) ms.toList 0 = some res →
              ((res = none ∧ y = z ∧ bb = false) ∨ ∃ j, res = some (j, y) ∧ bb = true) →
              (ok = true → V.tup [u, .bool bb] = v) → (ok = false → u = v) → H = H' → OpOK P ρ o w (Post P ι H w H' v) := by
            intro u y bb res hru hf hres hv1 hv2 hH
            subst hH
            refine OpOK.same c (s := Instr.lookup t (ρ m) (ρ k) ok) (x := if ok then .tuple #[y, .bool bb] else y) (by unfold execOp; rw [ho]) ?_ ?_
            · unfold Instr.lookup
              rw [run_ok_bind (run_underlying hu w)]
              simp only []
              have rest : ∀ em, (do
                  Instr.checkKey em 10000 kt (ρ k)
                  let (v, ok') ← match ← Instr.findKey kt (ρ k) ms.toList with
                    | some (_, v) => pure (v, true)
                    | none => pure (← zeroValue et, false)
                  pure (if ok = true then Value.tuple #[v, .bool ok'] else v) : Sem Value).run P w = .ok (if ok then .tuple #[y, .bool bb] else y) w := fun em => by
                rw [run_ok_bind (run_checkKey hd hb)]
                rw [run_ok_bind (run_findKey hd hf)]
                rcases hres with ⟨rfl, rfl, rfl⟩ | ⟨j, rfl, rfl⟩
                · simp only []
                  rw [run_ok_bind (run_zeroValue hz)]; rfl
                · rfl
              rcases hrun with ⟨e1, rfl⟩ | ⟨bk, cl, e1, hh⟩
              · rw [e1]
                simp only []
                rw [run_ok_bind (run_ofPure _)]
                exact rest _
              · rw [e1]
                simp only []
                rw [run_ok_bind (run_getObj_map hh)]
                exact rest _
            · cases ok with
              | true => rw [← hv1 rfl]; simp only [V.rel, if_true]; exact ⟨_, rfl, rels_cons hru (rels_one (by simp [V.rel]))⟩
              | false => rw [← hv2 rfl]; simpa using hru
          cases hf : findKey (.base b) (src L R (r k)) es 0 with
          | none =>
            simp only [hf] at he'
            cases hcv : covers (.base b) (src L R (r k)) es with
            | false => simp [hcv] at he'
            | true =>
              simp [hcv] at he'
              rcases hb with ⟨rfl, k0, rfl⟩ | ⟨rfl, rfl⟩ | ⟨rfl, rfl⟩ <;> try (cases hcv; done)
              obtain ⟨kk, cc, hxe, ha, hh⟩ := coversInt_ok (show coversInt (src L R (r k)) es = true from hcv) hkk
              obtain ⟨j, y, hfn⟩ := findNow_has (k0 := k0) es ms.toList 0 hr ha hh
              exact fin .unk y true (some (j, y)) (by simp [V.rel]) (by rw [hxe]; exact hfn) (.inr ⟨j, rfl, rfl⟩) (fun e => by subst e; exact he'.1) (fun e => by subst e; exact he'.1) he'.2.1
          | some res =>
            cases res with
            | none =>
              simp only [hf] at he'
              simp at he'
              refine fin (ofV 4 z) z false none (ofV_rel 4 z) (f1 hf) (.inl ⟨rfl, rfl, rfl⟩) (fun e => by subst e; exact he'.1) (fun e => by subst e; exact he'.1) he'.2.1
            | some jv =>
              obtain ⟨j, vv⟩ := jv
              simp only [hf] at he'
              obtain ⟨_, mm, _, hrv, hfn, _⟩ := f2 j vv hf
              simp at he'
              exact fin vv mm.val true (some (j, mm.val)) hrv hfn (.inr ⟨j, rfl, rfl⟩) (fun e => by subst e; exact he'.1) (fun e => by subst e; exact he'.1) he'.2.1
end
end
end Go.Ev
