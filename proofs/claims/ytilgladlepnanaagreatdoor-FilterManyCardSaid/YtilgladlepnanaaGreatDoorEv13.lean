/-
  A verified evaluator, part 13: comparisons, lengths, aggregates, least and greatest.
-/
import Derived.Test.YtilgladlepnanaaGreatDoorEv12
import Derived.ChangeKeysEq
namespace Go.Ev
noncomputable section
open Go

section
variable {P : Program} {Γ : Glo} {ι : Emb} {H H' : Heap} {w : World} {ρ : Operand → Value} {L : List V} {R : Regs} {r : Operand → Src} {cal : Cal} {n n' : Pth} {v : V} {o : Oper}

theorem baseT_fits {t : TypeId} {b : BK} (h : baseT P t = some b) : ∃ d, P.underlying t = some d ∧ b.fits d P ∧ aggT P t = some false := by
  unfold baseT at h
  unfold aggT
  cases hu : P.underlying t with
  | none => simp [hu] at h
  | some d =>
    cases d <;> simp [hu] at h
    · subst h; exact ⟨_, rfl, trivial, rfl⟩
    · subst h; exact ⟨_, rfl, trivial, rfl⟩
    · subst h; exact ⟨_, rfl, trivial, rfl⟩
theorem flatEq_cons (a b : List V) (p : Nat × BK) (offs : List (Nat × BK)) : flatEq a b (p :: offs) = (match nth a p.1 with
    | some x => (match nth b p.1 with
      | some y => (match baseEq p.2 x y with | some true => flatEq a b offs | some false => some false | none => none)
      | none => none)
    | none => none) := rfl
theorem part_base {t : TypeId} {b : BK} {cs : Array Value} {off : Nat} {y : Value} (h : baseT P t = some b) (hy : cs[off]? = some y) : (part t cs off).run P w = .ok y w := by
  obtain ⟨d, hu, hf, hag⟩ := baseT_fits h
  unfold part
  rw [run_ok_bind (run_isAgg hag)]
  simp only [Bool.false_eq_true, if_false, hy]; rfl
theorem eqFields_ok {a b : List V} {xs ys : Array Value} (ha : V.rels ι a xs.toList) (hb : V.rels ι b ys.toList) (d : Nat) : ∀ (fs : List Field) (offs : List (Nat × BK)) (c : Bool),
    flatOffs P fs = some offs → flatEq a b offs = some c → (Op.eqFields (d + 1) xs ys fs).run P w = .ok c w
  | [], offs, c, ho, hc => by
    simp [flatOffs] at ho; subst ho
    have hc' : some true = some c := hc
    simp at hc'; subst hc'; rfl
  | f :: fs, offs, c, ho, hc => by
    unfold flatOffs at ho
    cases hbt : baseT P f.type with
    | none => simp [hbt] at ho
    | some bk =>
      cases hn : decide (f.name = "_") with
      | true => simp [hbt, hn] at ho
      | false =>
        cases hr : flatOffs P fs with
        | none => simp [hbt, hn, hr] at ho
        | some t =>
          simp [hbt, hn, hr] at ho
          subst ho
          rw [flatEq_cons] at hc
          simp only [nth_eq] at hc
          cases hx : a[f.offset]? with
          | none => simp [hx] at hc
          | some u =>
            cases hy : b[f.offset]? with
            | none => simp [hx, hy] at hc
            | some u' =>
              simp only [hx, hy] at hc
              obtain ⟨x, hx', hrx⟩ := rels_get ha hx
              obtain ⟨y, hy', hry⟩ := rels_get hb hy
              have hx2 : xs[f.offset]? = some x := by simpa using hx'
              have hy2 : ys[f.offset]? = some y := by simpa using hy'
              obtain ⟨dd, hu, hf, _⟩ := baseT_fits hbt
              have hne : f.name ≠ "_" := by simpa using hn
              unfold Op.eqFields
              rw [if_pos hne, run_ok_bind (part_base hbt hx2), run_ok_bind (part_base hbt hy2)]
              cases he : baseEq bk u u' with
              | none => simp [he] at hc
              | some q =>
                rw [run_ok_bind (baseEq_ok he hrx hry hu hf d)]
                cases q with
                | true =>
                  simp only [he] at hc
                  simp only [Bool.not_true, Bool.false_eq_true, if_false]
                  exact eqFields_ok ha hb d fs t c hr hc
                | false =>
                  simp [he] at hc; subst hc
                  rfl
theorem eqItems_ok {a b : List V} {xs ys : Array Value} {e : TypeId} {bk : BK} (ha : V.rels ι a xs.toList) (hb : V.rels ι b ys.toList) (hbt : baseT P e = some bk) (d : Nat) : ∀ (is : List Nat) (c : Bool),
    flatEq a b (is.map fun i => (i, bk)) = some c → (Op.eqItems (d + 1) e 1 xs ys is).run P w = .ok c w
  | [], c, hc => by
    have hc' : some true = some c := hc
    simp at hc'; subst hc'; rfl
  | i :: is, c, hc => by
    rw [List.map_cons, flatEq_cons] at hc
    simp only [nth_eq] at hc
    cases hx : a[i]? with
    | none => simp [hx] at hc
    | some u =>
      cases hy : b[i]? with
      | none => simp [hx, hy] at hc
      | some u' =>
        simp only [hx, hy] at hc
        obtain ⟨x, hx', hrx⟩ := rels_get ha hx
        obtain ⟨y, hy', hry⟩ := rels_get hb hy
        have hx2 : xs[i * 1]? = some x := by simpa using hx'
        have hy2 : ys[i * 1]? = some y := by simpa using hy'
        obtain ⟨dd, hu, hf, _⟩ := baseT_fits hbt
        unfold Op.eqItems
        rw [run_ok_bind (part_base hbt hx2), run_ok_bind (part_base hbt hy2)]
        cases he : baseEq bk u u' with
        | none => simp [he] at hc
        | some q =>
          rw [run_ok_bind (baseEq_ok he hrx hry hu hf d)]
          cases q with
          | true =>
            simp only [he] at hc
            simp only [Bool.not_true, Bool.false_eq_true, if_false]
            exact eqItems_ok ha hb hbt d is c hc
          | false =>
            simp [he] at hc; subst hc
            rfl
/-- '==' on what ekOf takes in -/
theorem equal_ok {t : TypeId} {e : EK} {u u' : V} {x y : Value} {c : Bool} (hk : ekOf P t = some e) (hx : V.rel ι u x) (hy : V.rel ι u' y) (h : eqOf e u u' = some c) :
    (Op.equal t x y).run P w = .ok c w ∧ (∀ op i j, (eqGuard op t i j x y).run P w = .ok () w) ∧
      (binOp .eql t x y = (do pure (.bool (← Op.equal t x y)))) ∧ (binOp .neq t x y = (do pure (.bool (!(← Op.equal t x y))))) := by
  unfold ekOf at hk
  have base : ∀ (b : BK) (d : TypeDesc), P.underlying t = some d → b.fits d P → (b = .bool ∨ b = .ptr ∨ b = .sl ∨ b = .mp ∨ b = .fn) → baseEq b u u' = some c →
      (Op.equal t x y).run P w = .ok c w ∧ (∀ op i j, (eqGuard op t i j x y).run P w = .ok () w) ∧
      (binOp .eql t x y = (do pure (.bool (← Op.equal t x y)))) ∧ (binOp .neq t x y = (do pure (.bool (!(← Op.equal t x y))))) := by
    intro b d hd hf hb hc
    refine ⟨baseEq_ok hc hx hy hd hf 9999, ?_⟩
    have sh : (∃ a b, x = .bool a ∧ y = .bool b) ∨ (∃ a b, x = .pointer a ∧ y = .pointer b) ∨ (∃ a b c d e f, x = .slice a b c ∧ y = .slice d e f) ∨ (∃ a b, x = .map a ∧ y = .map b) ∨
        ((x = .nilFunc ∨ ∃ a b c, x = .func a b c) ∧ (y = .nilFunc ∨ ∃ a b c, y = .func a b c)) := by
      rcases hb with rfl | rfl | rfl | rfl | rfl <;> cases u <;> simp [baseEq] at hc <;> cases u' <;> simp at hc <;> simp only [V.rel] at hx hy
      case inl => exact .inl ⟨_, _, hx, hy⟩
      all_goals first
        | (subst hx; subst hy; simp; done)
        | (obtain ⟨_, _, _, rfl⟩ := hx; subst hy; simp; done)
        | (obtain ⟨_, _, _, rfl⟩ := hy; subst hx; simp; done)
        | (obtain ⟨_, _, _, rfl⟩ := hx; obtain ⟨_, _, _, rfl⟩ := hy; simp; done)
        | (obtain ⟨_, _, _, _, rfl, _⟩ := hx; subst hy; simp; done)
        | (obtain ⟨_, _, _, _, rfl, _⟩ := hy; subst hx; simp; done)
        | (obtain ⟨_, _, rfl⟩ := hx; subst hy; simp; done)
        | (obtain ⟨_, _, rfl⟩ := hy; subst hx; simp; done)
        | (obtain ⟨_, _, rfl, _⟩ := hx; subst hy; simp; done)
        | (obtain ⟨_, _, rfl, _⟩ := hy; subst hx; simp; done)
    rcases sh with ⟨a, b, rfl, rfl⟩ | ⟨a, b, rfl, rfl⟩ | ⟨_, _, _, _, _, _, rfl, rfl⟩ | ⟨_, _, rfl, rfl⟩ | ⟨hxx, hyy⟩
    · exact ⟨fun op i j => eqGuard_prim (by simp) (by simp), rfl, rfl⟩
    · exact ⟨fun op i j => eqGuard_prim (by simp) (by simp), rfl, rfl⟩
    · exact ⟨fun op i j => eqGuard_prim (by simp) (by simp), rfl, rfl⟩
    · exact ⟨fun op i j => eqGuard_prim (by simp) (by simp), rfl, rfl⟩
    · rcases hxx with rfl | ⟨_, _, _, rfl⟩ <;> rcases hyy with rfl | ⟨_, _, _, rfl⟩ <;> exact ⟨fun op i j => eqGuard_prim (by simp) (by simp), rfl, rfl⟩
  cases hu : P.underlying t with
  | none => simp [hu] at hk
  | some d =>
    cases d <;> simp [hu] at hk
    case bool => subst hk; exact base .bool _ hu trivial (by simp) h
    case pointer e' =>
      cases hs : sizeT P e' with
      | none => simp [hs] at hk
      | some m =>
        cases m with
        | zero => simp [hs] at hk
        | succ m => simp [hs] at hk; subst hk; exact base .ptr _ hu ⟨m, hs⟩ (by simp) h
    case slice => subst hk; exact base .sl _ hu trivial (by simp) h
    case map => subst hk; exact base .mp _ hu trivial (by simp) h
    case func => subst hk; exact base .fn _ hu trivial (by simp) h
    case array m el =>
      cases hb : baseT P el with
      | none => simp [hb] at hk
      | some bk =>
        cases hs : sizeT P el with
        | none => simp [hb, hs] at hk
        | some sz =>
          cases hg : P.eqGuardType P.depth t with
          | true => simp [hb, hs, hg] at hk
          | false =>
            have hsz : sz = 1 := by
              simp [hb, hs, hg] at hk
              split at hk <;> simp_all
            subst hsz
            simp [hb, hs, hg] at hk
            subst hk
            unfold eqOf at h
            cases u <;> simp at h
            cases u' <;> simp at h
            rename_i a b
            simp only [V.rel] at hx hy
            obtain ⟨xs, rfl, hxs⟩ := hx
            obtain ⟨ys, rfl, hys⟩ := hy
            obtain ⟨i, hi, hisz⟩ : ∃ i, P.info? el = some i ∧ i.size = 1 := by
              unfold sizeT at hs
              cases hi : P.info? el with
              | none => simp [hi] at hs
              | some i => simp [hi] at hs; exact ⟨i, rfl, hs⟩
            have hce : P.cellsOf el = 1 := by simp [Program.cellsOf, hi, hisz]
            refine ⟨?_, fun op i j => run_eqGuard_agg w op t i j xs ys hg, rfl, rfl⟩
            show (Op.equalIn (9999 + 1) t (.agg xs) (.agg ys)).run P w = _
            rw [run_equalIn_array w 9999 xs ys hu hi, hce]
            exact eqItems_ok hxs hys hb 9998 (List.range m) c h
    case struct fs =>
      cases hst : P.stoodInHeld t with
      | true => simp [hst] at hk
      | false =>
        cases hg : P.eqGuardType P.depth t with
        | true => simp [hst, hg] at hk
        | false =>
          simp [hst, hg] at hk
          obtain ⟨offs, hof, rfl⟩ := hk
          unfold eqOf at h
          cases u <;> simp at h
          cases u' <;> simp at h
          simp only [V.rel] at hx hy
          obtain ⟨xs, rfl, hxs⟩ := hx
          obtain ⟨ys, rfl, hys⟩ := hy
          have hfo : P.fieldsOf t = fs := by simp [Program.fieldsOf, hu]
          refine ⟨?_, fun op i j => run_eqGuard_agg w op t i j xs ys hg, rfl, rfl⟩
          show (Op.equalIn (9999 + 1) t (.agg xs) (.agg ys)).run P w = _
          rw [run_equalIn_struct w 9999 t xs ys (by rw [hfo]; exact hu) hst, hfo]
          exact eqFields_ok hxs hys 9998 fs.toList offs c hof h
theorem ok_eq (c : Cxt P Γ ι H w ρ L R r) {op : BinOp} {t t' : TypeId} {x y : Operand} {neg : Bool} {e : EK} (ho : o.op = .binOp op t x y t') (hop : op = if neg then .neq else .eql) (hk : ekOf P t = some e)
    (he : evI (.eq neg e (r x) (r y)) cal Γ L R H n = .ok v H' n') : OpOK P ρ o w (Post P ι H w H' v) := by
  have he' : evEq neg e (r x) (r y) cal Γ L R H n = .ok v H' n' := he
  unfold evEq at he'
  cases hq : eqOf e (src L R (r x)) (src L R (r y)) with
  | none => simp [hq] at he'
  | some b =>
    simp [hq] at he'
    obtain ⟨rfl, rfl, rfl⟩ := he'
    obtain ⟨h1, h2, h3, h4⟩ := equal_ok (w := w) hk (c.hs x) (c.hs y) hq
    refine OpOK.same c (s := do eqGuard op t x y (ρ x) (ρ y); binOp op t (ρ x) (ρ y)) (x := .bool (if neg then !b else b)) (by unfold execOp; rw [ho]) ?_ (by cases neg <;> simp [V.rel])
    rw [run_ok_bind (h2 op x y)]
    subst hop
    cases neg with
    | false =>
      simp only [Bool.false_eq_true, if_false]
      rw [h3, run_ok_bind h1]; rfl
    | true =>
      simp only [if_true]
      rw [h4, run_ok_bind h1]; rfl
/-- an interface against a constant -/
theorem ok_ifcEq (c : Cxt P Γ ι H w ρ L R r) {op : BinOp} {t t' : TypeId} {x y : Operand} {neg : Bool} (ho : o.op = .binOp op t x y t') (hi : ifcEq P op t x y = some neg)
    (he : evI (.eq neg (.base .ifc) (r x) (r y)) cal Γ L R H n = .ok v H' n') : OpOK P ρ o w (Post P ι H w H' v) := by
  have he' : evEq neg (.base .ifc) (r x) (r y) cal Γ L R H n = .ok v H' n' := he
  unfold evEq at he'
  have hx := c.hs x
  have hy := c.hs y
  cases hq : eqOf (.base .ifc) (src L R (r x)) (src L R (r y)) with
  | none => simp [hq] at he'
  | some q =>
    simp [hq] at he'
    obtain ⟨rfl, rfl, rfl⟩ := he'
    have hq' : baseEq .ifc (src L R (r x)) (src L R (r y)) = some q := hq
    unfold ifcEq at hi
    cases hu : P.underlying t with
    | none => simp [hu] at hi
    | some d =>
      cases d <;> simp only [hu] at hi <;> try (cases hi; done)
      rename_i ms
      have heq : (Op.equal t (ρ x) (ρ y)).run P w = .ok q w := baseEq_ok hq' hx hy hu trivial 9999
      cases hcc : isC x || isC y with
      | false => cases op <;> simp [hcc] at hi
      | true =>
        have hsh : (ρ x = .nilIface ∨ ∃ a b, ρ x = .iface a b) ∧ (ρ y = .nilIface ∨ ∃ a b, ρ y = .iface a b) := by
          cases hbx : src L R (r x) <;> rw [hbx] at hq' hx <;> simp [baseEq] at hq' <;> cases hby : src L R (r y) <;> rw [hby] at hq' hy <;> simp at hq' <;> simp only [V.rel] at hx hy
          · exact ⟨.inr (by obtain ⟨z, e, _⟩ := hx; exact ⟨_, _, e⟩), .inl hy⟩
          · exact ⟨.inl hx, .inr (by obtain ⟨z, e, _⟩ := hy; exact ⟨_, _, e⟩)⟩
          · exact ⟨.inl hx, .inl hy⟩
        have hg : (op = .eql ∨ op = .neq) → (eqGuard op t x y (ρ x) (ρ y)).run P w = .ok () w := fun hop => by
          unfold eqGuard
          rcases hop with rfl | rfl <;> rcases hsh with ⟨e1 | ⟨a, b, e1⟩, e2 | ⟨a', b', e2⟩⟩ <;> rw [e1, e2] <;> first | rfl | (cases x <;> cases y <;> first | rfl | exact absurd hcc Bool.false_ne_true)
        have hb1 : binOp .eql t (ρ x) (ρ y) = (do pure (.bool (← Op.equal t (ρ x) (ρ y)))) := by
          rcases hsh with ⟨e1 | ⟨a, b, e1⟩, e2 | ⟨a', b', e2⟩⟩ <;> rw [e1, e2] <;> rfl
        have hb2 : binOp .neq t (ρ x) (ρ y) = (do pure (.bool (!(← Op.equal t (ρ x) (ρ y))))) := by
          rcases hsh with ⟨e1 | ⟨a, b, e1⟩, e2 | ⟨a', b', e2⟩⟩ <;> rw [e1, e2] <;> rfl
        cases op <;> simp [hcc] at hi <;> subst hi
        · refine OpOK.same c (s := do eqGuard .eql t x y (ρ x) (ρ y); binOp .eql t (ρ x) (ρ y)) (x := .bool q) (by unfold execOp; rw [ho]) ?_ (by simp [V.rel])
          rw [run_ok_bind (hg (.inl rfl)), hb1, run_ok_bind heq]; rfl
        · refine OpOK.same c (s := do eqGuard .neq t x y (ρ x) (ρ y); binOp .neq t (ρ x) (ρ y)) (x := .bool (!q)) (by unfold execOp; rw [ho]) ?_ (by simp [V.rel])
          rw [run_ok_bind (hg (.inr rfl)), hb2, run_ok_bind heq]; rfl
end
end
end Go.Ev
