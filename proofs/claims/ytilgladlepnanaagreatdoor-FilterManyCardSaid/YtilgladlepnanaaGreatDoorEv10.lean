/-
  A verified evaluator, part 10: operations that compute or read.
-/
import Derived.Test.YtilgladlepnanaaGreatDoorEv9
namespace Go.Ev
noncomputable section
open Go

structure Cxt (P : Program) (Γ : Glo) (ι : Emb) (H : Heap) (w : World) (ρ : Operand → Value) (L : List V) (R : Regs) (r : Operand → Src) : Prop where
  hok : HOK P ι H w
  gok : GOK Γ ι H w
  hs : ∀ x, V.rel ι (src L R (r x)) (ρ x)
  hc : ∀ y, ρ (.const y) = y
  hf : ∀ f, ρ (.func f) = .func (.func f) #[] #[]

section
variable {P : Program} {Γ : Glo} {ι : Emb} {H H' : Heap} {w : World} {ρ : Operand → Value} {L : List V} {R : Regs} {r : Operand → Src} {cal : Cal} {n n' : Pth} {v : V} {o : Oper}

/-- a value that is computed, the memory staying -/
theorem OpOK.same (c : Cxt P Γ ι H w ρ L R r) {s : Sem Value} {x : Value} (he : execOp ρ o = (do pure (Next.value (← s)) : Sem Next)) (hr : s.run P w = .ok x w) (hv : V.rel ι v x) :
    OpOK P ρ o w (Post P ι H w H v) :=
  OpOK.value (by rw [he]; exact run_v hr) (Post.pure c.hok hv)
theorem ret_some {u : Option V} (h : ret? u H n = .ok v H' n') : u = some v ∧ H' = H ∧ n' = n := by
  cases u with
  | none => simp [ret?] at h
  | some x => simp [ret?] at h; obtain ⟨rfl, rfl, rfl⟩ := h; exact ⟨rfl, rfl, rfl⟩

theorem ok_mov (c : Cxt P Γ ι H w ρ L R r) {x : Operand} (ho : o.op = .move x ∨ o.op = .assign x) (he : evI (.mov (r x)) cal Γ L R H n = .ok v H' n') : OpOK P ρ o w (Post P ι H w H' v) := by
  have he' : Res.ok (src L R (r x)) H n = .ok v H' n' := he
  simp at he'; obtain ⟨rfl, rfl, rfl⟩ := he'
  refine OpOK.value (x := ρ x) (w' := w) ?_ (Post.pure c.hok (c.hs x))
  unfold execOp
  rcases ho with ho | ho <;> rw [ho] <;> rfl
theorem ok_pick (c : Cxt P Γ ι H w ρ L R r) {x a b : Operand} (ho : o.op = .pick x a b) (he : evI (.pick (r x) (r a) (r b)) cal Γ L R H n = .ok v H' n') : OpOK P ρ o w (Post P ι H w H' v) := by
  have he' : evPick (r x) (r a) (r b) cal Γ L R H n = .ok v H' n' := he
  unfold evPick at he'
  have hx := c.hs x
  cases hb : src L R (r x) <;> simp [hb] at he'
  rename_i t
  rw [hb] at hx; simp only [V.rel] at hx
  have hrun : ∀ (y : Value), (if t then ρ a else ρ b) = y → (execOp ρ o).run P w = .ok (.value y) w := fun y hy => by
    unfold execOp; rw [ho]
    simp only [hx]
    subst hy
    cases t <;> rfl
  cases t <;> simp at he' <;> obtain ⟨rfl, rfl, rfl⟩ := he'
  · exact OpOK.value (hrun _ rfl) (Post.pure c.hok (c.hs b))
  · exact OpOK.value (hrun _ rfl) (Post.pure c.hok (c.hs a))
theorem ok_load (c : Cxt P Γ ι H w ρ L R r) {t : TypeId} {a : Operand} (ho : o.op = .load t a) (he : evI (opI P r (.load t a)) cal Γ L R H n = .ok v H' n') : OpOK P ρ o w (Post P ι H w H' v) := by
  unfold opI at he
  cases hag : aggT P t with
  | none => simp [hag] at he; cases he
  | some b =>
    cases b with
    | false =>
      have he' : evLoad (r a) cal Γ L R H n = .ok v H' n' := by simp only [hag] at he; exact he
      obtain ⟨h1, rfl, rfl⟩ := ret_some he'
      obtain ⟨ad, y, hx, hrun, hv⟩ := cellAt_ok c.hok c.gok h1 (c.hs a)
      refine OpOK.same c (s := Instr.loadAt t (ρ a)) (by unfold execOp; rw [ho]) ?_ hv
      unfold Instr.loadAt
      rw [hx]
      simp only [Instr.sureAddr]
      rw [run_ok_bind (run_ofPure ad)]
      unfold loadVar
      rw [run_ok_bind (run_isAgg hag)]
      exact hrun
    | true =>
      cases hsz : sizeT P t with
      | none => simp [hag, hsz] at he; cases he
      | some m =>
        have he' : evLoadn (r a) m cal Γ L R H n = .ok v H' n' := by simp only [hag, hsz] at he; exact he
        unfold evLoadn at he'
        cases hc : cellsAt Γ H (src L R (r a)) m with
        | none => simp [hc] at he'
        | some l =>
          simp [hc] at he'
          obtain ⟨rfl, rfl, rfl⟩ := he'
          obtain ⟨ad, ys, hx, hrun, hv, _⟩ := cellsAt_ok c.hok c.gok hc (c.hs a)
          refine OpOK.same c (s := Instr.loadAt t (ρ a)) (x := .agg ys) (by unfold execOp; rw [ho]) ?_ (by simp only [V.rel]; exact ⟨ys, rfl, hv⟩)
          unfold Instr.loadAt
          rw [hx]
          simp only [Instr.sureAddr]
          rw [run_ok_bind (run_ofPure ad)]
          unfold loadVar
          rw [run_ok_bind (run_isAgg hag)]
          simp only [if_true]
          rw [run_ok_bind (run_sizeOf hsz), run_ok_bind hrun]; rfl
theorem ok_store (c : Cxt P Γ ι H w ρ L R r) {t : TypeId} {a x : Operand} (ho : o.op = .store t a x) (he : evI (opI P r (.store t a x)) cal Γ L R H n = .ok v H' n') : OpOK P ρ o w (Post P ι H w H' v) := by
  unfold opI at he
  cases hsz : sizeT P t with
  | none => simp [hsz] at he; cases he
  | some m =>
    have he' : evStore (r a) (r x) m cal Γ L R H n = .ok v H' n' := by simp only [hsz] at he; exact he
    unfold evStore at he'
    cases hco : cellsOf (src L R (r x)) with
    | none => simp [hco] at he'
    | some l =>
      simp only [hco] at he'
      cases hb : Nat.beq (len l) m with
      | false => simp [hb] at he'
      | true =>
        simp only [hb] at he'
        cases hp : putAt H (src L R (r a)) l with
        | none => simp [hp] at he'
        | some H1 =>
          simp [hp] at he'
          obtain ⟨rfl, rfl, rfl⟩ := he'
          have hv := cellsOf_rel hco (c.hs x)
          have hl := rels_length hv
          have e1 := beq_eq hb
          rw [len_eq] at e1
          obtain ⟨ad, w', hx, hrun, hst⟩ := putAt_ok c.hok hp (c.hs a) hv
          refine OpOK.skip (w' := w') ?_ ⟨ι, by simp [V.rel], hst⟩
          unfold execOp; rw [ho]
          refine run_u ?_
          unfold Instr.storeAt
          rw [hx]
          simp only [Instr.sureAddr]
          rw [run_ok_bind (run_ofPure ad)]
          unfold storeVar
          rw [run_ok_bind (run_sizeOf hsz)]
          rw [if_neg (by simp at hl; omega)]
          exact hrun
theorem methAt_ok {m : String} {t f : Nat} (h : methAt P m t = some f) : ∃ ti me ptr, P.info? t = some ti ∧ ti.methods.find? (·.name == m) = some me ∧ me.path.toList = [] ∧ me.func = some (f, ptr) ∧ plainRecv P t ptr = true := by
  unfold methAt at h
  cases hi : P.info? t with
  | none => simp [hi] at h
  | some ti =>
    cases hf : ti.methods.find? (·.name == m) with
    | none => simp [hi, hf] at h
    | some me =>
      simp only [hi, hf] at h
      cases hp : me.path.toList with
      | cons a l => simp [hp] at h
      | nil =>
        cases hfu : me.func with
        | none => simp [hp, hfu] at h
        | some fp =>
          obtain ⟨f', ptr⟩ := fp
          simp only [hp, hfu] at h
          cases hr : plainRecv P t ptr with
          | false => simp [hr] at h
          | true => simp [hr] at h; subst h; exact ⟨ti, me, ptr, rfl, hf, hp, hfu, hr⟩
theorem run_method {m : String} {t f : Nat} {x : Value} (h : methAt P m t = some f) (fuel : Nat) : (Go.method (fuel + 1) t x m).run P w = .ok (f, x) w := by
  obtain ⟨ti, me, ptr, hi, hf, hp, hfu, hr⟩ := methAt_ok h
  unfold Go.method
  rw [run_ok_bind (run_typeInfo hi)]
  simp only [hf, hp]
  have hfo : (Go.follow [] t (.val x)).run P w = .ok (t, .val x) w := rfl
  rw [run_ok_bind hfo]
  simp only [hfu]
  have hre : ∀ nm, (Go.receiverAt t (.val x) ptr nm).run P w = .ok x w := fun nm => by
    unfold plainRecv at hr
    cases hu : P.underlying t with
    | none => simp [hu] at hr
    | some d =>
      unfold Go.receiverAt
      rw [run_ok_bind (run_underlying hu w)]
      cases d <;> cases ptr <;> simp [hu] at hr <;> rfl
  rw [run_ok_bind (hre _)]; rfl
theorem run_nilAhead {m : String} {t f : Nat} {x : Value} (h : methAt P m t = some f) (fuel : Nat) : (Go.nilAhead (fuel + 1) t x m).run P w = .ok (some false) w := by
  obtain ⟨ti, me, ptr, hi, hf, hp, hfu, hr⟩ := methAt_ok h
  unfold Go.nilAhead
  rw [run_ok_bind (run_typeInfo hi)]
  simp only [hf, hp]
  have hfo : (Go.followBlind [] t (some x)).run P w = .ok (.ok (t, some x)) w := rfl
  rw [run_ok_bind hfo]
  simp only [hfu]
  unfold plainRecv at hr
  cases hu : P.underlying t with
  | none => simp [hu] at hr
  | some d =>
    cases ptr with
    | true => rfl
    | false =>
      simp only
      rw [run_ok_bind (run_underlying hu w)]
      cases d <;> simp [hu] at hr <;> rfl
theorem ok_nilchk (c : Cxt P Γ ι H w ρ L R r) {x : Operand} (ho : o.op = .nilCheck x) (he : evI (.nilchk (methAt P) (r x)) cal Γ L R H n = .ok v H' n') : OpOK P ρ o w (Post P ι H w H' v) := by
  have he' : evNilchk (methAt P) (r x) cal Γ L R H n = .ok v H' n' := he
  unfold evNilchk at he'
  have hx := c.hs x
  cases hsu : sureM (methAt P) (src L R (r x)) with
  | false => simp [hsu] at he'
  | true =>
    simp [hsu] at he'
    obtain ⟨rfl, rfl, rfl⟩ := he'
    refine OpOK.value (x := ρ x) (w' := w) ?_ (Post.pure c.hok hx)
    unfold execOp; rw [ho]
    cases hb : src L R (r x) <;> simp [hb, sureM, sure] at hsu <;> rw [hb] at hx <;> simp only [V.rel] at hx
    case ptr => obtain ⟨_, _, _, e⟩ := hx; simp only [e]; rfl
    case gptr => simp only [hx]; rfl
    case sl => obtain ⟨_, _, _, _, e, _⟩ := hx; simp only [e]; rfl
    case fn => obtain ⟨_, _, e, _⟩ := hx; simp only [e]; rfl
    case ifc => obtain ⟨_, e, _⟩ := hx; simp only [e]; rfl
    case mth m t u =>
      obtain ⟨y, e, _⟩ := hx
      cases hm : methAt P m t with
      | none => simp [hm] at hsu
      | some f =>
        simp only [e]
        have hp : (program).run P w = .ok P w := rfl
        simp only [List.getElem?_toArray, List.getElem?_cons_zero]
        obtain ⟨dk, hdk⟩ : ∃ k, P.types.size + Made.depth = k + 1 := ⟨P.types.size + (Made.depth - 1), by unfold Made.depth; omega⟩
        rw [run_ok_bind hp, hdk, run_ok_bind (run_nilAhead hm _)]
        rfl
theorem ok_mkif (c : Cxt P Γ ι H w ρ L R r) {t : TypeId} {x : Operand} (ho : o.op = .makeInterface t x) (he : evI (opI P r (.makeInterface t x)) cal Γ L R H n = .ok v H' n') :
    OpOK P ρ o w (Post P ι H w H' v) := by
  unfold opI at he
  cases hu : P.underlying t with
  | none => simp [hu] at he; cases he
  | some d =>
    have key : ∀ he' : evMkif t (r x) cal Γ L R H n = .ok v H' n', (Instr.makeInterface t (ρ x)).run P w = .ok (.iface t (ρ x)) w → OpOK P ρ o w (Post P ι H w H' v) := fun he' hrun => by
      unfold evMkif at he'
      cases he'
      exact OpOK.same c (s := Instr.makeInterface t (ρ x)) (by unfold execOp; rw [ho]) hrun (by simp only [V.rel]; exact ⟨_, rfl, c.hs x⟩)
    cases d <;> simp only [hu] at he <;> try (cases he; done)
    all_goals
      refine key he ?_
      unfold Instr.makeInterface
      rw [run_ok_bind (run_underlying hu w)]; rfl
theorem ok_mkmeth (c : Cxt P Γ ι H w ρ L R r) {m : String} {a b : Array Operand} (ho : o.op = .makeFunc (.method m) a b)
    (he : evI (opI P r (.makeFunc (.method m) a b)) cal Γ L R H n = .ok v H' n') : OpOK P ρ o w (Post P ι H w H' v) := by
  unfold opI at he
  obtain ⟨x, ha, hb, he⟩ : ∃ x, a.toList = [x] ∧ b.toList = [] ∧ evI (.mkmeth m (r x)) cal Γ L R H n = .ok v H' n' := by
    cases ha : a.toList with
    | nil => simp only [ha] at he; cases he
    | cons x l =>
      cases l with
      | cons y l => simp only [ha] at he; cases he
      | nil =>
        cases hb : b.toList with
        | cons y l => simp only [ha, hb] at he; cases he
        | nil => simp only [ha, hb] at he; exact ⟨x, rfl, rfl, he⟩
  have he' : evMkmeth m (r x) cal Γ L R H n = .ok v H' n' := he
  unfold evMkmeth at he'
  cases hs : src L R (r x) <;> simp only [hs] at he' <;> try (cases he'; done)
  rename_i t u
  cases he'
  have hx := c.hs x
  rw [hs] at hx
  simp only [V.rel] at hx
  obtain ⟨y, hxe, hy⟩ := hx
  refine OpOK.same c (s := Instr.makeFunc (.method m) (a.map ρ) (b.map ρ)) (x := .func (.method m) (a.map ρ) (b.map ρ)) (by unfold execOp; rw [ho]) rfl ?_
  simp only [V.rel]
  have e1 : a.map ρ = #[.iface t y] := by apply Array.toList_inj.1; rw [Array.toList_map, ha]; simp [hxe]
  have e2 : b.map ρ = #[] := by apply Array.toList_inj.1; rw [Array.toList_map, hb]; simp
  exact ⟨y, by rw [e1, e2], hy⟩
theorem eqGuard_prim {op : BinOp} {t : TypeId} {x y : Operand} {a b : Value} (h1 : ¬ (a = .nilIface)) (h2 : ∀ l, a ≠ .agg l) : (eqGuard op t x y a b).run P w = .ok () w := by
  unfold eqGuard
  by_cases hop : (match op with | .eql => true | .neq => true | _ => false) = true
  · cases op <;> simp at hop <;> cases a <;> simp at h1 h2 <;> rfl
  · cases op <;> simp at hop <;> rfl
theorem ok_bin (c : Cxt P Γ ι H w ρ L R r) {op : BinOp} {t t' : TypeId} {x y : Operand} (ho : o.op = .binOp op t x y t') (he : evI (.bin op (r x) (r y)) cal Γ L R H n = .ok v H' n') :
    OpOK P ρ o w (Post P ι H w H' v) := by
  have he' : evBin op (r x) (r y) cal Γ L R H n = .ok v H' n' := he
  obtain ⟨h1, rfl, rfl⟩ := ret_some he'
  have hx := c.hs x
  have hy := c.hs y
  have key : ∃ z, (binOp op t (ρ x) (ρ y)).run P w = .ok z w ∧ V.rel ι v z ∧ ¬ (ρ x = .nilIface) ∧ (∀ l, ρ x ≠ .agg l) := by
    unfold binOf at h1
    have viaSym : symBin op (src L R (r x)) (src L R (r y)) = some v → ∃ z, (binOp op t (ρ x) (ρ y)).run P w = .ok z w ∧ V.rel ι v z ∧ ¬ (ρ x = .nilIface) ∧ (∀ l, ρ x ≠ .agg l) := by
      intro hs
      obtain ⟨z, k, a, hz, hv, he⟩ := symBin_ok (P := P) (w := w) hs hx hy t
      exact ⟨z, hz, hv, by rw [he]; simp, by rw [he]; simp⟩
    cases hu : src L R (r x) <;> simp only [hu] at h1 <;> try (exact viaSym (by rw [hu]; exact h1))
    case int k a =>
      cases hw : src L R (r y) <;> simp only [hw] at h1 <;> try (exact viaSym (by rw [hu, hw]; exact h1))
      rw [hu] at hx; simp only [V.rel] at hx
      rename_i j b
      rw [hw] at hy; simp only [V.rel] at hy
      rw [hx, hy]
      have done : ∀ op', op = op' → (op' ≠ .shl) → (op' ≠ .shr) → (match keq k j with | true => intBin op' k a b | false => none) = some v →
          ∃ z, (binOp op t (.int k a) (.int j b)).run P w = .ok z w ∧ V.rel ι v z ∧ ¬ (Value.int k a = .nilIface) ∧ (∀ l, Value.int k a ≠ .agg l) := by
        intro op' e _ _ h
        subst e
        cases hk : keq k j with
        | false => simp [hk] at h
        | true =>
          have := (keq_iff k j).1 hk
          subst this
          simp only [hk] at h
          obtain ⟨z, hz, hv, ht⟩ := intBin_ok (P := P) (w := w) (ι := ι) h
          exact ⟨z, by rw [ht t]; exact hz, hv, by simp, by simp⟩
      cases op <;> simp at h1
      case shl => obtain ⟨z, hz, hv⟩ := shift_ok (P := P) (w := w) (ι := ι) (j := j) h1 t; exact ⟨z, by simpa using hz, hv, by simp, by simp⟩
      case shr => obtain ⟨z, hz, hv⟩ := shift_ok (P := P) (w := w) (ι := ι) (j := j) h1 t; exact ⟨z, by simpa using hz, hv, by simp, by simp⟩
      all_goals exact done _ rfl (by simp) (by simp) h1
    case str s =>
      cases hw : src L R (r y) <;> simp only [hw] at h1 <;> try (exact viaSym (by rw [hu, hw]; exact h1))
      rw [hu] at hx; simp only [V.rel] at hx
      obtain ⟨a, hxa, rfl⟩ := hx
      rw [hw] at hy; simp only [V.rel] at hy
      obtain ⟨b, hyb, rfl⟩ := hy
      rw [hxa, hyb]
      obtain ⟨z, hz, hv⟩ := strBin_ok (P := P) (w := w) (ι := ι) h1 t
      exact ⟨z, hz, hv, by simp, by simp⟩
  obtain ⟨z, hz, hv, g1, g2⟩ := key
  refine OpOK.same c (s := do eqGuard op t x y (ρ x) (ρ y); binOp op t (ρ x) (ρ y)) (by unfold execOp; rw [ho]) ?_ hv
  rw [run_ok_bind (eqGuard_prim g1 g2)]
  exact hz
theorem ok_un (c : Cxt P Γ ι H w ρ L R r) {op : UnOp} {t : TypeId} {x : Operand} (ho : o.op = .unOp op t x) (he : evI (.un op (r x)) cal Γ L R H n = .ok v H' n') :
    OpOK P ρ o w (Post P ι H w H' v) := by
  have he' : evUn op (r x) cal Γ L R H n = .ok v H' n' := he
  obtain ⟨h1, rfl, rfl⟩ := ret_some he'
  obtain ⟨z, hz, hv⟩ := unOf_ok (P := P) (w := w) (ι := ι) h1 (c.hs x)
  exact OpOK.same c (s := Op.unary op (ρ x)) (by unfold execOp; rw [ho]) hz hv
theorem ok_extract (c : Cxt P Γ ι H w ρ L R r) {x : Operand} {i : Nat} (ho : o.op = .extract x i) (he : evI (.extract (r x) i) cal Γ L R H n = .ok v H' n') :
    OpOK P ρ o w (Post P ι H w H' v) := by
  have he' : evExtract (r x) i cal Γ L R H n = .ok v H' n' := he
  unfold evExtract at he'
  have hx := c.hs x
  cases hu : src L R (r x) <;> simp [hu] at he'
  rename_i l
  obtain ⟨h1, rfl, rfl⟩ := ret_some he'
  rw [nth_eq] at h1
  rw [hu] at hx; simp only [V.rel] at hx
  obtain ⟨cs, hxe, hl⟩ := hx
  obtain ⟨y, hy, hv⟩ := rels_get hl h1
  refine OpOK.same c (s := Instr.extract (ρ x) i) (x := y) (by unfold execOp; rw [ho]) ?_ hv
  rw [hxe]
  have hy' : cs[i]? = some y := by simpa using hy
  simp only [Instr.extract, hy']; rfl
theorem srcs_rels (hs : ∀ x, V.rel ι (src L R (r x)) (ρ x)) : ∀ xs : List Operand, V.rels ι (srcs L R (xs.map r)) (xs.map ρ)
  | [] => rels_nil
  | x :: t => rels_cons (hs x) (srcs_rels hs t)
theorem ok_mkfn (c : Cxt P Γ ι H w ρ L R r) {f : Nat} {a b : Array Operand} (ho : o.op = .makeFunc (.func f) a b)
    (he : evI (.mkfn f (a.toList.map r) (b.toList.map r)) cal Γ L R H n = .ok v H' n') : OpOK P ρ o w (Post P ι H w H' v) := by
  have he' : Res.ok (.fn f (srcs L R (a.toList.map r)) (srcs L R (b.toList.map r))) H n = .ok v H' n' := he
  simp at he'; obtain ⟨rfl, rfl, rfl⟩ := he'
  refine OpOK.same c (s := Instr.makeFunc (.func f) (a.map ρ) (b.map ρ)) (x := .func (.func f) (a.map ρ) (b.map ρ)) (by unfold execOp; rw [ho]) rfl ?_
  simp only [V.rel]
  exact ⟨_, _, rfl, by simpa using srcs_rels c.hs a.toList, by simpa using srcs_rels c.hs b.toList⟩
theorem addrPlus_ok {u v : V} {x : Value} {m : Nat} (h : addrPlus u m = some v) (hr : V.rel ι u x) : ∃ a, x = .pointer (some a) ∧ V.rel ι v (.pointer (some (a.add m))) := by
  cases u <;> simp [addrPlus] at h
  · subst h
    simp only [V.rel] at hr ⊢
    obtain ⟨b, s, hp, rfl⟩ := hr
    exact ⟨_, rfl, b, s, hp, by rw [addr_add, Nat.add_assoc]⟩
  · subst h
    simp only [V.rel] at hr ⊢
    exact ⟨_, hr, by rw [addr_add]⟩
theorem ok_faddr (c : Cxt P Γ ι H w ρ L R r) {t : TypeId} {x : Operand} {f : Nat} (ho : o.op = .fieldAddr t x f) (he : evI (opI P r (.fieldAddr t x f)) cal Γ L R H n = .ok v H' n') :
    OpOK P ρ o w (Post P ι H w H' v) := by
  unfold opI at he
  cases hu : P.underlying t with
  | none => simp [hu] at he; cases he
  | some d =>
    cases d <;> simp only [hu] at he <;> try (cases he; done)
    rename_i fs
    cases hf : fs[f]? with
    | none => simp [hf] at he; cases he
    | some g =>
      cases hsz : sizeT P g.type with
      | none => simp [hf, hsz] at he; cases he
      | some m =>
        cases m with
        | zero => simp [hf, hsz] at he; cases he
        | succ m =>
          have he' : evFaddr (r x) g.offset cal Γ L R H n = .ok v H' n' := by simp only [hf, hsz] at he; exact he
          obtain ⟨h1, rfl, rfl⟩ := ret_some he'
          obtain ⟨a, hx, hv⟩ := addrPlus_ok h1 (c.hs x)
          refine OpOK.same c (s := Instr.fieldAt t (ρ x) f) (by unfold execOp; rw [ho]) ?_ hv
          unfold Instr.fieldAt
          rw [run_ok_bind (run_underlying hu w)]
          simp only [hf, hx, Instr.sureAddr]
          rw [run_ok_bind (run_ofPure a)]
          unfold fieldPlace
          have : (do if (← sizeOf g.type) = 0 then partAt a g.offset g.byteOffset else pure (a.add g.offset) : Sem Addr).run P w = .ok (a.add g.offset) w := by
            rw [run_ok_bind (run_sizeOf hsz)]; simp [run_ofPure]
          rw [run_ok_bind this]; rfl
end
end
end Go.Ev
