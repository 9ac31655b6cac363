/-
  A verified evaluator, part 5: operations that only compute; new blocks; reads and stores.
-/
import Derived.Test.YtilgladlepnanaaGreatDoorEv4
namespace Go.Ev
noncomputable section
open Go

/- runs of the model's small parts -/
section
variable {P : Program} {w : World}
theorem run_ok_bind {α β : Type} {x : Sem α} {f : α → Sem β} {a : α} {w' : World} (h : x.run P w = .ok a w') : (x >>= f).run P w = (f a).run P w' := by
  rw [Sem.run_bind, h]; rfl
theorem run_ofPure {α : Type} (a : α) : (pure a : Sem α).run P w = .ok a w := Sem.run_pure P w a
theorem run_typeInfo {t : TypeId} {i : TypeInfo} (h : P.info? t = some i) : (typeInfo t).run P w = .ok i w := by
  unfold typeInfo
  simp [Sem.run_bind, program, Sem.run, Result.andThen, h]
theorem run_zeroValue {t : TypeId} {z : Value} (h : zeroT P t = some z) : (zeroValue t).run P w = .ok z w := by
  unfold zeroT at h
  cases hi : P.info? t with
  | none => simp [hi] at h
  | some i =>
    simp [hi] at h
    unfold zeroValue
    rw [run_ok_bind (run_typeInfo hi), h]; rfl
theorem run_sizeOf {t : TypeId} {n : Nat} (h : sizeT P t = some n) : (sizeOf t).run P w = .ok n w := by
  unfold sizeT at h
  cases hi : P.info? t with
  | none => simp [hi] at h
  | some i =>
    simp [hi] at h
    unfold sizeOf
    rw [run_ok_bind (run_typeInfo hi), h]; rfl
theorem run_isAgg {t : TypeId} {b : Bool} (h : aggT P t = some b) : (isAgg t).run P w = .ok b w := by
  unfold aggT at h
  cases hu : P.underlying t with
  | none => simp [hu] at h
  | some d =>
    simp [hu] at h
    unfold isAgg
    rw [run_ok_bind (run_underlying hu w)]
    cases d <;> simp_all <;> rfl
theorem run_newVar (t : TypeId) (v : Value) : (newVar t v).run P w = .ok ⟨w.heap.size, 0, none⟩ (w.alloc (.cells v.cells t)) := by
  unfold newVar newRow
  rw [run_ok_bind (run_newObj_alloc P w _)]; rfl
theorem run_newRow (t : TypeId) (c : Array Value) : (newRow t c).run P w = .ok ⟨w.heap.size, 0, none⟩ (w.alloc (.cells c t)) := by
  unfold newRow
  rw [run_ok_bind (run_newObj_alloc P w _)]; rfl
end

/- constants -/
theorem ofV_rel {ι : Emb} : ∀ (n : Nat) (x : Value), V.rel ι (ofV n x) x
  | 0, x => by simp [ofV, V.rel]
  | n + 1, x => by
    have hl : ∀ l : List Value, V.rels ι (l.map (ofV n)) l := fun l => by
      induction l with
      | nil => exact rels_nil
      | cons y t ih => exact rels_cons (ofV_rel n y) ih
    cases x with
    | bool b => simp [ofV, V.rel]
    | int k m => simp [ofV, V.rel]
    | string s => simp only [ofV, V.rel]; exact ⟨s, rfl, rfl⟩
    | pointer a => cases a <;> simp [ofV, V.rel]
    | slice a l c =>
      cases a with
      | some a => simp [ofV, V.rel]
      | none => cases l with
        | zero => cases c with
          | zero => simp [ofV, V.rel]
          | succ c => simp [ofV, V.rel]
        | succ l => simp [ofV, V.rel]
    | map r => cases r <;> simp [ofV, V.rel]
    | nilFunc => simp [ofV, V.rel]
    | func fn a b =>
      cases fn with
      | func f =>
        simp only [ofV]
        cases ha : a.toList with
        | nil =>
          cases hb : b.toList with
          | nil =>
            simp only [V.rel]
            refine ⟨#[], #[], ?_, rels_nil, rels_nil⟩
            rw [Array.toList_eq_nil_iff.1 ha, Array.toList_eq_nil_iff.1 hb]
          | cons => simp [V.rel]
        | cons => simp [V.rel]
      | _ => simp [ofV, V.rel]
    | agg cs => simp only [ofV, V.rel]; exact ⟨cs, rfl, hl _⟩
    | tuple cs => simp only [ofV, V.rel]; exact ⟨cs, rfl, hl _⟩
    | _ => simp [ofV, V.rel]
theorem ofV_rels {ι : Emb} (n : Nat) : ∀ l : List Value, V.rels ι (l.map (ofV n)) l
  | [] => rels_nil
  | y :: t => rels_cons (ofV_rel n y) (ofV_rels n t)
theorem zeroCells_rel {ι : Emb} {P : Program} {t : TypeId} {zs : List V} (h : zeroCellsT P t = some zs) : ∃ z, zeroT P t = some z ∧ V.rels ι zs z.cells.toList := by
  unfold zeroCellsT at h
  cases hz : zeroT P t with
  | none => simp [hz] at h
  | some z => simp [hz] at h; subst h; exact ⟨z, rfl, ofV_rels 3 _⟩
theorem cellsOf_rel {ι : Emb} {v : V} {x : Value} {l : List V} (h : cellsOf v = some l) (hr : V.rel ι v x) : V.rels ι l x.cells.toList := by
  cases v with
  | unk => simp [cellsOf] at h
  | tup _ => simp [cellsOf] at h
  | agg l' =>
    simp [cellsOf] at h; subst h
    simp only [V.rel] at hr
    obtain ⟨cs, rfl, hc⟩ := hr
    exact hc
  | bool b => simp [cellsOf] at h; subst h; have := hr; simp only [V.rel] at hr; subst hr; exact rels_one this
  | int k n => simp [cellsOf] at h; subst h; have := hr; simp only [V.rel] at hr; subst hr; exact rels_one this
  | str s => simp [cellsOf] at h; subst h; have := hr; simp only [V.rel] at hr; obtain ⟨b, rfl, _⟩ := hr; exact rels_one this
  | nilp => simp [cellsOf] at h; subst h; have := hr; simp only [V.rel] at hr; subst hr; exact rels_one this
  | ptr p o => simp [cellsOf] at h; subst h; have := hr; simp only [V.rel] at hr; obtain ⟨b, s, _, rfl⟩ := hr; exact rels_one this
  | gptr g o => simp [cellsOf] at h; subst h; have := hr; simp only [V.rel] at hr; subst hr; exact rels_one this
  | nilsl => simp [cellsOf] at h; subst h; have := hr; simp only [V.rel] at hr; subst hr; exact rels_one this
  | sl p o m c ex => simp [cellsOf] at h; subst h; have := hr; simp only [V.rel] at hr; obtain ⟨b, s, c', _, rfl, _⟩ := hr; exact rels_one this
  | nilmp => simp [cellsOf] at h; subst h; have := hr; simp only [V.rel] at hr; subst hr; exact rels_one this
  | mp p => simp [cellsOf] at h; subst h; have := hr; simp only [V.rel] at hr; obtain ⟨b, _, rfl⟩ := hr; exact rels_one this
  | nilfn => simp [cellsOf] at h; subst h; have := hr; simp only [V.rel] at hr; subst hr; exact rels_one this
  | fn f a c => simp [cellsOf] at h; subst h; have := hr; simp only [V.rel] at hr; obtain ⟨a', c', rfl, _⟩ := hr; exact rels_one this
  | yld p => simp [cellsOf] at h; subst h; have := hr; simp only [V.rel] at hr; obtain ⟨l, _, rfl⟩ := hr; exact rels_one this
  | sym i k lo hi => simp [cellsOf] at h; subst h; have := hr; simp only [V.rel] at hr; obtain ⟨rfl, _⟩ := hr; exact rels_one this
  | ifc t u => simp [cellsOf] at h; subst h; have := hr; simp only [V.rel] at hr; obtain ⟨y, rfl, _⟩ := hr; exact rels_one this
  | nilif => simp [cellsOf] at h; subst h; have := hr; simp only [V.rel] at hr; subst hr; exact rels_one this
  | mth m t u => simp [cellsOf] at h; subst h; have := hr; simp only [V.rel] at hr; obtain ⟨y, rfl, _⟩ := hr; exact rels_one this
  | sl0 z => simp [cellsOf] at h; subst h; have := hr; simp only [V.rel] at hr; obtain ⟨a, c, rfl, _⟩ := hr; exact rels_one this
  | iv k lo hi st => simp [cellsOf] at h; subst h; have := hr; simp only [V.rel] at hr; obtain ⟨j, rfl, _⟩ := hr; exact rels_one this
  | pre i q => simp [cellsOf] at h; subst h; have := hr; simp only [V.rel] at hr; obtain ⟨z, rfl, _⟩ := hr; exact rels_one this
theorem oneV_rel {ι : Emb} {v : V} {x : Value} (h : oneV v = true) (hr : V.rel ι v x) : oneC x = true := by
  cases v <;> simp [oneV] at h <;> simp only [V.rel] at hr
  case bool => subst hr; rfl
  case int => subst hr; rfl
  case str => obtain ⟨b, rfl, _⟩ := hr; rfl
  case nilp => subst hr; rfl
  case ptr => obtain ⟨b, s, _, rfl⟩ := hr; rfl
  case gptr => subst hr; rfl
  case nilsl => subst hr; rfl
  case sl => obtain ⟨b, s, c', _, rfl, _⟩ := hr; rfl
  case nilmp => subst hr; rfl
  case mp => obtain ⟨b, _, rfl⟩ := hr; rfl
  case nilfn => subst hr; rfl
  case fn => obtain ⟨a', c', rfl, _⟩ := hr; rfl
  case yld => obtain ⟨l, _, rfl⟩ := hr; rfl
  case sym => obtain ⟨rfl, _⟩ := hr; rfl
  case ifc => obtain ⟨y, rfl, _⟩ := hr; rfl
  case nilif => subst hr; rfl
  case mth => obtain ⟨y, rfl, _⟩ := hr; rfl
  case sl0 => obtain ⟨a, c, rfl, _⟩ := hr; rfl
  case iv => obtain ⟨j, rfl, _⟩ := hr; rfl
  case pre => obtain ⟨z, rfl, _⟩ := hr; rfl
theorem allOne_mem : ∀ {l : List V}, allOne l = true → ∀ v ∈ l, oneV v = true
  | [], _, v, hv => by simp at hv
  | x :: t, h, v, hv => by
    have h' : (match oneV x with | true => allOne t | false => false) = true := h
    cases hx : oneV x with
    | false => simp [hx] at h'
    | true =>
      simp only [hx] at h'
      rcases List.mem_cons.1 hv with rfl | hv
      · exact hx
      · exact allOne_mem h' v hv
theorem allOne_rels {ι : Emb} : ∀ {l : List V} {xs : List Value}, allOne l = true → V.rels ι l xs → ∀ x ∈ xs, oneC x = true
  | [], _, _, hr, x, hx => by rw [rels_nil_inv hr] at hx; simp at hx
  | v :: t, _, h, hr, x, hx => by
    obtain ⟨y, ys, rfl, hy, ht⟩ := rels_cons_inv hr
    have h' : (match oneV v with | true => allOne t | false => false) = true := h
    cases hv : oneV v with
    | false => simp [hv] at h'
    | true =>
      simp only [hv] at h'
      rcases List.mem_cons.1 hx with rfl | hx
      · exact oneV_rel hv hy
      · exact allOne_rels h' ht x hx

/-- what an operation comes to: a value and a world for which R holds -/
def OpOK (P : Program) (ρ : Operand → Value) (o : Oper) (w : World) (R : Value → World → Prop) : Prop :=
  match (execOp ρ o).run P w with
  | .ok (.value x) w' => R x w'
  | .ok .skip w' => R undef w'
  | .ok (.enter f args) w' => Calls P f args w' (fun e w'' => ∃ x, e = .returned x ∧ R x w'')
  | .ok (.round l f tmps as bd) w' => ∀ m, RoundIn Fence.wide m P l f tmps as bd w' (fun e w'' => ∃ x, e = .returned x ∧ R x w'')
  | _ => False
def Post (P : Program) (ι : Emb) (H : Heap) (w : World) (H' : Heap) (v : V) (x : Value) (w' : World) : Prop := ∃ ι', V.rel ι' v x ∧ Step P ι H w ι' H' w'
section
variable {P : Program} {ι : Emb} {H H' : Heap} {w : World} {ρ : Operand → Value} {o : Oper} {R : Value → World → Prop}
theorem Post.pure {v : V} {x : Value} (h : HOK P ι H w) (hr : V.rel ι v x) : Post P ι H w H v x w := ⟨ι, hr, Step.refl h⟩
theorem OpOK.value {x : Value} {w' : World} (h : (execOp ρ o).run P w = .ok (.value x) w') (hR : R x w') : OpOK P ρ o w R := by unfold OpOK; rw [h]; exact hR
theorem OpOK.skip {w' : World} (h : (execOp ρ o).run P w = .ok .skip w') (hR : R undef w') : OpOK P ρ o w R := by unfold OpOK; rw [h]; exact hR
end
/-- an operation's value by a run of its own -/
theorem run_v {P : Program} {w w' : World} {s : Sem Value} {x : Value} (h : s.run P w = .ok x w') : (do pure (Next.value (← s)) : Sem Next).run P w = .ok (.value x) w' := by
  rw [run_ok_bind h]; rfl
theorem run_u {P : Program} {w w' : World} {s : Sem Unit} (h : s.run P w = .ok () w') : (do s; pure Next.skip : Sem Next).run P w = .ok .skip w' := by
  rw [run_ok_bind h]; rfl

theorem intBin_ok {P : Program} {w : World} {op : BinOp} {k : IntKind} {a b : Int} {v : V} {ι : Emb} (h : intBin op k a b = some v) :
    ∃ x, (binOp op 0 (.int k a) (.int k b)).run P w = .ok x w ∧ V.rel ι v x ∧ ∀ t, binOp op t (.int k a) (.int k b) = binOp op 0 (.int k a) (.int k b) := by
  have bits : ∀ op', (op' = .and ∨ op' = .or ∨ op' = .xor ∨ op' = .andNot) → bitsOf op' k a b = some v → ∃ x, (Op.intBits op' k a b).run P w = .ok x w ∧ V.rel ι v x := by
    intro op' hop hb
    unfold bitsOf at hb
    cases ha : natOf a with
    | none => simp [ha] at hb
    | some m =>
      cases hn : natOf b with
      | none => simp [ha, hn] at hb
      | some n =>
        simp only [ha, hn] at hb
        cases hm : Nat.blt m (IntKindlim k) with
        | false => simp [hm] at hb
        | true =>
          cases hnn : Nat.blt n (IntKindlim k) with
          | false => simp [hm, hnn] at hb
          | true =>
            simp only [hm, hnn] at hb
            have ea := natOf_some ha
            have eb := natOf_some hn
            have lm := blt_lt hm
            have ln := blt_lt hnn
            subst ea; subst eb
            have l2 : IntKindlim k ≤ 2 ^ k.bits := by cases k <;> decide
            have lpow : ∃ j, IntKindlim k = 2 ^ j := by
              cases k
              · exact ⟨7, by decide⟩
              · exact ⟨15, by decide⟩
              · exact ⟨31, by decide⟩
              · exact ⟨63, by decide⟩
              · exact ⟨8, by decide⟩
              · exact ⟨16, by decide⟩
              · exact ⟨32, by decide⟩
              · exact ⟨64, by decide⟩
            obtain ⟨j, hj⟩ := lpow
            have em : (BitVec.ofInt k.bits (m : Int)).toNat = m := by
              rw [BitVec.toNat_ofInt]
              have : ((m : Int) % ((2 ^ k.bits : Nat) : Int)) = (m : Int) := Int.emod_eq_of_lt (by omega) (by exact_mod_cast Nat.lt_of_lt_of_le lm l2)
              rw [this]; simp
            have en : (BitVec.ofInt k.bits (n : Int)).toNat = n := by
              rw [BitVec.toNat_ofInt]
              have : ((n : Int) % ((2 ^ k.bits : Nat) : Int)) = (n : Int) := Int.emod_eq_of_lt (by omega) (by exact_mod_cast Nat.lt_of_lt_of_le ln l2)
              rw [this]; simp
            have small : ∀ r : Nat, r < IntKindlim k → k.wrap (r : Int) = (r : Int) := fun r hr => by
              refine wrap_small k _ ?_
              cases k <;> simp only [IntKindlim, IntKind.min, IntKind.max, IntKind.bits, IntKind.signed] at * <;> simp <;> omega
            rcases hop with rfl | rfl | rfl | rfl
            · simp only [Option.some.injEq] at hb; subst hb
              refine ⟨.int k (Nat.land m n : Nat), ?_, by simp [V.rel]⟩
              simp only [Op.intBits]
              rw [BitVec.toNat_and, em, en]
              have : Nat.land m n = m &&& n := rfl
              rw [this, small _ (Nat.lt_of_le_of_lt Nat.and_le_left lm)]; rfl
            · simp only [Option.some.injEq] at hb; subst hb
              refine ⟨.int k (Nat.lor m n : Nat), ?_, by simp [V.rel]⟩
              simp only [Op.intBits]
              rw [BitVec.toNat_or, em, en]
              have : Nat.lor m n = m ||| n := rfl
              rw [this, small _ (by rw [hj] at lm ln ⊢; exact Nat.or_lt_two_pow lm ln)]; rfl
            · simp only [Option.some.injEq] at hb; subst hb
              refine ⟨.int k (Nat.xor m n : Nat), ?_, by simp [V.rel]⟩
              simp only [Op.intBits]
              rw [BitVec.toNat_xor, em, en]
              have : Nat.xor m n = m ^^^ n := rfl
              rw [this, small _ (by rw [hj] at lm ln ⊢; exact Nat.xor_lt_two_pow lm ln)]; rfl
            · simp only [Option.some.injEq] at hb; subst hb
              refine ⟨.int k (Nat.xor m (Nat.land m n) : Nat), ?_, by simp [V.rel]⟩
              simp only [Op.intBits]
              have e : (BitVec.ofInt k.bits (m : Int) &&& ~~~ BitVec.ofInt k.bits (n : Int)).toNat = m ^^^ (m &&& n) := by
                have : BitVec.ofInt k.bits (m : Int) &&& ~~~ BitVec.ofInt k.bits (n : Int) = BitVec.ofInt k.bits (m : Int) ^^^ (BitVec.ofInt k.bits (m : Int) &&& BitVec.ofInt k.bits (n : Int)) := by
                  apply BitVec.eq_of_getLsbD_eq
                  intro i hi
                  simp only [BitVec.getLsbD_and, BitVec.getLsbD_not, BitVec.getLsbD_xor, hi, decide_true, Bool.true_and]
                  cases (BitVec.ofInt k.bits (m : Int)).getLsbD i <;> cases (BitVec.ofInt k.bits (n : Int)).getLsbD i <;> rfl
                rw [this, BitVec.toNat_xor, BitVec.toNat_and, em, en]
              rw [e]
              have e3 : Nat.xor m (Nat.land m n) = m ^^^ (m &&& n) := rfl
              rw [e3, small _ (by
                have l3 : m &&& n < 2 ^ j := by rw [← hj]; exact Nat.lt_of_le_of_lt Nat.and_le_left lm
                rw [hj] at lm ⊢; exact Nat.xor_lt_two_pow lm l3)]; rfl
  cases op
  case add => simp only [intBin, Option.some.injEq] at h; subst h; exact ⟨.int k (k.wrap (a + b)), by simp [binOp, Op.intArith, run_ofPure], by simp [V.rel, wr_eq], fun _ => rfl⟩
  case sub => simp only [intBin, Option.some.injEq] at h; subst h; exact ⟨.int k (k.wrap (a - b)), by simp [binOp, Op.intArith, run_ofPure], by simp [V.rel, wr_eq], fun _ => rfl⟩
  case mul => simp only [intBin, Option.some.injEq] at h; subst h; exact ⟨.int k (k.wrap (a * b)), by simp [binOp, Op.intArith, run_ofPure], by simp [V.rel, wr_eq], fun _ => rfl⟩
  case quo =>
    simp only [intBin, ieq_eq] at h
    cases hb : (b == 0) with
    | true => simp [hb] at h
    | false =>
      simp only [hb, Option.some.injEq] at h; subst h
      have : b ≠ 0 := by simpa using hb
      exact ⟨.int k (k.wrap (a.tdiv b)), by simp [binOp, Op.intDiv, this, run_ofPure], by simp [V.rel, wr_eq], fun _ => rfl⟩
  case rem =>
    simp only [intBin, ieq_eq] at h
    cases hb : (b == 0) with
    | true => simp [hb] at h
    | false =>
      simp only [hb, Option.some.injEq] at h; subst h
      have : b ≠ 0 := by simpa using hb
      exact ⟨.int k (a.tmod b), by simp [binOp, Op.intDiv, this, run_ofPure], by simp [V.rel], fun _ => rfl⟩
  case eql => simp only [intBin, Option.some.injEq] at h; subst h; exact ⟨.bool (a == b), by simp [binOp, Op.intCmp, run_ofPure], by simp [V.rel, ieq_eq], fun _ => rfl⟩
  case neq => simp only [intBin, Option.some.injEq] at h; subst h; exact ⟨.bool (a != b), by simp [binOp, Op.intCmp, run_ofPure], by simp [V.rel, ieq_eq, bne], fun _ => rfl⟩
  case lss => simp only [intBin, Option.some.injEq] at h; subst h; exact ⟨.bool (decide (a < b)), by simp [binOp, Op.intCmp, run_ofPure], by simp [V.rel, ilt_eq], fun _ => rfl⟩
  case leq => simp only [intBin, Option.some.injEq] at h; subst h; exact ⟨.bool (decide (a ≤ b)), by simp [binOp, Op.intCmp, run_ofPure], by simp only [V.rel, ilt_eq]; congr 1; rw [Bool.eq_iff_iff]; simp, fun _ => rfl⟩
  case gtr => simp only [intBin, Option.some.injEq] at h; subst h; exact ⟨.bool (decide (a > b)), by simp [binOp, Op.intCmp, run_ofPure], by simp [V.rel, ilt_eq], fun _ => rfl⟩
  case geq => simp only [intBin, Option.some.injEq] at h; subst h; exact ⟨.bool (decide (a ≥ b)), by simp [binOp, Op.intCmp, run_ofPure], by simp only [V.rel, ilt_eq]; congr 1; rw [Bool.eq_iff_iff]; simp, fun _ => rfl⟩
  case shl => simp [intBin] at h
  case shr => simp [intBin] at h
  case and => obtain ⟨x, h1, h2⟩ := bits .and (by simp) h; exact ⟨x, by simpa [binOp] using h1, h2, fun _ => rfl⟩
  case or => obtain ⟨x, h1, h2⟩ := bits .or (by simp) h; exact ⟨x, by simpa [binOp] using h1, h2, fun _ => rfl⟩
  case xor => obtain ⟨x, h1, h2⟩ := bits .xor (by simp) h; exact ⟨x, by simpa [binOp] using h1, h2, fun _ => rfl⟩
  case andNot => obtain ⟨x, h1, h2⟩ := bits .andNot (by simp) h; exact ⟨x, by simpa [binOp] using h1, h2, fun _ => rfl⟩
end
end Go.Ev
