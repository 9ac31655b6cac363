/-
  A verified evaluator, part 6: strings, shifts, comparisons; aggregates; reads and stores.
-/
import Derived.Test.YtilgladlepnanaaGreatDoorEv5
import Derived.WideShapes

namespace Go.Ev
noncomputable section
open Go

theorem natsLess_eq : ∀ (x y : List UInt8), natsLess (x.map UInt8.toNat) (y.map UInt8.toNat) = Op.bytesLess x y
  | [], [] => rfl
  | [], _ :: _ => rfl
  | _ :: _, [] => rfl
  | a :: x, b :: y => by
    show (match Nat.blt a.toNat b.toNat with | true => true | false => (match Nat.beq a.toNat b.toNat with | true => natsLess (x.map UInt8.toNat) (y.map UInt8.toNat) | false => false)) = _
    rw [natsLess_eq x y, Op.bytesLess]
    have h1 : Nat.blt a.toNat b.toNat = decide (a < b) := by rw [Bool.eq_iff_iff]; simp [Nat.blt_eq, UInt8.lt_iff_toNat_lt]
    have h2 : Nat.beq a.toNat b.toNat = (a == b) := by rw [Bool.eq_iff_iff]; simp [UInt8.toNat_inj]
    rw [h1, h2]
    cases decide (a < b) <;> cases (a == b) <;> rfl
theorem map_toNat_inj : ∀ {x y : List UInt8}, x.map UInt8.toNat = y.map UInt8.toNat → x = y
  | [], [], _ => rfl
  | [], _ :: _, h => by simp at h
  | _ :: _, [], h => by simp at h
  | a :: x, b :: y, h => by
    simp at h
    rw [map_toNat_inj (x := x) (y := y) h.2, UInt8.toNat_inj.1 h.1]
theorem natsEq_map (x y : List UInt8) : natsEq (x.map UInt8.toNat) (y.map UInt8.toNat) = (x == y) := by
  rw [natsEq_eq, Bool.eq_iff_iff]
  simp only [beq_iff_eq]
  exact ⟨map_toNat_inj, fun h => by rw [h]⟩
theorem bytesLess_total : ∀ (x y : List UInt8), (Op.bytesLess x y || (x == y)) = !(Op.bytesLess y x)
  | [], [] => rfl
  | [], _ :: _ => rfl
  | _ :: _, [] => rfl
  | a :: x, b :: y => by
    simp only [Op.bytesLess, List.cons_beq_cons]
    have ih := bytesLess_total x y
    rcases Nat.lt_trichotomy a.toNat b.toNat with h | h | h
    · have h1 : a < b := by rwa [UInt8.lt_iff_toNat_lt]
      have h2 : ¬ b < a := by rw [UInt8.lt_iff_toNat_lt]; omega
      have h3 : (b == a) = false := by simp [← UInt8.toNat_inj]; omega
      simp [h1, h2, h3]
    · have e : a = b := UInt8.toNat_inj.1 h
      subst e
      simp [ih]
    · have h1 : ¬ a < b := by rw [UInt8.lt_iff_toNat_lt]; omega
      have h2 : b < a := by rwa [UInt8.lt_iff_toNat_lt]
      have h3 : (a == b) = false := by simp [← UInt8.toNat_inj]; omega
      simp [h1, h2, h3]
theorem bytes_beq (a b : ByteArray) : (a == b) = (a.data.toList == b.data.toList) := by
  show (a.data == b.data) = _
  rw [Bool.eq_iff_iff]
  simp

theorem strBin_ok {P : Program} {w : World} {ι : Emb} {op : BinOp} {a b : ByteArray} {v : V}
    (h : strBin op (a.data.toList.map UInt8.toNat) (b.data.toList.map UInt8.toNat) = some v) (t : TypeId) :
    ∃ x, (binOp op t (.string a) (.string b)).run P w = .ok x w ∧ V.rel ι v x := by
  have eb : ∀ op', binOp op' t (.string a) (.string b) = Op.stringOp op' a b := fun op' => by cases op' <;> rfl
  rw [eb]
  unfold Op.stringOp
  simp only [ByteArray.toList_eq]
  cases op <;> simp only [strBin, natsEq_map, natsLess_eq] at h
  case add =>
    cases hb : Nat.ble (len (a.data.toList.map UInt8.toNat) + len (b.data.toList.map UInt8.toNat)) 1073741824 with
    | false => simp [hb] at h
    | true =>
    simp only [hb, Option.some.injEq] at h; subst h
    have hs := ble_le hb
    have hle : ¬ (((a.size + b.size : Nat) : Int) > IntKind.i64.max) := by
      have h1 : a.size = a.data.size := rfl
      have h2 : b.size = b.data.size := rfl
      simp [len_eq] at hs
      simp [IntKind.max, IntKind.bits, IntKind.signed]; omega
    refine ⟨.string (a ++ b), by rw [if_neg hle]; rfl, ?_⟩
    simp only [V.rel]
    refine ⟨a ++ b, rfl, ?_⟩
    rw [app_eq]; simp
  case eql => simp only [Option.some.injEq] at h; subst h; exact ⟨_, rfl, by simp only [V.rel]⟩
  case neq => simp only [Option.some.injEq] at h; subst h; exact ⟨_, rfl, by simp [V.rel]⟩
  case lss => simp only [Option.some.injEq] at h; subst h; exact ⟨_, rfl, by simp [V.rel]⟩
  case leq => simp only [Option.some.injEq] at h; subst h; exact ⟨_, rfl, by simp only [V.rel]; rw [bytesLess_total]⟩
  case gtr => simp only [Option.some.injEq] at h; subst h; exact ⟨_, rfl, by simp only [V.rel]; rw [bytesLess_total]; simp⟩
  case geq => simp only [Option.some.injEq] at h; subst h; exact ⟨_, rfl, by simp [V.rel]⟩
  all_goals simp at h

theorem shift_ok {P : Program} {w : World} {ι : Emb} {left : Bool} {k j : IntKind} {a b : Int} {v : V} (h : shiftOf left k a b = some v) (t : TypeId) :
    ∃ x, (binOp (if left then .shl else .shr) t (.int k a) (.int j b)).run P w = .ok x w ∧ V.rel ι v x := by
  unfold shiftOf at h
  cases hb : natOf b with
  | none => simp [hb] at h
  | some n =>
    have e := natOf_some hb
    subst e
    simp only [hb] at h
    cases hn : Nat.ble n 64 with
    | false => simp [hn] at h
    | true =>
      simp only [hn] at h
      cases left with
      | true =>
        simp only [Option.some.injEq] at h; subst h
        refine ⟨.int k (k.wrap (a * 2 ^ (min n k.bits))), ?_, ?_⟩
        · have hn0 : ¬ ((n : Int) < 0) := by omega
          simp [binOp, Op.shift, run_ofPure, hn0]
        · simp [V.rel, wr_eq]
      | false =>
        simp only [Option.some.injEq] at h; subst h
        refine ⟨.int k (a.fdiv (2 ^ (min n k.bits))), ?_, ?_⟩
        · have hn0 : ¬ ((n : Int) < 0) := by omega
          simp [binOp, Op.shift, run_ofPure, hn0]
        · simp [V.rel]
theorem unOf_ok {P : Program} {w : World} {ι : Emb} {op : UnOp} {u v : V} {x : Value} (h : unOf op u = some v) (hr : V.rel ι u x) :
    ∃ y, (Op.unary op x).run P w = .ok y w ∧ V.rel ι v y := by
  cases op <;> cases u <;> simp [unOf] at h
  case neg.int k n =>
    subst h; simp only [V.rel] at hr; subst hr
    exact ⟨.int k (k.wrap (0 - n)), by simp [Op.unary, Op.intArith, run_ofPure], by simp [V.rel, wr_eq]⟩
  case not.bool b =>
    subst h; simp only [V.rel] at hr; subst hr
    exact ⟨.bool (!b), by simp [Op.unary, run_ofPure], by simp [V.rel]⟩

/- comparing -/
def BK.fits (b : BK) (d : TypeDesc) (P : Program) : Prop :=
  match b, d with
  | .int, .int _ => True
  | .str, .string => True
  | .bool, .bool => True
  | .ptr, .pointer e => ∃ n, sizeT P e = some (n + 1)
  | .sl, .slice _ => True
  | .mp, .map _ _ => True
  | .fn, .func _ _ _ => True
  | .ifc, .interface _ => True
  | _, _ => False
theorem offIv_ok {c lo hi : Int} {st : Nat} (h : offIv c lo hi st = true) (j : Nat) (hj : lo + (j : Int) * (st : Int) ≤ hi) : lo + (j : Int) * (st : Int) ≠ c := by
  have hnn : 0 ≤ (j : Int) * (st : Int) := Int.mul_nonneg (Int.natCast_nonneg _) (Int.natCast_nonneg _)
  unfold offIv at h
  rw [ilt_eq, ilt_eq] at h
  by_cases c1 : c < lo
  · omega
  · by_cases c2 : hi < c
    · omega
    · simp only [decide_eq_false c1, decide_eq_false c2] at h
      cases hd : natOf (c - lo) with
      | none => simp [hd] at h
      | some d =>
        simp only [hd] at h
        have e1 := natOf_some hd
        intro e
        have e2 : (d : Int) = ((j * st : Nat) : Int) := by rw [Int.natCast_mul]; omega
        have e3 : d = j * st := by exact_mod_cast e2
        subst e3
        have : Nat.beq (Nat.mod (j * st) st) 0 = true := by
          have e4 : Nat.mod (j * st) st = 0 := Nat.mul_mod_left j st
          rw [e4]; rfl
        rw [this] at h; cases h
/-- two integers, equal or not -/
theorem intEq_ok {ι : Emb} {u v : V} {x y : Value} {c : Bool} (h : intEq u v = some c) (hx : V.rel ι u x) (hy : V.rel ι v y) : ∃ k a b, x = .int k a ∧ y = .int k b ∧ (a == b) = c := by
  cases u <;> simp only [intEq] at h <;> try (cases h; done)
  case int k a =>
    cases v <;> simp only at h <;> try (cases h; done)
    case int j e =>
      cases hk : keq k j with
      | false => simp [hk] at h
      | true =>
        simp [hk, ieq_eq] at h
        have := (keq_iff k j).1 hk
        subst this; subst h
        simp only [V.rel] at hx hy; subst hx; subst hy
        exact ⟨k, a, e, rfl, rfl, rfl⟩
    case iv j lo hi st =>
      simp only [V.rel] at hx hy
      obtain ⟨q, hy, h1⟩ := hy
      subst hx; subst hy
      cases hk : keq j k with
      | false => simp [hk] at h
      | true =>
        have := (keq_iff j k).1 hk
        subst this
        refine ⟨j, a, _, rfl, rfl, ?_⟩
        cases ho : offIv a lo hi st with
        | false => simp [hk, ho] at h
        | true =>
          simp [hk, ho] at h; subst h
          have := offIv_ok ho q h1
          simpa using fun e => this e.symm
    case sym i j lo hi =>
      simp only [V.rel] at hx hy
      obtain ⟨hy, h1, h2⟩ := hy
      subst hx; subst hy
      cases hk : keq j k with
      | false => simp [hk] at h
      | true =>
        have := (keq_iff j k).1 hk
        subst this
        refine ⟨j, a, ι.sym i, rfl, rfl, ?_⟩
        rw [ilt_eq, ilt_eq] at h
        by_cases c1 : a < lo
        · simp [hk, c1] at h; subst h
          simp; omega
        · by_cases c2 : hi < a
          · simp [hk, c1, c2] at h; subst h
            simp; omega
          · simp [hk, c1, c2] at h
  case iv k lo hi st =>
    simp only [V.rel] at hx
    obtain ⟨q, hx, h1⟩ := hx
    subst hx
    cases v <;> simp only at h <;> try (cases h; done)
    case int j a =>
      simp only [V.rel] at hy
      subst hy
      cases hk : keq k j with
      | false => simp [hk] at h
      | true =>
        have := (keq_iff k j).1 hk
        subst this
        refine ⟨k, _, a, rfl, rfl, ?_⟩
        cases ho : offIv a lo hi st with
        | false => simp [hk, ho] at h
        | true =>
          simp [hk, ho] at h; subst h
          have := offIv_ok ho q h1
          simpa using this
  case sym i k lo hi =>
    simp only [V.rel] at hx
    obtain ⟨hx, h1, h2⟩ := hx
    subst hx
    cases v <;> simp only at h <;> try (cases h; done)
    case int j a =>
      simp only [V.rel] at hy
      subst hy
      cases hk : keq k j with
      | false => simp [hk] at h
      | true =>
        have := (keq_iff k j).1 hk
        subst this
        refine ⟨k, ι.sym i, a, rfl, rfl, ?_⟩
        rw [ilt_eq, ilt_eq] at h
        by_cases c1 : a < lo
        · simp [hk, c1] at h; subst h
          simp; omega
        · by_cases c2 : hi < a
          · simp [hk, c1, c2] at h; subst h
            simp; omega
          · simp [hk, c1, c2] at h
    case sym j q lo' hi' =>
      simp only [V.rel] at hy
      obtain ⟨hy, _, _⟩ := hy
      subst hy
      cases hi' : Nat.beq i j with
      | false => simp [hi'] at h
      | true =>
        cases hk : keq k q with
        | false => simp [hi', hk] at h
        | true =>
          simp [hi', hk] at h; subst h
          have := beq_eq hi'; subst this
          have := (keq_iff k q).1 hk; subst this
          exact ⟨k, _, _, rfl, rfl, by simp⟩
theorem ivOf_ok {ι : Emb} {u : V} {x : Value} {k : IntKind} {a b : Int} (h : ivOf u = some (k, a, b)) (hx : V.rel ι u x) : ∃ m, x = .int k m ∧ a ≤ m ∧ m ≤ b := by
  cases u <;> simp [ivOf] at h
  · obtain ⟨rfl, rfl, rfl⟩ := h
    simp only [V.rel] at hx
    exact ⟨_, hx, Int.le_refl _, Int.le_refl _⟩
  · obtain ⟨rfl, rfl, rfl⟩ := h
    simp only [V.rel] at hx
    exact ⟨_, hx.1, hx.2.1, hx.2.2⟩
  · rename_i st
    obtain ⟨rfl, rfl, rfl⟩ := h
    simp only [V.rel] at hx
    obtain ⟨j, hx, h1⟩ := hx
    have hnn : 0 ≤ (j : Int) * (st : Int) := Int.mul_nonneg (Int.natCast_nonneg _) (Int.natCast_nonneg _)
    exact ⟨_, hx, by omega, h1⟩
theorem symLess_ok {ι : Emb} {u u' : V} {k : IntKind} {a b c d m n : Int} {t : Bool} (h : symLess u u' a b c d = some t) (hx : V.rel ι u (.int k m)) (hy : V.rel ι u' (.int k n))
    (hl : ivLess a b c d = some t → decide (m < n) = t) : decide (m < n) = t := by
  unfold symLess at h
  cases hs : sameSym u u' with
  | false => simp only [hs] at h; exact hl h
  | true =>
    simp [hs] at h; subst h
    cases u <;> simp [sameSym] at hs
    cases u' <;> simp at hs
    simp only [V.rel] at hx hy
    have e1 := hx.1
    have e2 := hy.1
    simp only [Value.int.injEq] at e1 e2
    rw [e1.2, e2.2, hs]; simp
theorem stepsOf_ok {ι : Emb} {u : V} {k : IntKind} {m lo hi : Int} {st : Nat} (h : stepsOf u = some (lo, hi, st)) (hx : V.rel ι u (.int k m)) : ∃ j : Nat, m = lo + (j : Int) * (st : Int) ∧ m ≤ hi := by
  cases u <;> simp [stepsOf] at h
  · rename_i l0 h0
    obtain ⟨rfl, rfl, rfl⟩ := h
    simp only [V.rel, Value.int.injEq] at hx
    obtain ⟨⟨_, e⟩, h1, h2⟩ := hx
    exact ⟨(m - l0).toNat, by omega, by omega⟩
  · obtain ⟨rfl, rfl, rfl⟩ := h
    simp only [V.rel, Value.int.injEq] at hx
    obtain ⟨j, ⟨_, e⟩, h1⟩ := hx
    exact ⟨j, e, by omega⟩
theorem constOf_ok {ι : Emb} {u : V} {k : IntKind} {m c : Int} (h : constOf u = some c) (hx : V.rel ι u (.int k m)) : m = c := by
  cases u <;> simp [constOf] at h
  subst h
  simp only [V.rel, Value.int.injEq] at hx
  exact hx.2
theorem wrap_in (k : IntKind) (n : Int) : k.min ≤ k.wrap n ∧ k.wrap n ≤ k.max := by
  cases k <;> simp only [IntKind.wrap, IntKind.bits, IntKind.signed, IntKind.min, IntKind.max] <;> simp <;> (try split) <;> omega
theorem fits_ok {k : IntKind} {a b m : Int} (h1 : fits k a = true) (h2 : fits k b = true) (l1 : a ≤ m) (l2 : m ≤ b) : k.wrap m = m := by
  unfold fits at h1 h2
  rw [wr_eq, ieq_eq] at h1 h2
  simp only [beq_iff_eq] at h1 h2
  have w1 := wrap_in k a
  have w2 := wrap_in k b
  rw [h1] at w1
  rw [h2] at w2
  exact wrap_small k m ⟨by omega, by omega⟩
theorem symAdd_ok {ι : Emb} {u u' v : V} {k : IntKind} {m n : Int} (h : symAdd k u u' = some v) (hx : V.rel ι u (.int k m)) (hy : V.rel ι u' (.int k n)) : V.rel ι v (.int k (k.wrap (m + n))) ∧ k.wrap (m + n) = m + n := by
  unfold symAdd at h
  cases h1 : stepsOf u with
  | none => simp [h1] at h
  | some p =>
    obtain ⟨lo, hi, st⟩ := p
    cases h2 : constOf u' with
    | none => simp [h1, h2] at h
    | some c =>
      simp only [h1, h2] at h
      cases f1 : fits k (lo + c) <;> cases f2 : fits k (hi + c) <;> simp [f1, f2] at h
      subst h
      obtain ⟨j, e, hle⟩ := stepsOf_ok h1 hx
      have ec := constOf_ok h2 hy
      subst ec
      have hnn : 0 ≤ (j : Int) * (st : Int) := Int.mul_nonneg (Int.natCast_nonneg _) (Int.natCast_nonneg _)
      have hw := fits_ok (m := m + n) f1 f2 (by omega) (by omega)
      refine ⟨?_, hw⟩
      rw [hw]
      simp only [V.rel]
      exact ⟨j, by congr 1; omega, by omega⟩
theorem symMul_ok {ι : Emb} {u u' v : V} {k : IntKind} {m n : Int} (h : symMul k u u' = some v) (hx : V.rel ι u (.int k m)) (hy : V.rel ι u' (.int k n)) : V.rel ι v (.int k (k.wrap (m * n))) := by
  unfold symMul at h
  cases h1 : stepsOf u with
  | none => simp [h1] at h
  | some p =>
    obtain ⟨lo, hi, st⟩ := p
    cases h2 : constOf u' with
    | none => simp [h1, h2] at h
    | some c =>
      cases c with
      | negSucc c => simp [h1, h2] at h
      | ofNat c =>
        simp only [h1, h2] at h
        cases f1 : fits k (lo * c) <;> cases f2 : fits k (hi * c) <;> simp [f1, f2] at h
        subst h
        obtain ⟨j, e, hle⟩ := stepsOf_ok h1 hx
        have ec := constOf_ok h2 hy
        have ec' : n = (c : Int) := ec
        subst ec'
        have hnn : 0 ≤ (j : Int) * (st : Int) := Int.mul_nonneg (Int.natCast_nonneg _) (Int.natCast_nonneg _)
        have e2 : m * (c : Int) = lo * c + (j : Int) * ((st * c : Nat) : Int) := by
          rw [e, Int.add_mul, Int.natCast_mul, Int.mul_assoc]
        have l1 : lo * (c : Int) ≤ m * c := Int.mul_le_mul_of_nonneg_right (by omega) (Int.natCast_nonneg _)
        have l2 : m * (c : Int) ≤ hi * c := Int.mul_le_mul_of_nonneg_right hle (Int.natCast_nonneg _)
        have hw := fits_ok (m := m * c) f1 f2 l1 l2
        rw [hw]
        simp only [V.rel]
        exact ⟨j, by rw [← e2], by omega⟩
theorem ivLess_ok {a b c d m n : Int} {t : Bool} (h : ivLess a b c d = some t) (h1 : a ≤ m) (h2 : m ≤ b) (h3 : c ≤ n) (h4 : n ≤ d) : decide (m < n) = t := by
  unfold ivLess at h
  rw [ilt_eq, ilt_eq] at h
  by_cases c1 : b < c
  · simp [c1] at h; subst h; simp; omega
  · by_cases c2 : a < d
    · simp [c1, c2] at h
    · simp [c1, c2] at h; subst h; simp; omega
theorem symBin_ok {P : Program} {w : World} {ι : Emb} {op : BinOp} {u u' v : V} {x y : Value} (h : symBin op u u' = some v) (hx : V.rel ι u x) (hy : V.rel ι u' y) (t : TypeId) :
    ∃ z k a, (binOp op t x y).run P w = .ok z w ∧ V.rel ι v z ∧ x = .int k a := by
  unfold symBin at h
  cases h1 : ivOf u with
  | none => simp [h1] at h
  | some p =>
    obtain ⟨k, a, b⟩ := p
    cases h2 : ivOf u' with
    | none => simp [h1, h2] at h
    | some q =>
      obtain ⟨j, c, d⟩ := q
      simp only [h1, h2] at h
      cases hk : keq k j with
      | false => simp [hk] at h
      | true =>
        have := (keq_iff k j).1 hk
        subst this
        simp only [hk] at h
        obtain ⟨m, rfl, l1, l2⟩ := ivOf_ok h1 hx
        obtain ⟨n, rfl, l3, l4⟩ := ivOf_ok h2 hy
        have done : ∀ (u : V), intBin op k m n = some u → u = v → ∃ z k' a', (binOp op t (.int k m) (.int k n)).run P w = .ok z w ∧ V.rel ι v z ∧ Value.int k m = .int k' a' := by
          intro u hu e
          subst e
          obtain ⟨z, hz, hv, ht⟩ := intBin_ok (P := P) (w := w) (ι := ι) hu
          exact ⟨z, k, m, by rw [ht t]; exact hz, hv, rfl⟩
        have yes : ∀ {o : Option Bool} {v : V}, yesO o = some v → ∃ b, o = some b ∧ v = .bool b := fun {o v} h => by
          cases o with
          | none => simp [yesO] at h
          | some b => simp [yesO] at h; exact ⟨b, rfl, h.symm⟩
        have no : ∀ {o : Option Bool} {v : V}, notO o = some v → ∃ b, o = some b ∧ v = .bool (!b) := fun {o v} h => by
          cases o with
          | none => simp [notO] at h
          | some b => simp [notO] at h; exact ⟨b, rfl, h.symm⟩
        cases op <;> simp only at h <;> try (cases h; done)
        case add =>
          have key : V.rel ι v (.int k (k.wrap (m + n))) := by
            cases hs : symAdd k u u' with
            | some v' => simp [hs] at h; subst h; exact (symAdd_ok hs hx hy).1
            | none => simp only [hs] at h; rw [Int.add_comm]; exact (symAdd_ok h hy hx).1
          obtain ⟨z, hz, hv, ht⟩ := intBin_ok (P := P) (w := w) (ι := ι) (op := .add) (k := k) (a := m) (b := n) rfl
          simp only [wr_eq, V.rel] at hv
          subst hv
          exact ⟨_, k, m, by rw [ht t]; exact hz, key, rfl⟩
        case mul =>
          have key : V.rel ι v (.int k (k.wrap (m * n))) := by
            cases hs : symMul k u u' with
            | some v' => simp [hs] at h; subst h; exact symMul_ok hs hx hy
            | none => simp only [hs] at h; rw [Int.mul_comm]; exact symMul_ok h hy hx
          obtain ⟨z, hz, hv, ht⟩ := intBin_ok (P := P) (w := w) (ι := ι) (op := .mul) (k := k) (a := m) (b := n) rfl
          simp only [wr_eq, V.rel] at hv
          subst hv
          exact ⟨_, k, m, by rw [ht t]; exact hz, key, rfl⟩
        case eql =>
          obtain ⟨b', e1, rfl⟩ := yes h
          obtain ⟨k', a', c', e2, e3, e4⟩ := intEq_ok e1 hx hy
          cases e2; cases e3
          exact done _ rfl (by simp only [intBin, ieq_eq]; rw [e4])
        case neq =>
          obtain ⟨b', e1, rfl⟩ := no h
          obtain ⟨k', a', c', e2, e3, e4⟩ := intEq_ok e1 hx hy
          cases e2; cases e3
          exact done _ rfl (by simp only [ieq_eq]; rw [e4])
        case lss =>
          obtain ⟨b', e1, rfl⟩ := yes h
          exact done _ rfl (by rw [ilt_eq, symLess_ok e1 hx hy fun e2 => ivLess_ok e2 l1 l2 l3 l4])
        case geq =>
          obtain ⟨b', e1, rfl⟩ := no h
          exact done _ rfl (by rw [ilt_eq, symLess_ok e1 hx hy fun e2 => ivLess_ok e2 l1 l2 l3 l4])
        case gtr =>
          obtain ⟨b', e1, rfl⟩ := yes h
          exact done _ rfl (by rw [ilt_eq, symLess_ok e1 hy hx fun e2 => ivLess_ok e2 l3 l4 l1 l2])
        case leq =>
          obtain ⟨b', e1, rfl⟩ := no h
          exact done _ rfl (by rw [ilt_eq, symLess_ok e1 hy hx fun e2 => ivLess_ok e2 l3 l4 l1 l2])
theorem baseEq_ok {P : Program} {w : World} {ι : Emb} {b : BK} {u v : V} {x y : Value} {c : Bool} (h : baseEq b u v = some c) (hx : V.rel ι u x) (hy : V.rel ι v y)
    {t : TypeId} {d : TypeDesc} (hd : P.underlying t = some d) (hf : b.fits d P) (n : Nat) : (Op.equalIn (n + 1) t x y).run P w = .ok c w := by
  have hu := fun w => run_underlying hd w
  cases b with
  | int =>
    cases d <;> simp [BK.fits] at hf
    have h' : intEq u v = some c := h
    obtain ⟨k, a, e, rfl, rfl, rfl⟩ := intEq_ok h' hx hy
    unfold Op.equalIn
    rw [run_ok_bind (hu w)]
    simp [run_ofPure]
  | str =>
    cases d <;> simp [BK.fits] at hf
    cases u <;> simp [baseEq] at h
    cases v <;> simp at h
    simp only [V.rel] at hx hy
    obtain ⟨p, rfl, rfl⟩ := hx
    obtain ⟨q, rfl, rfl⟩ := hy
    rw [natsEq_map] at h
    subst h
    unfold Op.equalIn
    rw [run_ok_bind (hu w)]
    simp only [run_ofPure, bytes_beq]
  | bool =>
    cases d <;> simp [BK.fits] at hf
    cases u <;> simp [baseEq] at h
    cases v <;> simp at h
    simp only [V.rel] at hx hy; subst hx; subst hy
    unfold Op.equalIn
    rw [run_ok_bind (hu w)]
    subst h
    rename_i a e
    cases a <;> cases e <;> rfl
  | ptr =>
    cases d <;> simp [BK.fits] at hf
    obtain ⟨m, hm⟩ := hf
    cases u <;> simp [baseEq] at h
    case nilp =>
      cases v <;> simp at h <;> simp only [V.rel] at hx hy <;> subst hx <;> subst h
      case nilp => subst hy; unfold Op.equalIn; rw [run_ok_bind (hu w)]; rfl
      case ptr => obtain ⟨q, s, _, rfl⟩ := hy; unfold Op.equalIn; rw [run_ok_bind (hu w)]; rfl
      case gptr => subst hy; unfold Op.equalIn; rw [run_ok_bind (hu w)]; rfl
    case ptr p o =>
      cases v <;> simp at h <;> simp only [V.rel] at hx hy
      case nilp => obtain ⟨q, s, _, rfl⟩ := hx; subst hy; subst h; unfold Op.equalIn; rw [run_ok_bind (hu w)]; rfl
      case ptr q r =>
        cases hb : p.beq q with
        | false => simp [hb] at h
        | true =>
        simp only [hb, Option.some.injEq] at h
        have := (Pth.beq_iff p q).1 hb
        subst this
        obtain ⟨b1, s1, h1, rfl⟩ := hx
        obtain ⟨b2, s2, h2, rfl⟩ := hy
        rw [h1] at h2; cases h2
        unfold Op.equalIn
        rw [run_ok_bind (hu w)]
        simp only []
        rw [run_ok_bind (run_sizeOf hm)]
        simp only [ne_eq, Nat.add_eq_zero_iff, Nat.succ_ne_self, and_false, not_false_eq_true, if_true]
        unfold sameAddr
        simp only [beq_self_eq_true, if_true]
        rw [run_ofPure]
        congr 1
        rw [← h, Bool.eq_iff_iff]
        simp
    case gptr =>
      cases v <;> simp at h <;> simp only [V.rel] at hx hy
      case nilp => subst hx; subst hy; subst h; unfold Op.equalIn; rw [run_ok_bind (hu w)]; rfl
  | sl =>
    cases d <;> simp [BK.fits] at hf
    cases u <;> simp [baseEq] at h
    case nilsl =>
      cases v <;> simp at h <;> simp only [V.rel] at hx hy <;> subst hx <;> subst h
      case nilsl => subst hy; unfold Op.equalIn; rw [run_ok_bind (hu w)]; rfl
      case sl => obtain ⟨q, s, c', _, rfl, _⟩ := hy; unfold Op.equalIn; rw [run_ok_bind (hu w)]; rfl
      case sl0 => obtain ⟨a, c', rfl, _⟩ := hy; unfold Op.equalIn; rw [run_ok_bind (hu w)]; rfl
    case sl =>
      cases v <;> simp at h <;> simp only [V.rel] at hx hy
      case nilsl => obtain ⟨q, s, c', _, rfl, _⟩ := hx; subst hy; subst h; unfold Op.equalIn; rw [run_ok_bind (hu w)]; rfl
    case sl0 =>
      cases v <;> simp at h <;> simp only [V.rel] at hx hy
      case nilsl => obtain ⟨a, c', rfl, _⟩ := hx; subst hy; subst h; unfold Op.equalIn; rw [run_ok_bind (hu w)]; rfl
  | mp =>
    cases d <;> simp [BK.fits] at hf
    cases u <;> simp [baseEq] at h
    case nilmp =>
      cases v <;> simp at h <;> simp only [V.rel] at hx hy <;> subst hx <;> subst h
      case nilmp => subst hy; unfold Op.equalIn; rw [run_ok_bind (hu w)]; rfl
      case mp => obtain ⟨q, _, rfl⟩ := hy; unfold Op.equalIn; rw [run_ok_bind (hu w)]; rfl
    case mp =>
      cases v <;> simp at h <;> simp only [V.rel] at hx hy
      case nilmp => obtain ⟨q, _, rfl⟩ := hx; subst hy; subst h; unfold Op.equalIn; rw [run_ok_bind (hu w)]; rfl
  | fn =>
    cases d <;> simp [BK.fits] at hf
    cases u <;> simp [baseEq] at h
    case nilfn =>
      cases v <;> simp at h <;> simp only [V.rel] at hx hy <;> subst hx <;> subst h
      case nilfn => subst hy; unfold Op.equalIn; rw [run_ok_bind (hu w)]; rfl
      case fn => obtain ⟨a', c', rfl, _⟩ := hy; unfold Op.equalIn; rw [run_ok_bind (hu w)]; rfl
    case fn =>
      cases v <;> simp at h <;> simp only [V.rel] at hx hy
      case nilfn => obtain ⟨a', c', rfl, _⟩ := hx; subst hy; subst h; unfold Op.equalIn; rw [run_ok_bind (hu w)]; rfl
  | ifc =>
    cases d <;> simp [BK.fits] at hf
    cases u <;> simp [baseEq] at h
    case nilif =>
      cases v <;> simp at h <;> simp only [V.rel] at hx hy <;> subst hx <;> subst h
      case nilif => subst hy; unfold Op.equalIn; rw [run_ok_bind (hu w)]; rfl
      case ifc => obtain ⟨y', rfl, _⟩ := hy; unfold Op.equalIn; rw [run_ok_bind (hu w)]; rfl
    case ifc =>
      cases v <;> simp at h <;> simp only [V.rel] at hx hy
      case nilif => obtain ⟨y', rfl, _⟩ := hx; subst hy; subst h; unfold Op.equalIn; rw [run_ok_bind (hu w)]; rfl
end
end Go.Ev
