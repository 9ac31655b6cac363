/-
  A verified evaluator, part 3: plain facts on its lists and trees; how its values stand for the model's.
-/
import Derived.Test.YtilgladlepnanaaGreatDoorEv2
import Derived.RangeFuncRecord
import Derived.Orders
import Derived.OrdersIn
import Derived.WalkKit
namespace Go.Ev
noncomputable section
open Go

/- lists -/
theorem nth_eq {α : Type} : ∀ (l : List α) (n : Nat), nth l n = l[n]?
  | [], _ => by simp [nth]
  | x :: t, 0 => rfl
  | x :: t, n + 1 => by
    have := nth_eq t n
    simp only [List.getElem?_cons_succ]
    exact this
theorem app_eq {α : Type} : ∀ (l m : List α), app l m = l ++ m
  | [], _ => rfl
  | x :: t, m => by show x :: app t m = _; rw [app_eq t m]; rfl
theorem len_eq {α : Type} : ∀ (l : List α), len l = l.length
  | [] => rfl
  | x :: t => by show Nat.succ (len t) = _; rw [len_eq t]; rfl
theorem takeN_eq {α : Type} : ∀ (n : Nat) (l : List α), takeN n l = if n ≤ l.length then some (l.take n) else none
  | 0, l => by show some [] = _; simp
  | n + 1, [] => by show none = _; simp
  | n + 1, x :: t => by
    have ih := takeN_eq n t
    show (match takeN n t with | some r => some (x :: r) | none => none) = _
    rw [ih]
    by_cases h : n ≤ t.length <;> simp [h]
theorem takeN_some {α : Type} {n : Nat} {l r : List α} (h : takeN n l = some r) : n ≤ l.length ∧ r = l.take n := by
  rw [takeN_eq] at h
  by_cases hn : n ≤ l.length
  · rw [if_pos hn] at h; exact ⟨hn, (Option.some.inj h).symm⟩
  · rw [if_neg hn] at h; cases h
theorem dropN_eq {α : Type} : ∀ (n : Nat) (l : List α), dropN n l = l.drop n
  | 0, l => by show l = _; simp
  | n + 1, [] => by show [] = _; simp
  | n + 1, x :: t => by
    have ih := dropN_eq n t
    show dropN n t = _
    rw [ih]; rfl
theorem overlay_nil {α : Type} (o : Nat) (vs : List α) : overlay ([] : List α) o vs = [] := rfl
theorem overlay_zero_nil {α : Type} (x : α) (t : List α) : overlay (x :: t) 0 [] = x :: t := rfl
theorem overlay_zero_cons {α : Type} (x v : α) (t vs : List α) : overlay (x :: t) 0 (v :: vs) = v :: overlay t 0 vs := rfl
theorem overlay_succ {α : Type} (x : α) (t vs : List α) (o : Nat) : overlay (x :: t) (o + 1) vs = x :: overlay t o vs := rfl
theorem overlay_eq {α : Type} : ∀ (l : List α) (o : Nat) (vs : List α), o + vs.length ≤ l.length → overlay l o vs = l.take o ++ vs ++ l.drop (o + vs.length)
  | [], o, vs, h => by
    have : o = 0 := by simp at h; omega
    have : vs = [] := by cases vs with | nil => rfl | cons => simp at h
    subst this; subst o; rfl
  | x :: t, 0, [], _ => by simp [overlay_zero_nil]
  | x :: t, 0, v :: vs, h => by
    rw [overlay_zero_cons, overlay_eq t 0 vs (by simp at h ⊢; omega)]
    simp
  | x :: t, o + 1, vs, h => by
    rw [overlay_succ, overlay_eq t o vs (by simp at h; omega)]
    simp [Nat.add_right_comm o 1]
theorem overlay_length {α : Type} : ∀ (l : List α) (o : Nat) (vs : List α), (overlay l o vs).length = l.length
  | [], o, vs => rfl
  | x :: t, 0, [] => rfl
  | x :: t, 0, v :: vs => by rw [overlay_zero_cons]; simp [overlay_length t 0 vs]
  | x :: t, o + 1, vs => by rw [overlay_succ]; simp [overlay_length t o vs]
theorem natsEq_eq : ∀ (a b : List Nat), natsEq a b = (a == b)
  | [], [] => rfl
  | [], _ :: _ => rfl
  | _ :: _, [] => rfl
  | x :: a, y :: b => by
    show (match Nat.beq x y with | true => natsEq a b | false => false) = _
    rw [natsEq_eq a b, List.cons_beq_cons]
    have : Nat.beq x y = (x == y) := by rw [Bool.eq_iff_iff]; simp
    rw [this]
    cases x == y <;> rfl
theorem repl_eq {α : Type} : ∀ (n : Nat) (x : List α), repl n x = (List.replicate n x).flatten
  | 0, _ => rfl
  | n + 1, x => by
    show app x (repl n x) = _
    rw [app_eq, repl_eq n x]; rfl

/- names -/
theorem Pth.num_succ : ∀ p : Pth, p.succ.num = p.num + 1
  | .e => rfl
  | .l p => rfl
  | .r p => by
    show 2 * p.succ.num + 1 = 2 * p.num + 2 + 1
    rw [Pth.num_succ p]; omega
theorem num_toPth : ∀ n : Nat, (toPth n).num = n
  | 0 => rfl
  | n + 1 => by
    show ((toPth n).succ).num = _
    rw [Pth.num_succ, num_toPth n]
theorem Pth.num_inj : ∀ {p q : Pth}, p.num = q.num → p = q
  | .e, .e, _ => rfl
  | .e, .l q, h => by have : (Pth.l q).num = 2 * q.num + 1 := rfl; have h0 : Pth.e.num = 0 := rfl; omega
  | .e, .r q, h => by have : (Pth.r q).num = 2 * q.num + 2 := rfl; have h0 : Pth.e.num = 0 := rfl; omega
  | .l p, .e, h => by have : (Pth.l p).num = 2 * p.num + 1 := rfl; have h0 : Pth.e.num = 0 := rfl; omega
  | .l p, .l q, h => by
    have h1 : (Pth.l p).num = 2 * p.num + 1 := rfl
    have h2 : (Pth.l q).num = 2 * q.num + 1 := rfl
    rw [Pth.num_inj (p := p) (q := q) (by omega)]
  | .l p, .r q, h => by
    have h1 : (Pth.l p).num = 2 * p.num + 1 := rfl
    have h2 : (Pth.r q).num = 2 * q.num + 2 := rfl
    omega
  | .r p, .e, h => by have : (Pth.r p).num = 2 * p.num + 2 := rfl; have h0 : Pth.e.num = 0 := rfl; omega
  | .r p, .l q, h => by
    have h1 : (Pth.r p).num = 2 * p.num + 2 := rfl
    have h2 : (Pth.l q).num = 2 * q.num + 1 := rfl
    omega
  | .r p, .r q, h => by
    have h1 : (Pth.r p).num = 2 * p.num + 2 := rfl
    have h2 : (Pth.r q).num = 2 * q.num + 2 := rfl
    rw [Pth.num_inj (p := p) (q := q) (by omega)]
theorem toPth_inj {m n : Nat} (h : toPth m = toPth n) : m = n := by rw [← num_toPth m, ← num_toPth n, h]
theorem Pth.beq_iff : ∀ (p q : Pth), p.beq q = true ↔ p = q
  | .e, .e => by simp [Pth.beq]
  | .e, .l q => by simp [Pth.beq]
  | .e, .r q => by simp [Pth.beq]
  | .l p, .e => by simp [Pth.beq]
  | .l p, .l q => by
    have ih := Pth.beq_iff p q
    show p.beq q = true ↔ _
    simp [ih]
  | .l p, .r q => by simp [Pth.beq]
  | .r p, .e => by simp [Pth.beq]
  | .r p, .l q => by simp [Pth.beq]
  | .r p, .r q => by
    have ih := Pth.beq_iff p q
    show p.beq q = true ↔ _
    simp [ih]
noncomputable instance : DecidableEq Pth := fun p q => if h : p.beq q = true then isTrue ((Pth.beq_iff p q).1 h) else isFalse fun e => h ((Pth.beq_iff p q).2 e)

/- trees -/
section
variable {α : Type}
theorem Tr.get_nil (p : Pth) : Tr.get p (.nil : Tr α) = none := by cases p <;> rfl
theorem Tr.get_set_same : ∀ (p : Pth) (x : α) (t : Tr α), Tr.get p (Tr.set p x t) = some x
  | .e, x, .nil => rfl
  | .e, x, .nd _ _ _ => rfl
  | .l p, x, .nil => by show Tr.get p (Tr.set p x .nil) = _; exact Tr.get_set_same p x _
  | .l p, x, .nd l _ _ => by show Tr.get p (Tr.set p x l) = _; exact Tr.get_set_same p x _
  | .r p, x, .nil => by show Tr.get p (Tr.set p x .nil) = _; exact Tr.get_set_same p x _
  | .r p, x, .nd _ _ r => by show Tr.get p (Tr.set p x r) = _; exact Tr.get_set_same p x _
theorem Tr.get_set_other : ∀ (p q : Pth) (x : α) (t : Tr α), p ≠ q → Tr.get q (Tr.set p x t) = Tr.get q t
  | .e, .e, _, _, h => absurd rfl h
  | .e, .l q, x, .nil, _ => by show Tr.get q .nil = _; rw [Tr.get_nil, Tr.get_nil]
  | .e, .l q, x, .nd _ _ _, _ => rfl
  | .e, .r q, x, .nil, _ => by show Tr.get q .nil = _; rw [Tr.get_nil, Tr.get_nil]
  | .e, .r q, x, .nd _ _ _, _ => rfl
  | .l p, .e, x, .nil, _ => rfl
  | .l p, .e, x, .nd _ _ _, _ => rfl
  | .l p, .l q, x, .nil, h => by
    show Tr.get q (Tr.set p x .nil) = _
    rw [Tr.get_set_other p q x _ (fun e => h (by rw [e])), Tr.get_nil, Tr.get_nil]
  | .l p, .l q, x, .nd l _ _, h => by
    show Tr.get q (Tr.set p x l) = Tr.get q l
    exact Tr.get_set_other p q x _ (fun e => h (by rw [e]))
  | .l p, .r q, x, .nil, _ => by show Tr.get q .nil = _; rw [Tr.get_nil, Tr.get_nil]
  | .l p, .r q, x, .nd _ _ _, _ => rfl
  | .r p, .e, x, .nil, _ => rfl
  | .r p, .e, x, .nd _ _ _, _ => rfl
  | .r p, .l q, x, .nil, _ => by show Tr.get q .nil = _; rw [Tr.get_nil, Tr.get_nil]
  | .r p, .l q, x, .nd _ _ _, _ => rfl
  | .r p, .r q, x, .nil, h => by
    show Tr.get q (Tr.set p x .nil) = _
    rw [Tr.get_set_other p q x _ (fun e => h (by rw [e])), Tr.get_nil, Tr.get_nil]
  | .r p, .r q, x, .nd _ _ r, h => by
    show Tr.get q (Tr.set p x r) = Tr.get q r
    exact Tr.get_set_other p q x _ (fun e => h (by rw [e]))
theorem Tr.get_set (p q : Pth) (x : α) (t : Tr α) : Tr.get q (Tr.set p x t) = if p = q then some x else Tr.get q t := by
  by_cases h : p = q
  · subst h; rw [if_pos rfl, Tr.get_set_same]
  · rw [if_neg h, Tr.get_set_other p q x t h]
end

/- integers -/
theorem ilt_eq : ∀ a b : Int, ilt a b = decide (a < b)
  | .ofNat m, .ofNat n => by
    show Nat.blt m n = _
    rw [Bool.eq_iff_iff]; simp [Nat.blt_eq]
  | .ofNat m, .negSucc n => by
    show false = _
    have : ¬ (Int.ofNat m < Int.negSucc n) := by simp only [Int.ofNat_eq_natCast]; omega
    exact (decide_eq_false this).symm
  | .negSucc m, .ofNat n => by
    show true = _
    have : Int.negSucc m < Int.ofNat n := by simp only [Int.ofNat_eq_natCast]; omega
    exact (decide_eq_true this).symm
  | .negSucc m, .negSucc n => by
    show Nat.blt n m = _
    rw [Bool.eq_iff_iff]; simp [Nat.blt_eq]; omega
theorem ieq_eq : ∀ a b : Int, ieq a b = (a == b)
  | .ofNat m, .ofNat n => by
    show Nat.beq m n = _
    rw [Bool.eq_iff_iff]; simp only [Nat.beq_eq, beq_iff_eq, Int.ofNat_eq_natCast]; omega
  | .ofNat m, .negSucc n => by
    show false = _
    have : (Int.ofNat m == Int.negSucc n) = false := by simp only [beq_eq_false_iff_ne]; intro h; cases h
    rw [this]
  | .negSucc m, .ofNat n => by
    show false = _
    have : (Int.negSucc m == Int.ofNat n) = false := by simp only [beq_eq_false_iff_ne]; intro h; cases h
    rw [this]
  | .negSucc m, .negSucc n => by
    show Nat.beq n m = _
    rw [Bool.eq_iff_iff]; simp; omega
theorem keq_iff (a b : IntKind) : keq a b = true ↔ a = b := by cases a <;> cases b <;> decide
theorem natOf_some {a : Int} {n : Nat} (h : natOf a = some n) : a = (n : Int) := by
  cases a with
  | ofNat m => simp [natOf] at h; subst h; rfl
  | negSucc m => simp [natOf] at h
theorem wrap_small (k : IntKind) (n : Int) (h : k.min ≤ n ∧ n ≤ k.max) : k.wrap n = n := by
  cases k <;> simp only [IntKind.wrap, IntKind.bits, IntKind.signed, IntKind.min, IntKind.max] at * <;> simp at * <;> (try split) <;> omega
theorem blt_lt {m n : Nat} (h : Nat.blt m n = true) : m < n := by rw [Nat.blt_eq] at h; exact h
theorem ble_le {m n : Nat} (h : Nat.ble m n = true) : m ≤ n := Nat.le_of_ble_eq_true h
theorem beq_eq {m n : Nat} (h : Nat.beq m n = true) : m = n := Nat.eq_of_beq_eq_true h
theorem wr_eq (k : IntKind) (n : Int) : wr k n = k.wrap n := by
  cases n with
  | ofNat m =>
    simp only [wr]
    by_cases h : Nat.blt m (IntKindlim k) = true
    · rw [h]
      refine (wrap_small k _ ?_).symm
      have := blt_lt h
      cases k <;> simp only [IntKindlim, IntKind.min, IntKind.max, IntKind.bits, IntKind.signed] at * <;> simp only [Int.ofNat_eq_natCast] <;> simp <;> omega
    · have : Nat.blt m (IntKindlim k) = false := Bool.eq_false_iff.2 h
      rw [this]
  | negSucc m =>
    simp only [wr]
    cases hs : k.signed with
    | false => rfl
    | true =>
      by_cases h : Nat.blt m (IntKindlim k) = true
      · rw [h]
        refine (wrap_small k _ ?_).symm
        have := blt_lt h
        cases k <;> simp only [IntKindlim, IntKind.min, IntKind.max, IntKind.bits, IntKind.signed] at * <;> simp at * <;> omega
      · have : Nat.blt m (IntKindlim k) = false := Bool.eq_false_iff.2 h
        rw [this]

/- values -/
/-- what the names mean: a block of the model's, and where in it the named one begins; how many cells a block has; what the inputs' numbers are -/
structure Emb where
  at' : Pth → Option (Nat × Nat)
  size : Nat → Nat
  sym : Nat → Int
instance : CoeFun Emb (fun _ => Pth → Option (Nat × Nat)) := ⟨Emb.at'⟩
/-- what Around gives: n, or -(n + 1) where n is negative, modulo q -/
def arnd (n : Int) (q : Nat) : Int := (if n < 0 then -(n + 1) else n) % (q : Int)
mutual
/-- the value v stands for x, the blocks' names meaning what ι says: a block of the model's, and where in it the named one begins -/
def V.rel (ι : Emb) : V → Value → Prop
  | .unk, _ => True
  | .bool b, x => x = .bool b
  | .int k n, x => x = .int k n
  | .str s, x => ∃ b : ByteArray, x = .string b ∧ b.data.toList.map UInt8.toNat = s
  | .nilp, x => x = .pointer none
  | .ptr p o, x => ∃ b s, ι p = some (b, s) ∧ x = .pointer (some ⟨b, s + o, none⟩)
  | .gptr g o, x => x = .pointer (some ⟨g, o, none⟩)
  | .nilsl, x => x = .slice none 0 0
  | .sl p o m c e, x => ∃ b s c', ι p = some (b, s) ∧ x = .slice (some ⟨b, s + o, none⟩) m c' ∧ c ≤ c' ∧ (e = 0 → c' = c) ∧ (e ≠ 0 → s + o + c' * e = ι.size b)
  | .nilmp, x => x = .map none
  | .mp p, x => ∃ b, ι p = some (b, 0) ∧ x = .map (some b)
  | .nilfn, x => x = .nilFunc
  | .fn f a c, x => ∃ a' c' : Array Value, x = .func (.func f) a' c' ∧ V.rels ι a a'.toList ∧ V.rels ι c c'.toList
  | .yld p, x => ∃ l, ι p = some (l, 0) ∧ x = .func (.yield l) #[] #[]
  | .agg l, x => ∃ cs : Array Value, x = .agg cs ∧ V.rels ι l cs.toList
  | .tup l, x => ∃ cs : Array Value, x = .tuple cs ∧ V.rels ι l cs.toList
  | .sym i k lo hi, x => x = .int k (ι.sym i) ∧ lo ≤ ι.sym i ∧ ι.sym i ≤ hi
  | .ifc t v, x => ∃ y, x = .iface t y ∧ V.rel ι v y
  | .nilif, x => x = .nilIface
  | .mth m t v, x => ∃ y, x = .func (.method m) #[.iface t y] #[] ∧ V.rel ι v y
  | .sl0 z, x => ∃ a c, x = .slice (some a) 0 c ∧ (z = true → c = 0)
  | .iv k lo hi st, x => ∃ j : Nat, x = .int k (lo + (j : Int) * (st : Int)) ∧ lo + (j : Int) * (st : Int) ≤ hi
  | .pre i q, x => ∃ z, x = .int .i64 z ∧ IntKind.i64.min ≤ z ∧ z ≤ IntKind.i64.max ∧ arnd z q = ι.sym i
def V.rels (ι : Emb) : List V → List Value → Prop
  | [], xs => xs = []
  | v :: vs, xs => ∃ x t, xs = x :: t ∧ V.rel ι v x ∧ V.rels ι vs t
end
structure Emb.le (ι ι' : Emb) : Prop where
  name : ∀ p q, ι p = some q → ι' p = some q
  same : ∀ p b s, ι p = some (b, s) → ι'.size b = ι.size b
  syms : ι'.sym = ι.sym
theorem Emb.le.refl (ι : Emb) : ι.le ι := ⟨fun _ _ h => h, fun _ _ _ _ => rfl, rfl⟩
theorem Emb.le.trans {a b c : Emb} (h : a.le b) (k : b.le c) : a.le c :=
  ⟨fun p q e => k.name p q (h.name p q e), fun p x s e => (k.same p x s (h.name p _ e)).trans (h.same p x s e), k.syms.trans h.syms⟩
mutual
theorem V.rel.mono {ι ι' : Emb} (h : ι.le ι') : ∀ (v : V) (x : Value), V.rel ι v x → V.rel ι' v x
  | .unk, _, _ => by simp [V.rel]
  | .bool b, _, hr => by simpa [V.rel] using hr
  | .int k n, _, hr => by simpa [V.rel] using hr
  | .str s, _, hr => by simpa [V.rel] using hr
  | .nilp, _, hr => by simpa [V.rel] using hr
  | .ptr p o, _, hr => by
    simp only [V.rel] at hr ⊢
    obtain ⟨b, s, hp, hx⟩ := hr
    exact ⟨b, s, h.name _ _ hp, hx⟩
  | .gptr g o, _, hr => by simpa [V.rel] using hr
  | .nilsl, _, hr => by simpa [V.rel] using hr
  | .sl p o m c e, _, hr => by
    simp only [V.rel] at hr ⊢
    obtain ⟨b, s, c', hp, hx, h1, h2, h3⟩ := hr
    exact ⟨b, s, c', h.name _ _ hp, hx, h1, h2, by rw [h.same _ _ _ hp]; exact h3⟩
  | .nilmp, _, hr => by simpa [V.rel] using hr
  | .mp p, _, hr => by
    simp only [V.rel] at hr ⊢
    obtain ⟨b, hp, hx⟩ := hr
    exact ⟨b, h.name _ _ hp, hx⟩
  | .nilfn, _, hr => by simpa [V.rel] using hr
  | .fn f a c, _, hr => by
    simp only [V.rel] at hr ⊢
    obtain ⟨a', c', hx, ha, hc⟩ := hr
    exact ⟨a', c', hx, V.rels.mono h a _ ha, V.rels.mono h c _ hc⟩
  | .yld p, _, hr => by
    simp only [V.rel] at hr ⊢
    obtain ⟨b, hp, hx⟩ := hr
    exact ⟨b, h.name _ _ hp, hx⟩
  | .agg l, _, hr => by
    simp only [V.rel] at hr ⊢
    obtain ⟨cs, hx, hl⟩ := hr
    exact ⟨cs, hx, V.rels.mono h l _ hl⟩
  | .tup l, _, hr => by
    simp only [V.rel] at hr ⊢
    obtain ⟨cs, hx, hl⟩ := hr
    exact ⟨cs, hx, V.rels.mono h l _ hl⟩
  | .sym i k lo hi, _, hr => by
    simp only [V.rel] at hr ⊢
    rw [h.syms]; exact hr
  | .ifc t v, _, hr => by
    simp only [V.rel] at hr ⊢
    obtain ⟨y, hx, hv⟩ := hr
    exact ⟨y, hx, V.rel.mono h v y hv⟩
  | .nilif, _, hr => by simpa [V.rel] using hr
  | .mth m t v, _, hr => by
    simp only [V.rel] at hr ⊢
    obtain ⟨y, hx, hv⟩ := hr
    exact ⟨y, hx, V.rel.mono h v y hv⟩
  | .sl0 z, _, hr => by simpa only [V.rel] using hr
  | .iv k lo hi st, _, hr => by simpa only [V.rel] using hr
  | .pre i q, _, hr => by
    simp only [V.rel] at hr ⊢
    rw [h.syms]; exact hr
theorem V.rels.mono {ι ι' : Emb} (h : ι.le ι') : ∀ (l : List V) (xs : List Value), V.rels ι l xs → V.rels ι' l xs
  | [], xs, hr => by simpa [V.rels] using hr
  | v :: vs, xs, hr => by
    simp only [V.rels] at hr ⊢
    obtain ⟨x, t, e, h1, h2⟩ := hr
    exact ⟨x, t, e, V.rel.mono h v x h1, V.rels.mono h vs t h2⟩
end
section
variable {ι : Emb}
theorem rels_nil : V.rels ι [] [] := by simp [V.rels]
theorem rels_cons {v : V} {vs : List V} {x : Value} {xs : List Value} (h : V.rel ι v x) (hs : V.rels ι vs xs) : V.rels ι (v :: vs) (x :: xs) := by
  simp only [V.rels]; exact ⟨x, xs, rfl, h, hs⟩
theorem rels_one {v : V} {x : Value} (h : V.rel ι v x) : V.rels ι [v] [x] := rels_cons h rels_nil
theorem rels_cons_inv {v : V} {vs : List V} {xs : List Value} (h : V.rels ι (v :: vs) xs) : ∃ x t, xs = x :: t ∧ V.rel ι v x ∧ V.rels ι vs t := by
  simpa only [V.rels] using h
theorem rels_nil_inv {xs : List Value} (h : V.rels ι [] xs) : xs = [] := by simpa only [V.rels] using h
theorem rels_length : ∀ {l : List V} {xs : List Value}, V.rels ι l xs → xs.length = l.length
  | [], _, h => by rw [rels_nil_inv h]; rfl
  | _ :: _, _, h => by
    obtain ⟨x, t, rfl, _, ht⟩ := rels_cons_inv h
    simp [rels_length ht]
theorem rels_get : ∀ {l : List V} {xs : List Value} {i : Nat} {v : V}, V.rels ι l xs → l[i]? = some v → ∃ x, xs[i]? = some x ∧ V.rel ι v x
  | [], _, _, _, _, hi => by simp at hi
  | _ :: _, _, 0, _, h, hi => by
    obtain ⟨x, t, rfl, hx, _⟩ := rels_cons_inv h
    simp at hi; subst hi
    exact ⟨x, rfl, hx⟩
  | _ :: _, _, i + 1, _, h, hi => by
    obtain ⟨x, t, rfl, _, ht⟩ := rels_cons_inv h
    simp at hi
    obtain ⟨y, hy, hr⟩ := rels_get ht hi
    exact ⟨y, by simpa using hy, hr⟩
theorem rels_append : ∀ {l m : List V} {xs ys : List Value}, V.rels ι l xs → V.rels ι m ys → V.rels ι (l ++ m) (xs ++ ys)
  | [], _, _, _, h, hm => by rw [rels_nil_inv h]; simpa using hm
  | _ :: _, _, _, _, h, hm => by
    obtain ⟨x, t, rfl, hx, ht⟩ := rels_cons_inv h
    exact rels_cons hx (rels_append ht hm)
theorem rels_take : ∀ {l : List V} {xs : List Value} (n : Nat), V.rels ι l xs → V.rels ι (l.take n) (xs.take n)
  | [], _, n, h => by rw [rels_nil_inv h]; simpa using rels_nil
  | _ :: _, _, 0, _ => by simpa using rels_nil
  | _ :: _, _, n + 1, h => by
    obtain ⟨x, t, rfl, hx, ht⟩ := rels_cons_inv h
    simpa using rels_cons hx (rels_take n ht)
theorem rels_drop : ∀ {l : List V} {xs : List Value} (n : Nat), V.rels ι l xs → V.rels ι (l.drop n) (xs.drop n)
  | [], _, n, h => by rw [rels_nil_inv h]; simpa using rels_nil
  | _ :: _, _, 0, h => by simpa using h
  | _ :: _, _, n + 1, h => by
    obtain ⟨x, t, rfl, hx, ht⟩ := rels_cons_inv h
    simpa using rels_drop n ht
theorem rels_overlay {l vs : List V} {xs ys : List Value} {o : Nat} (h : V.rels ι l xs) (hv : V.rels ι vs ys) (hle : o + vs.length ≤ l.length) :
    V.rels ι (overlay l o vs) (xs.take o ++ ys ++ xs.drop (o + ys.length)) := by
  rw [overlay_eq l o vs hle, rels_length hv]
  exact rels_append (rels_append (rels_take o h) hv) (rels_drop _ h)
end
end
end Go.Ev
