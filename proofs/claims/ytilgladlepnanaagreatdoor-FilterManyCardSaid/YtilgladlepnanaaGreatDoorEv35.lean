/-
  A verified evaluator, part 34: what an evaluation says of a law.
  A verified evaluator, part 35: calls with overriding contracts at every depth; what a call said once is said of every like call (a summary), the blocks' names being other ones.
-/
import Derived.Test.YtilgladlepnanaaGreatDoorEv33
import Derived.ChangeFn
namespace Go.Ev
noncomputable section
open Go

def okTrue (r : Res) : Bool :=
  match r with
  | .ok (.bool true) _ _ => true
  | _ => false
theorem okTrue_some {r : Res} (h : okTrue r = true) : ∃ H n, r = .ok (.bool true) H n := by
  cases r with
  | bad => cases h
  | ok v H n =>
    cases v <;> try (cases h; done)
    rename_i b
    cases b with
    | false => cases h
    | true => exact ⟨H, n, rfl⟩
/-- no block is named -/
def Emb.none (σ : Nat → Int) : Emb := ⟨fun _ => Option.none, fun _ => 0, σ⟩
section
variable {P : Program} {Γ : Glo} {cal : Cal} {rounds : Nat} {w : World}
theorem HOK.nil (σ : Nat → Int) : HOK P (Emb.none σ) .nil w :=
  ⟨fun p o h => (by rw [Tr.get_nil] at h; cases h), fun p q b s s' h => (by obtain ⟨o, h1, _⟩ := h; rw [Tr.get_nil] at h1; cases h1), fun p b s h => (by cases h)⟩
theorem GOK.nil (σ : Nat → Int) : GOK (fun _ => []) (Emb.none σ) .nil w :=
  ⟨fun g i v h => (by cases h), fun g h => absurd rfl h⟩

/-- a call of the function L without arguments, which answers true, taken as done -/
def liveCal (L : Nat) (c : Cal) : Cal :=
  ⟨fun f args H n => match Nat.beq f L with
    | true => (match args with | [] => .ok (.bool true) H n | _ :: _ => .bad)
    | false => c.fn f args H n, c.rd⟩
theorem liveCal_ok {L : Nat} (k : CalOK P (fun _ => []) cal) (h : okTrue (cal.fn L [] .nil .e) = true) : CalOK P (fun _ => []) (liveCal L cal) := by
  refine ⟨fun f args H n v H' n' he => ?_, k.rd⟩
  have he' : (match Nat.beq f L with
    | true => (match args with | [] => Res.ok (.bool true) H n | _ :: _ => .bad)
    | false => cal.fn f args H n) = .ok v H' n' := he
  cases hf : Nat.beq f L with
  | false => simp only [hf] at he'; exact k.fn _ _ _ _ _ _ _ he'
  | true =>
    have := beq_eq hf
    subst this
    simp only [hf] at he'
    cases args with
    | cons => cases he'
    | nil =>
      cases he'
      obtain ⟨Hz, nz, hz⟩ := okTrue_some h
      obtain ⟨_, hcall, hk⟩ := k.fn _ _ _ _ _ _ _ hz
      refine ⟨Mono.refl _, hcall, fun ι w xs hok gok hfr hxs => ?_⟩
      refine (hk (Emb.none ι.sym) w xs (HOK.nil _) (GOK.nil _) (Fr.nil_of fun _ => rfl) (by rw [rels_nil_inv hxs]; exact rels_nil)).mono fun e w' he => ?_
      obtain ⟨x, rfl, ι', hv, hs⟩ := he
      simp only [V.rel] at hv
      subst hv
      have hkept : ∀ b, b < w.heap.size → w'.heap[b]? = w.heap[b]? := fun b hb => hs.kept b hb fun p s hl => by
        obtain ⟨o, h1, _⟩ := hl
        rw [Tr.get_nil] at h1; cases h1
      refine ⟨_, rfl, ι, by simp only [V.rel], ⟨Emb.le.refl _, fun _ h1 h2 => absurd h1 h2, ⟨fun p o hp => O.ok_mono (hok.obj p o hp) (Emb.le.refl _) fun b s _ hp' => hkept b (hok.lt p b s hp'), hok.inj, fun p b s hp => Nat.lt_of_lt_of_le (hok.lt p b s hp) hs.size⟩,
        fun b hb _ => hkept b hb, hs.size, fun p b s hl hp _ => ⟨p, s, hl, hp⟩, hs.tape, hs.os, hs.out⟩⟩
/-- a law's call -/
theorem law_ok (k : CalOK P (fun _ => []) cal) (hmix : P.follows .mixedOrders = true) (hname : ∀ (f : Nat) (fn : Func), P.funcs[f]? = some fn → (fn.name == "runtime.NumGoroutine") = false)
    {f : Nat} {args : List V} (h : okTrue (evFun cal (fun _ => []) rounds (funIR P f) args .nil .e) = true) (σ : Nat → Int) (w : World) (xs : Array Value) (hxs : V.rels (Emb.none σ) args xs.toList) :
    Calls P f xs w fun e w' => e = .returned (.bool true) ∧ w.keptBut w' (fun _ => False) := by
  obtain ⟨Hz, nz, hz⟩ := okTrue_some h
  obtain ⟨_, _, hk⟩ := fn_ok k hmix hname hz
  refine (hk (Emb.none σ) w xs (HOK.nil _) (GOK.nil _) (Fr.nil_of fun _ => rfl) hxs).mono fun e w' he => ?_
  obtain ⟨x, rfl, ι', hv, hs⟩ := he
  simp only [V.rel] at hv
  subst hv
  refine ⟨rfl, World.keptBut_none_iff.2 ⟨hs.os, hs.out, fun b hb => hs.kept b hb fun p s hl => ?_⟩⟩
  obtain ⟨o, h1, _⟩ := hl
  rw [Tr.get_nil] at h1; cases h1
end
end
end Go.Ev
namespace Go.Ev
noncomputable section
open Go

/- overriding at every depth -/
/-- calls, at most d deep; ov may answer some of them otherwise -/
def evCalO (ov : Cal → Cal) (T : Nat → Fun) (Γ : Glo) (rounds : Nat) (d : Nat) : Cal :=
  Nat.rec (motive := fun _ => Cal) ⟨fun _ _ _ _ => .bad, fun _ _ _ _ => .bad⟩
    (fun _ ih => ⟨fun f args H n => evFun (ov ih) Γ rounds (T f) args H n, fun c R H n => evCode (ov ih) Γ c rounds R H n⟩) d
section
variable {P : Program} {Γ : Glo} {rounds : Nat}
theorem calO_ok (hmix : P.follows .mixedOrders = true) (hname : ∀ (f : Nat) (fn : Func), P.funcs[f]? = some fn → (fn.name == "runtime.NumGoroutine") = false) {ov : Cal → Cal} (hov : ∀ c, CalOK P Γ c → CalOK P Γ (ov c)) :
    ∀ d, CalOK P Γ (evCalO ov (funIR P) Γ rounds d)
  | 0 => ⟨fun f args H n v H' n' h => (by cases h), fun c R H n => ⟨trivial, fun code U N _ hb => absurd rfl hb⟩⟩
  | d + 1 => by
    have ih := hov _ (calO_ok hmix hname hov d)
    refine ⟨fun f args H n v H' n' h => fn_ok ih hmix hname h, fun c R H n => ⟨evCode_to ih c R H n, fun code U N hc hb ι w w0 a l m hok gok hfr henv hN hd => ?_⟩⟩
    have h1 := (code_ok (rounds := rounds) ih hmix code true U N R H n).2
    subst hc
    exact h1 hb (Fence.wide.inRound l) m ι w w0 a (.inr ⟨l, rfl⟩) (fun h => by cases h) hok gok hfr henv hN hd
end

/- other names -/
abbrev Asc := List (Pth × Pth)
def asc (l : Asc) (p : Pth) : Option Pth :=
  List.rec none (fun e _ ih => match e.1.beq p with | true => some e.2 | false => ih) l
theorem asc_cons (e : Pth × Pth) (l : Asc) (p : Pth) : asc (e :: l) p = (match e.1.beq p with | true => some e.2 | false => asc l p) := rfl
theorem asc_mem : ∀ {l : Asc} {p q : Pth}, asc l p = some q → (p, q) ∈ l
  | [], p, q, h => by cases h
  | e :: l, p, q, h => by
    rw [asc_cons] at h
    cases hb : e.1.beq p with
    | true =>
      simp [hb] at h
      have := (Pth.beq_iff _ _).1 hb
      subst this; subst h
      exact List.mem_cons_self ..
    | false => simp only [hb] at h; exact List.mem_cons_of_mem _ (asc_mem h)
theorem asc_some : ∀ {l : Asc} {p : Pth}, (∃ q, (p, q) ∈ l) → ∃ q, asc l p = some q
  | [], p, h => by obtain ⟨q, h⟩ := h; simp at h
  | e :: l, p, h => by
    rw [asc_cons]
    cases hb : e.1.beq p with
    | true => exact ⟨_, rfl⟩
    | false =>
      obtain ⟨q, h⟩ := h
      rcases List.mem_cons.1 h with rfl | h
      · have := (Pth.beq_iff p p).2 rfl
        simp [this] at hb
      · exact asc_some ⟨q, h⟩

/-- a value with other names ('unk' where a name has none) -/
def ren (l : Asc) (fuel : Nat) : V → V :=
  Nat.rec (motive := fun _ => V → V) (fun _ => .unk) (fun _ ih v => match v with
    | .bool b => .bool b
    | .int k n => .int k n
    | .str s => .str s
    | .nilp => .nilp
    | .ptr p o => (match asc l p with | some q => .ptr q o | none => .unk)
    | .gptr g o => .gptr g o
    | .nilsl => .nilsl
    | .sl p o a b c => (match asc l p with | some q => .sl q o a b c | none => .unk)
    | .nilmp => .nilmp
    | .mp p => (match asc l p with | some q => .mp q | none => .unk)
    | .nilfn => .nilfn
    | .fn f a b => .fn f (List.rec [] (fun x _ ih2 => ih x :: ih2) a : List V) (List.rec [] (fun x _ ih2 => ih x :: ih2) b : List V)
    | .agg a => .agg (List.rec [] (fun x _ ih2 => ih x :: ih2) a : List V)
    | .tup a => .tup (List.rec [] (fun x _ ih2 => ih x :: ih2) a : List V)
    | .sym i k a b => .sym i k a b
    | .ifc t a => .ifc t (ih a)
    | .nilif => .nilif
    | .mth m t a => .mth m t (ih a)
    | .sl0 z => .sl0 z
    | .iv k a b c => .iv k a b c
    | _ => .unk) fuel
/-- does the value a fit the pattern v, the names being other ones? -/
def mtch (l : Asc) (fuel : Nat) : V → V → Bool :=
  Nat.rec (motive := fun _ => V → V → Bool) (fun _ _ => false) (fun _ ih v a => match v, a with
    | .bool b, .bool c => (match b with | true => c | false => !c)
    | .int k n, .int j m => (match keq k j with | true => ieq n m | false => false)
    | .str s, .str t => natsEq s t
    | .nilp, .nilp => true
    | .ptr p o, .ptr q r => (match asc l p with | some q' => (match q'.beq q with | true => Nat.beq o r | false => false) | none => false)
    | .gptr g o, .gptr h r => (match Nat.beq g h with | true => Nat.beq o r | false => false)
    | .nilsl, .nilsl => true
    | .sl p o x y z, .sl q r d e f => (match asc l p with
      | some q' => (match q'.beq q, Nat.beq o r, Nat.beq x d, Nat.beq y e with | true, true, true, true => Nat.beq z f | _, _, _, _ => false)
      | none => false)
    | .nilmp, .nilmp => true
    | .mp p, .mp q => (match asc l p with | some q' => q'.beq q | none => false)
    | .nilfn, .nilfn => true
    | .agg x, .agg y => (List.rec (motive := fun _ => List V → Bool) (fun m => match m with | [] => true | _ :: _ => false)
            (fun x _ ih2 m => match m with | [] => false | y :: m' => (match ih x y with | true => ih2 m' | false => false)) x : List V → Bool) y
    | .tup x, .tup y => (List.rec (motive := fun _ => List V → Bool) (fun m => match m with | [] => true | _ :: _ => false)
            (fun x _ ih2 m => match m with | [] => false | y :: m' => (match ih x y with | true => ih2 m' | false => false)) x : List V → Bool) y
    | .sl0 z, .sl0 y => (match z with | true => y | false => true)
    | .sym i k x y, .sym j q z u => (match Nat.beq i j, keq k q, ieq x z with | true, true, true => ieq y u | _, _, _ => false)
    | .nilif, .nilif => true
    | .ifc t x, .ifc u y => (match Nat.beq t u with | true => ih x y | false => false)
    | .unk, _ => true
    | _, _ => false) fuel
def mtchs (l : Asc) (fuel : Nat) (x : List V) : List V → Bool :=
  List.rec (motive := fun _ => List V → Bool) (fun m => match m with | [] => true | _ :: _ => false)
            (fun x _ ih2 m => match m with | [] => false | y :: m' => (match mtch l fuel x y with | true => ih2 m' | false => false)) x
def rens (l : Asc) (fuel : Nat) (a : List V) : List V := List.rec [] (fun x _ ih2 => ren l fuel x :: ih2) a

/-- the names of κ' are those of ι', by l -/
structure NamesV (l : Asc) (κ ι : Emb) : Prop where
  name : ∀ p q b s, asc l p = some q → κ p = some (b, s) → ι q = some (b, s) ∧ ι.size b = κ.size b
  sym : ι.sym = κ.sym
section
variable {l : Asc} {κ ι : Emb}
theorem rens_of {f : V → V} (h : ∀ v x, V.rel κ v x → V.rel ι (f v) x) : ∀ (a : List V) (xs : List Value), V.rels κ a xs → V.rels ι (List.rec [] (fun x _ ih2 => f x :: ih2) a : List V) xs
  | [], xs, hr => by rw [rels_nil_inv hr]; exact rels_nil
  | v :: t, xs, hr => by
    obtain ⟨x, ys, rfl, hx, ht⟩ := rels_cons_inv hr
    exact rels_cons (h v x hx) (rens_of h t ys ht)
theorem ren_ok (hn : NamesV l κ ι) : ∀ (fuel : Nat) (v : V) (x : Value), V.rel κ v x → V.rel ι (ren l fuel v) x
  | 0, v, x, _ => by show V.rel ι .unk x; simp only [V.rel]
  | k + 1, v, x, hr => by
    have ih := ren_ok hn k
    cases v <;> try (show V.rel ι .unk x; simp only [V.rel]; done)
    case bool b => exact hr
    case int => exact hr
    case str => exact hr
    case nilp => exact hr
    case gptr => exact hr
    case nilsl => exact hr
    case nilmp => exact hr
    case nilfn => exact hr
    case nilif => exact hr
    case sl0 => exact hr
    case iv => exact hr
    case ptr p o =>
      show V.rel ι (match asc l p with | some q => .ptr q o | none => .unk) x
      cases h : asc l p with
      | none => simp only [V.rel]
      | some q =>
        simp only [V.rel] at hr ⊢
        obtain ⟨b, s, hp, hx⟩ := hr
        exact ⟨b, s, (hn.name p q b s h hp).1, hx⟩
    case sl p o a c e =>
      show V.rel ι (match asc l p with | some q => .sl q o a c e | none => .unk) x
      cases h : asc l p with
      | none => simp only [V.rel]
      | some q =>
        simp only [V.rel] at hr ⊢
        obtain ⟨b, s, c', hp, hx, h1, h2, h3⟩ := hr
        obtain ⟨e1, e2⟩ := hn.name p q b s h hp
        exact ⟨b, s, c', e1, hx, h1, h2, by rw [e2]; exact h3⟩
    case mp p =>
      show V.rel ι (match asc l p with | some q => .mp q | none => .unk) x
      cases h : asc l p with
      | none => simp only [V.rel]
      | some q =>
        simp only [V.rel] at hr ⊢
        obtain ⟨b, hp, hx⟩ := hr
        exact ⟨b, (hn.name p q b 0 h hp).1, hx⟩
    case fn f a c =>
      simp only [V.rel] at hr
      obtain ⟨a', c', hx, ha, hc⟩ := hr
      show V.rel ι (.fn f _ _) x
      simp only [V.rel]
      exact ⟨a', c', hx, rens_of ih a _ ha, rens_of ih c _ hc⟩
    case agg a =>
      simp only [V.rel] at hr
      obtain ⟨cs, hx, ha⟩ := hr
      show V.rel ι (.agg _) x
      simp only [V.rel]
      exact ⟨cs, hx, rens_of ih a _ ha⟩
    case tup a =>
      simp only [V.rel] at hr
      obtain ⟨cs, hx, ha⟩ := hr
      show V.rel ι (.tup _) x
      simp only [V.rel]
      exact ⟨cs, hx, rens_of ih a _ ha⟩
    case sym i k0 a b =>
      show V.rel ι (.sym i k0 a b) x
      simp only [V.rel] at hr ⊢
      rw [hn.sym]; exact hr
    case ifc t a =>
      simp only [V.rel] at hr
      obtain ⟨y, hx, hy⟩ := hr
      show V.rel ι (.ifc t _) x
      simp only [V.rel]
      exact ⟨y, hx, ih a y hy⟩
    case mth m t a =>
      simp only [V.rel] at hr
      obtain ⟨y, hx, hy⟩ := hr
      show V.rel ι (.mth m t _) x
      simp only [V.rel]
      exact ⟨y, hx, ih a y hy⟩
/-- the embedding read through other names (those of l alone) -/
def via (l : Asc) (ι : Emb) : Emb := ⟨fun p => (asc l p).bind ι.at', ι.size, ι.sym⟩
theorem via_some {p q : Pth} (h : asc l p = some q) : via l ι p = ι q := by show (asc l p).bind ι.at' = _; rw [h]; rfl
theorem via_inv {p : Pth} {z : Nat × Nat} (h : via l ι p = some z) : ∃ q, asc l p = some q ∧ ι q = some z := by
  have h' : (asc l p).bind ι.at' = some z := h
  cases hq : asc l p with
  | none => rw [hq] at h'; cases h'
  | some q => rw [hq] at h'; exact ⟨q, rfl, h'⟩
theorem mtchs_of {f : V → V → Bool} (h : ∀ v a x, f v a = true → V.rel ι a x → V.rel (via l ι) v x) : ∀ (vs as : List V) (xs : List Value),
    (List.rec (motive := fun _ => List V → Bool) (fun m => match m with | [] => true | _ :: _ => false)
      (fun x _ ih2 m => match m with | [] => false | y :: m' => (match f x y with | true => ih2 m' | false => false)) vs : List V → Bool) as = true → V.rels ι as xs → V.rels (via l ι) vs xs
  | [], [], xs, _, hr => by rw [rels_nil_inv hr]; exact rels_nil
  | [], _ :: _, _, hm, _ => by cases hm
  | _ :: _, [], _, hm, _ => by cases hm
  | v :: vs, a :: as, xs, hm, hr => by
    have hm' : (match f v a with | true => (List.rec (motive := fun _ => List V → Bool) (fun m => match m with | [] => true | _ :: _ => false)
      (fun x _ ih2 m => match m with | [] => false | y :: m' => (match f x y with | true => ih2 m' | false => false)) vs : List V → Bool) as | false => false) = true := hm
    obtain ⟨x, ys, rfl, hx, ht⟩ := rels_cons_inv hr
    cases hf : f v a with
    | false => simp [hf] at hm'
    | true =>
      simp only [hf] at hm'
      exact rels_cons (h v a x hf hx) (mtchs_of h vs as ys hm' ht)
theorem mtch_ok : ∀ (fuel : Nat) (v a : V) (x : Value), mtch l fuel v a = true → V.rel ι a x → V.rel (via l ι) v x
  | 0, v, a, x, h, _ => by cases h
  | k + 1, v, a, x, h, hr => by
    have ih := fun v a x => mtch_ok k v a x
    cases v <;> first | (simp only [V.rel]; done) | skip
    all_goals cases a <;> try (cases h; done)
    case bool.bool b c => cases b <;> cases c <;> first | exact hr | cases h
    case int.int k1 n j m =>
      have h' : (match keq k1 j with | true => ieq n m | false => false) = true := h
      cases hk : keq k1 j with
      | false => simp [hk] at h'
      | true =>
        simp only [hk, ieq_eq] at h'
        have := (keq_iff k1 j).1 hk
        have e2 : n = m := by simpa using h'
        rw [this, e2]; exact hr
    case str.str s t =>
      have h' : natsEq s t = true := h
      rw [natsEq_eq] at h'
      have e2 : s = t := by simpa using h'
      rw [e2]; exact hr
    case nilp.nilp => exact hr
    case nilsl.nilsl => exact hr
    case nilmp.nilmp => exact hr
    case nilfn.nilfn => exact hr
    case nilif.nilif => exact hr
    case gptr.gptr g o g' r =>
      have h' : (match Nat.beq g g' with | true => Nat.beq o r | false => false) = true := h
      cases hk : Nat.beq g g' with
      | false => simp [hk] at h'
      | true => simp only [hk] at h'; rw [beq_eq hk, beq_eq h']; exact hr
    case ptr.ptr p o q r =>
      have h' : (match asc l p with | some q' => (match q'.beq q with | true => Nat.beq o r | false => false) | none => false) = true := h
      cases hq : asc l p with
      | none => simp [hq] at h'
      | some q' =>
        simp only [hq] at h'
        cases hb : q'.beq q with
        | false => simp [hb] at h'
        | true =>
          simp only [hb] at h'
          have := (Pth.beq_iff _ _).1 hb
          subst this
          rw [beq_eq h']
          simp only [V.rel] at hr ⊢
          rw [via_some hq]; exact hr
    case sl.sl p o x1 y1 z1 q r d e f =>
      have h' : (match asc l p with
        | some q' => (match q'.beq q, Nat.beq o r, Nat.beq x1 d, Nat.beq y1 e with | true, true, true, true => Nat.beq z1 f | _, _, _, _ => false)
        | none => false) = true := h
      cases hq : asc l p with
      | none => simp [hq] at h'
      | some q' =>
        simp only [hq] at h'
        cases h1 : q'.beq q <;> cases h2 : Nat.beq o r <;> cases h3 : Nat.beq x1 d <;> cases h4 : Nat.beq y1 e <;> simp only [h1, h2, h3, h4] at h' <;> try (cases h'; done)
        have := (Pth.beq_iff _ _).1 h1
        subst this
        rw [beq_eq h2, beq_eq h3, beq_eq h4, beq_eq h']
        simp only [V.rel] at hr ⊢
        rw [via_some hq]; exact hr
    case mp.mp p q =>
      have h' : (match asc l p with | some q' => q'.beq q | none => false) = true := h
      cases hq : asc l p with
      | none => simp [hq] at h'
      | some q' =>
        simp only [hq] at h'
        have := (Pth.beq_iff _ _).1 h'
        subst this
        simp only [V.rel] at hr ⊢
        rw [via_some hq]; exact hr
    case agg.agg x1 y1 =>
      simp only [V.rel] at hr ⊢
      obtain ⟨cs, hx, hc⟩ := hr
      exact ⟨cs, hx, mtchs_of ih x1 y1 _ h hc⟩
    case tup.tup x1 y1 =>
      simp only [V.rel] at hr ⊢
      obtain ⟨cs, hx, hc⟩ := hr
      exact ⟨cs, hx, mtchs_of ih x1 y1 _ h hc⟩
    case sl0.sl0 z y =>
      simp only [V.rel] at hr ⊢
      obtain ⟨a, c, hx, hz⟩ := hr
      refine ⟨a, c, hx, fun e => hz ?_⟩
      cases z with
      | false => cases e
      | true => exact h
    case sym.sym i k1 x1 y1 j k2 z1 u1 =>
      have h' : (match Nat.beq i j, keq k1 k2, ieq x1 z1 with | true, true, true => ieq y1 u1 | _, _, _ => false) = true := h
      cases h1 : Nat.beq i j <;> cases h2 : keq k1 k2 <;> cases h3 : ieq x1 z1 <;> simp only [h1, h2, h3] at h' <;> try (cases h'; done)
      rw [ieq_eq] at h3 h'
      have e3 : x1 = z1 := by simpa using h3
      have e4 : y1 = u1 := by simpa using h'
      rw [beq_eq h1, (keq_iff k1 k2).1 h2, e3, e4]
      exact hr
    case ifc.ifc t x1 u y1 =>
      have h' : (match Nat.beq t u with | true => mtch l k x1 y1 | false => false) = true := h
      cases hk : Nat.beq t u with
      | false => simp [hk] at h'
      | true =>
        simp only [hk] at h'
        simp only [V.rel] at hr ⊢
        obtain ⟨y, hx, hy⟩ := hr
        exact ⟨y, by rw [beq_eq hk]; exact hx, ih x1 y1 y h' hy⟩
theorem mtchs_ok {fuel : Nat} {vs as : List V} {xs : List Value} (h : mtchs l fuel vs as = true) (hr : V.rels ι as xs) : V.rels (via l ι) vs xs := mtchs_of (mtch_ok fuel) vs as xs h hr
theorem rens_ok (hn : NamesV l κ ι) {fuel : Nat} {a : List V} {xs : List Value} (h : V.rels κ a xs) : V.rels ι (rens l fuel a) xs := rens_of (ren_ok hn fuel) a xs h
end
end
end Go.Ev
