/-
  A verified evaluator of the model's code, part D of A, B, C, D (texts 31 to 45).
-/
import Derived.Test.YtahmcjdddcbhnaaGreatDoorEvC
import Derived.ChangeFn
import Derived.Below
import Derived.Laws.AppendOwn
/-
  A verified evaluator, part 31: code.
-/
namespace Go.Ev
noncomputable section
open Go

section
variable {P : Program} {Γ : Glo} {ι ι' ι2 : Emb} {H H' H2 : Heap} {w w' w2 w0 : World} {R R' : Regs} {cal : Cal} {n n' : Pth} {U N m rounds : Nat} {F : Fence} {a : Act} {out : Out}

theorem EnvR.toD {tmps : Array Value} (h : EnvR ι U R tmps) : EnvD ι [] [] R tmps :=
  ⟨fun t i hi => by simp [idxOf] at hi, fun t v _ hv => by have := (h (toPth t) v hv).2; rw [num_toPth] at this; exact this⟩
theorem expsOf_cons (d : Option Nat) (l : List (Option Nat)) (i : Nat) : expsOf U (d :: l) i = (match d with
    | some t => (match bit U t with
      | true => (toPth t, i) :: expsOf U l (i + 1)
      | false => expsOf U l (i + 1))
    | none => expsOf U l (i + 1)) := rfl
theorem expo_cons (L : List V) (R : Regs) (e : Pth × Nat) (l : List (Pth × Nat)) : expo L R (e :: l) = Tr.set e.1 (match nth L e.2 with | some v => v | none => .unk) (expo L R l) := rfl
theorem expo_get (L : List V) (R : Regs) (p : Pth) : ∀ (D : List (Option Nat)) (i : Nat), (expo L R (expsOf U D i)).get p = match bit U p.num, idxOf p.num D i with
    | true, some j => some (match nth L j with | some v => v | none => .unk)
    | _, _ => R.get p
  | [], i => by
    show R.get p = _
    simp only [idxOf]
    cases bit U p.num <;> rfl
  | d :: D, i => by
    have ih := expo_get L R p D (i + 1)
    rw [expsOf_cons]
    cases d with
    | none => simp only [idxOf]; exact ih
    | some t =>
      simp only [idxOf]
      cases hb : bit U t with
      | false =>
        simp only
        rw [ih]
        cases ht : Nat.beq t p.num with
        | false => rfl
        | true =>
          have := beq_eq ht
          rw [← this, hb]
      | true =>
        simp only
        rw [expo_cons, Tr.get_set]
        by_cases e : toPth t = p
        · have e2 : t = p.num := by rw [← e, num_toPth]
          rw [if_pos e, ← e2, hb]
          have : Nat.beq t t = true := by simp
          rw [this]
        · rw [if_neg e, ih]
          have : Nat.beq t p.num = false := by
            cases hb2 : Nat.beq t p.num with
            | false => rfl
            | true =>
              exfalso
              apply e
              rw [beq_eq hb2]
              exact Pth.num_inj (num_toPth _)
          rw [this]
theorem expo_env {D : List (Option Nat)} {L : List V} {t0 tmps : Array Value} {ι0 : Emb} (h0 : EnvR ι0 U R t0) (hd : EnvD ι D L R tmps) : EnvR ι U (expo L R (expsOf U D 0)) tmps := by
  intro p v hp
  rw [expo_get] at hp
  cases hb : bit U p.num with
  | false =>
    rw [hb] at hp
    have := (h0 p v hp).1
    rw [hb] at this; cases this
  | true =>
    rw [hb] at hp
    cases hi : idxOf p.num D 0 with
    | none =>
      rw [hi] at hp
      simp only at hp
      refine ⟨rfl, hd.reg p.num v hi ?_⟩
      rw [Pth.num_inj (num_toPth p.num)]; exact hp
    | some j =>
      rw [hi] at hp
      obtain ⟨u, h1, h2⟩ := hd.loc p.num j hi
      simp only [nth_eq, h1, Option.some.injEq] at hp
      subst hp
      exact ⟨rfl, h2⟩

/-- what is done first and what then -/
theorem CodePost.trans {e : Exit} {w1 : World} (hs : Step P ι H w ι' H' w') (m1 : Mono H H') (m2 : Out.to H' out) (h : CodePost P ι' U N H' w0 w' out e a w1) : CodePost P ι U N H w0 w out e a w1 := by
  cases out with
  | bad => exact h
  | nrm R2 H2 n2 => obtain ⟨h1, ι2, h2, h3, h4, h5⟩ := h; exact ⟨h1, ι2, h2, h3, hs.trans h4 m1 m2, h5⟩
  | brk id R2 H2 n2 => obtain ⟨h1, ι2, h2, h3, h4, h5⟩ := h; exact ⟨h1, ι2, h2, h3, hs.trans h4 m1 m2, h5⟩
  | ret R2 H2 n2 => obtain ⟨h1, ι2, h2, h3, h4, h5⟩ := h; exact ⟨h1, ι2, h2, h3, hs.trans h4 m1 m2, h5⟩
theorem Out.to_trans (m1 : Mono H H') (m2 : Out.to H' out) : Out.to H out := by
  cases out with
  | bad => trivial
  | nrm R2 H2 n2 => exact m1.trans m2
  | brk id R2 H2 n2 => exact m1.trans m2
  | ret R2 H2 n2 => exact m1.trans m2
theorem Out.fr_split (h : Out.fr ι H out) (hb : out ≠ .bad) (m2 : Out.to H' out) : Fr ι H H' := by
  cases out with
  | bad => exact absurd rfl hb
  | nrm R2 H2 n2 => exact Fr.split h m2
  | brk id R2 H2 n2 => exact Fr.split h m2
  | ret R2 H2 n2 => exact Fr.split h m2
theorem Out.fr_after (h : Out.fr ι H out) (hs : Step P ι H w ι' H' w') (m1 : Mono H H') : Out.fr ι' H' out := by
  cases out with
  | bad => trivial
  | nrm R2 H2 n2 => exact Fr.after h hs m1
  | brk id R2 H2 n2 => exact Fr.after h hs m1
  | ret R2 H2 n2 => exact Fr.after h hs m1

def CodeOK (P : Program) (Γ : Glo) (cal : Cal) (rounds : Nat) (c : Code) : Prop := ∀ (inner : Bool) (U N : Nat) (R : Regs) (H : Heap) (n : Pth),
  Out.to H (evCode cal Γ (codeIR P U N c inner) rounds R H n) ∧
  (evCode cal Γ (codeIR P U N c inner) rounds R H n ≠ .bad → ∀ (F : Fence) (m : Nat) (ι : Emb) (w w0 : World) (a : Act), FW F → (inner = false → F.round = none ∧ w0.heap.size ≤ w.heap.size) →
    HOK P ι H w → GOK Γ ι H w → Out.fr ι H (evCode cal Γ (codeIR P U N c inner) rounds R H n) → EnvR ι U R a.tmps → N ≤ a.tmps.size → Defs w0 ι H w a.defers →
    c.wpIn F m P (CodePost P ι U N H w0 w (evCode cal Γ (codeIR P U N c inner) rounds R H n)) a w)

theorem bad_ok {c : Code} (h : ∀ inner U N, codeIR P U N c inner = .bad) : CodeOK P Γ cal rounds c := fun inner U N R H n => by
  rw [h]; exact ⟨trivial, fun hb => absurd rfl hb⟩
theorem skip_ok : CodeOK P Γ cal rounds .skip := fun _inner _U _N _R _H _n =>
  ⟨Mono.refl _, fun _ _F _m ι _w _w0 _a _ _ hok _ _ henv hN hd => wpIn_skip ⟨rfl, ι, henv, hN, Step.refl hok, hd⟩⟩
theorem exit_ok (id : Nat) : CodeOK P Γ cal rounds (.exit id) := fun _inner _U _N _R _H _n =>
  ⟨Mono.refl _, fun _ _F _m ι _w _w0 _a _ _ hok _ _ henv hN hd => wpIn_exit ⟨rfl, ι, henv, hN, Step.refl hok, hd⟩⟩
theorem ret_ok : CodeOK P Γ cal rounds .ret := fun _inner _U _N _R _H _n =>
  ⟨Mono.refl _, fun _ _F _m ι _w _w0 _a _ _ hok _ _ henv hN hd => wpIn_ret ⟨rfl, ι, henv, hN, Step.refl hok, hd⟩⟩
theorem seq_ok {x y : Code} (hx : CodeOK P Γ cal rounds x) (hy : CodeOK P Γ cal rounds y) : CodeOK P Γ cal rounds (.seq x y) := fun inner U N R H n => by
  obtain ⟨mx, kx⟩ := hx inner U N R H n
  have hev : evCode cal Γ (codeIR P U N (.seq x y) inner) rounds R H n = (match evCode cal Γ (codeIR P U N x inner) rounds R H n with
    | .nrm R' H' n' => evCode cal Γ (codeIR P U N y inner) rounds R' H' n'
    | .brk i R' H' n' => .brk i R' H' n'
    | .ret R' H' n' => .ret R' H' n'
    | .bad => .bad) := rfl
  rw [hev]
  generalize evCode cal Γ (codeIR P U N x inner) rounds R H n = ox at mx kx
  cases ox with
  | bad => exact ⟨trivial, fun hb => absurd rfl hb⟩
  | brk id R' H' n' =>
    refine ⟨mx, fun hb F m ι w w0 a hF hin hok gok hfr henv hN hd => wpIn_seq (wpIn_mono (kx (by simp) F m ι w w0 a hF hin hok gok hfr henv hN hd) ?_)⟩
    rintro e a1 w1 ⟨rfl, h⟩
    exact ⟨rfl, h⟩
  | ret R' H' n' =>
    refine ⟨mx, fun hb F m ι w w0 a hF hin hok gok hfr henv hN hd => wpIn_seq (wpIn_mono (kx (by simp) F m ι w w0 a hF hin hok gok hfr henv hN hd) ?_)⟩
    rintro e a1 w1 ⟨rfl, h⟩
    exact ⟨rfl, h⟩
  | nrm R' H' n' =>
    simp only
    obtain ⟨my, ky⟩ := hy inner U N R' H' n'
    refine ⟨Out.to_trans mx my, fun hb F m ι w w0 a hF hin hok gok hfr henv hN hd => wpIn_seq (wpIn_mono (kx (by simp) F m ι w w0 a hF hin hok gok (Out.fr_split hfr hb my) henv hN hd) ?_)⟩
    rintro e a1 w1 ⟨rfl, ι1, henv1, hN1, hs1, hd1⟩
    refine wpIn_mono (ky hb F m ι1 w1 w0 a1 hF (fun h => ⟨(hin h).1, Nat.le_trans (hin h).2 hs1.size⟩) hs1.hok (gok.step hs1) (Out.fr_after hfr hs1 mx) henv1 hN1 hd1) ?_
    exact fun e2 a2 w2 h => CodePost.trans hs1 mx my h
theorem cond_ok {c : Operand} {x y : Code} (hx : CodeOK P Γ cal rounds x) (hy : CodeOK P Γ cal rounds y) : CodeOK P Γ cal rounds (.cond c x y) := fun inner U N R H n => by
  have hev : evCode cal Γ (codeIR P U N (.cond c x y) inner) rounds R H n = (match src [] R (rs [] c) with
    | .bool t => (match t with | true => evCode cal Γ (codeIR P U N x inner) rounds R H n | false => evCode cal Γ (codeIR P U N y inner) rounds R H n)
    | _ => .bad) := rfl
  rw [hev]
  have hsrc : ∀ {ι : Emb} {a : Act}, EnvR ι U R a.tmps → V.rel ι (src [] R (rs [] c)) (a.eval c) := fun {ι a} he => src_ok he.toD c
  cases hs : src [] R (rs [] c) <;> try exact ⟨trivial, fun hb => absurd rfl hb⟩
  rename_i t
  have hb : ∀ {ι : Emb} {a : Act}, EnvR ι U R a.tmps → a.eval c = .bool t := fun {ι a} he => by
    have := hsrc he
    rw [hs] at this
    simpa only [V.rel] using this
  cases t with
  | true =>
    obtain ⟨m1, k1⟩ := hx inner U N R H n
    exact ⟨m1, fun hnb F m ι w w0 a hF hin hok gok hfr henv hN hd => wpIn_cond_true (hb henv) (k1 hnb F m ι w w0 a hF hin hok gok hfr henv hN hd)⟩
  | false =>
    obtain ⟨m1, k1⟩ := hy inner U N R H n
    exact ⟨m1, fun hnb F m ι w w0 a hF hin hok gok hfr henv hN hd => wpIn_cond_false (hb henv) (k1 hnb F m ι w w0 a hF hin hok gok hfr henv hN hd)⟩
theorem block_ok {id : Nat} {x : Code} (hx : CodeOK P Γ cal rounds x) : CodeOK P Γ cal rounds (.block id x) := fun inner U N R H n => by
  obtain ⟨mx, kx⟩ := hx inner U N R H n
  have hev : evCode cal Γ (codeIR P U N (.block id x) inner) rounds R H n = (match evCode cal Γ (codeIR P U N x inner) rounds R H n with
    | .nrm R' H' n' => .nrm R' H' n'
    | .brk i R' H' n' => (match Nat.beq i id with | true => .nrm R' H' n' | false => .brk i R' H' n')
    | .ret R' H' n' => .ret R' H' n'
    | .bad => .bad) := rfl
  rw [hev]
  generalize evCode cal Γ (codeIR P U N x inner) rounds R H n = ox at mx kx
  cases ox with
  | bad => exact ⟨trivial, fun hb => absurd rfl hb⟩
  | nrm R' H' n' =>
    refine ⟨mx, fun hb F m ι w w0 a hF hin hok gok hfr henv hN hd => wpIn_block (wpIn_mono (kx (by simp) F m ι w w0 a hF hin hok gok hfr henv hN hd) ?_)⟩
    rintro e a1 w1 ⟨rfl, h⟩
    exact ⟨rfl, h⟩
  | ret R' H' n' =>
    refine ⟨mx, fun hb F m ι w w0 a hF hin hok gok hfr henv hN hd => wpIn_block (wpIn_mono (kx (by simp) F m ι w w0 a hF hin hok gok hfr henv hN hd) ?_)⟩
    rintro e a1 w1 ⟨rfl, h⟩
    exact ⟨rfl, h⟩
  | brk i R' H' n' =>
    cases hi : Nat.beq i id with
    | true =>
      have := beq_eq hi; subst this
      simp only [hi]
      refine ⟨mx, fun hb F m ι w w0 a hF hin hok gok hfr henv hN hd => wpIn_block (wpIn_mono (kx (by simp) F m ι w w0 a hF hin hok gok hfr henv hN hd) ?_)⟩
      rintro e a1 w1 ⟨rfl, h⟩
      show (if i = i then _ else _)
      rw [if_pos rfl]; exact ⟨rfl, h⟩
    | false =>
      have hne : i ≠ id := fun e => by subst e; simp at hi
      simp only [hi]
      refine ⟨mx, fun hb F m ι w w0 a hF hin hok gok hfr henv hN hd => wpIn_block (wpIn_mono (kx (by simp) F m ι w w0 a hF hin hok gok hfr henv hN hd) ?_)⟩
      rintro e a1 w1 ⟨rfl, h⟩
      show (if i = id then _ else _)
      rw [if_neg hne]; exact ⟨rfl, h⟩

/-- the rounds that are left -/
noncomputable def goL (c : Regs → Heap → Pth → Out) : Nat → Regs → Heap → Pth → Out :=
  Nat.rec (motive := fun _ => Regs → Heap → Pth → Out) (fun _ _ _ => .bad)
    (fun _ ih R H n => match c R H n with
      | .nrm R' H' n' => ih R' H' n'
      | .brk i R' H' n' => .brk i R' H' n'
      | .ret R' H' n' => .ret R' H' n'
      | .bad => .bad)
theorem goL_succ (c : Regs → Heap → Pth → Out) (j : Nat) (R : Regs) (H : Heap) (n : Pth) : goL c (j + 1) R H n = (match c R H n with
      | .nrm R' H' n' => goL c j R' H' n'
      | .brk i R' H' n' => .brk i R' H' n'
      | .ret R' H' n' => .ret R' H' n'
      | .bad => .bad) := rfl
theorem loop_ok {x : Code} (hx : CodeOK P Γ cal rounds x) : CodeOK P Γ cal rounds (.loop x) := fun inner U N R H n => by
  have hev : evCode cal Γ (codeIR P U N (.loop x) inner) rounds R H n = goL (evCode cal Γ (codeIR P U N x inner) rounds) rounds R H n := rfl
  rw [hev]
  have mono : ∀ j R H n, Out.to H (goL (evCode cal Γ (codeIR P U N x inner) rounds) j R H n) := by
    intro j
    induction j with
    | zero => intro R H n; trivial
    | succ j ih =>
      intro R H n
      obtain ⟨m1, _⟩ := hx inner U N R H n
      rw [goL_succ]
      generalize evCode cal Γ (codeIR P U N x inner) rounds R H n = o at m1
      cases o with
      | bad => trivial
      | nrm R' H' n' => exact Out.to_trans m1 (ih R' H' n')
      | brk id R' H' n' => exact m1
      | ret R' H' n' => exact m1
  refine ⟨mono rounds R H n, fun hb F m ι w w0 a hF hin hok gok hfr henv hN hd => ?_⟩
  generalize hout : goL (evCode cal Γ (codeIR P U N x inner) rounds) rounds R H n = out at hb hfr
  -- where the loop stands: j rounds may follow
  let Inv : Nat → Act → World → Prop := fun j a1 w1 => ∃ R1 H1 n1 ι1, goL (evCode cal Γ (codeIR P U N x inner) rounds) j R1 H1 n1 = out ∧ Step P ι H w ι1 H1 w1 ∧ Mono H H1 ∧ EnvR ι1 U R1 a1.tmps ∧ N ≤ a1.tmps.size ∧ Defs w0 ι1 H1 w1 a1.defers
  classical
  let μ : Act → World → Nat := fun a1 w1 => if h : ∃ j, Inv j a1 w1 then Classical.choose (exists_min h) else 0
  have hμ : ∀ {a1 w1}, (∃ j, Inv j a1 w1) → Inv (μ a1 w1) a1 w1 ∧ ∀ j, Inv j a1 w1 → μ a1 w1 ≤ j := fun {a1 w1} h => by
    have h1 := Classical.choose_spec (exists_min h)
    have e : μ a1 w1 = Classical.choose (exists_min h) := by show (if h : ∃ j, Inv j a1 w1 then _ else _) = _; rw [dif_pos h]
    rw [e]
    refine ⟨h1.1, fun j hj => ?_⟩
    rcases Nat.lt_or_ge j (Classical.choose (exists_min h)) with hlt | hge
    · exact absurd hj (h1.2 j hlt)
    · exact hge
  refine wpIn_loop (fun a1 w1 => ∃ j, Inv j a1 w1) μ ⟨rounds, R, H, n, ι, hout, Step.refl hok, Mono.refl _, henv, hN, hd⟩ fun a1 w1 hI => ?_
  obtain ⟨⟨R1, H1, n1, ι1, ho, hs, m1, henv1, hN1, hd1⟩, hmin⟩ := hμ hI
  generalize hj : μ a1 w1 = j at ho hmin
  cases j with
  | zero => exact absurd ho.symm (fun e => hb e)
  | succ j =>
    rw [goL_succ] at ho
    obtain ⟨mx, kx⟩ := hx inner U N R1 H1 n1
    have mj := mono j
    generalize evCode cal Γ (codeIR P U N x inner) rounds R1 H1 n1 = o at mx kx ho
    cases o with
    | bad => exact absurd ho.symm (fun e => hb e)
    | nrm R' H' n' =>
      simp only at ho
      have mo := mj R' H' n'
      rw [ho] at mo
      refine wpIn_mono (kx (by simp) F m ι1 w1 w0 a1 hF (fun h => ⟨(hin h).1, Nat.le_trans (hin h).2 hs.size⟩) hs.hok (gok.step hs) (Out.fr_split (Out.fr_after hfr hs m1) hb mo) henv1 hN1 hd1) ?_
      rintro e a2 w2 ⟨rfl, ι2, henv2, hN2, hs2, hd2⟩
      have hI2 : Inv j a2 w2 := ⟨R', H', n', ι2, ho, hs.trans hs2 m1 mx, m1.trans mx, henv2, hN2, hd2⟩
      have := (hμ ⟨j, hI2⟩).2 j hI2
      exact ⟨⟨j, hI2⟩, by omega⟩
    | brk id R' H' n' =>
      simp only at ho
      subst ho
      refine wpIn_mono (kx (by simp) F m ι1 w1 w0 a1 hF (fun h => ⟨(hin h).1, Nat.le_trans (hin h).2 hs.size⟩) hs.hok (gok.step hs) (Out.fr_after hfr hs m1) henv1 hN1 hd1) ?_
      rintro e a2 w2 h
      have h2 := CodePost.trans hs m1 mx h
      obtain ⟨rfl, h3⟩ := h2
      exact ⟨rfl, h3⟩
    | ret R' H' n' =>
      simp only at ho
      subst ho
      refine wpIn_mono (kx (by simp) F m ι1 w1 w0 a1 hF (fun h => ⟨(hin h).1, Nat.le_trans (hin h).2 hs.size⟩) hs.hok (gok.step hs) (Out.fr_after hfr hs m1) henv1 hN1 hd1) ?_
      rintro e a2 w2 h
      have h2 := CodePost.trans hs m1 mx h
      obtain ⟨rfl, h3⟩ := h2
      exact ⟨rfl, h3⟩
end
end
end Go.Ev
/-
  A verified evaluator, part 32: regions and loops over functions; all code.
-/
namespace Go.Ev
noncomputable section
open Go

section
variable {P : Program} {Γ : Glo} {ι ι' ι2 : Emb} {H H' H2 : Heap} {w w' w2 w0 : World} {R R' : Regs} {cal : Cal} {n n' : Pth} {U N m rounds : Nat} {F : Fence} {a : Act} {out : Out}

theorem region_ok (k : CalOK P Γ cal) (hmix : P.follows .mixedOrders = true) (id : Nat) (ops : Array Oper) (draw : Bool) : CodeOK P Γ cal rounds (.region id ops draw) := fun inner U N R H n => by
  have hev : evCode cal Γ (codeIR P U N (.region id ops draw) inner) rounds R H n = evCode cal Γ (regIR P U N ops draw) rounds R H n := rfl
  rw [hev]
  unfold regIR
  cases hb : below N (dstsOf ops.toList []) with
  | false => cases draw <;> exact ⟨trivial, fun hb => absurd rfl hb⟩
  | true =>
    cases draw with
    | false =>
      simp only
      have hev2 : evCode cal Γ (.reg (opsIR P ops ops.toList [] 0) (expsOf U (dstsOf ops.toList []) 0)) rounds R H n = (match evOps cal Γ R (opsIR P ops ops.toList [] 0) [] H n with
        | .ok L H' n' => .nrm (expo L R (expsOf U (dstsOf ops.toList []) 0)) H' n'
        | .bad => .bad) := rfl
      rw [hev2]
      cases he : evOps cal Γ R (opsIR P ops ops.toList [] 0) [] H n with
      | bad => exact ⟨trivial, fun hb => absurd rfl hb⟩
      | ok L' H' n' =>
        have h0 := ops_ok (F := Fence.wide) (m := 0) k (.inl rfl) (ops := ops) (N := N) ops.toList 0 [] [] H n L' H' n' (by simp) hb he
        refine ⟨h0.1, fun _ F m ι w w0 a hF hin hok gok hfr henv hN hd => wpIn_region ?_⟩
        have h1 := (ops_ok (F := F) (m := m) k hF (ops := ops) (N := N) ops.toList 0 [] [] H n L' H' n' (by simp) hb he).2 ι w a
          (CodePost P ι U N H w0 w (.nrm (expo L' R (expsOf U (dstsOf ops.toList []) 0)) H' n')) hok gok hfr henv.toD hN fun ι' a' w' hs hE hN' hD =>
            ⟨rfl, ι', expo_env henv hE, hN', hs, by rw [hD]; exact hd.step hs⟩
        rw [Array.length_toList] at h1
        rw [List.range_eq_range']
        exact h1
    | true =>
      cases ha : apartAll ops (befs ops.toList []) ops.toList 0 with
      | false => exact ⟨trivial, fun hb => absurd rfl hb⟩
      | true =>
        cases hback : edgesBack ops.toList 0 with
        | false => exact ⟨trivial, fun hb => absurd rfl hb⟩
        | true =>
          simp only
          have hev2 : evCode cal Γ (.regd (dopsIR P ops ops.toList (befs ops.toList []) [] 0) (expsOf U (dstsOf ops.toList []) 0)) rounds R H n =
            (match evDs cal Γ R (dopsIR P ops ops.toList (befs ops.toList []) [] 0) 0 [] H n [] [] [] with
            | .ok L H' n' _ _ pend => .nrm (expo L R (expsOf U (dstsOf ops.toList []) 0)) (mergeAll H' pend) n'
            | .bad => .bad) := rfl
          rw [hev2]
          cases he : evDs cal Γ R (dopsIR P ops ops.toList (befs ops.toList []) [] 0) 0 [] H n [] [] [] with
          | bad => exact ⟨trivial, fun hb => absurd rfl hb⟩
          | ok L' H' n' pa' ca' pe' =>
            have h0 := regd_ok (F := Fence.wide) (m := 0) (U := U) (N := N) (id := id) k (.inl rfl) hmix he hb ha hback
            refine ⟨h0.1, fun _ F m ι w w0 a hF hin hok gok hfr henv hN hd => ?_⟩
            exact (regd_ok (F := F) (m := m) (U := U) (N := N) (id := id) k hF hmix he hb ha hback).2 ι w a
              (CodePost P ι U N H w0 w (.nrm (expo L' R (expsOf U (dstsOf ops.toList []) 0)) (mergeAll H' pe') n')) hok gok hfr henv hN fun ι' a' w' hs hE hN' hD =>
                ⟨rfl, ι', expo_env henv hE, hN', hs, by rw [hD]; exact hd.step hs⟩

/-- a block that has no name -/
theorem Step.anon {ob : Obj} (h : HOK P ι H w) : Step P ι H w ι H (w.alloc ob) := by
  have old : ∀ b, b < w.heap.size → (w.alloc ob).heap[b]? = w.heap[b]? := fun b hb => by
    show (w.heap.push ob)[b]? = _
    rw [Array.getElem?_push]; simp [Nat.ne_of_lt hb]
  have hsz : w.heap.size ≤ (w.alloc ob).heap.size := by show _ ≤ (w.heap.push ob).size; simp
  refine ⟨Emb.le.refl _, fun _ h1 h2 => absurd h1 h2, ⟨fun p o hp => O.ok_mono (h.obj p o hp) (Emb.le.refl _) fun b s hd hp' => ?_, h.inj, fun p b s hp => Nat.lt_of_lt_of_le (h.lt p b s hp) hsz⟩,
    fun b hb _ => old b hb, hsz, fun p b s hl hp _ => ⟨p, s, hl, hp⟩, rfl, rfl, rfl⟩
  exact old b (h.lt p b s hp')
/-- a record of a loop that is done with -/
theorem Step.end {p : Pth} {l : Nat} {o : O} {lp : Loop} {ob : Obj} (h : HOK P ι H w) (hp : H.get p = some o) (hd : o ≠ .dead) (hι : ι p = some (l, 0)) (_hl : w.heap[l]? = some (.loop lp)) :
    Step P ι H w ι (H.set p .dead) (w.putObj l ob) :=
  Step.write h hp hd hι ⟨by simp, fun b' hb' => World.putObj_heap_other hb', rfl, rfl, rfl⟩ trivial

theorem rf_ok (k : CalOK P Γ cal) (f : Operand) (ps : Array Tmp) (x y : Code) : CodeOK P Γ cal rounds (.rangeFunc f ps x y) := fun inner U N R H n => by
  have hev : evCode cal Γ (codeIR P U N (.rangeFunc f ps x y) inner) rounds R H n = evCode cal Γ (rfIR U N inner f ps (codeIR P U N x true) (codeIR P U N y true)) rounds R H n := rfl
  rw [hev]
  unfold rfIR
  cases inner with
  | true => exact ⟨trivial, fun hb => absurd rfl hb⟩
  | false =>
  cases hbel : belowAll N ps.toList with
  | false => exact ⟨trivial, fun hb => absurd rfl hb⟩
  | true =>
  cases hbits : allBits U ps.toList with
  | false => exact ⟨trivial, fun hb => absurd rfl hb⟩
  | true =>
  cases hnod : nodupN ps.toList with
  | false => exact ⟨trivial, fun hb => absurd rfl hb⟩
  | true =>
  simp only
  have hev2 : evCode cal Γ (.rf (rs [] f) (ps.toList.map toPth) (codeIR P U N x true) (codeIR P U N y true)) rounds R H n = coRf cal (rs [] f) (ps.toList.map toPth) (codeIR P U N x true) (codeIR P U N y true) rounds R H n := rfl
  rw [hev2]
  generalize hout : coRf cal (rs [] f) (ps.toList.map toPth) (codeIR P U N x true) (codeIR P U N y true) rounds R H n = out
  unfold coRf at hout
  split at hout <;> try (subst hout; exact ⟨trivial, fun hb => absurd rfl hb⟩)
  rename_i g xs ys hsrc hHn
  split at hout <;> try (subst hout; exact ⟨trivial, fun hb => absurd rfl hb⟩)
  rename_i v1 H1 n1 hcal
  obtain ⟨m1, hcallable, hk⟩ := k.fn _ _ _ _ _ _ _ hcal
  have m01 : Mono H H1 := (Mono.set _ _ _).trans m1
  have m02 : Mono H (H1.set n .dead) := m01.trans (Mono.set _ _ _)
  split at hout <;> try (subst hout; exact ⟨trivial, fun hb => absurd rfl hb⟩)
  rename_i pend done R2 ps2 a2 b2 hg1
  have main : ∀ (F : Fence) (m : Nat) (ι : Emb) (w w0 : World) (a : Act) (Q : Exit → Act → World → Prop), FW F → (F.round = none ∧ w0.heap.size ≤ w.heap.size) → HOK P ι H w → GOK Γ ι H w → Fr ι H (H1.set n .dead) → EnvR ι U R a.tmps → N ≤ a.tmps.size →
      Defs w0 ι H w a.defers → (∀ (jump : Option Code) a' w', pendR pend jump → Left P ι U N H w0 w R (H1.set n .dead) a' w' → match jump with | none => Q .normal a' w' | some c => c.wpIn F m P Q a' w') →
      (Code.rangeFunc f ps x y).wpIn F m P Q a w := by
    intro F m ι w w0 a Q hF hin hok gok hfr henv hN hd hQ
    have hwide : F = Fence.wide := by
      rcases hF with rfl | ⟨l, rfl⟩
      · rfl
      · have := hin.1; simp at this
    subst hwide
    have hq := src_ok henv.toD f
    rw [hsrc] at hq
    simp only [V.rel] at hq
    obtain ⟨xv, yv, hfe, hxr, hyr⟩ := hq
    refine wpIn_rangeFunc fun fn _ => ?_
    -- the blocks
    let wA : World := w.alloc (.deferred (some []))
    let lp : Loop := { state := .ready, pending := none, fn := fn, tmps := a.tmps, params := ps, assign := x, body := y, defers := w.heap.size }
    let wB : World := wA.alloc (.loop lp)
    have hszA : wA.heap.size = w.heap.size + 1 := by show (w.heap.push _).size = _; simp
    have sA : Step P ι H w ι H wA := Step.anon hok
    have f1 : Fr ι H (H.set n (.loop false none false R (ps.toList.map toPth) (codeIR P U N x true) (codeIR P U N y true))) := Fr.split (Fr.split hfr (Mono.set _ _ _)) m1
    have hιn : ι n = none := f1 n hHn (by rw [Tr.get_set_same]; simp)
    have hule : ι.le (upd ι n (wA.heap.size, 0) 0) := upd_le_new hιn sA.hok
    have sB : Step P ι H wA (upd ι n (wA.heap.size, 0) 0) (H.set n (.loop false none false R (ps.toList.map toPth) (codeIR P U N x true) (codeIR P U N y true))) wB := by
      refine Step.alloc (.loop lp) sA.hok hHn hιn (by simp) rfl rfl rfl rfl ⟨wA.heap.size, lp, U, N, upd_same _ _ _ _, World.alloc_heap_new wA _, rfl, rfl, rfl, rfl, rfl, henv.mono hule, hN, hbel, hbits, hnod⟩
    have sAB := sA.trans sB (Mono.refl _) (Mono.set _ _ _)
    have dA : Defs w0 ι H wA ({ target := .collected w.heap.size, args := #[] } :: a.defers) := by
      have d1 := hd.step sA
      refine ⟨fun e he => ?_, List.pairwise_cons.2 ⟨fun e he heq => ?_, hd.apart⟩⟩
      · rcases List.mem_cons.1 he with rfl | he
        · refine ⟨w.heap.size, rfl, hin.2, World.alloc_heap_new w _, fun p s hl hp => ?_⟩
          exact absurd (hok.lt p _ s hp) (Nat.lt_irrefl _)
        · exact d1.all e he
      · obtain ⟨b, h1, _, h3, _⟩ := hd.all e he
        have hb : b < w.heap.size := (Array.getElem?_eq_some_iff.1 h3).1
        rw [h1] at heq
        simp only [Target.collected.injEq] at heq
        omega
    refine ⟨wA.heap.size, [{ target := .collected w.heap.size, args := #[] }], wB, { target := .fn (.func g) yv, args := xv ++ #[.func (.yield wA.heap.size) #[] #[]] }, wB, g, xv ++ #[.func (.yield wA.heap.size) #[] #[]] ++ yv, wB, ?_, ?_, fun f' _ => trivial, ?_, fun h => by simp [Fence.wide] at h, ?_⟩
    · have := run_enterLoop_outer (P := P) (w := w) fn a.tmps ps x y
      rw [← hszA] at this
      exact this
    · unfold resolve
      simp only [hfe, Deferred.ofValue]
      have : (#[Operand.const (.func (.yield wA.heap.size) #[] #[])].map a.eval) = #[.func (.yield wA.heap.size) #[] #[]] := by simp [Act.eval]
      rw [this]; rfl
    · simp only [invoke]
      exact run_callFunc hcallable
    · refine callsIn_wide.2 ((hk (upd ι n (wA.heap.size, 0) 0) wB _ sB.hok (gok.step sAB) (Fr.after (Fr.split hfr (Mono.set _ _ _)) sAB (Mono.set _ _ _)) ?_).mono fun e w3 he => ?_)
      · rw [app_eq, app_eq, Array.toList_append, Array.toList_append, List.append_assoc]
        refine rels_append (V.rels.mono hule _ _ hxr) (rels_append ?_ (V.rels.mono hule _ _ hyr))
        exact rels_one (by simp only [V.rel]; exact ⟨wA.heap.size, upd_same _ _ _ _, rfl⟩)
      · obtain ⟨rv, rfl, ι3, _, s3⟩ := he
        have hι3 : ι3 n = some (wA.heap.size, 0) := s3.ext.name _ _ (upd_same _ _ _ _)
        obtain ⟨lp3, U3, N3, hl3, hst3, hpe3, _⟩ := loop_of s3.hok hg1 hι3
        have s4 := Step.end (ob := .loop { lp3 with state := .exhausted }) s3.hok hg1 (by simp) hι3 hl3
        refine ⟨lp3.pending, _, run_endLoop hl3 (by rw [hst3]; cases done <;> simp [stateOf]), ?_⟩
        have sT := (sAB.trans s3 (Mono.set _ _ _) m1).trans s4 m01 (Mono.set _ _ _)
        exact hQ lp3.pending _ _ hpe3 ⟨ι3, henv.mono sT.ext, hN, sT, ((dA.step sB).step s3).step s4⟩
  cases pend with
  | none =>
    simp only at hout
    subst hout
    refine ⟨m02, fun _ F m ι w w0 a hF hin hok gok hfr henv hN hd => main F m ι w w0 a _ hF (hin trivial) hok gok hfr henv hN hd ?_⟩
    intro jump a' w' hj hl
    have hj' : jump = none := hj
    subst hj'
    exact ⟨rfl, hl⟩
  | some j =>
    cases j with
    | none =>
      simp only at hout
      subst hout
      refine ⟨m02, fun _ F m ι w w0 a hF hin hok gok hfr henv hN hd => main F m ι w w0 a _ hF (hin trivial) hok gok hfr henv hN hd ?_⟩
      intro jump a' w' hj hl
      have hj' : jump = some .ret := hj
      subst hj'
      exact wpIn_ret ⟨rfl, hl⟩
    | some id =>
      simp only at hout
      subst hout
      refine ⟨m02, fun _ F m ι w w0 a hF hin hok gok hfr henv hN hd => main F m ι w w0 a _ hF (hin trivial) hok gok hfr henv hN hd ?_⟩
      intro jump a' w' hj hl
      have hj' : jump = some (.exit id) := hj
      subst hj'
      exact wpIn_exit ⟨rfl, hl⟩

/-- all code -/
theorem code_ok (k : CalOK P Γ cal) (hmix : P.follows .mixedOrders = true) (c : Code) : CodeOK P Γ cal rounds c := by
  induction c with
  | skip => exact skip_ok
  | region id ops draw => exact region_ok k hmix id ops draw
  | seq x y hx hy => exact seq_ok hx hy
  | cond c x y hx hy => exact cond_ok hx hy
  | block id x hx => exact block_ok hx
  | loop x hx => exact loop_ok hx
  | rangeFunc f ps x y _ _ => exact rf_ok k f ps x y
  | exit id => exact exit_ok id
  | ret => exact ret_ok
  | _ => exact bad_ok fun _ _ _ => rfl
end
end
end Go.Ev
/-
  A verified evaluator, part 33: functions; calls, however deep.
-/
namespace Go.Ev
noncomputable section
open Go

section
variable {P : Program} {Γ : Glo} {ι ι' ι2 : Emb} {H H' H2 : Heap} {w w' w2 w0 : World} {R R' : Regs} {cal : Cal} {n n' : Pth} {U N m rounds : Nat} {F : Fence} {a : Act} {out : Out}

/- names only grow -/
theorem evOps_mono (k : CalOK P Γ cal) : ∀ (l : List IOp) (L : List V) (H : Heap) (n : Pth) (L' : List V) (H' : Heap) (n' : Pth), evOps cal Γ R l L H n = .ok L' H' n' → Mono H H'
  | [], L, H, n, L', H', n', h => by
    have h' : ROut.ok L H n = .ok L' H' n' := h
    cases h'; exact Mono.refl _
  | o :: l, L, H, n, L', H', n', h => by
    rw [evOps_cons] at h
    cases h1 : evOp1 cal Γ R o L H n with
    | bad => simp [h1] at h
    | ok L1 H1 n1 =>
      simp only [h1] at h
      refine Mono.trans ?_ (evOps_mono k l L1 H1 n1 L' H' n' h)
      unfold evOp1 at h1
      split at h1
      split at h1 <;> try (cases h1; done)
      · split at h1 <;> try (cases h1; done)
        rename_i he
        cases h1
        exact evI_mono k _ he
      · cases h1; exact Mono.refl _
theorem evDs_mono (k : CalOK P Γ cal) : ∀ (l : List DOp) (i : Nat) (L : List V) (H : Heap) (n : Pth) (pa : List Past) (ca : List Calm) (pe : List Pend) (L' : List V) (H' : Heap) (n' : Pth) (pa' : List Past) (ca' : List Calm) (pe' : List Pend),
    evDs cal Γ R l i L H n pa ca pe = .ok L' H' n' pa' ca' pe' → Mono H H'
  | [], i, L, H, n, pa, ca, pe, L', H', n', pa', ca', pe', h => by
    have h' : DOut.ok L H n pa ca pe = .ok L' H' n' pa' ca' pe' := h
    cases h'; exact Mono.refl _
  | o :: l, i, L, H, n, pa, ca, pe, L', H', n', pa', ca', pe', h => by
    rw [evDs_cons] at h
    cases h1 : evDOp cal Γ R i o L H n pa ca pe with
    | bad => simp [h1] at h
    | ok L1 H1 n1 pa1 ca1 pe1 =>
      simp only [h1] at h
      refine Mono.trans ?_ (evDs_mono k l _ L1 H1 n1 pa1 ca1 pe1 L' H' n' pa' ca' pe' h)
      unfold evDOp at h1
      split at h1
      split at h1 <;> try (cases h1; done)
      · unfold evD1 at h1
        split at h1
        · split at h1 <;> cases h1
          exact Mono.refl _
        · split at h1 <;> try (cases h1; done)
          split at h1 <;> cases h1
          exact Mono.refl _
        · split at h1 <;> try (cases h1; done)
          split at h1 <;> try (cases h1; done)
          split at h1 <;> cases h1
          exact Mono.refl _
        · split at h1 <;> try (cases h1; done)
          split at h1 <;> try (cases h1; done)
          rename_i he
          split at h1 <;> cases h1
          rw [merge_eq] at he
          exact (merge_mono _ _ _).trans (evI_mono k _ he)
      · cases h1; exact Mono.refl _
theorem evCode_to (k : CalOK P Γ cal) (c : IR) : ∀ (R : Regs) (H : Heap) (n : Pth), Out.to H (evCode cal Γ c rounds R H n) := by
  induction c with
  | bad => exact fun R H n => trivial
  | skip => exact fun R H n => Mono.refl _
  | ret => exact fun R H n => Mono.refl _
  | exit id => exact fun R H n => Mono.refl _
  | seq x y hx hy =>
    intro R H n
    have m1 := hx R H n
    show Out.to H (match evCode cal Γ x rounds R H n with
      | .nrm R' H' n' => evCode cal Γ y rounds R' H' n'
      | .brk i R' H' n' => .brk i R' H' n'
      | .ret R' H' n' => .ret R' H' n'
      | .bad => .bad)
    generalize evCode cal Γ x rounds R H n = o at m1
    cases o with
    | nrm R' H' n' => exact Out.to_trans m1 (hy R' H' n')
    | _ => exact m1
  | cond c x y hx hy =>
    intro R H n
    show Out.to H (match src [] R c with
      | .bool t => (match t with | true => evCode cal Γ x rounds R H n | false => evCode cal Γ y rounds R H n)
      | _ => .bad)
    split
    · split
      · exact hx R H n
      · exact hy R H n
    · trivial
  | block id x hx =>
    intro R H n
    have m1 := hx R H n
    show Out.to H (match evCode cal Γ x rounds R H n with
      | .nrm R' H' n' => .nrm R' H' n'
      | .brk i R' H' n' => (match Nat.beq i id with | true => .nrm R' H' n' | false => .brk i R' H' n')
      | .ret R' H' n' => .ret R' H' n'
      | .bad => .bad)
    generalize evCode cal Γ x rounds R H n = o at m1
    cases o with
    | brk i R' H' n' => simp only; split <;> exact m1
    | _ => exact m1
  | loop x hx =>
    intro R H n
    show Out.to H (goL (evCode cal Γ x rounds) rounds R H n)
    have mono : ∀ j R H n, Out.to H (goL (evCode cal Γ x rounds) j R H n) := by
      intro j
      induction j with
      | zero => intro R H n; trivial
      | succ j ih =>
        intro R H n
        have m1 := hx R H n
        rw [goL_succ]
        generalize evCode cal Γ x rounds R H n = o at m1
        cases o with
        | nrm R' H' n' => exact Out.to_trans m1 (ih R' H' n')
        | _ => exact m1
    exact mono rounds R H n
  | reg ops exps =>
    intro R H n
    show Out.to H (match evOps cal Γ R ops [] H n with
      | .ok L H' n' => .nrm (expo L R exps) H' n'
      | .bad => .bad)
    cases he : evOps cal Γ R ops [] H n with
    | bad => trivial
    | ok L' H' n' => exact evOps_mono k _ _ _ _ _ _ _ he
  | regd ops exps =>
    intro R H n
    show Out.to H (match evDs cal Γ R ops 0 [] H n [] [] [] with
      | .ok L H' n' _ _ pend => .nrm (expo L R exps) (mergeAll H' pend) n'
      | .bad => .bad)
    cases he : evDs cal Γ R ops 0 [] H n [] [] [] with
    | bad => trivial
    | ok L' H' n' pa' ca' pe' =>
      show Mono H (mergeAll H' pe')
      rw [mergeAll_eq]
      exact (evDs_mono k _ _ _ _ _ _ _ _ _ _ _ _ _ _ he).trans (merge_mono _ _ _)
  | rf f ps x y _ _ =>
    intro R H n
    show Out.to H (coRf cal f ps x y rounds R H n)
    unfold coRf
    split <;> try trivial
    split <;> try trivial
    rename_i he
    have m1 := (k.fn _ _ _ _ _ _ _ he).1
    have m2 := ((Mono.set _ _ _).trans m1).trans (Mono.set _ n .dead)
    split <;> try trivial
    split <;> exact m2

/- results -/
def resF (tmps : Array Value) : ResultVar → Sem Value
  | .tmp t => pure (tmps.getD t undef)
  | .cell a t => do loadVar t (← asAddr (tmps.getD a undef))
theorem results_eq (fn : Func) (tmps : Array Value) : results fn tmps = (do
    let vs ← fn.results.mapM (resF tmps)
    pure (if h : vs.size = 1 then vs[0] else .tuple vs)) := by
  unfold results
  congr
theorem resAll_cons (r : RV) (rs : List RV) : resAll Γ R H (r :: rs) = (match resOf Γ R H r, resAll Γ R H rs with | some v, some l => some (v :: l) | _, _ => none) := rfl
theorem get_slot {tmps : Array Value} (henv : EnvR ι U R tmps) {t : Nat} {v : V} (h : R.get (toPth t) = some v) : V.rel ι v (tmps.getD t undef) := by
  have := (henv (toPth t) v h).2
  rw [num_toPth] at this; exact this
theorem results_ok (hok : HOK P ι H w) (gok : GOK Γ ι H w) {tmps : Array Value} (henv : EnvR ι U R tmps) : ∀ (l : List ResultVar) (vs : List V), resKnown P l = true → resAll Γ R H (resIR P l) = some vs →
    ∃ xs : List Value, (l.mapM (resF tmps)).run P w = .ok xs w ∧ V.rels ι vs xs
  | [], vs, _, h => by
    have h' : some [] = some vs := h
    cases h'
    exact ⟨[], by simp [], rels_nil⟩
  | r :: l, vs, hkn, h => by
    have key : ∀ (q : RV), resIR P (r :: l) = q :: resIR P l → resKnown P l = true → (∀ v, resOf Γ R H q = some v → ∃ x, (resF tmps r).run P w = .ok x w ∧ V.rel ι v x) →
        ∃ xs : List Value, ((r :: l).mapM (resF tmps)).run P w = .ok xs w ∧ V.rels ι vs xs := by
      intro q hq hkl hx
      rw [hq, resAll_cons] at h
      cases h1 : resOf Γ R H q with
      | none => simp [h1] at h
      | some v =>
        cases h2 : resAll Γ R H (resIR P l) with
        | none => simp [h1, h2] at h
        | some vs' =>
          simp only [h1, h2, Option.some.injEq] at h
          subst h
          obtain ⟨x, hx1, hx2⟩ := hx v h1
          obtain ⟨xs, h3, h4⟩ := results_ok hok gok henv l vs' hkl h2
          refine ⟨x :: xs, ?_, rels_cons hx2 h4⟩
          rw [List.mapM_cons, run_ok_bind hx1, run_ok_bind h3]; rfl
    cases r with
    | tmp t =>
      refine key (.tmp (toPth t)) rfl hkn fun v hv => ⟨_, rfl, get_slot henv hv⟩
    | cell c t =>
      have hkn' : (match aggT P t, sizeT P t with | some _, some _ => resKnown P l | _, _ => false) = true := hkn
      cases hag : aggT P t with
      | none => simp [hag] at hkn'
      | some b =>
        cases hsz : sizeT P t with
        | none => simp [hag, hsz] at hkn'
        | some k =>
          simp only [hag, hsz] at hkn'
          cases b with
          | false =>
            refine key (.cell (toPth c) none) (by simp only [resIR, hag]) hkn' fun v hv => ?_
            unfold resOf at hv
            simp only at hv
            cases hr : R.get (toPth c) with
            | none => simp [hr] at hv
            | some u =>
              simp only [hr] at hv
              obtain ⟨ad, y, hx, hrun, hvy⟩ := cellAt_ok hok gok hv (get_slot henv hr)
              refine ⟨y, ?_, hvy⟩
              show (do loadVar t (← asAddr (tmps.getD c undef)) : Sem Value).run P w = _
              rw [hx, run_ok_bind (show (asAddr (.pointer (some ad))).run P w = .ok ad w from rfl)]
              unfold loadVar
              rw [run_ok_bind (run_isAgg hag)]
              exact hrun
          | true =>
            refine key (.cell (toPth c) (some k)) (by simp only [resIR, hag, hsz]) hkn' fun v hv => ?_
            unfold resOf at hv
            simp only at hv
            cases hr : R.get (toPth c) with
            | none => simp [hr] at hv
            | some u =>
              simp only [hr] at hv
              cases hc : cellsAt Γ H u k with
              | none => simp [hc] at hv
              | some cl =>
                simp [hc] at hv
                subst hv
                obtain ⟨ad, ys, hx, hrun, hvy, _⟩ := cellsAt_ok hok gok hc (get_slot henv hr)
                refine ⟨.agg ys, ?_, by simp only [V.rel]; exact ⟨ys, rfl, hvy⟩⟩
                show (do loadVar t (← asAddr (tmps.getD c undef)) : Sem Value).run P w = _
                rw [hx, run_ok_bind (show (asAddr (.pointer (some ad))).run P w = .ok ad w from rfl)]
                unfold loadVar
                rw [run_ok_bind (run_isAgg hag)]
                simp only [if_true]
                rw [run_ok_bind (run_sizeOf hsz), run_ok_bind hrun]; rfl
theorem leave_ok (hok : HOK P ι H w) (gok : GOK Γ ι H w) {fn : Func} {tmps : Array Value} {v : V} (henv : EnvR ι U R tmps) (hkn : resKnown P fn.results.toList = true)
    (h : leave Γ (resIR P fn.results.toList) R H n = .ok v H' n') : H' = H ∧ ∃ x, (results fn tmps).run P w = .ok x w ∧ V.rel ι v x := by
  unfold leave at h
  cases hr : resAll Γ R H (resIR P fn.results.toList) with
  | none => simp [hr] at h
  | some vs =>
    obtain ⟨xs, h1, h2⟩ := results_ok (w := w) hok gok henv fn.results.toList vs hkn hr
    have hrun : (results fn tmps).run P w = .ok (if h : xs.toArray.size = 1 then xs.toArray[0] else .tuple xs.toArray) w := by
      rw [results_eq]
      rw [Array.mapM_eq_mapM_toList]
      have h3 : ((List.toArray <$> fn.results.toList.mapM (resF tmps) : Sem (Array Value))).run P w = .ok xs.toArray w := by
        rw [map_eq_pure_bind, run_ok_bind h1]; rfl
      rw [run_ok_bind h3]; rfl
    have hl := rels_length h2
    rw [hr] at h
    match vs, h, h2, hl with
    | [], h, h2, hl =>
      simp at h
      obtain ⟨rfl, rfl, rfl⟩ := h
      refine ⟨rfl, _, hrun, ?_⟩
      have : ¬ (xs.toArray.size = 1) := by simp at hl ⊢; rw [hl]; simp
      rw [dif_neg this]
      simp only [V.rel]; exact ⟨_, rfl, h2⟩
    | [u], h, h2, hl =>
      simp at h
      obtain ⟨rfl, rfl, rfl⟩ := h
      refine ⟨rfl, _, hrun, ?_⟩
      obtain ⟨x, t, rfl, hx, ht⟩ := rels_cons_inv h2
      have := rels_nil_inv ht; subst this
      simpa using hx
    | u1 :: u2 :: t, h, h2, hl =>
      simp at h
      obtain ⟨rfl, rfl, rfl⟩ := h
      refine ⟨rfl, _, hrun, ?_⟩
      have : ¬ (xs.toArray.size = 1) := by simp at hl ⊢; rw [hl]; simp
      rw [dif_neg this]
      simp only [V.rel]; exact ⟨_, rfl, h2⟩

/- the marks are taken -/
/-- the same world but for blocks of the kind B -/
structure Shut (B : Nat → Prop) (w w' : World) : Prop where
  size : w'.heap.size = w.heap.size
  other : ∀ b, ¬ B b → w'.heap[b]? = w.heap[b]?
  tape : w'.tape = w.tape
  os : w'.os = w.os
  out : w'.output = w.output
theorem leaves_ok {fn : Func} {tmps : Array Value} {Q : Ending → World → Prop} {B : Nat → Prop} : ∀ (ds : List Deferred) (w1 : World), (∀ d ∈ ds, ∃ b, d.target = .collected b ∧ B b ∧ w1.heap[b]? = some (.deferred (some []))) →
    ds.Pairwise (fun d e => d.target ≠ e.target) → (∀ w2, Shut B w1 w2 → ∃ x, (results fn tmps).run P w2 = .ok x w2 ∧ Q (.returned x) w2) → LeavesInM F m P fn tmps Q ds .returning w1
  | [], w1, _, _, hQ => hQ w1 ⟨rfl, fun _ _ => rfl, rfl, rfl, rfl⟩
  | d :: ds, w1, hd, hp, hQ => by
    obtain ⟨b, ht, hb, hh⟩ := hd d (List.mem_cons_self ..)
    refine ⟨by simp, .inl ⟨b, _, ht, run_takeDeferred hh, ?_⟩⟩
    refine leaves_ok (B := B) ds _ (fun e he => ?_) (List.pairwise_cons.1 hp).2 fun w2 hs => ?_
    · obtain ⟨c, h1, h2, h3⟩ := hd e (List.mem_cons_of_mem _ he)
      refine ⟨c, h1, h2, ?_⟩
      rw [World.putObj_heap_other]
      · exact h3
      · intro e2
        subst e2
        exact (List.pairwise_cons.1 hp).1 e he (by rw [ht, h1])
    · refine hQ w2 ⟨by rw [hs.size]; simp, fun c hc => ?_, hs.tape, hs.os, hs.out⟩
      rw [hs.other c hc, World.putObj_heap_other]
      intro e2; subst e2; exact hc hb
theorem Step.shut {B : Nat → Prop} (h : Step P ι H w ι' H' w') (hs : Shut B w' w2) (h1 : ∀ b, B b → w.heap.size ≤ b) (h2 : ∀ b, B b → ∀ p s, Live H' p → ι' p ≠ some (b, s)) : Step P ι H w ι' H' w2 := by
  refine ⟨h.ext, h.new, ⟨fun p o hp => O.ok_mono (h.hok.obj p o hp) (Emb.le.refl _) fun b s hd hp' => hs.other b fun hb => h2 b hb p s ⟨o, hp, hd⟩ hp', h.hok.inj, fun p b s hp => by rw [hs.size]; exact h.hok.lt p b s hp⟩,
    fun b hb hn => (hs.other b fun hB => absurd (h1 b hB) (by omega)).trans (h.kept b hb hn), by rw [hs.size]; exact h.size, h.back, hs.tape.trans h.tape, hs.os.trans h.os, hs.out.trans h.out⟩

/- functions -/
theorem slots_eq : ∀ (k i : Nat), slots k i = (List.range' i k).map toPth
  | 0, _ => rfl
  | k + 1, i => by
    show toPth i :: slots k (i + 1) = _
    rw [slots_eq k (i + 1), List.range'_succ]; rfl
theorem fn_ok (k : CalOK P Γ cal) (hmix : P.follows .mixedOrders = true) (hname : ∀ (f : Nat) (fn : Func), P.funcs[f]? = some fn → (fn.name == "runtime.NumGoroutine") = false)
    {f : Nat} {args : List V} {v : V} (h : evFun cal Γ rounds (funIR P f) args H n = .ok v H' n') :
    Mono H H' ∧ Callable P f ∧ ∀ ι w (xs : Array Value), HOK P ι H w → GOK Γ ι H w → Fr ι H H' → V.rels ι args xs.toList → Calls P f xs w (fun e w' => ∃ x, e = .returned x ∧ Post P ι H w H' v x w') := by
  unfold funIR at h
  cases hf : P.funcs[f]? with
  | none => simp only [hf] at h; cases h
  | some fn =>
    simp only [hf] at h
    cases hb : fn.body with
    | none => simp only [hb] at h; cases h
    | some c =>
      cases hkn : resKnown P fn.results.toList with
      | false => simp only [hb, hkn] at h; cases h
      | true =>
        simp only [hb, hkn] at h
        unfold evFun at h
        simp only at h
        cases hso : setOver .nil (slots (fn.params.size + fn.nfree) 0) args with
        | none => simp [hso] at h
        | some R =>
          simp only [hso] at h
          obtain ⟨mo, ko⟩ := code_ok (rounds := rounds) k hmix c false (maskOf fn c) fn.ntmps R H n
          have hcall : Callable P f := ⟨fn, hf, by rw [hb]; rfl, hname f fn hf⟩
          -- the end, whichever way
          have main : ∀ (R' : Regs) (H1 : Heap) (n1 : Pth) (out : Out), evCode cal Γ (codeIR P (maskOf fn c) fn.ntmps c false) rounds R H n = out → (out = .nrm R' H1 n1 ∨ out = .ret R' H1 n1) → leave Γ (resIR P fn.results.toList) R' H1 n1 = .ok v H' n' →
              Mono H H' ∧ Callable P f ∧ ∀ ι w (xs : Array Value), HOK P ι H w → GOK Γ ι H w → Fr ι H H' → V.rels ι args xs.toList → Calls P f xs w (fun e w' => ∃ x, e = .returned x ∧ Post P ι H w H' v x w') := by
            intro R' H1 n1 out hout hor hl
            rw [hout] at mo ko
            have hH1 : H' = H1 := by
              unfold leave at hl
              split at hl <;> cases hl <;> rfl
            subst hH1
            have mH : Mono H H' := by rcases hor with rfl | rfl <;> exact mo
            have hnb : out ≠ .bad := by rcases hor with rfl | rfl <;> simp
            refine ⟨mH, hcall, fun ι w xs hok gok hfr hxs => callsIn_wide.1 (callsIn_of_wp_marks (n := 0) hf hb trivial ?_)⟩
            have hfr' : Out.fr ι H out := by rcases hor with rfl | rfl <;> exact hfr
            rw [slots_eq] at hso
            have hlen := setOver_length hso
            have hxl := rels_length hxs
            simp only [List.length_map, List.length_range', Array.length_toList] at hlen hxl
            have henv : EnvR ι (maskOf fn c) R (xs ++ Array.replicate (fn.ntmps - xs.size) undef) := by
              intro q u hq
              obtain ⟨h1, h2⟩ := setOver_rel (val := fun j => (xs ++ Array.replicate (fn.ntmps - xs.size) undef).getD j undef) (q := q) hso hxs (fun i t x hi hx => by
                have hlt : i < fn.params.size + fn.nfree := by
                  have := (List.getElem?_eq_some_iff.1 hi).1
                  simpa using this
                have ht : t = i := by
                  rw [List.getElem?_range' hlt] at hi
                  simp at hi; omega
                subst ht
                have hx' : xs[t]? = some x := by simpa using hx
                have hlt2 : t < xs.size := (Array.getElem?_eq_some_iff.1 hx').1
                simp only [Array.getD_eq_getD_getElem?, Array.getElem?_append_left hlt2, hx', Option.getD_some]) (fun v hv => by rw [Tr.get_nil] at hv; cases hv) u hq
              refine ⟨?_, h1⟩
              rcases h2 with ⟨t, ht, e⟩ | h2
              · rw [← e, num_toPth]
                have hlt : t < fn.params.size + fn.nfree := by
                  have := List.mem_range'_1.1 ht; omega
                unfold maskOf
                rw [bit_or, bit_eq, Nat.testBit_two_pow_sub_one]
                simp [hlt]
              · rw [Tr.get_nil] at h2; cases h2
            have hwp := ko hnb Fence.wide 0 ι w w { tmps := xs ++ Array.replicate (fn.ntmps - xs.size) undef, defers := [] } (.inl rfl) (fun _ => ⟨rfl, Nat.le_refl _⟩) hok gok hfr' henv (by simp; omega) Defs.nil
            refine wpIn_mono hwp fun e act w1 hpost => ?_
            have fin : Left P ι (maskOf fn c) fn.ntmps H w w R' H' act w1 → LeavesInM Fence.wide 0 P fn act.tmps (fun e w' => ∃ x, e = .returned x ∧ Post P ι H w H' v x w') act.defers .returning w1 := by
              rintro ⟨ι1, henv1, hN1, hs1, hd1⟩
              refine leaves_ok (B := fun b => w.heap.size ≤ b ∧ w1.heap[b]? = some (.deferred (some [])) ∧ ∀ p s, Live H' p → ι1 p ≠ some (b, s)) act.defers w1 (fun d hd => ?_) hd1.apart fun w2 hsh => ?_
              · obtain ⟨b, h1, h2, h3, h4⟩ := hd1.all d hd
                exact ⟨b, h1, ⟨h2, h3, h4⟩, h3⟩
              · have hs2 := hs1.shut hsh (fun b hb => hb.1) (fun b hb => hb.2.2)
                have gok1 := gok.step hs1
                have gok2 : GOK Γ ι1 H' w2 := ⟨fun g i u hu => by
                  obtain ⟨cc, el, fr, kk, mm, hh, e1, e2⟩ := gok1.val g i u hu
                  refine ⟨cc, el, fr, kk, mm, ?_, e1, e2⟩
                  rw [hsh.other g fun hB => by rw [hB.2.1] at hh; cases hh]; exact hh, gok1.off, gok1.tab, gok1.tabA, fun e he => by
                  obtain ⟨b, s, z, h1, h2, h3, h4⟩ := gok1.lds e he
                  refine ⟨b, s, z, h1, h2, ?_, h4⟩
                  rw [← h3]
                  simp only [World.cell?]
                  rw [hsh.other b fun hB => by simp only [World.cell?, hB.2.1] at h3; cases h3], fun e he => by
                  obtain ⟨b, s, cc, el, fr, h1, h2, h3, h4⟩ := gok1.ro e he
                  exact ⟨b, s, cc, el, fr, h1, (hsh.other b fun hB => by rw [hB.2.1] at h2; cases h2).trans h2, h3, h4⟩⟩
                obtain ⟨_, x, hx1, hx2⟩ := leave_ok hs2.hok gok2 henv1 hkn hl
                exact ⟨x, hx1, x, rfl, ι1, hx2, hs2⟩
            rcases hor with rfl | rfl
            · obtain ⟨rfl, hleft⟩ := hpost; exact fin hleft
            · obtain ⟨rfl, hleft⟩ := hpost; exact fin hleft
          generalize hout : evCode cal Γ (codeIR P (maskOf fn c) fn.ntmps c false) rounds R H n = out at h
          cases out with
          | bad => cases h
          | brk id R' H1 n1 => cases h
          | nrm R' H1 n1 => exact main R' H1 n1 _ hout (.inl rfl) h
          | ret R' H1 n1 => exact main R' H1 n1 _ hout (.inr rfl) h
/-- calls, at most d deep -/
theorem cal_ok (hmix : P.follows .mixedOrders = true) (hname : ∀ (f : Nat) (fn : Func), P.funcs[f]? = some fn → (fn.name == "runtime.NumGoroutine") = false) :
    ∀ d, CalOK P Γ (evCal (funIR P) Γ rounds d)
  | 0 => ⟨fun f args H n v H' n' h => (by cases h), fun c R H n => ⟨trivial, fun code U N _ hb => absurd rfl hb⟩⟩
  | d + 1 => by
    have ih := cal_ok hmix hname d
    refine ⟨fun f args H n v H' n' h => fn_ok ih hmix hname h, fun c R H n => ⟨evCode_to ih c R H n, fun code U N hc hb ι w w0 a l m hok gok hfr henv hN hd => ?_⟩⟩
    have h1 := (code_ok (rounds := rounds) ih hmix code true U N R H n).2
    subst hc
    exact h1 hb (Fence.wide.inRound l) m ι w w0 a (.inr ⟨l, rfl⟩) (fun h => by cases h) hok gok hfr henv hN hd
end
end
end Go.Ev
/-
  A verified evaluator, part 34: what an evaluation says of a law.
  A verified evaluator, part 35: calls with overriding contracts at every depth; what a call said once is said of every like call (a summary), the blocks' names being other ones.
-/
namespace Go.Ev
noncomputable section
open Go

/-- no block is named -/
def Emb.none (σ : Nat → Int) : Emb := ⟨fun _ => Option.none, fun _ => 0, σ⟩
section
variable {P : Program} {Γ : Glo} {cal : Cal} {rounds : Nat} {w : World}
theorem HOK.nil (σ : Nat → Int) : HOK P (Emb.none σ) .nil w :=
  ⟨fun p o h => (by rw [Tr.get_nil] at h; cases h), fun p q b s s' h => (by obtain ⟨o, h1, _⟩ := h; rw [Tr.get_nil] at h1; cases h1), fun p b s h => (by cases h)⟩
theorem GOK.nil (σ : Nat → Int) : GOK Γ0 (Emb.none σ) .nil w :=
  ⟨fun g i v h => (by cases h), fun g h => absurd rfl h, fun e h => (by cases h), fun e h => (by cases h), fun e h => (by cases h), fun e h => (by cases h)⟩

end
end
end Go.Ev
namespace Go.Ev
noncomputable section
open Go

/- overriding at every depth -/
section
variable {P : Program} {Γ : Glo} {rounds : Nat}
end

/- other names -/
abbrev Asc := List (Pth × Pth)
def asc (l : Asc) (p : Pth) : Option Pth :=
  List.rec none (fun e _ ih => match e.1.beq p with | true => some e.2 | false => ih) l
theorem asc_cons (e : Pth × Pth) (l : Asc) (p : Pth) : asc (e :: l) p = (match e.1.beq p with | true => some e.2 | false => asc l p) := rfl
theorem asc_mem : ∀ {l : Asc} {p q : Pth}, asc l p = some q → (p, q) ∈ l
  | [], p, q, h => by cases h
  | e :: l, p, q, h => by
    rw [asc_cons] at h
    cases hb : e.1.beq p with
    | true =>
      simp [hb] at h
      have := (Pth.beq_iff _ _).1 hb
      subst this; subst h
      exact List.mem_cons_self ..
    | false => simp only [hb] at h; exact List.mem_cons_of_mem _ (asc_mem h)
/-- a value with other names ('unk' where a name has none) -/
def ren (l : Asc) (fuel : Nat) : V → V :=
  Nat.rec (motive := fun _ => V → V) (fun _ => .unk) (fun _ ih v => match v with
    | .bool b => .bool b
    | .int k n => .int k n
    | .str s => .str s
    | .nilp => .nilp
    | .ptr p o => (match asc l p with | some q => .ptr q o | none => .unk)
    | .gptr g o => .gptr g o
    | .nilsl => .nilsl
    | .sl p o a b c => (match asc l p with | some q => .sl q o a b c | none => .unk)
    | .nilmp => .nilmp
    | .mp p => (match asc l p with | some q => .mp q | none => .unk)
    | .nilfn => .nilfn
    | .fn f a b => .fn f (List.rec [] (fun x _ ih2 => ih x :: ih2) a : List V) (List.rec [] (fun x _ ih2 => ih x :: ih2) b : List V)
    | .agg a => .agg (List.rec [] (fun x _ ih2 => ih x :: ih2) a : List V)
    | .tup a => .tup (List.rec [] (fun x _ ih2 => ih x :: ih2) a : List V)
    | .sym i k a b => .sym i k a b
    | .ifc t a => .ifc t (ih a)
    | .nilif => .nilif
    | .mth m t a => .mth m t (ih a)
    | .sl0 z => .sl0 z
    | .iv k a b c => .iv k a b c
    | .lin i k c a b => .lin i k c a b
    | _ => .unk) fuel
/-- does the value a fit the pattern v, the names being other ones? -/
def mtch (l : Asc) (fuel : Nat) : V → V → Bool :=
  Nat.rec (motive := fun _ => V → V → Bool) (fun _ _ => false) (fun _ ih v a => match v, a with
    | .bool b, .bool c => (match b with | true => c | false => !c)
    | .int k n, .int j m => (match keq k j with | true => ieq n m | false => false)
    | .str s, .str t => natsEq s t
    | .nilp, .nilp => true
    | .ptr p o, .ptr q r => (match asc l p with | some q' => (match q'.beq q with | true => Nat.beq o r | false => false) | none => false)
    | .gptr g o, .gptr h r => (match Nat.beq g h with | true => Nat.beq o r | false => false)
    | .nilsl, .nilsl => true
    | .sl p o x y z, .sl q r d e f => (match asc l p with
      | some q' => (match q'.beq q, Nat.beq o r, Nat.beq x d, Nat.beq y e with | true, true, true, true => Nat.beq z f | _, _, _, _ => false)
      | none => false)
    | .nilmp, .nilmp => true
    | .mp p, .mp q => (match asc l p with | some q' => q'.beq q | none => false)
    | .nilfn, .nilfn => true
    | .agg x, .agg y => (List.rec (motive := fun _ => List V → Bool) (fun m => match m with | [] => true | _ :: _ => false)
            (fun x _ ih2 m => match m with | [] => false | y :: m' => (match ih x y with | true => ih2 m' | false => false)) x : List V → Bool) y
    | .tup x, .tup y => (List.rec (motive := fun _ => List V → Bool) (fun m => match m with | [] => true | _ :: _ => false)
            (fun x _ ih2 m => match m with | [] => false | y :: m' => (match ih x y with | true => ih2 m' | false => false)) x : List V → Bool) y
    | .sl0 z, .sl0 y => (match z with | true => y | false => true)
    | .sym i k x y, .sym j q z u => (match Nat.beq i j, keq k q, ieq x z with | true, true, true => ieq y u | _, _, _ => false)
    | .nilif, .nilif => true
    | .ifc t x, .ifc u y => (match Nat.beq t u with | true => ih x y | false => false)
    | .unk, _ => true
    | _, _ => false) fuel
def mtchs (l : Asc) (fuel : Nat) (x : List V) : List V → Bool :=
  List.rec (motive := fun _ => List V → Bool) (fun m => match m with | [] => true | _ :: _ => false)
            (fun x _ ih2 m => match m with | [] => false | y :: m' => (match mtch l fuel x y with | true => ih2 m' | false => false)) x
def rens (l : Asc) (fuel : Nat) (a : List V) : List V := List.rec [] (fun x _ ih2 => ren l fuel x :: ih2) a

/-- the names of κ' are those of ι', by l -/
structure NamesV (l : Asc) (κ ι : Emb) : Prop where
  name : ∀ p q b s, asc l p = some q → κ p = some (b, s) → ι q = some (b, s) ∧ ι.size b = κ.size b
  sym : ι.sym = κ.sym
section
variable {l : Asc} {κ ι : Emb}
theorem rens_of {f : V → V} (h : ∀ v x, V.rel κ v x → V.rel ι (f v) x) : ∀ (a : List V) (xs : List Value), V.rels κ a xs → V.rels ι (List.rec [] (fun x _ ih2 => f x :: ih2) a : List V) xs
  | [], xs, hr => by rw [rels_nil_inv hr]; exact rels_nil
  | v :: t, xs, hr => by
    obtain ⟨x, ys, rfl, hx, ht⟩ := rels_cons_inv hr
    exact rels_cons (h v x hx) (rens_of h t ys ht)
theorem ren_ok (hn : NamesV l κ ι) : ∀ (fuel : Nat) (v : V) (x : Value), V.rel κ v x → V.rel ι (ren l fuel v) x
  | 0, v, x, _ => by show V.rel ι .unk x; simp only [V.rel]
  | k + 1, v, x, hr => by
    have ih := ren_ok hn k
    cases v <;> try (show V.rel ι .unk x; simp only [V.rel]; done)
    case bool b => exact hr
    case int => exact hr
    case str => exact hr
    case nilp => exact hr
    case gptr => exact hr
    case nilsl => exact hr
    case nilmp => exact hr
    case nilfn => exact hr
    case nilif => exact hr
    case sl0 => exact hr
    case iv => exact hr
    case ptr p o =>
      show V.rel ι (match asc l p with | some q => .ptr q o | none => .unk) x
      cases h : asc l p with
      | none => simp only [V.rel]
      | some q =>
        simp only [V.rel] at hr ⊢
        obtain ⟨b, s, hp, hx⟩ := hr
        exact ⟨b, s, (hn.name p q b s h hp).1, hx⟩
    case sl p o a c e =>
      show V.rel ι (match asc l p with | some q => .sl q o a c e | none => .unk) x
      cases h : asc l p with
      | none => simp only [V.rel]
      | some q =>
        simp only [V.rel] at hr ⊢
        obtain ⟨b, s, c', hp, hx, h1, h2, h3⟩ := hr
        obtain ⟨e1, e2⟩ := hn.name p q b s h hp
        exact ⟨b, s, c', e1, hx, h1, h2, by rw [e2]; exact h3⟩
    case mp p =>
      show V.rel ι (match asc l p with | some q => .mp q | none => .unk) x
      cases h : asc l p with
      | none => simp only [V.rel]
      | some q =>
        simp only [V.rel] at hr ⊢
        obtain ⟨b, hp, hx⟩ := hr
        exact ⟨b, (hn.name p q b 0 h hp).1, hx⟩
    case fn f a c =>
      simp only [V.rel] at hr
      obtain ⟨a', c', hx, ha, hc⟩ := hr
      show V.rel ι (.fn f _ _) x
      simp only [V.rel]
      exact ⟨a', c', hx, rens_of ih a _ ha, rens_of ih c _ hc⟩
    case agg a =>
      simp only [V.rel] at hr
      obtain ⟨cs, hx, ha⟩ := hr
      show V.rel ι (.agg _) x
      simp only [V.rel]
      exact ⟨cs, hx, rens_of ih a _ ha⟩
    case tup a =>
      simp only [V.rel] at hr
      obtain ⟨cs, hx, ha⟩ := hr
      show V.rel ι (.tup _) x
      simp only [V.rel]
      exact ⟨cs, hx, rens_of ih a _ ha⟩
    case sym i k0 a b =>
      show V.rel ι (.sym i k0 a b) x
      simp only [V.rel] at hr ⊢
      rw [hn.sym]; exact hr
    case lin i k0 c a b =>
      show V.rel ι (.lin i k0 c a b) x
      simp only [V.rel] at hr ⊢
      rw [hn.sym]; exact hr
    case ifc t a =>
      simp only [V.rel] at hr
      obtain ⟨y, hx, hy⟩ := hr
      show V.rel ι (.ifc t _) x
      simp only [V.rel]
      exact ⟨y, hx, ih a y hy⟩
    case mth m t a =>
      simp only [V.rel] at hr
      obtain ⟨y, hx, hy⟩ := hr
      show V.rel ι (.mth m t _) x
      simp only [V.rel]
      exact ⟨y, hx, ih a y hy⟩
/-- the embedding read through other names (those of l alone) -/
def via (l : Asc) (ι : Emb) : Emb := ⟨fun p => (asc l p).bind ι.at', ι.size, ι.sym⟩
theorem via_some {p q : Pth} (h : asc l p = some q) : via l ι p = ι q := by show (asc l p).bind ι.at' = _; rw [h]; rfl
theorem via_inv {p : Pth} {z : Nat × Nat} (h : via l ι p = some z) : ∃ q, asc l p = some q ∧ ι q = some z := by
  have h' : (asc l p).bind ι.at' = some z := h
  cases hq : asc l p with
  | none => rw [hq] at h'; cases h'
  | some q => rw [hq] at h'; exact ⟨q, rfl, h'⟩
theorem mtchs_of {f : V → V → Bool} (h : ∀ v a x, f v a = true → V.rel ι a x → V.rel (via l ι) v x) : ∀ (vs as : List V) (xs : List Value),
    (List.rec (motive := fun _ => List V → Bool) (fun m => match m with | [] => true | _ :: _ => false)
      (fun x _ ih2 m => match m with | [] => false | y :: m' => (match f x y with | true => ih2 m' | false => false)) vs : List V → Bool) as = true → V.rels ι as xs → V.rels (via l ι) vs xs
  | [], [], xs, _, hr => by rw [rels_nil_inv hr]; exact rels_nil
  | [], _ :: _, _, hm, _ => by cases hm
  | _ :: _, [], _, hm, _ => by cases hm
  | v :: vs, a :: as, xs, hm, hr => by
    have hm' : (match f v a with | true => (List.rec (motive := fun _ => List V → Bool) (fun m => match m with | [] => true | _ :: _ => false)
      (fun x _ ih2 m => match m with | [] => false | y :: m' => (match f x y with | true => ih2 m' | false => false)) vs : List V → Bool) as | false => false) = true := hm
    obtain ⟨x, ys, rfl, hx, ht⟩ := rels_cons_inv hr
    cases hf : f v a with
    | false => simp [hf] at hm'
    | true =>
      simp only [hf] at hm'
      exact rels_cons (h v a x hf hx) (mtchs_of h vs as ys hm' ht)
theorem mtch_ok : ∀ (fuel : Nat) (v a : V) (x : Value), mtch l fuel v a = true → V.rel ι a x → V.rel (via l ι) v x
  | 0, v, a, x, h, _ => by cases h
  | k + 1, v, a, x, h, hr => by
    have ih := fun v a x => mtch_ok k v a x
    cases v <;> first | (simp only [V.rel]; done) | skip
    all_goals cases a <;> try (cases h; done)
    case bool.bool b c => cases b <;> cases c <;> first | exact hr | cases h
    case int.int k1 n j m =>
      have h' : (match keq k1 j with | true => ieq n m | false => false) = true := h
      cases hk : keq k1 j with
      | false => simp [hk] at h'
      | true =>
        simp only [hk, ieq_eq] at h'
        have := (keq_iff k1 j).1 hk
        have e2 : n = m := by simpa using h'
        rw [this, e2]; exact hr
    case str.str s t =>
      have h' : natsEq s t = true := h
      rw [natsEq_eq] at h'
      have e2 : s = t := by simpa using h'
      rw [e2]; exact hr
    case nilp.nilp => exact hr
    case nilsl.nilsl => exact hr
    case nilmp.nilmp => exact hr
    case nilfn.nilfn => exact hr
    case nilif.nilif => exact hr
    case gptr.gptr g o g' r =>
      have h' : (match Nat.beq g g' with | true => Nat.beq o r | false => false) = true := h
      cases hk : Nat.beq g g' with
      | false => simp [hk] at h'
      | true => simp only [hk] at h'; rw [beq_eq hk, beq_eq h']; exact hr
    case ptr.ptr p o q r =>
      have h' : (match asc l p with | some q' => (match q'.beq q with | true => Nat.beq o r | false => false) | none => false) = true := h
      cases hq : asc l p with
      | none => simp [hq] at h'
      | some q' =>
        simp only [hq] at h'
        cases hb : q'.beq q with
        | false => simp [hb] at h'
        | true =>
          simp only [hb] at h'
          have := (Pth.beq_iff _ _).1 hb
          subst this
          rw [beq_eq h']
          simp only [V.rel] at hr ⊢
          rw [via_some hq]; exact hr
    case sl.sl p o x1 y1 z1 q r d e f =>
      have h' : (match asc l p with
        | some q' => (match q'.beq q, Nat.beq o r, Nat.beq x1 d, Nat.beq y1 e with | true, true, true, true => Nat.beq z1 f | _, _, _, _ => false)
        | none => false) = true := h
      cases hq : asc l p with
      | none => simp [hq] at h'
      | some q' =>
        simp only [hq] at h'
        cases h1 : q'.beq q <;> cases h2 : Nat.beq o r <;> cases h3 : Nat.beq x1 d <;> cases h4 : Nat.beq y1 e <;> simp only [h1, h2, h3, h4] at h' <;> try (cases h'; done)
        have := (Pth.beq_iff _ _).1 h1
        subst this
        rw [beq_eq h2, beq_eq h3, beq_eq h4, beq_eq h']
        simp only [V.rel] at hr ⊢
        rw [via_some hq]; exact hr
    case mp.mp p q =>
      have h' : (match asc l p with | some q' => q'.beq q | none => false) = true := h
      cases hq : asc l p with
      | none => simp [hq] at h'
      | some q' =>
        simp only [hq] at h'
        have := (Pth.beq_iff _ _).1 h'
        subst this
        simp only [V.rel] at hr ⊢
        rw [via_some hq]; exact hr
    case agg.agg x1 y1 =>
      simp only [V.rel] at hr ⊢
      obtain ⟨cs, hx, hc⟩ := hr
      exact ⟨cs, hx, mtchs_of ih x1 y1 _ h hc⟩
    case tup.tup x1 y1 =>
      simp only [V.rel] at hr ⊢
      obtain ⟨cs, hx, hc⟩ := hr
      exact ⟨cs, hx, mtchs_of ih x1 y1 _ h hc⟩
    case sl0.sl0 z y =>
      simp only [V.rel] at hr ⊢
      obtain ⟨a, c, hx, hz⟩ := hr
      refine ⟨a, c, hx, fun e => hz ?_⟩
      cases z with
      | false => cases e
      | true => exact h
    case sym.sym i k1 x1 y1 j k2 z1 u1 =>
      have h' : (match Nat.beq i j, keq k1 k2, ieq x1 z1 with | true, true, true => ieq y1 u1 | _, _, _ => false) = true := h
      cases h1 : Nat.beq i j <;> cases h2 : keq k1 k2 <;> cases h3 : ieq x1 z1 <;> simp only [h1, h2, h3] at h' <;> try (cases h'; done)
      rw [ieq_eq] at h3 h'
      have e3 : x1 = z1 := by simpa using h3
      have e4 : y1 = u1 := by simpa using h'
      rw [beq_eq h1, (keq_iff k1 k2).1 h2, e3, e4]
      exact hr
    case ifc.ifc t x1 u y1 =>
      have h' : (match Nat.beq t u with | true => mtch l k x1 y1 | false => false) = true := h
      cases hk : Nat.beq t u with
      | false => simp [hk] at h'
      | true =>
        simp only [hk] at h'
        simp only [V.rel] at hr ⊢
        obtain ⟨y, hx, hy⟩ := hr
        exact ⟨y, by rw [beq_eq hk]; exact hx, ih x1 y1 y h' hy⟩
theorem mtchs_ok {fuel : Nat} {vs as : List V} {xs : List Value} (h : mtchs l fuel vs as = true) (hr : V.rels ι as xs) : V.rels (via l ι) vs xs := mtchs_of (mtch_ok fuel) vs as xs h hr
theorem rens_ok (hn : NamesV l κ ι) {fuel : Nat} {a : List V} {xs : List Value} (h : V.rels κ a xs) : V.rels ι (rens l fuel a) xs := rens_of (ren_ok hn fuel) a xs h
end
end
end Go.Ev
/-
  A verified evaluator, part 36: summaries of calls.
  A verified evaluator, part 37: a summary is sound wherever the blocks fit it.
-/
namespace Go.Ev
noncomputable section
open Go

/-- a call's summary: the function, its arguments, the blocks that they lead to, the result, the blocks behind the call (those of before, and new ones that are kept), the names of the new ones -/
structure Smy where
  f : Nat
  args : List V
  pre : List (Pth × O)
  res : V
  post : List (Pth × O)
  new : List Pth

def hp (l : List (Pth × O)) : Heap := List.rec .nil (fun e _ ih => Tr.set e.1 e.2 ih) l
theorem hp_cons (e : Pth × O) (l : List (Pth × O)) : hp (e :: l) = Tr.set e.1 e.2 (hp l) := rfl
theorem hp_mem : ∀ {l : List (Pth × O)} {p : Pth} {o : O}, (hp l).get p = some o → (p, o) ∈ l
  | [], p, o, h => by
    have h' : Tr.get p (.nil : Heap) = some o := h
    rw [Tr.get_nil] at h'; cases h'
  | e :: l, p, o, h => by
    rw [hp_cons, Tr.get_set] at h
    by_cases he : e.1 = p
    · rw [if_pos he] at h; cases h; subst he; exact List.mem_cons_self ..
    · rw [if_neg he] at h; exact List.mem_cons_of_mem _ (hp_mem h)
theorem hp_some : ∀ {l : List (Pth × O)} {p : Pth}, p ∈ l.map (·.1) → (hp l).get p ≠ none
  | [], p, h => by simp at h
  | e :: l, p, h => by
    rw [hp_cons, Tr.get_set]
    by_cases he : e.1 = p
    · rw [if_pos he]; simp
    · rw [if_neg he]
      rw [List.map_cons, List.mem_cons] at h
      rcases h with h | h
      · exact absurd h.symm he
      · exact hp_some h
/-- what the call does, whatever the blocks are -/
def Smy.ok (P : Program) (s : Smy) : Prop := Callable P s.f ∧ ∀ (κ : Emb) (w : World) (xs : Array Value), HOK P κ (hp s.pre) w → (∀ p, κ p ≠ none → (hp s.pre).get p ≠ none) → V.rels κ s.args xs.toList →
  Calls P s.f xs w (fun e w' => ∃ x, e = .returned x ∧ ∃ κ', V.rel κ' s.res x ∧ Step P κ (hp s.pre) w κ' (hp s.post) w')

/- checks -/
def memP (p : Pth) (l : List Pth) : Bool := List.rec false (fun q _ ih => match q.beq p with | true => true | false => ih) l
def nodupP (l : List Pth) : Bool := List.rec true (fun q t ih => match memP q t with | true => false | false => ih) l
def names (l : List (Pth × O)) : List Pth := List.rec [] (fun e _ ih => e.1 :: ih) l
theorem names_eq : ∀ l : List (Pth × O), names l = l.map (·.1)
  | [] => rfl
  | e :: l => by show e.1 :: names l = _; rw [names_eq l]; rfl
theorem memP_iff (p : Pth) : ∀ l : List Pth, memP p l = true ↔ p ∈ l
  | [] => by simp [memP]
  | q :: l => by
    have ih := memP_iff p l
    have h : memP p (q :: l) = (match q.beq p with | true => true | false => memP p l) := rfl
    rw [h]
    cases hb : q.beq p with
    | true => simp [(Pth.beq_iff q p).1 hb]
    | false =>
      have hne : p ≠ q := fun e => by subst e; rw [(Pth.beq_iff p p).2 rfl] at hb; cases hb
      simp [ih, hne]
theorem nodupP_ok : ∀ {l : List Pth}, nodupP l = true → l.Nodup
  | [], _ => List.nodup_nil
  | q :: t, h => by
    have h' : (match memP q t with | true => false | false => nodupP t) = true := h
    cases hm : memP q t with
    | true => simp [hm] at h'
    | false =>
      simp only [hm] at h'
      refine List.nodup_cons.2 ⟨fun hq => ?_, nodupP_ok h'⟩
      rw [(memP_iff q t).2 hq] at hm; cases hm
def oren (l : Asc) (fuel : Nat) (o : O) : O :=
  match o with
  | .dead => .dead
  | .cells c => .cells (rens l fuel c)
  | .map es k => .map (List.rec [] (fun e _ ih => (ren l fuel e.1, ren l fuel e.2.1, e.2.2) :: ih) es : List (V × V × Nat)) k
  | _o => .dead
def emtch (l : Asc) (fuel : Nat) (es : List (V × V × Nat)) : List (V × V × Nat) → Bool :=
  List.rec (motive := fun _ => List (V × V × Nat) → Bool) (fun m => match m with | [] => true | _ :: _ => false)
    (fun e _ ih m => match m with
      | [] => false
      | a :: m' => (match mtch l fuel e.1 a.1, mtch l fuel e.2.1 a.2.1, Nat.beq e.2.2 a.2.2 with | true, true, true => ih m' | _, _, _ => false)) es
def omtch (l : Asc) (fuel : Nat) (o a : O) : Bool :=
  match o, a with
  | .cells c, .cells d => mtchs l fuel c d
  | .map es k, .map fs j => (match Nat.beq k j with | true => emtch l fuel es fs | false => false)
  | _, _ => false
def premtch (l : Asc) (fuel : Nat) (H : Heap) (pre : List (Pth × O)) : Bool :=
  List.rec true (fun e _ ih => match asc l e.1 with
    | some q => (match H.get q with
      | some a => (match omtch l fuel e.2 a with | true => ih | false => false)
      | none => false)
    | none => false) pre
/-- fresh names for the new blocks -/
def freshN (l : Asc) (new : List Pth) : Pth → Asc := List.rec (motive := fun _ => Pth → Asc) (fun _ => l) (fun p _ ih n => (p, n) :: ih n.succ) new
def nextN (new : List Pth) : Pth → Pth := List.rec (motive := fun _ => Pth → Pth) (fun n => n) (fun _ _ ih n => ih n.succ) new
def freeN (H : Heap) (new : List Pth) : Pth → Bool :=
  List.rec (motive := fun _ => Pth → Bool) (fun _ => true) (fun _ _ ih n => match H.get n with | none => ih n.succ | some _ => false) new
def lay (l : Asc) (fuel : Nat) (post : List (Pth × O)) (H : Heap) : Heap :=
  List.rec H (fun e _ ih => match asc l e.1 with | some q => Tr.set q (oren l fuel e.2) ih | none => ih) post
def imgs (l : Asc) (ps : List Pth) : List Pth := List.rec [] (fun p _ ih => match asc l p with | some q => q :: ih | none => ih) ps
def fstOf (l : Asc) : List Pth := List.rec [] (fun e _ ih => e.1 :: ih) l
def subP (a b : List Pth) : Bool := List.rec true (fun p _ ih => match memP p b with | true => ih | false => false) a
def noneP (a b : List Pth) : Bool := List.rec true (fun p _ ih => match memP p b with | true => false | false => ih) a
def liveO (l : List (Pth × O)) (new : List Pth) : Bool :=
  List.rec true (fun e _ ih => match memP e.1 new with
    | true => (match e.2 with | .dead => false | _ => ih)
    | false => ih) l
/-- the summary's checks: of itself -/
def Smy.good (s : Smy) : Bool :=
  match noneP s.new (names s.pre), subP (names s.pre) (names s.post), subP (names s.post) (app (names s.pre) s.new), nodupP (names s.post), nodupP s.new, liveO s.post s.new with
  | true, true, true, true, true, true => subP s.new (names s.post)
  | _, _, _, _, _, _ => false
def Smy.run (s : Smy) (l : Asc) (as : List V) (H : Heap) (n : Pth) : Res :=
  match subP (fstOf l) (names s.pre), mtchs l 40 s.args as, premtch l 40 H s.pre, nodupP (imgs l (names s.pre)), freeN H s.new n with
  | true, true, true, true, true => .ok (ren (freshN l s.new n) 40 s.res) (lay (freshN l s.new n) 40 s.post H) (nextN s.new n)
  | _, _, _, _, _ => .bad
end
end Go.Ev
namespace Go.Ev
noncomputable section
open Go

theorem subP_ok : ∀ {a b : List Pth}, subP a b = true → ∀ p ∈ a, p ∈ b
  | [], _, _, p, hp => by simp at hp
  | q :: a, b, h, p, hp => by
    have h' : (match memP q b with | true => subP a b | false => false) = true := h
    cases hm : memP q b with
    | false => simp [hm] at h'
    | true =>
      simp only [hm] at h'
      rcases List.mem_cons.1 hp with rfl | hp
      · exact (memP_iff _ _).1 hm
      · exact subP_ok h' p hp
theorem noneP_ok : ∀ {a b : List Pth}, noneP a b = true → ∀ p ∈ a, p ∉ b
  | [], _, _, p, hp => by simp at hp
  | q :: a, b, h, p, hp => by
    have h' : (match memP q b with | true => false | false => noneP a b) = true := h
    cases hm : memP q b with
    | true => simp [hm] at h'
    | false =>
      simp only [hm] at h'
      rcases List.mem_cons.1 hp with rfl | hp
      · exact fun hb => by rw [(memP_iff _ _).2 hb] at hm; cases hm
      · exact noneP_ok h' p hp
theorem liveO_ok : ∀ {l : List (Pth × O)} {new : List Pth}, liveO l new = true → ∀ e ∈ l, e.1 ∈ new → e.2 ≠ .dead
  | [], _, _, e, he, _ => by simp at he
  | x :: l, new, h, e, he, hn => by
    have h' : (match memP x.1 new with
      | true => (match x.2 with | .dead => false | _ => liveO l new)
      | false => liveO l new) = true := h
    rcases List.mem_cons.1 he with rfl | he
    · rw [(memP_iff _ _).2 hn] at h'
      intro hd
      simp [hd] at h'
    · refine liveO_ok (l := l) ?_ e he hn
      cases hm : memP x.1 new with
      | false => simpa [hm] using h'
      | true =>
        simp only [hm] at h'
        cases hx : x.2 <;> simp [hx] at h' <;> exact h'
theorem imgs_mem {l : Asc} : ∀ {ps : List Pth} {p q : Pth}, p ∈ ps → asc l p = some q → q ∈ imgs l ps
  | [], _, _, h, _ => by simp at h
  | x :: ps, p, q, h, ha => by
    have hi : imgs l (x :: ps) = (match asc l x with | some q => q :: imgs l ps | none => imgs l ps) := rfl
    rw [hi]
    rcases List.mem_cons.1 h with rfl | h
    · rw [ha]; exact List.mem_cons_self ..
    · cases asc l x with
      | none => exact imgs_mem h ha
      | some y => exact List.mem_cons_of_mem _ (imgs_mem h ha)
theorem imgs_inj {l : Asc} : ∀ {ps : List Pth}, (imgs l ps).Nodup → ∀ {p p' q : Pth}, p ∈ ps → p' ∈ ps → asc l p = some q → asc l p' = some q → p = p'
  | [], _, _, _, _, h, _, _, _ => by simp at h
  | x :: ps, hnd, p, p', q, h, h', ha, ha' => by
    have hi : imgs l (x :: ps) = (match asc l x with | some q => q :: imgs l ps | none => imgs l ps) := rfl
    rw [hi] at hnd
    rcases List.mem_cons.1 h with rfl | h <;> rcases List.mem_cons.1 h' with rfl | h'
    · rfl
    · rw [ha] at hnd
      exact absurd (imgs_mem h' ha') (List.nodup_cons.1 hnd).1
    · rw [ha'] at hnd
      exact absurd (imgs_mem (ps := ps) (by assumption) ha) (List.nodup_cons.1 hnd).1
    · refine imgs_inj (ps := ps) ?_ h h' ha ha'
      cases hx : asc l x with
      | none => rw [hx] at hnd; exact hnd
      | some y => rw [hx] at hnd; exact (List.nodup_cons.1 hnd).2
theorem fstOf_mem {l : Asc} {p q : Pth} (h : asc l p = some q) : p ∈ fstOf l := by
  have h1 := asc_mem h
  clear h
  induction l with
  | nil => simp at h1
  | cons e l ih =>
    have hf : fstOf (e :: l) = e.1 :: fstOf l := rfl
    rw [hf]
    rcases List.mem_cons.1 h1 with rfl | h1
    · exact List.mem_cons_self ..
    · exact List.mem_cons_of_mem _ (ih h1)

/- fresh names -/
theorem freshN_cons (l : Asc) (p : Pth) (t : List Pth) (n : Pth) : freshN l (p :: t) n = (p, n) :: freshN l t n.succ := rfl
theorem freeN_cons (H : Heap) (p : Pth) (t : List Pth) (n : Pth) : freeN H (p :: t) n = (match H.get n with | none => freeN H t n.succ | some _ => false) := rfl
theorem fresh_out {l : Asc} : ∀ {new : List Pth} {n p : Pth}, p ∉ new → asc (freshN l new n) p = asc l p
  | [], _, _, _ => rfl
  | x :: t, n, p, h => by
    rw [freshN_cons, asc_cons]
    have hne : x ≠ p := fun e => h (by rw [e]; exact List.mem_cons_self ..)
    have hb : x.beq p = false := by
      cases hb : x.beq p with
      | false => rfl
      | true => exact absurd ((Pth.beq_iff _ _).1 hb) hne
    simp only [hb]
    exact fresh_out fun hp => h (List.mem_cons_of_mem _ hp)
theorem fresh_in {l : Asc} {H : Heap} : ∀ {new : List Pth} {n p : Pth}, new.Nodup → freeN H new n = true → p ∈ new → ∃ q, asc (freshN l new n) p = some q ∧ H.get q = none ∧ n.num ≤ q.num
  | [], _, _, _, _, h => by simp at h
  | x :: t, n, p, hnd, hf, h => by
    rw [freeN_cons] at hf
    rw [freshN_cons, asc_cons]
    cases hg : H.get n with
    | some o => simp [hg] at hf
    | none =>
      simp only [hg] at hf
      cases hb : x.beq p with
      | true => exact ⟨n, rfl, hg, Nat.le_refl _⟩
      | false =>
        rcases List.mem_cons.1 h with rfl | h
        · rw [(Pth.beq_iff p p).2 rfl] at hb; cases hb
        · obtain ⟨q, h1, h2, h3⟩ := fresh_in (l := l) (List.nodup_cons.1 hnd).2 hf h
          rw [Pth.num_succ] at h3
          exact ⟨q, h1, h2, by omega⟩
theorem fresh_inj {l : Asc} {H : Heap} : ∀ {new : List Pth} {n p p' q : Pth}, new.Nodup → freeN H new n = true → p ∈ new → p' ∈ new → asc (freshN l new n) p = some q → asc (freshN l new n) p' = some q → p = p'
  | [], _, _, _, _, _, _, h, _, _, _ => by simp at h
  | x :: t, n, p, p', q, hnd, hf, h, h', ha, ha' => by
    rw [freeN_cons] at hf
    rw [freshN_cons, asc_cons] at ha ha'
    cases hg : H.get n with
    | some o => simp [hg] at hf
    | none =>
      simp only [hg] at hf
      have step : ∀ z, z ∈ x :: t → x.beq z = false → z ∈ t := fun z hz hb => by
        rcases List.mem_cons.1 hz with rfl | hz
        · rw [(Pth.beq_iff z z).2 rfl] at hb; cases hb
        · exact hz
      cases hb : x.beq p with
      | true =>
        have e1 := (Pth.beq_iff _ _).1 hb
        cases hb' : x.beq p' with
        | true => rw [← e1, (Pth.beq_iff _ _).1 hb']
        | false =>
          simp only [hb] at ha
          simp only [hb'] at ha'
          obtain ⟨q', h1, _, h3⟩ := fresh_in (l := l) (List.nodup_cons.1 hnd).2 hf (step p' h' hb')
          rw [h1] at ha'
          cases ha; cases ha'
          rw [Pth.num_succ] at h3; omega
      | false =>
        simp only [hb] at ha
        cases hb' : x.beq p' with
        | true =>
          simp only [hb'] at ha'
          obtain ⟨q', h1, _, h3⟩ := fresh_in (l := l) (List.nodup_cons.1 hnd).2 hf (step p h hb)
          rw [h1] at ha
          cases ha; cases ha'
          rw [Pth.num_succ] at h3; omega
        | false =>
          simp only [hb'] at ha'
          exact fresh_inj (List.nodup_cons.1 hnd).2 hf (step p h hb) (step p' h' hb') ha ha'

/- laying -/
theorem lay_cons (l : Asc) (k : Nat) (e : Pth × O) (t : List (Pth × O)) (H : Heap) : lay l k (e :: t) H = (match asc l e.1 with | some q => Tr.set q (oren l k e.2) (lay l k t H) | none => lay l k t H) := rfl
theorem lay_in {l : Asc} {k : Nat} {H : Heap} : ∀ {post : List (Pth × O)}, (post.map (·.1)).Nodup → (∀ p p' q, p ∈ post.map (·.1) → p' ∈ post.map (·.1) → asc l p = some q → asc l p' = some q → p = p') →
    ∀ {p : Pth} {o : O} {q : Pth}, (p, o) ∈ post → asc l p = some q → (lay l k post H).get q = some (oren l k o)
  | [], _, _, _, _, _, h, _ => by simp at h
  | e :: t, hnd, hi, p, o, q, h, ha => by
    rw [lay_cons]
    rw [List.map_cons, List.nodup_cons] at hnd
    rcases List.mem_cons.1 h with rfl | h
    · simp only [ha]; rw [Tr.get_set_same]
    · have ih := lay_in (H := H) (k := k) (l := l) hnd.2 (fun a b c ha hb => hi a b c (List.mem_cons_of_mem _ ha) (List.mem_cons_of_mem _ hb)) h ha
      cases he : asc l e.1 with
      | none => exact ih
      | some q' =>
        simp only
        rw [Tr.get_set_other _ _ _ _ fun e2 => ?_]
        · exact ih
        · subst e2
          have := hi e.1 p q' (List.mem_cons_self ..) (List.mem_cons_of_mem _ (List.mem_map.2 ⟨_, h, rfl⟩)) he ha
          exact hnd.1 (by rw [this]; exact List.mem_map.2 ⟨_, h, rfl⟩)
theorem lay_out {l : Asc} {k : Nat} {H : Heap} : ∀ {post : List (Pth × O)} {q : Pth}, (∀ p ∈ post.map (·.1), asc l p ≠ some q) → (lay l k post H).get q = H.get q
  | [], _, _ => rfl
  | e :: t, q, h => by
    rw [lay_cons]
    have ih := lay_out (H := H) (k := k) (l := l) (post := t) (q := q) fun p hp => h p (List.mem_cons_of_mem _ hp)
    cases he : asc l e.1 with
    | none => exact ih
    | some q' =>
      simp only
      rw [Tr.get_set_other _ _ _ _ fun e2 => h e.1 (List.mem_cons_self ..) (by rw [he, e2])]
      exact ih
theorem lay_mono {l : Asc} {k : Nat} {H : Heap} : ∀ {post : List (Pth × O)}, Mono H (lay l k post H)
  | [] => Mono.refl _
  | e :: t => by
    rw [lay_cons]
    cases asc l e.1 with
    | none => exact lay_mono
    | some q => exact (lay_mono (post := t)).trans (Mono.set _ _ _)

/- blocks -/
theorem premtch_ok {l : Asc} {k : Nat} {H : Heap} : ∀ {pre : List (Pth × O)}, premtch l k H pre = true → ∀ e ∈ pre, ∃ q a, asc l e.1 = some q ∧ H.get q = some a ∧ omtch l k e.2 a = true
  | [], _, e, he => by simp at he
  | x :: t, h, e, he => by
    have h' : (match asc l x.1 with
      | some q => (match H.get q with
        | some a => (match omtch l k x.2 a with | true => premtch l k H t | false => false)
        | none => false)
      | none => false) = true := h
    cases h1 : asc l x.1 with
    | none => simp [h1] at h'
    | some q =>
      cases h2 : H.get q with
      | none => simp [h1, h2] at h'
      | some a =>
        cases h3 : omtch l k x.2 a with
        | false => simp [h1, h2, h3] at h'
        | true =>
          simp only [h1, h2, h3] at h'
          rcases List.mem_cons.1 he with rfl | he
          · exact ⟨q, a, h1, h2, h3⟩
          · exact premtch_ok h' e he
section
variable {P : Program} {ι κ : Emb} {w : World} {l : Asc} {k : Nat}
theorem emtch_ok : ∀ {es fs : List (V × V × Nat)} {ms : List MapEntry}, emtch l k es fs = true → ERel ι fs ms → ERel (via l ι) es ms
  | [], [], ms, _, h => h
  | [], _ :: _, _, h, _ => by cases h
  | _ :: _, [], _, h, _ => by cases h
  | e :: es, a :: fs, ms, h, hr => by
    obtain ⟨m, t, rfl, hk, hv, hb, ht⟩ := hr
    have h' : (match mtch l k e.1 a.1, mtch l k e.2.1 a.2.1, Nat.beq e.2.2 a.2.2 with | true, true, true => emtch l k es fs | _, _, _ => false) = true := h
    cases h1 : mtch l k e.1 a.1 <;> cases h2 : mtch l k e.2.1 a.2.1 <;> cases h3 : Nat.beq e.2.2 a.2.2 <;> simp only [h1, h2, h3] at h' <;> try (cases h'; done)
    exact ⟨m, t, rfl, mtch_ok k _ _ _ h1 hk, mtch_ok k _ _ _ h2 hv, hb.trans (beq_eq h3).symm, emtch_ok h' ht⟩
theorem omtch_ok {o a : O} {p q : Pth} (h : omtch l k o a = true) (hq : asc l p = some q) (hr : a.ok P ι w q) : o.ok P (via l ι) w p ∧ a ≠ .dead := by
  cases o <;> cases a <;> try (cases h; done)
  · rename_i c d
    refine ⟨?_, by simp⟩
    obtain ⟨b, s, cs, el, fr, hp, hh, hf, hl, hz⟩ := hr
    have hm := mtchs_ok (l := l) (fuel := k) h hl
    have e1 : c.length = d.length := by rw [← rels_length hm, rels_length hl]
    exact ⟨b, s, cs, el, fr, (via_some hq).trans hp, hh, hf, by rw [e1]; exact hm, hz⟩
  · rename_i es c1 fs c2
    refine ⟨?_, by simp⟩
    have h' : (match Nat.beq c1 c2 with | true => emtch l k es fs | false => false) = true := h
    cases hb : Nat.beq c1 c2 with
    | false => simp [hb] at h'
    | true =>
      simp only [hb] at h'
      obtain ⟨b, es', hp, hh, hr⟩ := hr
      exact ⟨b, es', (via_some hq).trans hp, by rw [beq_eq hb]; exact hh, emtch_ok h' hr⟩
theorem rens_length (a : List V) : (rens l k a).length = a.length := by
  induction a with
  | nil => rfl
  | cons x t ih => show (ren l k x :: rens l k t).length = _; simp [ih]
theorem eren_ok (hn : NamesV l κ ι) : ∀ {es : List (V × V × Nat)} {ms : List MapEntry}, ERel κ es ms → ERel ι (List.rec [] (fun e _ ih => (ren l k e.1, ren l k e.2.1, e.2.2) :: ih) es : List (V × V × Nat)) ms
  | [], _, h => h
  | _ :: _, _, ⟨m, t, e, hk, hv, hb, ht⟩ => ⟨m, t, e, ren_ok hn k _ _ hk, ren_ok hn k _ _ hv, hb, eren_ok hn ht⟩
theorem oren_ok (hn : NamesV l κ ι) {o : O} {p q : Pth} (hq : asc l p = some q) (hr : o.ok P κ w p) : (oren l k o).ok P ι w q := by
  cases o <;> try trivial
  · rename_i c
    obtain ⟨b, s, cs, el, fr, hp, hh, hf, hl, hz⟩ := hr
    obtain ⟨e1, e2⟩ := hn.name p q b s hq hp
    exact ⟨b, s, cs, el, fr, e1, hh, hf, by rw [rens_length]; exact rens_ok hn hl, e2.trans hz.1, hz.2⟩
  · rename_i es c1
    obtain ⟨b, es', hp, hh, hr⟩ := hr
    exact ⟨b, es', (hn.name p q b 0 hq hp).1, hh, eren_ok hn hr⟩
theorem oren_live {o : O} (h : oren l k o ≠ .dead) : o ≠ .dead := fun e => by subst e; exact h rfl
end

theorem good_inv {s : Smy} (h : s.good = true) : (∀ p ∈ s.new, p ∉ names s.pre) ∧ (∀ p ∈ names s.pre, p ∈ names s.post) ∧ (∀ p ∈ names s.post, p ∈ names s.pre ∨ p ∈ s.new) ∧ (names s.post).Nodup ∧ s.new.Nodup ∧
    (∀ e ∈ s.post, e.1 ∈ s.new → e.2 ≠ .dead) ∧ ∀ p ∈ s.new, p ∈ names s.post := by
  unfold Smy.good at h
  cases h1 : noneP s.new (names s.pre) <;> cases h2 : subP (names s.pre) (names s.post) <;> cases h3 : subP (names s.post) (app (names s.pre) s.new) <;> cases h4 : nodupP (names s.post) <;>
    cases h5 : nodupP s.new <;> cases h6 : liveO s.post s.new <;> simp only [h1, h2, h3, h4, h5, h6] at h <;> try (cases h; done)
  refine ⟨noneP_ok h1, subP_ok h2, fun p hp => ?_, nodupP_ok h4, nodupP_ok h5, liveO_ok h6, subP_ok h⟩
  have := subP_ok h3 p hp
  rw [app_eq] at this
  exact List.mem_append.1 this
section
variable {P : Program}
theorem run_ok {s : Smy} (hg : s.good = true) (hs : s.ok P) {l : Asc} {as : List V} {H H' : Heap} {n n' : Pth} {v : V} (h : s.run l as H n = .ok v H' n') :
    Mono H H' ∧ ∀ ι w (xs : Array Value), HOK P ι H w → Fr ι H H' → V.rels ι as xs.toList → Calls P s.f xs w (fun e w' => ∃ x, e = .returned x ∧ Post P ι H w H' v x w') := by
  obtain ⟨g1, g2, g3, g4, g5, g6, g7⟩ := good_inv hg
  unfold Smy.run at h
  cases h1 : subP (fstOf l) (names s.pre) <;> cases h2 : mtchs l 40 s.args as <;> cases h3 : premtch l 40 H s.pre <;> cases h4 : nodupP (imgs l (names s.pre)) <;> cases h5 : freeN H s.new n <;>
    simp only [h1, h2, h3, h4, h5] at h <;> try (cases h; done)
  simp only [Res.ok.injEq] at h
  obtain ⟨rfl, rfl, rfl⟩ := h
  refine ⟨lay_mono, fun ι w xs hok hfr hxs => ?_⟩
  generalize hl2 : freshN l s.new n = l2 at hfr ⊢
  have hsub := subP_ok h1
  have hpre := premtch_ok h3
  have hinj := fun {p p' q : Pth} => imgs_inj (nodupP_ok h4) (p := p) (p' := p') (q := q)
  -- the names
  have out : ∀ {p}, p ∉ s.new → asc l2 p = asc l p := fun {p} hp => by rw [← hl2]; exact fresh_out hp
  have ins : ∀ {p}, p ∈ s.new → ∃ q, asc l2 p = some q ∧ H.get q = none := fun {p} hp => by
    obtain ⟨q, e1, e2, _⟩ := fresh_in (l := l) g5 h5 hp
    exact ⟨q, by rw [← hl2]; exact e1, e2⟩
  have ininj : ∀ {p p' q}, p ∈ s.new → p' ∈ s.new → asc l2 p = some q → asc l2 p' = some q → p = p' := fun {p p' q} a b c d => by
    rw [← hl2] at c d
    exact fresh_inj g5 h5 a b c d
  have preN : ∀ {p q}, asc l p = some q → p ∈ names s.pre := fun {p q} ha => hsub p (fstOf_mem ha)
  have preH : ∀ {p}, p ∈ names s.pre → ∃ q a, asc l p = some q ∧ H.get q = some a ∧ a ≠ .dead := fun {p} hp => by
    rw [names_eq] at hp
    obtain ⟨e, he, rfl⟩ := List.mem_map.1 hp
    obtain ⟨q, a, e1, e2, e3⟩ := hpre e he
    exact ⟨q, a, e1, e2, (omtch_ok (P := P) e3 e1 (hok.obj q a e2)).2⟩
  have injAll : ∀ p p' q, p ∈ s.post.map (·.1) → p' ∈ s.post.map (·.1) → asc l2 p = some q → asc l2 p' = some q → p = p' := fun p p' q hp hp' ha ha' => by
    rw [← names_eq] at hp hp'
    have cross : ∀ {p p' : Pth}, p ∈ s.new → p' ∈ names s.pre → asc l2 p = some q → asc l2 p' = some q → p = p' := fun {p p'} a b c d => by
      obtain ⟨q', e1, e2⟩ := ins a
      rw [e1] at c; cases c
      rw [out fun hn => g1 _ hn b] at d
      obtain ⟨q2, a2, e3, e4, _⟩ := preH b
      rw [e3] at d; cases d
      rw [e2] at e4; cases e4
    rcases g3 p hp with hp | hp <;> rcases g3 p' hp' with hp' | hp'
    · rw [out fun hn => g1 _ hn hp] at ha
      rw [out fun hn => g1 _ hn hp'] at ha'
      exact hinj hp hp' ha ha'
    · exact (cross hp' hp ha' ha).symm
    · exact cross hp hp' ha ha'
    · exact ininj hp hp' ha ha'
  have g4' : (s.post.map (·.1)).Nodup := by rw [← names_eq]; exact g4
  have freshι : ∀ {p q}, p ∈ s.new → asc l2 p = some q → ι q = none := fun {p q} hp ha => by
    obtain ⟨q', e1, e2⟩ := ins hp
    have hqq : q' = q := by rw [e1] at ha; simpa using ha
    rw [hqq] at e1 e2
    refine hfr q e2 ?_
    have hp2 := g7 p hp
    rw [names_eq] at hp2
    obtain ⟨e, he, rfl⟩ := List.mem_map.1 hp2
    rw [lay_in g4' injAll he e1]; simp
  -- the call, by the summary's own names
  have hκ : HOK P (via l ι) (hp s.pre) w := by
    refine ⟨fun p o hp => ?_, fun p p' b q q' hp hp' ep ep' => ?_, fun p b q hp => ?_⟩
    · obtain ⟨q, a, e1, e2, e3⟩ := hpre _ (hp_mem hp)
      exact (omtch_ok e3 e1 (hok.obj q a e2)).1
    · obtain ⟨o, ho, _⟩ := hp
      obtain ⟨o', ho', _⟩ := hp'
      have m1 : p ∈ names s.pre := by rw [names_eq]; exact List.mem_map.2 ⟨_, hp_mem ho, rfl⟩
      have m2 : p' ∈ names s.pre := by rw [names_eq]; exact List.mem_map.2 ⟨_, hp_mem ho', rfl⟩
      obtain ⟨x, a, e1, e2, e3⟩ := preH m1
      obtain ⟨x', a', e1', e2', e3'⟩ := preH m2
      rw [via_some e1] at ep
      rw [via_some e1'] at ep'
      have := hok.inj x x' b q q' ⟨a, e2, e3⟩ ⟨a', e2', e3'⟩ ep ep'
      subst this
      exact hinj m1 m2 e1 e1'
    · obtain ⟨x, _, e2⟩ := via_inv hp
      exact hok.lt x b q e2
  refine (hs.2 (via l ι) w xs hκ (fun p hp => ?_) (mtchs_ok h2 hxs)).mono ?_
  · cases hv : via l ι p with
    | none => exact absurd hv hp
    | some z =>
      obtain ⟨q, e1, _⟩ := via_inv hv
      have := preN e1
      rw [names_eq] at this
      exact hp_some this
  rintro e w' ⟨x, rfl, κ', hv, st⟩
  classical
  let ι' : Emb := ⟨fun q => if hq : ∃ p, p ∈ s.new ∧ asc l2 p = some q then κ' (Classical.choose hq) else ι q, fun b => if b < w.heap.size then ι.size b else κ'.size b, ι.sym⟩
  have ιnew : ∀ {p q}, p ∈ s.new → asc l2 p = some q → ι' q = κ' p := fun {p q} hp ha => by
    have hq : ∃ p, p ∈ s.new ∧ asc l2 p = some q := ⟨p, hp, ha⟩
    show (if hq : ∃ p, p ∈ s.new ∧ asc l2 p = some q then κ' (Classical.choose hq) else ι q) = _
    rw [dif_pos hq]
    have hc := Classical.choose_spec hq
    rw [ininj hc.1 hp hc.2 ha]
  have ιold : ∀ {q}, (∀ p, p ∈ s.new → asc l2 p ≠ some q) → ι' q = ι q := fun {q} hn => by
    show (if hq : ∃ p, p ∈ s.new ∧ asc l2 p = some q then κ' (Classical.choose hq) else ι q) = _
    rw [dif_neg (fun ⟨p, h1, h2⟩ => hn p h1 h2)]
  have ιkeep : ∀ {q z}, ι q = some z → ι' q = some z := fun {q z} hq => by
    rw [ιold fun p hp ha => ?_]
    · exact hq
    · rw [freshι hp ha] at hq; cases hq
  have sizeOld : ∀ {b}, b < w.heap.size → ι'.size b = ι.size b := fun {b} hb => by
    show (if b < w.heap.size then ι.size b else κ'.size b) = _; rw [if_pos hb]
  have κold : ∀ {p z}, p ∉ s.new → κ' p = some z → via l ι p = some z := fun {p z} hp hz => by
    cases hk : via l ι p with
    | none =>
      obtain ⟨e1, e2⟩ := st.new p hk (by rw [hz]; simp)
      cases hg : (Go.Ev.hp s.post).get p with
      | none => exact absurd hg e2
      | some o =>
        have m : p ∈ names s.post := by rw [names_eq]; exact List.mem_map.2 ⟨_, hp_mem hg, rfl⟩
        rcases g3 p m with m | m
        · rw [names_eq] at m; exact absurd e1 (hp_some m)
        · exact absurd m hp
    | some z' =>
      have := st.ext.name p z' hk
      rw [hz] at this; exact this.symm
  have postLive : ∀ {p}, p ∈ s.new → Live (hp s.post) p := fun {p} hp => by
    have m := g7 p hp
    rw [names_eq] at m
    cases hg : (Go.Ev.hp s.post).get p with
    | none => exact absurd hg (hp_some m)
    | some o => exact ⟨o, hg, g6 _ (hp_mem hg) hp⟩
  have names : NamesV l2 κ' ι' := by
    refine ⟨fun p q b z ha hk => ?_, ?_⟩
    · by_cases hp : p ∈ s.new
      · refine ⟨(ιnew hp ha).trans hk, ?_⟩
        by_cases hb : b < w.heap.size
        · rw [sizeOld hb]
          obtain ⟨p0, z0, _, hk0⟩ := st.back p b z (postLive hp) hk hb
          exact (st.ext.same p0 b z0 hk0).symm
        · show (if b < w.heap.size then ι.size b else κ'.size b) = _; rw [if_neg hb]
      · have hk0 := κold hp hk
        rw [out hp] at ha
        rw [via_some ha] at hk0
        refine ⟨ιkeep hk0, ?_⟩
        rw [sizeOld (hok.lt q b z hk0)]
        exact (st.ext.same p b z (by rw [via_some ha]; exact hk0)).symm
    · exact st.ext.syms.symm
  refine ⟨x, rfl, ι', ren_ok names 40 _ _ hv, ?_⟩
  -- what stands where
  have image : ∀ {p o q}, (p, o) ∈ s.post → asc l2 p = some q → (lay l2 40 s.post H).get q = some (oren l2 40 o) := fun {p o q} hm ha => lay_in g4' injAll hm ha
  have split : ∀ q, (∃ p o, (p, o) ∈ s.post ∧ asc l2 p = some q) ∨ ((∀ p ∈ s.post.map (·.1), asc l2 p ≠ some q) ∧ (lay l2 40 s.post H).get q = H.get q) := fun q => by
    by_cases hq : ∃ p ∈ s.post.map (·.1), asc l2 p = some q
    · obtain ⟨p, hp, ha⟩ := hq
      obtain ⟨e, he, rfl⟩ := List.mem_map.1 hp
      exact .inl ⟨e.1, e.2, he, ha⟩
    · have hq' : ∀ p ∈ s.post.map (·.1), asc l2 p ≠ some q := fun p hp ha => hq ⟨p, hp, ha⟩
      exact .inr ⟨hq', lay_out hq'⟩
  have postGet : ∀ {p o}, (p, o) ∈ s.post → (hp s.post).get p = some o := fun {p o} hm => by
    have m : p ∈ s.post.map (·.1) := List.mem_map.2 ⟨_, hm, rfl⟩
    cases hg : (hp s.post).get p with
    | none => exact absurd hg (hp_some m)
    | some o' =>
      have hm' := hp_mem hg
      -- one entry a name
      have : ∀ {l : List (Pth × O)}, (l.map (·.1)).Nodup → (p, o) ∈ l → (p, o') ∈ l → o = o' := fun {l} hnd a b => by
        induction l with
        | nil => simp at a
        | cons e t ih =>
          rw [List.map_cons, List.nodup_cons] at hnd
          rcases List.mem_cons.1 a with a | a <;> rcases List.mem_cons.1 b with b | b
          · rw [← a] at b; cases b; rfl
          · exact absurd (by rw [← a]; exact List.mem_map.2 ⟨_, b, rfl⟩) hnd.1
          · exact absurd (by rw [← b]; exact List.mem_map.2 ⟨_, a, rfl⟩) hnd.1
          · exact ih hnd.2 a b
      rw [this g4' hm hm']
  have oldOf : ∀ {q}, (∀ p ∈ s.post.map (·.1), asc l2 p ≠ some q) → ∀ p, p ∈ s.new → asc l2 p ≠ some q := fun {q} hq p hp => by
    have := g7 p hp
    rw [names_eq] at this
    exact hq p this
  have preImg : ∀ {p b z}, Live (hp s.pre) p → via l ι p = some (b, z) → ∃ q, asc l2 p = some q ∧ Live H q ∧ ι q = some (b, z) ∧ p ∈ s.post.map (·.1) := fun {p b z} hl hk => by
    obtain ⟨o, ho, _⟩ := hl
    have m1 : p ∈ Go.Ev.names s.pre := by rw [names_eq]; exact List.mem_map.2 ⟨_, hp_mem ho, rfl⟩
    obtain ⟨q, a, e1, e2, e3⟩ := preH m1
    rw [via_some e1] at hk
    exact ⟨q, by rw [out fun hn => g1 _ hn m1]; exact e1, ⟨a, e2, e3⟩, hk, by rw [← names_eq]; exact g2 p m1⟩
  have back : ∀ {p q b z}, p ∈ s.post.map (·.1) → asc l2 p = some q → Live (hp s.post) p → κ' p = some (b, z) → b < w.heap.size → ∃ q', (∃ p', p' ∈ s.post.map (·.1) ∧ asc l2 p' = some q') ∧ ∃ z', Live H q' ∧ ι q' = some (b, z') := fun {p q b z} _ _ hl hk hb => by
    obtain ⟨p0, z0, hl0, hk0⟩ := st.back p b z hl hk hb
    obtain ⟨q', e1, e2, e3, e4⟩ := preImg hl0 hk0
    exact ⟨q', ⟨p0, e4, e1⟩, z0, e2, e3⟩
  have imgκ : ∀ {p o q z}, (p, o) ∈ s.post → asc l2 p = some q → ι' q = some z → κ' p = some z := fun {p o q z} hm ha hz => by
    by_cases hp : p ∈ s.new
    · rw [ιnew hp ha] at hz; exact hz
    · have m : p ∈ Go.Ev.names s.post := by rw [names_eq]; exact List.mem_map.2 ⟨_, hm, rfl⟩
      have m1 : p ∈ Go.Ev.names s.pre := (g3 p m).resolve_right hp
      have ha' : asc l p = some q := by rw [← out hp]; exact ha
      have : ι' q = ι q := ιold fun p' hp' ha2 => by
        obtain ⟨q2, a2, e3, e4, _⟩ := preH m1
        rw [e3] at ha'; cases ha'
        obtain ⟨q3, e5, e6⟩ := ins hp'
        rw [e5] at ha2; cases ha2
        rw [e6] at e4; cases e4
      rw [this] at hz
      exact st.ext.name p z (by rw [via_some ha']; exact hz)
  have liveImg : ∀ {p o q}, (p, o) ∈ s.post → asc l2 p = some q → Live (lay l2 40 s.post H) q → Live (hp s.post) p := fun {p o q} hm ha hl => by
    obtain ⟨o', h1, h2⟩ := hl
    rw [image hm ha] at h1; cases h1
    exact ⟨o, postGet hm, oren_live h2⟩
  have liveOld : ∀ {q}, (lay l2 40 s.post H).get q = H.get q → Live (lay l2 40 s.post H) q → Live H q := fun {q} he hl => by
    obtain ⟨o, h1, h2⟩ := hl
    rw [he] at h1; exact ⟨o, h1, h2⟩
  refine ⟨⟨fun p q hp => ιkeep hp, fun p b z hp => sizeOld (hok.lt p b z hp), rfl⟩, fun q hq hq' => ?_, ⟨fun q o hq => ?_, fun q q' b z z' hq hq' eq eq' => ?_, fun q b z hq => ?_⟩, fun b hb hn => ?_, st.size, fun q b z hq hz hb => ?_, st.tape, st.os, st.out⟩
  · -- new names
    by_cases hn : ∃ p, p ∈ s.new ∧ asc l2 p = some q
    · obtain ⟨p, hp, ha⟩ := hn
      obtain ⟨q', e1, e2⟩ := ins hp
      rw [e1] at ha; cases ha
      refine ⟨e2, ?_⟩
      have m := g7 p hp
      rw [names_eq] at m
      obtain ⟨e, he, rfl⟩ := List.mem_map.1 m
      rw [image he e1]; simp
    · rw [ιold fun p hp ha => hn ⟨p, hp, ha⟩] at hq'
      exact absurd hq hq'
  · -- the blocks
    rcases split q with ⟨p, o', hm, ha⟩ | ⟨hno, he⟩
    · rw [image hm ha] at hq; cases hq
      exact oren_ok names ha (st.hok.obj p o' (postGet hm))
    · rw [he] at hq
      have hιq : ι' q = ι q := ιold (oldOf hno)
      refine O.ok_mono (hok.obj q o hq) ⟨fun p z hp => ιkeep hp, fun p b z hp => sizeOld (hok.lt p b z hp), rfl⟩ fun b z hd hb => st.kept b (hok.lt q b z hb) fun p z' hl hk => ?_
      obtain ⟨q', e1, e2, e3, e4⟩ := preImg hl hk
      have := hok.inj q q' b z z' ⟨o, hq, hd⟩ e2 hb e3
      subst this
      exact hno p e4 e1
  · -- one name a block
    have outer : ∀ {q q' b z z'}, (∃ p o, (p, o) ∈ s.post ∧ asc l2 p = some q) → ((∀ p ∈ s.post.map (·.1), asc l2 p ≠ some q') ∧ (lay l2 40 s.post H).get q' = H.get q') → Live (lay l2 40 s.post H) q → Live (lay l2 40 s.post H) q' →
        ι' q = some (b, z) → ι' q' = some (b, z') → False := fun {q q' b z z'} ⟨p, o, hm, ha⟩ ⟨hno, he⟩ hl hl' e1 e2 => by
      have l' := liveOld he hl'
      rw [ιold (oldOf hno)] at e2
      obtain ⟨q2, ⟨p2, hp2, ha2⟩, z2, e3, e4⟩ := back (List.mem_map.2 ⟨_, hm, rfl⟩) ha (liveImg hm ha hl) (imgκ hm ha e1) (hok.lt q' b z' e2)
      have := hok.inj q' q2 b z' z2 l' e3 e2 e4
      subst this
      exact hno p2 hp2 ha2
    rcases split q with h1 | h1 <;> rcases split q' with h2 | h2
    · obtain ⟨p, o, hm, ha⟩ := h1
      obtain ⟨p', o', hm', ha'⟩ := h2
      have := st.hok.inj p p' b z z' (liveImg hm ha hq) (liveImg hm' ha' hq') (imgκ hm ha eq) (imgκ hm' ha' eq')
      subst this
      rw [ha] at ha'; cases ha'; rfl
    · exact (outer h1 h2 hq hq' eq eq').elim
    · exact (outer h2 h1 hq' hq eq' eq).elim
    · rw [ιold (oldOf h1.1)] at eq
      rw [ιold (oldOf h2.1)] at eq'
      exact hok.inj q q' b z z' (liveOld h1.2 hq) (liveOld h2.2 hq') eq eq'
  · -- in the memory
    by_cases hn : ∃ p, p ∈ s.new ∧ asc l2 p = some q
    · obtain ⟨p, hp, ha⟩ := hn
      rw [ιnew hp ha] at hq
      exact st.hok.lt p b z hq
    · rw [ιold fun p hp ha => hn ⟨p, hp, ha⟩] at hq
      exact Nat.lt_of_lt_of_le (hok.lt q b z hq) st.size
  · -- what stays
    refine st.kept b hb fun p z hl hk => ?_
    obtain ⟨q', e1, e2, e3, e4⟩ := preImg hl hk
    exact hn q' z e2 e3
  · -- where it comes from
    rcases split q with ⟨p, o, hm, ha⟩ | ⟨hno, he⟩
    · obtain ⟨q', _, z', e1, e2⟩ := back (List.mem_map.2 ⟨_, hm, rfl⟩) ha (liveImg hm ha hq) (imgκ hm ha hz) hb
      exact ⟨q', z', e1, e2⟩
    · rw [ιold (oldOf hno)] at hz
      exact ⟨q, z, liveOld he hq, hz⟩
end
end
end Go.Ev
/-
  A verified evaluator, part 38: an evaluation gives a summary, what is not wanted being forgotten; a call whose number is Around of an input.
  A verified evaluator, part 39: what contracts proved by hand need: cells, look-ups, a block more.
  A verified evaluator, part 40: slices.Sorted(maps.Keys(m)) of a map keyed by ints, whatever the order in which the keys come.
-/
namespace Go.Ev
noncomputable section
open Go

theorem GOK.none {ι : Emb} {H : Heap} {w : World} : GOK Γ0 ι H w := ⟨fun g i v h => (by cases h), fun g h => absurd rfl h, fun e h => (by cases h), fun e h => (by cases h), fun e h => (by cases h), fun e h => (by cases h)⟩
section
variable {P : Program}
end
end
end Go.Ev
namespace Go.Ev
noncomputable section
open Go

section
variable {P : Program} {ι : Emb} {H : Heap} {w w' : World}
theorem cell_nth (h : HOK P ι H w) {p : Pth} {l : List V} {j b s : Nat} {v : V} (hp : H.get p = some (.cells l)) (hι : ι p = some (b, s)) (hv : nth l j = some v) : ∃ x, w.cell? ⟨b, s + j, none⟩ = some x ∧ V.rel ι v x ∧ b < w.heap.size := by
  obtain ⟨b2, s2, cs, el, fr, hι2, hh, hf, hl, _, _⟩ := cells_of h hp
  rw [hι] at hι2; cases hι2
  rw [nth_eq] at hv
  obtain ⟨x, hx, hr⟩ := rels_get hl hv
  refine ⟨x, ?_, hr, (Array.getElem?_eq_some_iff.1 hh).1⟩
  rw [cell_of hh]
  have hj : j < l.length := (List.getElem?_eq_some_iff.1 hv).1
  rw [List.getElem?_take_of_lt hj, List.getElem?_drop] at hx
  rw [← Array.getElem?_toList]; exact hx
theorem cells_zero (h : HOK P ι H w) {p : Pth} {l : List V} {b s : Nat} (hp : H.get p = some (.cells l)) (hι : ι p = some (b, s)) : s = 0 := by
  obtain ⟨b2, s2, cs, el, fr, hι2, _, _, _, _, _, hz⟩ := cells_of h hp
  rw [hι] at hι2; cases hι2
  exact hz
end
end
end Go.Ev
namespace Go.Ev
noncomputable section
open Go Go.RowKit

section
variable {P : Program} {ι : Emb} {H : Heap} {w w' : World}
/-- a new block, wherever it lies among others that are new -/
theorem Step.fresh {n : Pth} {g T : Nat} {o : O} (h : HOK P ι H w) (hn : H.get n = none) (hι : ι n = none) (hg : w.heap.size ≤ g) (hg2 : g < w'.heap.size) (bel : Below w.heap.size w w')
    (hok : o.ok P (upd ι n (g, 0) T) w' n) : Step P ι H w (upd ι n (g, 0) T) (H.set n o) w' := by
  have hle : ι.le (upd ι n (g, 0) T) := upd_le hι fun p s hp => absurd (h.lt p g s hp) (by omega)
  have liveOld : ∀ p, n ≠ p → Live (H.set n o) p → Live H p := fun p hp hl => by
    obtain ⟨o', h1, h2⟩ := hl; rw [Tr.get_set_other _ _ _ _ hp] at h1; exact ⟨o', h1, h2⟩
  refine ⟨hle, fun p hp hp' => ?_, ⟨fun p o' hp => ?_, fun p q b s s' hp hq ep eq => ?_, fun p b s hp => ?_⟩, fun b hb _ => bel.block b hb, bel.size, fun p b s hl hp hb => ?_, bel.tape, bel.os, bel.output⟩
  · by_cases e : n = p
    · subst e; exact ⟨hn, by rw [Tr.get_set_same]; simp⟩
    · rw [upd_other e] at hp'; exact absurd hp hp'
  · by_cases e : n = p
    · subst e; rw [Tr.get_set_same] at hp; cases hp; exact hok
    · rw [Tr.get_set_other _ _ _ _ e] at hp
      exact O.ok_mono (h.obj p o' hp) hle fun b s _ hb => bel.block b (h.lt p b s hb)
  · by_cases e1 : n = p
    · by_cases e2 : n = q
      · rw [← e1, ← e2]
      · subst e1
        rw [upd_same] at ep; cases ep
        rw [upd_other e2] at eq
        exact absurd (h.lt q _ _ eq) (by omega)
    · by_cases e2 : n = q
      · subst e2
        rw [upd_same] at eq; cases eq
        rw [upd_other e1] at ep
        exact absurd (h.lt p _ _ ep) (by omega)
      · rw [upd_other e1] at ep; rw [upd_other e2] at eq
        exact h.inj p q b s s' (liveOld p e1 hp) (liveOld q e2 hq) ep eq
  · by_cases e : n = p
    · subst e; rw [upd_same] at hp; cases hp; exact hg2
    · rw [upd_other e] at hp; exact Nat.lt_of_lt_of_le (h.lt p b s hp) bel.size
  · by_cases e : n = p
    · subst e; rw [upd_same] at hp; cases hp; omega
    · rw [upd_other e] at hp; exact ⟨p, s, liveOld p e hl, hp⟩
theorem Step.below (h : HOK P ι H w) (bel : Below w.heap.size w w') : Step P ι H w ι H w' :=
  ⟨Emb.le.refl _, fun _ h1 h2 => absurd h1 h2, ⟨fun p o hp => O.ok_mono (h.obj p o hp) (Emb.le.refl _) fun b s _ hp' => bel.block b (h.lt p b s hp'), h.inj, fun p b s hp => Nat.lt_of_lt_of_le (h.lt p b s hp) bel.size⟩,
    fun b hb _ => bel.block b hb, bel.size, fun p _b s hl hp _ => ⟨p, s, hl, hp⟩, bel.tape, bel.os, bel.output⟩
end

/- numbers in order -/
end
end Go.Ev
/-
  A verified evaluator, part 41: code in pieces, each from one symbolic state to another one; the inputs' numbers are chosen anew between the pieces.
-/
namespace Go.Ev
noncomputable section
open Go

/- numbers -/
/-- is a the number u and c? -/
def sameN (u a : V) (c : Int) : Bool :=
  match u, a with
  | .int _ n, .int _ m => ieq m (n + c)
  | u, a => (match symOf u, symOf a with
    | some (i, d), some (j, e) => (match Nat.beq i j with | true => ieq e (d + c) | false => false)
    | _, _ => false)
def numV (σ : Nat → Int) (u : V) : Int :=
  match u with
  | .int _ n => n
  | .sym i _ _ _ => σ i
  | .lin i _ c _ _ => σ i + c
  | _ => 0
theorem numV_sym {σ : Nat → Int} {u : V} {i : Nat} {d : Int} (h : symOf u = some (i, d)) : numV σ u = σ i + d := by
  cases u <;> simp only [symOf] at h <;> cases h
  · show σ _ = σ _ + 0; omega
  · rfl
theorem sameN_ok {σ : Nat → Int} {u a : V} {c : Int} (h : sameN u a c = true) : numV σ a = numV σ u + c := by
  have key : ∀ u a : V, (match symOf u, symOf a with
    | some (i, d), some (j, e) => (match Nat.beq i j with | true => ieq e (d + c) | false => false)
    | _, _ => false) = true → numV σ a = numV σ u + c := by
    intro u a h
    cases h1 : symOf u with
    | none => simp [h1] at h
    | some p =>
      cases h2 : symOf a with
      | none => simp [h1, h2] at h
      | some q =>
        obtain ⟨i, d⟩ := p
        obtain ⟨j, e⟩ := q
        simp only [h1, h2] at h
        cases hb : Nat.beq i j with
        | false => simp [hb] at h
        | true =>
          simp only [hb, ieq_eq] at h
          have := beq_eq hb; subst this
          have e1 : e = d + c := by simpa using h
          rw [numV_sym h1, numV_sym h2, e1]; omega
  unfold sameN at h
  split at h
  · rw [ieq_eq] at h
    simp only [numV]
    simpa using h
  · exact key _ _ h
theorem rel_num {ι : Emb} {a : V} {k : IntKind} {z : Int} (hr : V.rel ι a (.int k z)) (h : (∃ j n, a = .int j n) ∨ symOf a ≠ none) : z = numV ι.sym a := by
  rcases h with ⟨j, n, rfl⟩ | h
  · simp only [V.rel, Value.int.injEq] at hr; exact hr.2
  · cases hs : symOf a with
    | none => exact absurd hs h
    | some p =>
      obtain ⟨i, d⟩ := p
      rw [numV_sym hs]
      exact symOf_ok hs hr
theorem sameN_num {u a : V} {c : Int} (h : sameN u a c = true) : (∃ j n, a = .int j n) ∨ symOf a ≠ none := by
  unfold sameN at h
  split at h
  · exact .inl ⟨_, _, rfl⟩
  · right
    intro h2
    rw [h2] at h
    split at h
    · rename_i h3; cases h3
    · cases h
abbrev Asg := List (Nat × V)
abbrev Spec := List (Nat × Int × Int)
def getN (l : Asg) (i : Nat) : Option V := List.rec none (fun e _ ih => match Nat.beq e.1 i with | true => some e.2 | false => ih) l
def getS (l : Spec) (i : Nat) : Option (Int × Int) := List.rec none (fun e _ ih => match Nat.beq e.1 i with | true => some e.2 | false => ih) l
/-- is a the number i (of the new state) and c, from lo to hi? -/
def symMt (asg : Asg) (spec : Spec) (i : Nat) (k : IntKind) (c lo hi : Int) (a : V) : Bool :=
  match getN asg i, getS spec i, ivOf a with
  | some u, some (slo, shi), some (j, _, _) => (match keq k j, sameN u a c, ilt (slo + c) lo, ilt hi (shi + c) with
    | true, true, false, false => true
    | _, _, _, _ => false)
  | _, _, _ => false
/-- the new numbers σ are as told, from the old ones τ, and lie where they should -/
structure Num (asg : Asg) (spec : Spec) (τ σ : Nat → Int) : Prop where
  eq : ∀ i u, getN asg i = some u → σ i = numV τ u
  bd : ∀ i lo hi, getS spec i = some (lo, hi) → lo ≤ σ i ∧ σ i ≤ hi
section
variable {asg : Asg} {spec : Spec} {τ σ : Nat → Int}
theorem symMt_ok {ι : Emb} (h : Num asg spec ι.sym σ) {i : Nat} {k : IntKind} {c lo hi : Int} {a : V} {x : Value} (hm : symMt asg spec i k c lo hi a = true) (hr : V.rel ι a x) :
    x = .int k (σ i + c) ∧ lo ≤ σ i + c ∧ σ i + c ≤ hi := by
  unfold symMt at hm
  cases h1 : getN asg i with
  | none => simp [h1] at hm
  | some u =>
    cases h2 : getS spec i with
    | none => simp [h1, h2] at hm
    | some p =>
      obtain ⟨slo, shi⟩ := p
      cases h3 : ivOf a with
      | none => simp [h1, h2, h3] at hm
      | some q =>
        obtain ⟨j, x1, x2⟩ := q
        simp only [h1, h2, h3] at hm
        cases h4 : keq k j <;> cases h5 : sameN u a c <;> cases h6 : ilt (slo + c) lo <;> cases h7 : ilt hi (shi + c) <;> simp only [h4, h5, h6, h7] at hm <;> try (cases hm; done)
        obtain ⟨z, rfl, _, _⟩ := ivOf_ok h3 hr
        have := (keq_iff k j).1 h4
        subst this
        have e1 := rel_num hr (sameN_num h5)
        rw [sameN_ok h5, ← h.eq i u h1] at e1
        obtain ⟨b1, b2⟩ := h.bd i _ _ h2
        rw [ilt_eq] at h6 h7
        have h6' : lo ≤ slo + c := by simpa using h6
        have h7' : shi + c ≤ hi := by simpa using h7
        rw [e1]
        exact ⟨rfl, by omega, by omega⟩
end

/- values -/
def plainV : V → Bool
  | .bool _ => true | .int _ _ => true | .str _ => true | .nilp => true | .ptr _ _ => true | .gptr _ _ => true | .nilsl => true | .sl _ _ _ _ _ => true | .nilmp => true | .mp _ => true
  | .nilfn => true | .sl0 _ => true | .nilif => true | .unk => true | _ => false
def hasA (l : Asc) (p q : Pth) : Bool := match asc l p with | some q' => q'.beq q | none => false
def mtchS (asg : Asg) (spec : Spec) (zs : List Pth) (l : Asc) (fuel : Nat) : V → V → Bool :=
  Nat.rec (motive := fun _ => V → V → Bool) (fun _ _ => false) (fun _ ih v a => match v with
    | .sym i k lo hi => symMt asg spec i k 0 lo hi a
    | .lin i k c lo hi => symMt asg spec i k c lo hi a
    | .jsl p i c lo hi => (match a with
      | .jsl q j d x y => (match hasA l p q with | true => symMt asg spec i .i64 (.ofNat c) (.ofNat lo) (.ofNat hi) (.lin j .i64 (.ofNat d) (.ofNat x) (.ofNat y)) | false => false)
      | .sl q o m cp e => (match hasA l p q, Nat.beq o 0, Nat.beq e 1, memP q zs, Nat.ble m cp with
        | true, true, true, true, true => symMt asg spec i .i64 (.ofNat c) (.ofNat lo) (.ofNat hi) (.int .i64 (.ofNat m))
        | _, _, _, _, _ => false)
      | _ => false)
    | .inp p i => (match a with
      | .inp q j => (match hasA l p q with | true => symMt asg spec i .i64 0 0 9223372036854775807 (.sym j .i64 0 9223372036854775807) | false => false)
      | _ => false)
    | .sl0 z => (match a with
      | .sl0 y => (match z with | true => y | false => true)
      | .sl _ _ m cp e => (match Nat.beq m 0, z with
        | true, false => true
        | true, true => (match Nat.beq cp 0 with | true => Nat.beq e 0 | false => false)
        | _, _ => false)
      | _ => false)
    | .agg x => (match a with
      | .agg y => (List.rec (motive := fun _ => List V → Bool) (fun m => match m with | [] => true | _ :: _ => false)
            (fun x _ ih2 m => match m with | [] => false | y :: m' => (match ih x y with | true => ih2 m' | false => false)) x : List V → Bool) y
      | _ => false)
    | .tup x => (match a with
      | .tup y => (List.rec (motive := fun _ => List V → Bool) (fun m => match m with | [] => true | _ :: _ => false)
            (fun x _ ih2 m => match m with | [] => false | y :: m' => (match ih x y with | true => ih2 m' | false => false)) x : List V → Bool) y
      | _ => false)
    | .ifc t x => (match a with
      | .ifc u y => (match Nat.beq t u with | true => ih x y | false => false)
      | _ => false)
    | v => (match plainV v with | true => mtch l 1 v a | false => false)) fuel
/-- the embedding read through other names and numbers -/
def viaS (l : Asc) (σ : Nat → Int) (ι : Emb) : Emb := ⟨fun p => (asc l p).bind ι.at', ι.size, σ⟩
theorem plain_rel {ι ι' : Emb} (h1 : ι.at' = ι'.at') (h2 : ι.size = ι'.size) {v : V} (hp : plainV v = true) {x : Value} (hr : V.rel ι v x) : V.rel ι' v x := by
  cases v <;> simp only [plainV] at hp <;> try (cases hp; done)
  case ptr p o => simp only [V.rel] at hr ⊢; obtain ⟨b, s, hp, hx⟩ := hr; exact ⟨b, s, by rw [← h1]; exact hp, hx⟩
  case sl p o m c e => simp only [V.rel] at hr ⊢; obtain ⟨b, s, c', hp, hx, g1, g2, g3⟩ := hr; exact ⟨b, s, c', by rw [← h1]; exact hp, hx, g1, g2, by rw [← h2]; exact g3⟩
  case mp p => simp only [V.rel] at hr ⊢; obtain ⟨b, hp, hx⟩ := hr; exact ⟨b, by rw [← h1]; exact hp, hx⟩
  all_goals first | (simp only [V.rel] at hr ⊢; exact hr) | simp only [V.rel]
theorem hasA_ok {l : Asc} {p q : Pth} (h : hasA l p q = true) : asc l p = some q := by
  unfold hasA at h
  cases ha : asc l p with
  | none => simp [ha] at h
  | some q' => simp only [ha] at h; rw [(Pth.beq_iff _ _).1 h]
section
variable {asg : Asg} {spec : Spec} {l : Asc} {ι : Emb} {σ : Nat → Int}
theorem viaS_some {p q : Pth} (h : asc l p = some q) : viaS l σ ι p = ι q := by show (asc l p).bind ι.at' = _; rw [h]; rfl
theorem viaS_inv {p : Pth} {z : Nat × Nat} (h : viaS l σ ι p = some z) : ∃ q, asc l p = some q ∧ ι q = some z := by
  have h' : (asc l p).bind ι.at' = some z := h
  cases hq : asc l p with
  | none => rw [hq] at h'; cases h'
  | some q => rw [hq] at h'; exact ⟨q, rfl, h'⟩
theorem mtchsS_of {f : V → V → Bool} (h : ∀ v a x, f v a = true → V.rel ι a x → V.rel (viaS l σ ι) v x) : ∀ (vs as : List V) (xs : List Value),
    (List.rec (motive := fun _ => List V → Bool) (fun m => match m with | [] => true | _ :: _ => false)
      (fun x _ ih2 m => match m with | [] => false | y :: m' => (match f x y with | true => ih2 m' | false => false)) vs : List V → Bool) as = true → V.rels ι as xs → V.rels (viaS l σ ι) vs xs
  | [], [], xs, _, hr => by rw [rels_nil_inv hr]; exact rels_nil
  | [], _ :: _, _, hm, _ => by cases hm
  | _ :: _, [], _, hm, _ => by cases hm
  | v :: vs, a :: as, xs, hm, hr => by
    have hm' : (match f v a with | true => (List.rec (motive := fun _ => List V → Bool) (fun m => match m with | [] => true | _ :: _ => false)
      (fun x _ ih2 m => match m with | [] => false | y :: m' => (match f x y with | true => ih2 m' | false => false)) vs : List V → Bool) as | false => false) = true := hm
    obtain ⟨x, ys, rfl, hx, ht⟩ := rels_cons_inv hr
    cases hf : f v a with
    | false => simp [hf] at hm'
    | true =>
      simp only [hf] at hm'
      exact rels_cons (h v a x hf hx) (mtchsS_of h vs as ys hm' ht)
theorem mtchS_ok (hn : Num asg spec ι.sym σ) {zs : List Pth} (hz : ∀ q b s, q ∈ zs → ι q = some (b, s) → s = 0) : ∀ (fuel : Nat) (v a : V) (x : Value), mtchS asg spec zs l fuel v a = true → V.rel ι a x → V.rel (viaS l σ ι) v x
  | 0, v, a, x, h, _ => by cases h
  | k + 1, v, a, x, h, hr => by
    have ih := mtchS_ok hn hz k
    have plain : plainV v = true → (match plainV v with | true => mtch l 1 v a | false => false) = true → V.rel (viaS l σ ι) v x := by
      intro hp he
      rw [hp] at he
      exact plain_rel (ι := via l ι) (ι' := viaS l σ ι) rfl rfl hp (mtch_ok 1 v a x he hr)
    cases v
    case sym i k1 lo hi =>
      have := symMt_ok hn (show symMt asg spec i k1 0 lo hi a = true from h) hr
      rw [Int.add_zero] at this
      simp only [V.rel]; exact this
    case lin i k1 c lo hi =>
      simp only [V.rel]; exact symMt_ok hn (show symMt asg spec i k1 c lo hi a = true from h) hr
    case jsl p i c lo hi =>
      cases a <;> try (cases h; done)
      case jsl q j d lo2 hi2 =>
        have h' : (match hasA l p q with | true => symMt asg spec i .i64 (.ofNat c) (.ofNat lo) (.ofNat hi) (.lin j .i64 (.ofNat d) (.ofNat lo2) (.ofNat hi2)) | false => false) = true := h
        cases h1 : hasA l p q with
        | false => simp [h1] at h'
        | true =>
          simp only [h1] at h'
          simp only [V.rel] at hr
          obtain ⟨b, m, hp, hx, h2, h3, h4, h5⟩ := hr
          obtain ⟨e1, e2, e3⟩ := symMt_ok hn h' (x := .int .i64 (m : Int)) (by
            simp only [V.rel, Int.ofNat_eq_natCast]
            exact ⟨by rw [h2], by omega, by omega⟩)
          simp only [Value.int.injEq, true_and] at e1
          simp only [Int.ofNat_eq_natCast] at e1 e2 e3
          simp only [V.rel]
          refine ⟨b, m, (viaS_some (hasA_ok h1)).trans hp, hx, e1, by omega, by omega, h5⟩
      case sl q o m cp e =>
        have h' : (match hasA l p q, Nat.beq o 0, Nat.beq e 1, memP q zs, Nat.ble m cp with
          | true, true, true, true, true => symMt asg spec i .i64 (.ofNat c) (.ofNat lo) (.ofNat hi) (.int .i64 (.ofNat m))
          | _, _, _, _, _ => false) = true := h
        cases h1 : hasA l p q <;> cases h2 : Nat.beq o 0 <;> cases h3 : Nat.beq e 1 <;> cases h4 : memP q zs <;> cases h5 : Nat.ble m cp <;> simp only [h1, h2, h3, h4, h5] at h' <;> try (cases h'; done)
        have := beq_eq h2; subst this
        have := beq_eq h3; subst this
        obtain ⟨e1, e2, e3⟩ := symMt_ok hn h' (x := .int .i64 (m : Int)) (by simp only [V.rel]; rfl)
        simp only [Value.int.injEq, true_and] at e1
        simp only [Int.ofNat_eq_natCast] at e1 e2 e3
        simp only [V.rel] at hr
        obtain ⟨b, s, c', hp, hx, g1, g2, g3⟩ := hr
        have := hz q b s ((memP_iff _ _).1 h4) hp
        subst this
        have g3' := g3 (by omega)
        have h5' := ble_le h5
        have hc : c' = ι.size b := by omega
        subst hc
        simp only [V.rel]
        refine ⟨b, m, (viaS_some (hasA_ok h1)).trans hp, hx, e1, by omega, by omega, ?_⟩
        show m ≤ ι.size b
        omega
    case inp p i =>
      cases a <;> try (cases h; done)
      rename_i q j
      have h' : (match hasA l p q with | true => symMt asg spec i .i64 0 0 9223372036854775807 (.sym j .i64 0 9223372036854775807) | false => false) = true := h
      cases h1 : hasA l p q with
      | false => simp [h1] at h'
      | true =>
        simp only [h1] at h'
        simp only [V.rel] at hr
        obtain ⟨ad, m, c, hx, h2, h3, h4⟩ := hr
        obtain ⟨e1, e2, e3⟩ := symMt_ok hn h' (x := .int .i64 (m : Int)) (by simp only [V.rel]; exact ⟨by rw [h2], by omega, h3⟩)
        simp only [Value.int.injEq, true_and, Int.add_zero] at e1 e3
        simp only [V.rel]
        exact ⟨ad, m, c, hx, e1, e3, fun hm => let ⟨b, s, g1, g2⟩ := h4 hm; ⟨b, s, g1, (viaS_some (hasA_ok h1)).trans g2⟩⟩
    case sl0 z =>
      cases a <;> try (cases h; done)
      case sl0 y =>
        have h' : (match (generalizing := false) z with | true => y | false => true) = true := h
        simp only [V.rel] at hr ⊢
        obtain ⟨ad, c, hx, hzz⟩ := hr
        refine ⟨ad, c, hx, fun e => hzz ?_⟩
        subst e; exact h'
      case sl p o m cp e =>
        have h' : (match (generalizing := false) Nat.beq m 0, z with
          | true, false => true
          | true, true => (match Nat.beq cp 0 with | true => Nat.beq e 0 | false => false)
          | _, _ => false) = true := h
        simp only [V.rel] at hr ⊢
        obtain ⟨b, s, c', hp, hx, g1, g2, g3⟩ := hr
        cases hm : Nat.beq m 0 with
        | false => simp [hm] at h'
        | true =>
          have := beq_eq hm; subst this
          refine ⟨_, c', hx, fun e1 => ?_⟩
          subst e1
          simp only [] at h'
          cases hc : Nat.beq cp 0 with
          | false => simp [hc] at h'
          | true =>
            simp only [hc] at h'
            have e1 := beq_eq hc
            have e2 := beq_eq h'
            rw [g2 e2, e1]
    case agg x1 =>
      cases a <;> try (cases h; done)
      simp only [V.rel] at hr ⊢
      obtain ⟨cs, hx, hc⟩ := hr
      exact ⟨cs, hx, mtchsS_of ih x1 _ _ h hc⟩
    case tup x1 =>
      cases a <;> try (cases h; done)
      simp only [V.rel] at hr ⊢
      obtain ⟨cs, hx, hc⟩ := hr
      exact ⟨cs, hx, mtchsS_of ih x1 _ _ h hc⟩
    case ifc t x1 =>
      cases a <;> try (cases h; done)
      rename_i u y1
      have h' : (match Nat.beq t u with | true => mtchS asg spec zs l k x1 y1 | false => false) = true := h
      cases hk : Nat.beq t u with
      | false => simp [hk] at h'
      | true =>
        simp only [hk] at h'
        simp only [V.rel] at hr ⊢
        obtain ⟨y, hx, hy⟩ := hr
        exact ⟨y, by rw [beq_eq hk]; exact hx, ih x1 y1 y h' hy⟩
    all_goals first | exact plain rfl h | (cases h; done)

/- blocks -/
/-- the first ones fit -/
def mtchsP (f : V → V → Bool) (x : List V) : List V → Bool :=
  List.rec (motive := fun _ => List V → Bool) (fun _ => true)
    (fun x _ ih m => match m with | [] => false | y :: m' => (match f x y with | true => ih m' | false => false)) x
theorem mtchsP_ok {f : V → V → Bool} (h : ∀ v a x, f v a = true → V.rel ι a x → V.rel (viaS l σ ι) v x) : ∀ (vs as : List V) (xs : List Value), mtchsP f vs as = true → V.rels ι as xs → vs.length ≤ as.length ∧ V.rels (viaS l σ ι) vs (xs.take vs.length)
  | [], as, xs, _, _ => ⟨by simp, by simpa using rels_nil⟩
  | _ :: _, [], xs, hm, _ => by cases hm
  | v :: vs, a :: as, xs, hm, hr => by
    have hm' : (match f v a with | true => mtchsP f vs as | false => false) = true := hm
    obtain ⟨x, ys, rfl, hx, ht⟩ := rels_cons_inv hr
    cases hf : f v a with
    | false => simp [hf] at hm'
    | true =>
      simp only [hf] at hm'
      obtain ⟨h1, h2⟩ := mtchsP_ok h vs as ys hm' ht
      exact ⟨by simp; omega, by simpa using rels_cons (h v a x hf hx) h2⟩
def emtchS (f : V → V → Bool) (es : List (V × V × Nat)) : List (V × V × Nat) → Bool :=
  List.rec (motive := fun _ => List (V × V × Nat) → Bool) (fun m => match m with | [] => true | _ :: _ => false)
    (fun e _ ih m => match m with
      | [] => false
      | a :: m' => (match f e.1 a.1, f e.2.1 a.2.1, Nat.beq e.2.2 a.2.2 with | true, true, true => ih m' | _, _, _ => false)) es
theorem emtchS_ok {f : V → V → Bool} (h : ∀ v a x, f v a = true → V.rel ι a x → V.rel (viaS l σ ι) v x) : ∀ {es fs : List (V × V × Nat)} {ms : List MapEntry}, emtchS f es fs = true → ERel ι fs ms → ERel (viaS l σ ι) es ms
  | [], [], ms, _, h => h
  | [], _ :: _, _, h, _ => by cases h
  | _ :: _, [], _, h, _ => by cases h
  | e :: es, a :: fs, ms, hm, hr => by
    obtain ⟨m, t, rfl, hk, hv, hb, ht⟩ := hr
    have h' : (match f e.1 a.1, f e.2.1 a.2.1, Nat.beq e.2.2 a.2.2 with | true, true, true => emtchS f es fs | _, _, _ => false) = true := hm
    cases h1 : f e.1 a.1 <;> cases h2 : f e.2.1 a.2.1 <;> cases h3 : Nat.beq e.2.2 a.2.2 <;> simp only [h1, h2, h3] at h' <;> try (cases h'; done)
    exact ⟨m, t, rfl, h _ _ _ h1 hk, h _ _ _ h2 hv, hb.trans (beq_eq h3).symm, emtchS_ok h h' ht⟩
def omtchS (f : V → V → Bool) (o a : O) : Bool :=
  match o, a with
  | .cells c, .cells d => mtchsP f c d
  | .map es k, .map fs j => (match Nat.beq k j with | true => emtchS f es fs | false => false)
  | _, _ => false
theorem omtchS_ok {P : Program} {w : World} {f : V → V → Bool} (h : ∀ v a x, f v a = true → V.rel ι a x → V.rel (viaS l σ ι) v x) {o a : O} {p q : Pth} (hm : omtchS f o a = true) (hq : asc l p = some q) (hr : a.ok P ι w q) :
    o.ok P (viaS l σ ι) w p ∧ a ≠ .dead := by
  cases o <;> cases a <;> try (cases hm; done)
  · rename_i c d
    refine ⟨?_, by simp⟩
    obtain ⟨b, s, cs, el, fr, hp, hh, hf, hl, hz⟩ := hr
    obtain ⟨h1, h2⟩ := mtchsP_ok h c d _ hm hl
    rw [List.take_take, Nat.min_eq_left h1] at h2
    exact ⟨b, s, cs, el, fr, (viaS_some hq).trans hp, hh, hf, h2, hz⟩
  · rename_i es c1 fs c2
    refine ⟨?_, by simp⟩
    have h' : (match Nat.beq c1 c2 with | true => emtchS f es fs | false => false) = true := hm
    cases hb : Nat.beq c1 c2 with
    | false => simp [hb] at h'
    | true =>
      simp only [hb] at h'
      obtain ⟨b, es', hp, hh, hr⟩ := hr
      exact ⟨b, es', (viaS_some hq).trans hp, by rw [beq_eq hb]; exact hh, emtchS_ok h h' hr⟩
/-- each block of the pattern has a name, and there one that fits -/
def premtchS (f : V → V → Bool) (l : Asc) (H : Heap) (pre : List (Pth × O)) : Bool :=
  List.rec true (fun e _ ih => match asc l e.1 with
    | some q => (match H.get q with
      | some a => (match omtchS f e.2 a with | true => ih | false => false)
      | none => false)
    | none => false) pre
theorem premtchS_ok {f : V → V → Bool} {H : Heap} : ∀ {pre : List (Pth × O)}, premtchS f l H pre = true → ∀ e ∈ pre, ∃ q a, asc l e.1 = some q ∧ H.get q = some a ∧ omtchS f e.2 a = true
  | [], _, e, he => by simp at he
  | x :: t, h, e, he => by
    have h' : (match asc l x.1 with
      | some q => (match H.get q with
        | some a => (match omtchS f x.2 a with | true => premtchS f l H t | false => false)
        | none => false)
      | none => false) = true := h
    cases h1 : asc l x.1 with
    | none => simp [h1] at h'
    | some q =>
      cases h2 : H.get q with
      | none => simp [h1, h2] at h'
      | some a =>
        cases h3 : omtchS f x.2 a with
        | false => simp [h1, h2, h3] at h'
        | true =>
          simp only [h1, h2, h3] at h'
          rcases List.mem_cons.1 he with rfl | he
          · exact ⟨q, a, h1, h2, h3⟩
          · exact premtchS_ok h' e he
theorem fit_ok {P : Program} {w : World} {f : V → V → Bool} (h : ∀ v a x, f v a = true → V.rel ι a x → V.rel (viaS l σ ι) v x) {H : Heap} {pre : List (Pth × O)} (hm : premtchS f l H pre = true)
    (hnd : nodupP (imgs l (names pre)) = true) (hok : HOK P ι H w) : HOK P (viaS l σ ι) (hp pre) w := by
  have live : ∀ {p}, Live (hp pre) p → p ∈ names pre ∧ ∃ q, asc l p = some q ∧ Live H q := fun {p} hl => by
    obtain ⟨o, h1, _⟩ := hl
    have m := hp_mem h1
    obtain ⟨q, a, e1, e2, e3⟩ := premtchS_ok hm _ m
    refine ⟨by rw [names_eq]; exact List.mem_map.2 ⟨_, m, rfl⟩, q, e1, a, e2, ?_⟩
    exact (omtchS_ok (P := P) (w := w) h e3 e1 (hok.obj q a e2)).2
  refine ⟨fun p o hp => ?_, fun p q b s s' hp hq ep eq => ?_, fun p b s hp => ?_⟩
  · obtain ⟨q, a, e1, e2, e3⟩ := premtchS_ok hm _ (hp_mem hp)
    exact (omtchS_ok (P := P) (w := w) h e3 e1 (hok.obj q a e2)).1
  · obtain ⟨mp, p', ep', lp⟩ := live hp
    obtain ⟨mq, q', eq', lq⟩ := live hq
    rw [viaS_some ep'] at ep
    rw [viaS_some eq'] at eq
    have := hok.inj p' q' b s s' lp lq ep eq
    subst this
    exact imgs_inj (nodupP_ok hnd) mp mq ep' eq'
  · obtain ⟨q, e1, e2⟩ := viaS_inv hp
    exact hok.lt q b s e2
end

/- code in pieces -/
def irs (P : Program) (U N : Nat) (l : List Code) : List IR := l.map fun c => codeIR P U N c false
def evChain (cal : Cal) (Γ : Glo) (rounds : Nat) (l : List IR) : Regs → Heap → Pth → Out :=
  List.rec (motive := fun _ => Regs → Heap → Pth → Out) (fun R H n => .nrm R H n)
    (fun c _ ih R H n => match evCode cal Γ c rounds R H n with
      | .nrm R' H' n' => ih R' H' n'
      | o => o) l
section
variable {P : Program} {Γ : Glo} {cal : Cal} {rounds : Nat} {U N : Nat}
theorem Defs.of {w0 w : World} {ι κ : Emb} {H F : Heap} {ds : List Deferred} (hd : Defs w0 ι H w ds) (hok : HOK P κ F w) : Defs w0 κ F w ds := by
  refine ⟨fun d hm => ?_, hd.apart⟩
  obtain ⟨b, h1, h2, h3, _⟩ := hd.all d hm
  refine ⟨b, h1, h2, h3, fun p s hl hp => ?_⟩
  obtain ⟨o, g1, g2⟩ := hl
  have ho := hok.obj p o g1
  cases o with
  | dead => exact g2 rfl
  | cells l => obtain ⟨b', s', c, el, fr, e1, e2, _⟩ := ho; rw [hp] at e1; cases e1; rw [h3] at e2; cases e2
  | map es k => obtain ⟨b', es', e1, e2, _⟩ := ho; rw [hp] at e1; cases e1; rw [h3] at e2; cases e2
  | siter s' pos => obtain ⟨b', t, e1, e2, _⟩ := ho; rw [hp] at e1; cases e1; rw [h3] at e2; cases e2
  | miter m a s' st => obtain ⟨b', m', s'', e1, e2, _⟩ := ho; rw [hp] at e1; cases e1; rw [h3] at e2; cases e2
  | loop => obtain ⟨l, lp, U, N, e1, e2, _⟩ := ho; rw [hp] at e1; cases e1; rw [h3] at e2; cases e2
end
end
end Go.Ev
/-
  A verified evaluator, part 42: a piece of code takes one symbolic state to another one; a law's call.
-/
namespace Go.Ev
noncomputable section
open Go

/-- a symbolic state: what the frame's slots hold, the blocks -/
structure St where
  R : List (Nat × V)
  H : List (Pth × O)
/-- the inputs' slices: their names, where they begin -/
structure Ins where
  ps : List Pth
  at' : Pth → Option (Nat × Nat)
def regsOf (l : List (Nat × V)) : Regs := List.rec .nil (fun e _ ih => Tr.set (toPth e.1) e.2 ih) l
theorem regsOf_mem : ∀ {l : List (Nat × V)} {p : Pth} {v : V}, (regsOf l).get p = some v → ∃ i, (i, v) ∈ l ∧ toPth i = p
  | [], p, v, h => by
    have h' : Tr.get p (.nil : Regs) = some v := h
    rw [Tr.get_nil] at h'; cases h'
  | e :: l, p, v, h => by
    have h' : (Tr.set (toPth e.1) e.2 (regsOf l)).get p = some v := h
    rw [Tr.get_set] at h'
    by_cases he : toPth e.1 = p
    · rw [if_pos he] at h'; cases h'; exact ⟨e.1, List.mem_cons_self .., he⟩
    · rw [if_neg he] at h'
      obtain ⟨i, h1, h2⟩ := regsOf_mem h'
      exact ⟨i, List.mem_cons_of_mem _ h1, h2⟩
/-- where a call stands that began at w0: the state s, its numbers being σ; nothing of before has changed -/
structure At (P : Program) (U N : Nat) (w0 : World) (I : Ins) (σ : Nat → Int) (s : St) (a : Act) (w : World) : Prop where
  ex : ∃ ι : Emb, ι.sym = σ ∧ HOK P ι (hp s.H) w ∧ EnvR ι U (regsOf s.R) a.tmps ∧ Defs w0 ι (hp s.H) w a.defers ∧ (∀ p ∈ I.ps, ι p = I.at' p) ∧ (∀ p, ι p ≠ none → p ∈ names s.H ∨ p ∈ I.ps) ∧
    ∀ p b t, Live (hp s.H) p → ι p = some (b, t) → w0.heap.size ≤ b
  slots : N ≤ a.tmps.size
  old : ∀ b, b < w0.heap.size → w.heap[b]? = w0.heap[b]?
  size : w0.heap.size ≤ w.heap.size
  tape : w.tape = w0.tape
  os : w.os = w0.os
  out : w.output = w0.output

/- lists of blocks -/
theorem hp_app (A B : List (Pth × O)) (p : Pth) : (hp (A ++ B)).get p = match (hp A).get p with | some o => some o | none => (hp B).get p := by
  induction A with
  | nil => show (hp B).get p = match Tr.get p (.nil : Heap) with | some o => some o | none => (hp B).get p; rw [Tr.get_nil]
  | cons e A ih =>
    show (hp (e :: (A ++ B))).get p = _
    rw [hp_cons, hp_cons, Tr.get_set, Tr.get_set]
    by_cases he : e.1 = p
    · rw [if_pos he, if_pos he]
    · rw [if_neg he, if_neg he, ih]
theorem hp_names {l : List (Pth × O)} {p : Pth} (h : (hp l).get p ≠ none) : p ∈ names l := by
  cases hg : (hp l).get p with
  | none => exact absurd hg h
  | some o => rw [names_eq]; exact List.mem_map.2 ⟨_, hp_mem hg, rfl⟩
theorem hp_none {l : List (Pth × O)} {p : Pth} (h : p ∉ names l) : (hp l).get p = none := by
  cases hg : (hp l).get p with
  | none => rfl
  | some o => exact absurd (hp_names (by rw [hg]; simp)) h
theorem hp_in {l : List (Pth × O)} {p : Pth} (h : p ∈ names l) : (hp l).get p ≠ none := hp_some (by rw [← names_eq]; exact h)
theorem names_app (A B : List (Pth × O)) : names (A ++ B) = names A ++ names B := by simp [names_eq]
def ovl (B : List (Pth × O)) (H : Heap) : Heap := List.rec H (fun e _ ih => Tr.set e.1 e.2 ih) B
theorem ovl_get (H : Heap) (p : Pth) : ∀ B : List (Pth × O), (ovl B H).get p = match (hp B).get p with | some o => some o | none => H.get p
  | [] => by show H.get p = match Tr.get p (.nil : Heap) with | some o => some o | none => H.get p; rw [Tr.get_nil]
  | e :: B => by
    show (Tr.set e.1 e.2 (ovl B H)).get p = match (Tr.set e.1 e.2 (hp B)).get p with | some o => some o | none => H.get p
    rw [Tr.get_set, Tr.get_set]
    by_cases he : e.1 = p
    · rw [if_pos he, if_pos he]
    · rw [if_neg he, if_neg he, ovl_get H p B]

/- checks -/
def regMt (f : V → V → Bool) (R : Regs) (l : List (Nat × V)) : Bool :=
  List.rec true (fun e _ ih => match R.get (toPth e.1) with
    | some a => (match f e.2 a with | true => ih | false => false)
    | none => false) l
theorem regMt_ok {f : V → V → Bool} {R : Regs} : ∀ {l : List (Nat × V)}, regMt f R l = true → ∀ e ∈ l, ∃ a, R.get (toPth e.1) = some a ∧ f e.2 a = true
  | [], _, e, he => by simp at he
  | x :: t, h, e, he => by
    have h' : (match R.get (toPth x.1) with
      | some a => (match f x.2 a with | true => regMt f R t | false => false)
      | none => false) = true := h
    cases h1 : R.get (toPth x.1) with
    | none => simp [h1] at h'
    | some a =>
      cases h2 : f x.2 a with
      | false => simp [h1, h2] at h'
      | true =>
        simp only [h1, h2] at h'
        rcases List.mem_cons.1 he with rfl | he
        · exact ⟨a, h1, h2⟩
        · exact regMt_ok h' e he
/-- the names that were not there are not there -/
def stay (A A' : Heap) (ps : List Pth) : Bool :=
  List.rec true (fun p _ ih => match A.get p with
    | some _ => ih
    | none => (match A'.get p with | none => ih | some _ => false)) ps
theorem stay_ok {A A' : Heap} : ∀ {ps : List Pth}, stay A A' ps = true → ∀ p ∈ ps, A.get p = none → A'.get p = none
  | [], _, p, hp => by simp at hp
  | x :: t, h, p, hp => by
    have h' : (match A.get x with
      | some _ => stay A A' t
      | none => (match A'.get x with | none => stay A A' t | some _ => false)) = true := h
    have key : (A.get x = none → A'.get x = none) ∧ stay A A' t = true := by
      cases h1 : A.get x with
      | some o => simp only [h1] at h'; exact ⟨(fun e => by cases e), h'⟩
      | none =>
        simp only [h1] at h'
        cases h2 : A'.get x with
        | none => simp only [h2] at h'; exact ⟨fun _ => rfl, h'⟩
        | some o => simp [h2] at h'
    rcases List.mem_cons.1 hp with rfl | hp
    · exact key.1
    · exact stay_ok key.2 p hp
def idA (ps : List Pth) : Asc := List.rec [] (fun p _ ih => (p, p) :: ih) ps
def selfA (l : Asc) (ps : List Pth) : Bool := List.rec true (fun p _ ih => match hasA l p p with | true => ih | false => false) ps
theorem selfA_ok {l : Asc} : ∀ {ps : List Pth}, selfA l ps = true → ∀ p ∈ ps, asc l p = some p
  | [], _, p, hp => by simp at hp
  | x :: t, h, p, hp => by
    have h' : (match hasA l x x with | true => selfA l t | false => false) = true := h
    cases h1 : hasA l x x with
    | false => simp [h1] at h'
    | true =>
      simp only [h1] at h'
      rcases List.mem_cons.1 hp with rfl | hp
      · exact hasA_ok h1
      · exact selfA_ok h' p hp
/- candidates for the names -/
def addA (l : Asc) (p q : Pth) : Asc := match asc l p with | some _ => l | none => (p, q) :: l
def uniV (fuel : Nat) : V → V → Asc → Asc :=
  Nat.rec (motive := fun _ => V → V → Asc → Asc) (fun _ _ l => l) (fun _ ih v a l => match v, a with
    | .ptr p _, .ptr q _ => addA l p q
    | .sl p _ _ _ _, .sl q _ _ _ _ => addA l p q
    | .jsl p _ _ _ _, .jsl q _ _ _ _ => addA l p q
    | .jsl p _ _ _ _, .sl q _ _ _ _ => addA l p q
    | .mp p, .mp q => addA l p q
    | .agg x, .agg y => (List.rec (motive := fun _ => List V → Asc → Asc) (fun _ l => l)
            (fun x _ ih2 m l => match m with | [] => l | y :: m' => ih2 m' (ih x y l)) x : List V → Asc → Asc) y l
    | .ifc _ x, .ifc _ y => ih x y l
    | _, _ => l) fuel
def uniVs (fuel : Nat) (x : List V) : List V → Asc → Asc :=
  List.rec (motive := fun _ => List V → Asc → Asc) (fun _ l => l) (fun x _ ih2 m l => match m with | [] => l | y :: m' => ih2 m' (uniV fuel x y l)) x
def uniE (fuel : Nat) (x : List (V × V × Nat)) : List (V × V × Nat) → Asc → Asc :=
  List.rec (motive := fun _ => List (V × V × Nat) → Asc → Asc) (fun _ l => l) (fun x _ ih2 m l => match m with | [] => l | y :: m' => ih2 m' (uniV fuel x.2.1 y.2.1 l)) x
def uniB (fuel : Nat) (H : Heap) (pre : List (Pth × O)) : Asc → Asc :=
  List.rec (motive := fun _ => Asc → Asc) (fun l => l) (fun e _ ih l => match asc l e.1 with
    | some q => (match e.2, H.get q with
      | .cells c, some (.cells d) => ih (uniVs fuel c d l)
      | .map es _, some (.map fs _) => ih (uniE fuel es fs l)
      | _, _ => ih l)
    | none => ih l) pre
def uniR (fuel : Nat) (R : Regs) (l : List (Nat × V)) : Asc → Asc :=
  List.rec (motive := fun _ => Asc → Asc) (fun l => l) (fun e _ ih l => match R.get (toPth e.1) with
    | some a => ih (uniV fuel e.2 a l)
    | none => ih l) l
/-- B2: what is kept of the blocks B that the piece does not look at -/
def fitsL (ps : List Pth) (asg : Asg) (spec : Spec) (l : Asc) (R2 : List (Nat × V)) (A2 B2 B A : List (Pth × O)) (R' : Regs) (A' : Heap) : Bool :=
  match regMt (mtchS asg spec (imgs l (names (app A2 B2))) l 40) R' R2, premtchS (mtchS asg spec (imgs l (names (app A2 B2))) l 40) l (ovl B A') (app A2 B2), nodupP (imgs l (names (app A2 B2))),
    stay (hp A) A' (app (names A) (app (names B) ps)), noneP (names B) (names A), selfA l ps, subP (fstOf l) (app (names (app A2 B2)) ps) with
  | true, true, true, true, true, true, true => true
  | _, _, _, _, _, _, _ => false
def fitsS (ps : List Pth) (asg : Asg) (spec : Spec) (R2 : List (Nat × V)) (A2 B2 B A : List (Pth × O)) (R' : Regs) (A' : Heap) : Bool :=
  fitsL ps asg spec (uniB 40 A' A2 (uniR 40 R' R2 (idA (app ps (names B2))))) R2 A2 B2 B A R' A'
inductive K where
  | nrm
  | brk (id : Nat)
  | ret
def K.exit : K → Exit
  | .nrm => .normal
  | .brk id => .exit id
  | .ret => .ret
def kfits (kd : K) (ps : List Pth) (asg : Asg) (spec : Spec) (R2 : List (Nat × V)) (A2 B2 B A : List (Pth × O)) (o : Out) : Bool :=
  match kd, o with
  | .nrm, .nrm R' A' _ => fitsS ps asg spec R2 A2 B2 B A R' A'
  | .brk id, .brk id' R' A' _ => (match Nat.beq id id' with | true => fitsS ps asg spec R2 A2 B2 B A R' A' | false => false)
  | .ret, .ret R' A' _ => fitsS ps asg spec R2 A2 B2 B A R' A'
  | _, _ => false

/-- what is told at a piece's beginning is so -/
structure Tells (Γ : Glo) (w0 : World) (I : Ins) (σ : Nat → Int) : Prop where
  val : Γ.val = fun _ => []
  ro : Γ.ro = []
  tab : ∀ e ∈ Γ.tab, ∀ ι : Emb, ι.sym = σ → Told ι e ∧ ToldA ι e
  lds : ∀ e ∈ Γ.lds, e.1 ∈ I.ps ∧ ∃ b s z, I.at' e.1 = some (b, s) ∧ b < w0.heap.size ∧ w0.cell? ⟨b, s + (σ e.2.1).toNat, none⟩ = some z ∧ ∀ ι : Emb, ι.sym = σ → V.rel ι e.2.2 z
section
variable {P : Program} {Γ : Glo} {cal : Cal} {rounds : Nat} {U N : Nat} {w0 : World} {I : Ins}
theorem fitsL_ok {σ τ : Nat → Int} {asg : Asg} {spec : Spec} {l : Asc} {R2 : List (Nat × V)} {A2 B2 B A : List (Pth × O)} {R' : Regs} {A' : Heap} (h : fitsL I.ps asg spec l R2 A2 B2 B A R' A' = true) (hn : Num asg spec σ τ) {w w' : World} {a' : Act}
    {ι ι' : Emb} (hσ : ι.sym = σ) (hok : HOK P ι (hp (A ++ B)) w) (hin : ∀ p ∈ I.ps, ι p = I.at' p) (_hdom : ∀ p, ι p ≠ none → p ∈ names (A ++ B) ∨ p ∈ I.ps)
    (hnew : ∀ p b t, Live (hp (A ++ B)) p → ι p = some (b, t) → w0.heap.size ≤ b) (hsz : w0.heap.size ≤ w.heap.size) (hold : ∀ b, b < w0.heap.size → w.heap[b]? = w0.heap[b]?) (ht : w.tape = w0.tape) (hos : w.os = w0.os) (hout : w.output = w0.output)
    (hm : Mono (hp A) A') (st : Step P ι (hp A) w ι' A' w') (henv : EnvR ι' U R' a'.tmps) (hN : N ≤ a'.tmps.size) (hd : Defs w0 ι' A' w' a'.defers) : At P U N w0 I τ ⟨R2, A2 ++ B2⟩ a' w' := by
  unfold fitsL at h
  rw [app_eq, app_eq, app_eq, app_eq] at h
  generalize hzs : imgs l (names (A2 ++ B2)) = zs at h
  cases h1 : regMt (mtchS asg spec zs l 40) R' R2 <;> cases h2 : premtchS (mtchS asg spec zs l 40) l (ovl B A') (A2 ++ B2) <;> cases h3 : nodupP zs <;> cases h4 : stay (hp A) A' (names A ++ (names B ++ I.ps)) <;>
    cases h5 : noneP (names B) (names A) <;> cases h6 : selfA l I.ps <;> cases h7 : subP (fstOf l) (names (A2 ++ B2) ++ I.ps) <;> simp only [h1, h2, h3, h4, h5, h6, h7] at h <;> try (cases h; done)
  have hstay := stay_ok h4
  have hBA := noneP_ok h5
  have hself := selfA_ok h6
  have hdis : ∀ p, (hp (A ++ B)).get p ≠ none → (hp A).get p = none → A'.get p = none := fun p hp1 hp2 => by
    have := hp_names hp1
    rw [names_app] at this
    refine hstay p ?_ hp2
    rcases List.mem_append.1 this with g | g
    · exact List.mem_append_left _ g
    · exact List.mem_append_right _ (List.mem_append_left _ g)
  have sub : Sub (hp A) (hp (A ++ B)) := fun p o hp1 => by rw [hp_app, hp1]
  have hF : ∀ p, (ovl B A').get p = match A'.get p with | some o => some o | none => (hp (A ++ B)).get p := fun p => by
    rw [ovl_get, hp_app]
    cases hb : (hp B).get p with
    | some o =>
      have hpB : p ∈ names B := hp_names (by rw [hb]; simp)
      have hA0 : (hp A).get p = none := hp_none (hBA p hpB)
      have hA' : A'.get p = none := hstay p (List.mem_append_right _ (List.mem_append_left _ hpB)) hA0
      rw [hA', hA0]
    | none =>
      cases ha : A'.get p with
      | some o => rfl
      | none =>
        cases hA : (hp A).get p with
        | none => rfl
        | some o => exact absurd ha (hm p (by rw [hA]; simp))
  have stF : Step P ι (hp (A ++ B)) w ι' (ovl B A') w' := Step.frame hok sub st hm hdis hF
  have hsym : ι'.sym = σ := st.ext.syms.trans hσ
  have hn' : Num asg spec ι'.sym τ := by rw [hsym]; exact hn
  -- the blocks begin at their first cells
  have hz : ∀ q b s, q ∈ zs → ι' q = some (b, s) → s = 0 := fun q b s hq hb => by
    rw [← hzs] at hq
    have : ∀ ps : List Pth, q ∈ imgs l ps → ∃ p ∈ ps, asc l p = some q := by
      intro ps
      induction ps with
      | nil => intro hh; cases hh
      | cons x t ih =>
        intro hh
        have hi : imgs l (x :: t) = (match asc l x with | some q => q :: imgs l t | none => imgs l t) := rfl
        rw [hi] at hh
        cases hx : asc l x with
        | none => rw [hx] at hh; obtain ⟨p, g1, g2⟩ := ih hh; exact ⟨p, List.mem_cons_of_mem _ g1, g2⟩
        | some y =>
          rw [hx] at hh
          rcases List.mem_cons.1 hh with rfl | hh
          · exact ⟨x, List.mem_cons_self .., hx⟩
          · obtain ⟨p, g1, g2⟩ := ih hh; exact ⟨p, List.mem_cons_of_mem _ g1, g2⟩
    obtain ⟨p, g1, g2⟩ := this _ hq
    rw [names_eq] at g1
    obtain ⟨e, g3, rfl⟩ := List.mem_map.1 g1
    obtain ⟨q', o, e1, e2, e3⟩ := premtchS_ok h2 e g3
    rw [g2] at e1; cases e1
    have ho := stF.hok.obj q o e2
    cases o with
    | cells c => obtain ⟨b', s', cs, el, fr, f1, f2, f3, f4, f5, f6⟩ := ho; rw [hb] at f1; cases f1; exact f6
    | map es kk => obtain ⟨b', es', f1, f2, f3⟩ := ho; rw [hb] at f1; cases f1; rfl
    | _ => exfalso; cases hx : e.2 <;> rw [hx] at e3 <;> cases e3
  have hmt := fun v x y => mtchS_ok (l := l) (ι := ι') hn' hz 40 v x y
  have hok2 : HOK P (viaS l τ ι') (hp (A2 ++ B2)) w' := fit_ok hmt h2 (by rw [hzs]; exact h3) stF.hok
  have hle0 : ∀ p b t, Live (ovl B A') p → ι' p = some (b, t) → w0.heap.size ≤ b := fun p b t hl hb => by
    by_cases hbw : b < w.heap.size
    · obtain ⟨q, s', hq, hq'⟩ := stF.back p b t hl hb hbw
      exact hnew q b s' hq hq'
    · omega
  refine ⟨⟨viaS l τ ι', rfl, hok2, fun r v hv => ?_, hd.of hok2, fun p hp => ?_, fun p hp => ?_, fun p b t hl hb => ?_⟩, hN, fun b hb => ?_, Nat.le_trans hsz st.size, st.tape.trans ht, st.os.trans hos, st.out.trans hout⟩
  · obtain ⟨i, g1, rfl⟩ := regsOf_mem hv
    obtain ⟨x, g2, g3⟩ := regMt_ok h1 _ g1
    obtain ⟨g4, g5⟩ := henv _ _ g2
    exact ⟨g4, hmt _ _ _ g3 g5⟩
  · rw [viaS_some (hself p hp), ← hin p hp]
    cases hι : ι p with
    | some z => exact st.ext.name p z hι
    | none =>
      cases hι' : ι' p with
      | none => rfl
      | some z =>
        obtain ⟨g1, g2⟩ := st.new p hι (by rw [hι']; simp)
        exact absurd (hstay p (List.mem_append_right _ (List.mem_append_right _ hp)) g1) g2
  · cases hv : viaS l τ ι' p with
    | none => exact absurd hv hp
    | some z =>
      obtain ⟨q, g1, _⟩ := viaS_inv hv
      have := subP_ok h7 p (fstOf_mem g1)
      exact List.mem_append.1 this
  · obtain ⟨q, g1, g2⟩ := viaS_inv hb
    obtain ⟨o, g3, g4⟩ := hl
    obtain ⟨q', x, e1, e2, e3⟩ := premtchS_ok h2 _ (hp_mem g3)
    rw [g1] at e1; cases e1
    exact hle0 q b t ⟨x, e2, (omtchS_ok (P := P) (w := w') hmt e3 g1 (stF.hok.obj q x e2)).2⟩ g2
  · rw [st.kept b (by omega) fun p s hl hp => ?_]
    · exact hold b hb
    · have := hnew p b s (sub.live hl) hp
      omega
theorem Tells.gok {σ : Nat → Int} (ht : Tells Γ w0 I σ) {ι : Emb} {A : List (Pth × O)} {w : World} (hσ : ι.sym = σ) (hin : ∀ p ∈ I.ps, ι p = I.at' p) (hnew : ∀ p b t, Live (hp A) p → ι p = some (b, t) → w0.heap.size ≤ b)
    (hold : ∀ b, b < w0.heap.size → w.heap[b]? = w0.heap[b]?) : GOK Γ ι (hp A) w := by
  refine ⟨fun g i v h => ?_, fun g h => ?_, fun e he => (ht.tab e he ι hσ).1, fun e he => (ht.tab e he ι hσ).2, fun e he => ?_, fun e he => by rw [ht.ro] at he; simp at he⟩
  · rw [ht.val] at h; simp at h
  · rw [ht.val] at h; exact absurd rfl h
  · obtain ⟨h1, b, s, z, h2, h3, h4, h5⟩ := ht.lds e he
    refine ⟨b, s, z, (hin _ h1).trans h2, fun q t hl hq => ?_, ?_, h5 ι hσ⟩
    · have := hnew q b t hl hq
      omega
    · rw [hσ, ← h4]
      simp only [World.cell?]
      rw [hold b h3]
/-- what is common to both -/
theorem At.pre {σ : Nat → Int} {R : List (Nat × V)} {A B : List (Pth × O)} {a : Act} {w : World} (h : At P U N w0 I σ ⟨R, A ++ B⟩ a w) (ht : Tells Γ w0 I σ) :
    ∃ ι : Emb, ι.sym = σ ∧ HOK P ι (hp (A ++ B)) w ∧ HOK P ι (hp A) w ∧ GOK Γ ι (hp A) w ∧ EnvR ι U (regsOf R) a.tmps ∧ Defs w0 ι (hp A) w a.defers ∧ (∀ p ∈ I.ps, ι p = I.at' p) ∧
      (∀ p, ι p ≠ none → p ∈ names (A ++ B) ∨ p ∈ I.ps) ∧ ∀ p b t, Live (hp (A ++ B)) p → ι p = some (b, t) → w0.heap.size ≤ b := by
  obtain ⟨ι, h1, h2, h3, h4, h5, h6, h7⟩ := h.ex
  have sub : Sub (hp A) (hp (A ++ B)) := fun p o hp1 => by rw [hp_app, hp1]
  exact ⟨ι, h1, h2, h2.sub sub, ht.gok h1 h5 (fun p b t hl => h7 p b t (sub.live hl)) h.old, h3, h4.of (h2.sub sub), h5, h6, h7⟩
theorem fr_of {ps : List Pth} {A B : List (Pth × O)} {A' : Heap} {ι : Emb} (hst : stay (hp A) A' (names A ++ (names B ++ ps)) = true) (hdom : ∀ p, ι p ≠ none → p ∈ names (A ++ B) ∨ p ∈ ps) : Fr ι (hp A) A' := fun p h1 h2 => by
  cases hι : ι p with
  | none => rfl
  | some z =>
    refine absurd (stay_ok hst p ?_ h1) h2
    rcases hdom p (by rw [hι]; simp) with g | g
    · rw [names_app] at g
      rcases List.mem_append.1 g with g | g
      · exact List.mem_append_left _ g
      · exact List.mem_append_right _ (List.mem_append_left _ g)
    · exact List.mem_append_right _ (List.mem_append_right _ g)
theorem fits_stay {asg : Asg} {spec : Spec} {R2 : List (Nat × V)} {A2 B2 B A : List (Pth × O)} {R' : Regs} {A' : Heap} {ps : List Pth} (h : fitsS ps asg spec R2 A2 B2 B A R' A' = true) : stay (hp A) A' (names A ++ (names B ++ ps)) = true := by
  unfold fitsS fitsL at h
  rw [app_eq (names A), app_eq (names B)] at h
  cases h4 : stay (hp A) A' (names A ++ (names B ++ ps)) with
  | true => rfl
  | false =>
    rw [h4] at h
    split at h
    · rename false = true => g; cases g
    · cases h
/-- a piece that nothing follows -/
theorem At.last (k : CalOK P Γ cal) (hmix : P.follows .mixedOrders = true) {Q : Exit → Act → World → Prop} {code : Code} {σ τ : Nat → Int} {R R2 : List (Nat × V)} {A B A2 B2 : List (Pth × O)} {n : Pth} {kd : K} {asg : Asg} {spec : Spec}
    (hc : kfits kd I.ps asg spec R2 A2 B2 B A (evChain cal Γ rounds (irs P U N [code]) (regsOf R) (hp A) n) = true) {a : Act} {w : World} (h : At P U N w0 I σ ⟨R, A ++ B⟩ a w) (ht : Tells Γ w0 I σ) (hn : Num asg spec σ τ)
    (hz : ∀ a' w', At P U N w0 I τ ⟨R2, A2 ++ B2⟩ a' w' → Q kd.exit a' w') : code.wpIn Fence.wide 0 P Q a w := by
  obtain ⟨ι, h1, h2, h3, h4, h5, h6, h7, h8, h9⟩ := h.pre ht
  obtain ⟨mo, ko⟩ := code_ok (rounds := rounds) k hmix code false U N (regsOf R) (hp A) n
  have hev : evChain cal Γ rounds (irs P U N [code]) (regsOf R) (hp A) n = evCode cal Γ (codeIR P U N code false) rounds (regsOf R) (hp A) n := by
    show (match evCode cal Γ (codeIR P U N code false) rounds (regsOf R) (hp A) n with
      | .nrm R' H' n' => Out.nrm R' H' n'
      | o => o) = _
    split
    · rename_i e; exact e.symm
    · rfl
  rw [hev] at hc
  generalize evCode cal Γ (codeIR P U N code false) rounds (regsOf R) (hp A) n = out at hc mo ko
  have fin : ∀ (R' : Regs) (A' : Heap), fitsS I.ps asg spec R2 A2 B2 B A R' A' = true → Mono (hp A) A' → ∀ a' w', Left P ι U N (hp A) w0 w R' A' a' w' → At P U N w0 I τ ⟨R2, A2 ++ B2⟩ a' w' := fun R' A' hf hm a' w' hl => by
    obtain ⟨ι', e1, e2, e3, e4⟩ := hl
    exact fitsL_ok hf hn h1 h2 h7 h8 h9 h.size h.old h.tape h.os h.out hm e3 e1 e2 e4
  cases kd <;> cases out <;> try (cases hc; done)
  case nrm.nrm R' A' n' =>
    have hf : fitsS I.ps asg spec R2 A2 B2 B A R' A' = true := hc
    refine wpIn_mono (ko (by simp) Fence.wide 0 ι w w0 a (.inl rfl) (fun _ => ⟨rfl, h.size⟩) h3 h4 (fr_of (fits_stay hf) h8) h5 h.slots h6) fun e a' w' hp => ?_
    obtain ⟨rfl, hl⟩ := hp
    exact hz a' w' (fin R' A' hf mo a' w' hl)
  case brk.brk id id' R' A' n' =>
    have hf : (match Nat.beq id id' with | true => fitsS I.ps asg spec R2 A2 B2 B A R' A' | false => false) = true := hc
    cases hb : Nat.beq id id' with
    | false => simp [hb] at hf
    | true =>
      simp only [hb] at hf
      have := beq_eq hb; subst this
      refine wpIn_mono (ko (by simp) Fence.wide 0 ι w w0 a (.inl rfl) (fun _ => ⟨rfl, h.size⟩) h3 h4 (fr_of (fits_stay hf) h8) h5 h.slots h6) fun e a' w' hp => ?_
      obtain ⟨rfl, hl⟩ := hp
      exact hz a' w' (fin R' A' hf mo a' w' hl)
  case ret.ret R' A' n' =>
    have hf : fitsS I.ps asg spec R2 A2 B2 B A R' A' = true := hc
    refine wpIn_mono (ko (by simp) Fence.wide 0 ι w w0 a (.inl rfl) (fun _ => ⟨rfl, h.size⟩) h3 h4 (fr_of (fits_stay hf) h8) h5 h.slots h6) fun e a' w' hp => ?_
    obtain ⟨rfl, hl⟩ := hp
    exact hz a' w' (fin R' A' hf mo a' w' hl)
end
end
end Go.Ev
/-
  A verified evaluator, part 43: Around, told; the documented example, taken as done; new numbers.
-/
namespace Go.Ev
noncomputable section
open Go

section
variable {P : Program} {Γ : Glo}
end

section
variable {ι : Emb} {σ : Nat → Int} {x y r : V}
end
end
end Go.Ev
/-
  A verified evaluator, part 44: a call's contract out of an evaluation, where nothing but blocks that are only read is named; what one call made, taken on by another one.
-/
namespace Go.Ev
noncomputable section
open Go Go.RowKit

/-- the blocks l are there, their names meaning what ι says -/
def RoIs (ι : Emb) (l : List (Pth × List V)) (w : World) : Prop :=
  ∀ e ∈ l, ∃ b s c el fr, ι e.1 = some (b, s) ∧ w.heap[b]? = some (Obj.cells c el fr) ∧ V.rels ι e.2 ((c.toList.drop s).take e.2.length)
theorem RoIs.same {ι : Emb} {l : List (Pth × List V)} {w w' : World} (h : RoIs ι l w) (hs : ∀ e ∈ l, ∀ b s, ι e.1 = some (b, s) → w'.heap[b]? = w.heap[b]?) : RoIs ι l w' := fun e he => by
  obtain ⟨b, s, c, el, fr, h1, h2, h3⟩ := h e he
  exact ⟨b, s, c, el, fr, h1, (hs e he b s h1).trans h2, h3⟩
theorem RoIs.mono {ι ι' : Emb} {l : List (Pth × List V)} {w : World} (h : RoIs ι l w) (hle : ι.le ι') : RoIs ι' l w := fun e he => by
  obtain ⟨b, s, c, el, fr, h1, h2, h3⟩ := h e he
  exact ⟨b, s, c, el, fr, hle.name _ _ h1, h2, V.rels.mono hle _ _ h3⟩
/-- are the blocks l among those of H, just so? -/
def inH (H : Heap) (l : List (Pth × List V)) : Bool :=
  List.rec true (fun e _ ih => match H.get e.1 with
    | some (.cells c) => (match veq 1000 (.agg c) (.agg e.2) with | true => ih | false => false)
    | _ => false) l
theorem inH_ok {H : Heap} : ∀ {l : List (Pth × List V)}, inH H l = true → ∀ e ∈ l, H.get e.1 = some (.cells e.2)
  | [], _, e, he => by simp at he
  | x :: t, h, e, he => by
    have h' : (match H.get x.1 with
      | some (.cells c) => (match veq 1000 (.agg c) (.agg x.2) with | true => inH H t | false => false)
      | _ => false) = true := h
    split at h' <;> try (cases h'; done)
    rename_i c hc
    cases hv : veq 1000 (.agg c) (.agg x.2) with
    | false => simp [hv] at h'
    | true =>
      simp only [hv] at h'
      have := veq_eq _ _ _ hv
      cases this
      rcases List.mem_cons.1 he with rfl | he
      · exact hc
      · exact inH_ok h' e he
theorem HOK.ro {P : Program} {ι : Emb} {H : Heap} {w : World} (h : HOK P ι H w) {l : List (Pth × List V)} (hl : inH H l = true) : RoIs ι l w := fun e he => by
  obtain ⟨b, s, c, el, fr, h1, h2, _, h3, _⟩ := h.obj _ _ (inH_ok hl e he)
  exact ⟨b, s, c, el, fr, h1, h2, h3⟩
/-- none of the names is a block's of H -/
def freeH (H : Heap) (ps : List Pth) : Bool := List.rec true (fun p _ ih => match H.get p with | none => ih | some _ => false) ps
theorem freeH_ok {H : Heap} : ∀ {ps : List Pth}, freeH H ps = true → ∀ p ∈ ps, H.get p = none
  | [], _, p, hp => by simp at hp
  | x :: t, h, p, hp => by
    have h' : (match H.get x with | none => freeH H t | some _ => false) = true := h
    cases hx : H.get x with
    | some o => simp [hx] at h'
    | none =>
      simp only [hx] at h'
      rcases List.mem_cons.1 hp with rfl | hp
      · exact hx
      · exact freeH_ok h' p hp
section
variable {P : Program} {Γ : Glo} {cal : Cal}
/-- a call that begins with nothing -/
theorem call1 (k : CalOK P Γ0 cal) {f : Nat} {args : List V} {v : V} {H : Heap} {n m : Pth} (h : cal.fn f args .nil m = .ok v H n) (σ : Nat → Int) (w : World) (xs : Array Value) (hxs : V.rels (Emb.none σ) args xs.toList) :
    Calls P f xs w fun e w1 => ∃ x ι, e = .returned x ∧ V.rel ι v x ∧ HOK P ι H w1 ∧ Below w.heap.size w w1 ∧ (∀ p b s, ι p = some (b, s) → H.get p ≠ none) ∧ ∀ p b s, Live H p → ι p = some (b, s) → w.heap.size ≤ b := by
  obtain ⟨_, _, hk⟩ := k.fn _ _ _ _ _ _ _ h
  refine (hk (Emb.none σ) w xs (HOK.nil _) (GOK.nil _) (Fr.nil_of fun _ => rfl) hxs).mono fun e w1 he => ?_
  obtain ⟨x, rfl, ι', hv, hs⟩ := he
  have noLive : ∀ p, ¬ Live (.nil : Heap) p := fun p hl => by obtain ⟨o, h1, _⟩ := hl; rw [Tr.get_nil] at h1; cases h1
  refine ⟨x, ι', rfl, hv, hs.hok, ⟨hs.os, hs.tape, hs.out, hs.size, fun b hb => hs.kept b hb fun p s hl => absurd hl (noLive p)⟩, fun p b s hp => (hs.new p rfl (by rw [hp]; simp)).2, fun p b s hl hp => ?_⟩
  rcases Nat.lt_or_ge b w.heap.size with hb | hb
  · obtain ⟨q, _, hq, _⟩ := hs.back p b s hl hp hb
    exact absurd hq (noLive q)
  · exact hb
end
end
end Go.Ev
/-
  A verified evaluator, part 45: blocks that a call made and that are only read from then on: laid somewhere in memory, and a call that reads them and an input's cells.
-/
namespace Go.Ev
noncomputable section
open Go Go.RowKit

mutual
/-- a value without inputs' numbers, whose names are all of the given ones -/
def plV (ps : Pth → Bool) : V → Bool
  | .unk => true | .bool _ => true | .int _ _ => true | .str _ => true | .nilp => true | .gptr _ _ => true | .nilsl => true | .nilmp => true | .nilfn => true | .nilif => true | .sl0 _ => true | .iv _ _ _ _ => true
  | .ptr p _ => ps p | .sl p _ _ _ _ => ps p | .mp p => ps p | .yld p => ps p
  | .fn _ a c => plL ps a && plL ps c
  | .agg l => plL ps l
  | .tup l => plL ps l
  | .ifc _ v => plV ps v
  | .mth _ _ v => plV ps v
  | _ => false
def plL (ps : Pth → Bool) : List V → Bool
  | [] => true
  | v :: t => plV ps v && plL ps t
end
mutual
theorem V.rel.move {ps : Pth → Bool} {ι ι' : Emb} (h : ∀ p b s, ps p = true → ι p = some (b, s) → ι' p = some (b, s) ∧ ι'.size b = ι.size b) : ∀ (v : V) (x : Value), plV ps v = true → V.rel ι v x → V.rel ι' v x
  | .unk, _, _, _ => by simp [V.rel]
  | .bool b, _, _, hr => by simpa [V.rel] using hr
  | .int k n, _, _, hr => by simpa [V.rel] using hr
  | .str s, _, _, hr => by simpa [V.rel] using hr
  | .nilp, _, _, hr => by simpa [V.rel] using hr
  | .ptr p o, _, hp, hr => by
    simp only [V.rel, plV] at hr hp ⊢
    obtain ⟨b, s, hp', hx⟩ := hr
    exact ⟨b, s, (h _ _ _ hp hp').1, hx⟩
  | .gptr g o, _, _, hr => by simpa [V.rel] using hr
  | .nilsl, _, _, hr => by simpa [V.rel] using hr
  | .sl p o m c e, _, hp, hr => by
    simp only [V.rel, plV] at hr hp ⊢
    obtain ⟨b, s, c', hp', hx, h1, h2, h3⟩ := hr
    exact ⟨b, s, c', (h _ _ _ hp hp').1, hx, h1, h2, by rw [(h _ _ _ hp hp').2]; exact h3⟩
  | .nilmp, _, _, hr => by simpa [V.rel] using hr
  | .mp p, _, hp, hr => by
    simp only [V.rel, plV] at hr hp ⊢
    obtain ⟨b, hp', hx⟩ := hr
    exact ⟨b, (h _ _ _ hp hp').1, hx⟩
  | .nilfn, _, _, hr => by simpa [V.rel] using hr
  | .fn f a c, _, hp, hr => by
    simp only [V.rel, plV, Bool.and_eq_true] at hr hp ⊢
    obtain ⟨a', c', hx, ha, hc⟩ := hr
    exact ⟨a', c', hx, V.rels.move h a _ hp.1 ha, V.rels.move h c _ hp.2 hc⟩
  | .yld p, _, hp, hr => by
    simp only [V.rel, plV] at hr hp ⊢
    obtain ⟨b, hp', hx⟩ := hr
    exact ⟨b, (h _ _ _ hp hp').1, hx⟩
  | .agg l, _, hp, hr => by
    simp only [V.rel, plV] at hr hp ⊢
    obtain ⟨cs, hx, hl⟩ := hr
    exact ⟨cs, hx, V.rels.move h l _ hp hl⟩
  | .tup l, _, hp, hr => by
    simp only [V.rel, plV] at hr hp ⊢
    obtain ⟨cs, hx, hl⟩ := hr
    exact ⟨cs, hx, V.rels.move h l _ hp hl⟩
  | .sym i k lo hi, _, hp, _ => by simp [plV] at hp
  | .ifc t v, _, hp, hr => by
    simp only [V.rel, plV] at hr hp ⊢
    obtain ⟨y, hx, hv⟩ := hr
    exact ⟨y, hx, V.rel.move h v y hp hv⟩
  | .nilif, _, _, hr => by simpa [V.rel] using hr
  | .mth m t v, _, hp, hr => by
    simp only [V.rel, plV] at hr hp ⊢
    obtain ⟨y, hx, hv⟩ := hr
    exact ⟨y, hx, V.rel.move h v y hp hv⟩
  | .sl0 z, _, _, hr => by simpa only [V.rel] using hr
  | .iv k lo hi st, _, _, hr => by simpa only [V.rel] using hr
  | .pre i q, _, hp, _ => by simp [plV] at hp
  | .lin i k c lo hi, _, hp, _ => by simp [plV] at hp
  | .jsl p i c lo hi, _, hp, _ => by simp [plV] at hp
  | .inp p j, _, hp, _ => by simp [plV] at hp
  | .ept p k, _, hp, _ => by simp [plV] at hp
theorem V.rels.move {ps : Pth → Bool} {ι ι' : Emb} (h : ∀ p b s, ps p = true → ι p = some (b, s) → ι' p = some (b, s) ∧ ι'.size b = ι.size b) : ∀ (l : List V) (xs : List Value), plL ps l = true → V.rels ι l xs → V.rels ι' l xs
  | [], xs, _, hr => by simpa [V.rels] using hr
  | v :: vs, xs, hp, hr => by
    simp only [V.rels, plL, Bool.and_eq_true] at hr hp ⊢
    obtain ⟨x, t, e, h1, h2⟩ := hr
    exact ⟨x, t, e, V.rel.move h v x hp.1 h1, V.rels.move h vs t hp.2 h2⟩
end

/-- is the name one of the blocks l? -/
def nameOf (l : List (Pth × List V)) (p : Pth) : Bool := List.rec false (fun e _ ih => match Pth.beq e.1 p with | true => true | false => ih) l
theorem nameOf_iff {l : List (Pth × List V)} {p : Pth} : nameOf l p = true ↔ ∃ e ∈ l, e.1 = p := by
  induction l with
  | nil => simp [nameOf]
  | cons x t ih =>
    show (match Pth.beq x.1 p with | true => true | false => nameOf t p) = true ↔ _
    cases hb : Pth.beq x.1 p with
    | true => simp [(Pth.beq_iff x.1 p).1 hb]
    | false =>
      have hne : x.1 ≠ p := fun e => by rw [(Pth.beq_iff x.1 p).2 e] at hb; cases hb
      simp only [ih, List.mem_cons]
      constructor
      · rintro ⟨e, he, h⟩; exact ⟨e, .inr he, h⟩
      · rintro ⟨e, rfl | he, h⟩
        · exact absurd h hne
        · exact ⟨e, he, h⟩
/-- the blocks l lie somewhere from block lo on and ahead of block hi, that of the name root at block b -/
def Laid (l : List (Pth × List V)) (root : Pth) (lo hi : Nat) (w : World) (b : Nat) : Prop :=
  ∃ ι : Emb, RoIs ι l w ∧ ι root = some (b, 0) ∧ ∀ e ∈ l, ∀ c s, ι e.1 = some (c, s) → lo ≤ c ∧ c < hi
theorem Laid.same {l : List (Pth × List V)} {root : Pth} {lo hi b : Nat} {w w' : World} (h : Laid l root lo hi w b) (hs : ∀ c, lo ≤ c → c < hi → w'.heap[c]? = w.heap[c]?) : Laid l root lo hi w' b := by
  obtain ⟨ι, h1, h2, h3⟩ := h
  exact ⟨ι, h1.same fun e he c s hc => hs c (h3 e he c s hc).1 (h3 e he c s hc).2, h2, h3⟩
theorem Laid.wide {l : List (Pth × List V)} {root : Pth} {lo hi lo' hi' b : Nat} {w : World} (h : Laid l root lo hi w b) (h1 : lo' ≤ lo) (h2 : hi ≤ hi') : Laid l root lo' hi' w b := by
  obtain ⟨ι, a, c, d⟩ := h
  exact ⟨ι, a, c, fun e he x s hx => ⟨Nat.le_trans h1 (d e he x s hx).1, Nat.lt_of_lt_of_le (d e he x s hx).2 h2⟩⟩
/-- what a call made, laid -/
theorem HOK.laid {P : Program} {ι : Emb} {H : Heap} {w : World} (h : HOK P ι H w) {l : List (Pth × List V)} (hl : inH H l = true) {root : Pth} {x : Value} (hr : nameOf l root = true) (hx : V.rel ι (.ptr root 0) x) {B : Nat}
    (hB : ∀ p b s, Live H p → ι p = some (b, s) → B ≤ b) : ∃ b, x = .pointer (some ⟨b, 0, none⟩) ∧ Laid l root B w.heap.size w b := by
  obtain ⟨b, s, hp, rfl⟩ := hx
  obtain ⟨e, he, rfl⟩ := nameOf_iff.1 hr
  obtain ⟨b', s', c, el, fr, h1, _, _, _, _, h0⟩ := h.obj _ _ (inH_ok hl e he)
  rw [hp] at h1
  cases h1
  subst h0
  exact ⟨b, rfl, ι, h.ro hl, hp, fun e he c s hc => ⟨hB _ _ _ ⟨_, inH_ok hl e he, by simp⟩ hc, h.lt _ _ _ hc⟩⟩
end
end Go.Ev
