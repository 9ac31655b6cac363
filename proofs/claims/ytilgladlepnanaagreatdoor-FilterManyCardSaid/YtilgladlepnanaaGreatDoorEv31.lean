/-
  A verified evaluator, part 31: code.
-/
import Derived.Test.YtilgladlepnanaaGreatDoorEv30
namespace Go.Ev
noncomputable section
open Go

section
variable {P : Program} {Γ : Glo} {ι ι' ι2 : Emb} {H H' H2 : Heap} {w w' w2 w0 : World} {R R' : Regs} {cal : Cal} {n n' : Pth} {U N m rounds : Nat} {F : Fence} {a : Act} {out : Out}

theorem EnvR.toD {tmps : Array Value} (h : EnvR ι U R tmps) : EnvD ι [] [] R tmps :=
  ⟨fun t i hi => by simp [idxOf] at hi, fun t v _ hv => by have := (h (toPth t) v hv).2; rw [num_toPth] at this; exact this⟩
theorem expsOf_cons (d : Option Nat) (l : List (Option Nat)) (i : Nat) : expsOf U (d :: l) i = (match d with
    | some t => (match bit U t with
      | true => (toPth t, i) :: expsOf U l (i + 1)
      | false => expsOf U l (i + 1))
    | none => expsOf U l (i + 1)) := rfl
theorem expo_cons (L : List V) (R : Regs) (e : Pth × Nat) (l : List (Pth × Nat)) : expo L R (e :: l) = Tr.set e.1 (match nth L e.2 with | some v => v | none => .unk) (expo L R l) := rfl
theorem expo_get (L : List V) (R : Regs) (p : Pth) : ∀ (D : List (Option Nat)) (i : Nat), (expo L R (expsOf U D i)).get p = match bit U p.num, idxOf p.num D i with
    | true, some j => some (match nth L j with | some v => v | none => .unk)
    | _, _ => R.get p
  | [], i => by
    show R.get p = _
    simp only [idxOf]
    cases bit U p.num <;> rfl
  | d :: D, i => by
    have ih := expo_get L R p D (i + 1)
    rw [expsOf_cons]
    cases d with
    | none => simp only [idxOf]; exact ih
    | some t =>
      simp only [idxOf]
      cases hb : bit U t with
      | false =>
        simp only
        rw [ih]
        cases ht : Nat.beq t p.num with
        | false => rfl
        | true =>
          have := beq_eq ht
          rw [← this, hb]
      | true =>
        simp only
        rw [expo_cons, Tr.get_set]
        by_cases e : toPth t = p
        · have e2 : t = p.num := by rw [← e, num_toPth]
          rw [if_pos e, ← e2, hb]
          have : Nat.beq t t = true := by simp
          rw [this]
        · rw [if_neg e, ih]
          have : Nat.beq t p.num = false := by
            cases hb2 : Nat.beq t p.num with
            | false => rfl
            | true =>
              exfalso
              apply e
              rw [beq_eq hb2]
              exact Pth.num_inj (num_toPth _)
          rw [this]
theorem expo_env {D : List (Option Nat)} {L : List V} {t0 tmps : Array Value} {ι0 : Emb} (h0 : EnvR ι0 U R t0) (hd : EnvD ι D L R tmps) : EnvR ι U (expo L R (expsOf U D 0)) tmps := by
  intro p v hp
  rw [expo_get] at hp
  cases hb : bit U p.num with
  | false =>
    rw [hb] at hp
    have := (h0 p v hp).1
    rw [hb] at this; cases this
  | true =>
    rw [hb] at hp
    cases hi : idxOf p.num D 0 with
    | none =>
      rw [hi] at hp
      simp only at hp
      refine ⟨rfl, hd.reg p.num v hi ?_⟩
      rw [Pth.num_inj (num_toPth p.num)]; exact hp
    | some j =>
      rw [hi] at hp
      obtain ⟨u, h1, h2⟩ := hd.loc p.num j hi
      simp only [nth_eq, h1, Option.some.injEq] at hp
      subst hp
      exact ⟨rfl, h2⟩

/-- what is done first and what then -/
theorem CodePost.trans {e : Exit} {w1 : World} (hs : Step P ι H w ι' H' w') (m1 : Mono H H') (m2 : Out.to H' out) (h : CodePost P ι' U N H' w0 w' out e a w1) : CodePost P ι U N H w0 w out e a w1 := by
  cases out with
  | bad => exact h
  | nrm R2 H2 n2 => obtain ⟨h1, ι2, h2, h3, h4, h5⟩ := h; exact ⟨h1, ι2, h2, h3, hs.trans h4 m1 m2, h5⟩
  | brk id R2 H2 n2 => obtain ⟨h1, ι2, h2, h3, h4, h5⟩ := h; exact ⟨h1, ι2, h2, h3, hs.trans h4 m1 m2, h5⟩
  | ret R2 H2 n2 => obtain ⟨h1, ι2, h2, h3, h4, h5⟩ := h; exact ⟨h1, ι2, h2, h3, hs.trans h4 m1 m2, h5⟩
theorem Out.to_trans (m1 : Mono H H') (m2 : Out.to H' out) : Out.to H out := by
  cases out with
  | bad => trivial
  | nrm R2 H2 n2 => exact m1.trans m2
  | brk id R2 H2 n2 => exact m1.trans m2
  | ret R2 H2 n2 => exact m1.trans m2
theorem Out.fr_split (h : Out.fr ι H out) (hb : out ≠ .bad) (m2 : Out.to H' out) : Fr ι H H' := by
  cases out with
  | bad => exact absurd rfl hb
  | nrm R2 H2 n2 => exact Fr.split h m2
  | brk id R2 H2 n2 => exact Fr.split h m2
  | ret R2 H2 n2 => exact Fr.split h m2
theorem Out.fr_after (h : Out.fr ι H out) (hs : Step P ι H w ι' H' w') (m1 : Mono H H') : Out.fr ι' H' out := by
  cases out with
  | bad => trivial
  | nrm R2 H2 n2 => exact Fr.after h hs m1
  | brk id R2 H2 n2 => exact Fr.after h hs m1
  | ret R2 H2 n2 => exact Fr.after h hs m1

def CodeOK (P : Program) (Γ : Glo) (cal : Cal) (rounds : Nat) (c : Code) : Prop := ∀ (inner : Bool) (U N : Nat) (R : Regs) (H : Heap) (n : Pth),
  Out.to H (evCode cal Γ (codeIR P U N c inner) rounds R H n) ∧
  (evCode cal Γ (codeIR P U N c inner) rounds R H n ≠ .bad → ∀ (F : Fence) (m : Nat) (ι : Emb) (w w0 : World) (a : Act), FW F → (inner = false → F.round = none ∧ w0.heap.size ≤ w.heap.size) →
    HOK P ι H w → GOK Γ ι H w → Out.fr ι H (evCode cal Γ (codeIR P U N c inner) rounds R H n) → EnvR ι U R a.tmps → N ≤ a.tmps.size → Defs w0 ι H w a.defers →
    c.wpIn F m P (CodePost P ι U N H w0 w (evCode cal Γ (codeIR P U N c inner) rounds R H n)) a w)

theorem bad_ok {c : Code} (h : ∀ inner U N, codeIR P U N c inner = .bad) : CodeOK P Γ cal rounds c := fun inner U N R H n => by
  rw [h]; exact ⟨trivial, fun hb => absurd rfl hb⟩
theorem skip_ok : CodeOK P Γ cal rounds .skip := fun inner U N R H n =>
  ⟨Mono.refl _, fun _ F m ι w w0 a _ _ hok _ _ henv hN hd => wpIn_skip ⟨rfl, ι, henv, hN, Step.refl hok, hd⟩⟩
theorem exit_ok (id : Nat) : CodeOK P Γ cal rounds (.exit id) := fun inner U N R H n =>
  ⟨Mono.refl _, fun _ F m ι w w0 a _ _ hok _ _ henv hN hd => wpIn_exit ⟨rfl, ι, henv, hN, Step.refl hok, hd⟩⟩
theorem ret_ok : CodeOK P Γ cal rounds .ret := fun inner U N R H n =>
  ⟨Mono.refl _, fun _ F m ι w w0 a _ _ hok _ _ henv hN hd => wpIn_ret ⟨rfl, ι, henv, hN, Step.refl hok, hd⟩⟩
theorem seq_ok {x y : Code} (hx : CodeOK P Γ cal rounds x) (hy : CodeOK P Γ cal rounds y) : CodeOK P Γ cal rounds (.seq x y) := fun inner U N R H n => by
  obtain ⟨mx, kx⟩ := hx inner U N R H n
  have hev : evCode cal Γ (codeIR P U N (.seq x y) inner) rounds R H n = (match evCode cal Γ (codeIR P U N x inner) rounds R H n with
    | .nrm R' H' n' => evCode cal Γ (codeIR P U N y inner) rounds R' H' n'
    | .brk i R' H' n' => .brk i R' H' n'
    | .ret R' H' n' => .ret R' H' n'
    | .bad => .bad) := rfl
  rw [hev]
  generalize evCode cal Γ (codeIR P U N x inner) rounds R H n = ox at mx kx
  cases ox with
  | bad => exact ⟨trivial, fun hb => absurd rfl hb⟩
  | brk id R' H' n' =>
    refine ⟨mx, fun hb F m ι w w0 a hF hin hok gok hfr henv hN hd => wpIn_seq (wpIn_mono (kx (by simp) F m ι w w0 a hF hin hok gok hfr henv hN hd) ?_)⟩
    rintro e a1 w1 ⟨rfl, h⟩
    exact ⟨rfl, h⟩
  | ret R' H' n' =>
    refine ⟨mx, fun hb F m ι w w0 a hF hin hok gok hfr henv hN hd => wpIn_seq (wpIn_mono (kx (by simp) F m ι w w0 a hF hin hok gok hfr henv hN hd) ?_)⟩
    rintro e a1 w1 ⟨rfl, h⟩
    exact ⟨rfl, h⟩
  | nrm R' H' n' =>
    simp only
    obtain ⟨my, ky⟩ := hy inner U N R' H' n'
    refine ⟨Out.to_trans mx my, fun hb F m ι w w0 a hF hin hok gok hfr henv hN hd => wpIn_seq (wpIn_mono (kx (by simp) F m ι w w0 a hF hin hok gok (Out.fr_split hfr hb my) henv hN hd) ?_)⟩
    rintro e a1 w1 ⟨rfl, ι1, henv1, hN1, hs1, hd1⟩
    refine wpIn_mono (ky hb F m ι1 w1 w0 a1 hF (fun h => ⟨(hin h).1, Nat.le_trans (hin h).2 hs1.size⟩) hs1.hok (gok.step hs1) (Out.fr_after hfr hs1 mx) henv1 hN1 hd1) ?_
    exact fun e2 a2 w2 h => CodePost.trans hs1 mx my h
theorem cond_ok {c : Operand} {x y : Code} (hx : CodeOK P Γ cal rounds x) (hy : CodeOK P Γ cal rounds y) : CodeOK P Γ cal rounds (.cond c x y) := fun inner U N R H n => by
  have hev : evCode cal Γ (codeIR P U N (.cond c x y) inner) rounds R H n = (match src [] R (rs [] c) with
    | .bool t => (match t with | true => evCode cal Γ (codeIR P U N x inner) rounds R H n | false => evCode cal Γ (codeIR P U N y inner) rounds R H n)
    | _ => .bad) := rfl
  rw [hev]
  have hsrc : ∀ {ι : Emb} {a : Act}, EnvR ι U R a.tmps → V.rel ι (src [] R (rs [] c)) (a.eval c) := fun {ι a} he => src_ok he.toD c
  cases hs : src [] R (rs [] c) <;> try exact ⟨trivial, fun hb => absurd rfl hb⟩
  rename_i t
  have hb : ∀ {ι : Emb} {a : Act}, EnvR ι U R a.tmps → a.eval c = .bool t := fun {ι a} he => by
    have := hsrc he
    rw [hs] at this
    simpa only [V.rel] using this
  cases t with
  | true =>
    obtain ⟨m1, k1⟩ := hx inner U N R H n
    exact ⟨m1, fun hnb F m ι w w0 a hF hin hok gok hfr henv hN hd => wpIn_cond_true (hb henv) (k1 hnb F m ι w w0 a hF hin hok gok hfr henv hN hd)⟩
  | false =>
    obtain ⟨m1, k1⟩ := hy inner U N R H n
    exact ⟨m1, fun hnb F m ι w w0 a hF hin hok gok hfr henv hN hd => wpIn_cond_false (hb henv) (k1 hnb F m ι w w0 a hF hin hok gok hfr henv hN hd)⟩
theorem block_ok {id : Nat} {x : Code} (hx : CodeOK P Γ cal rounds x) : CodeOK P Γ cal rounds (.block id x) := fun inner U N R H n => by
  obtain ⟨mx, kx⟩ := hx inner U N R H n
  have hev : evCode cal Γ (codeIR P U N (.block id x) inner) rounds R H n = (match evCode cal Γ (codeIR P U N x inner) rounds R H n with
    | .nrm R' H' n' => .nrm R' H' n'
    | .brk i R' H' n' => (match Nat.beq i id with | true => .nrm R' H' n' | false => .brk i R' H' n')
    | .ret R' H' n' => .ret R' H' n'
    | .bad => .bad) := rfl
  rw [hev]
  generalize evCode cal Γ (codeIR P U N x inner) rounds R H n = ox at mx kx
  cases ox with
  | bad => exact ⟨trivial, fun hb => absurd rfl hb⟩
  | nrm R' H' n' =>
    refine ⟨mx, fun hb F m ι w w0 a hF hin hok gok hfr henv hN hd => wpIn_block (wpIn_mono (kx (by simp) F m ι w w0 a hF hin hok gok hfr henv hN hd) ?_)⟩
    rintro e a1 w1 ⟨rfl, h⟩
    exact ⟨rfl, h⟩
  | ret R' H' n' =>
    refine ⟨mx, fun hb F m ι w w0 a hF hin hok gok hfr henv hN hd => wpIn_block (wpIn_mono (kx (by simp) F m ι w w0 a hF hin hok gok hfr henv hN hd) ?_)⟩
    rintro e a1 w1 ⟨rfl, h⟩
    exact ⟨rfl, h⟩
  | brk i R' H' n' =>
    cases hi : Nat.beq i id with
    | true =>
      have := beq_eq hi; subst this
      simp only [hi]
      refine ⟨mx, fun hb F m ι w w0 a hF hin hok gok hfr henv hN hd => wpIn_block (wpIn_mono (kx (by simp) F m ι w w0 a hF hin hok gok hfr henv hN hd) ?_)⟩
      rintro e a1 w1 ⟨rfl, h⟩
      show (if i = i then _ else _)
      rw [if_pos rfl]; exact ⟨rfl, h⟩
    | false =>
      have hne : i ≠ id := fun e => by subst e; simp at hi
      simp only [hi]
      refine ⟨mx, fun hb F m ι w w0 a hF hin hok gok hfr henv hN hd => wpIn_block (wpIn_mono (kx (by simp) F m ι w w0 a hF hin hok gok hfr henv hN hd) ?_)⟩
      rintro e a1 w1 ⟨rfl, h⟩
      show (if i = id then _ else _)
      rw [if_neg hne]; exact ⟨rfl, h⟩

/-- the rounds that are left -/
noncomputable def goL (c : Regs → Heap → Pth → Out) : Nat → Regs → Heap → Pth → Out :=
  Nat.rec (motive := fun _ => Regs → Heap → Pth → Out) (fun _ _ _ => .bad)
    (fun _ ih R H n => match c R H n with
      | .nrm R' H' n' => ih R' H' n'
      | .brk i R' H' n' => .brk i R' H' n'
      | .ret R' H' n' => .ret R' H' n'
      | .bad => .bad)
theorem goL_succ (c : Regs → Heap → Pth → Out) (j : Nat) (R : Regs) (H : Heap) (n : Pth) : goL c (j + 1) R H n = (match c R H n with
      | .nrm R' H' n' => goL c j R' H' n'
      | .brk i R' H' n' => .brk i R' H' n'
      | .ret R' H' n' => .ret R' H' n'
      | .bad => .bad) := rfl
theorem loop_ok {x : Code} (hx : CodeOK P Γ cal rounds x) : CodeOK P Γ cal rounds (.loop x) := fun inner U N R H n => by
  have hev : evCode cal Γ (codeIR P U N (.loop x) inner) rounds R H n = goL (evCode cal Γ (codeIR P U N x inner) rounds) rounds R H n := rfl
  rw [hev]
  have mono : ∀ j R H n, Out.to H (goL (evCode cal Γ (codeIR P U N x inner) rounds) j R H n) := by
    intro j
    induction j with
    | zero => intro R H n; trivial
    | succ j ih =>
      intro R H n
      obtain ⟨m1, _⟩ := hx inner U N R H n
      rw [goL_succ]
      generalize evCode cal Γ (codeIR P U N x inner) rounds R H n = o at m1
      cases o with
      | bad => trivial
      | nrm R' H' n' => exact Out.to_trans m1 (ih R' H' n')
      | brk id R' H' n' => exact m1
      | ret R' H' n' => exact m1
  refine ⟨mono rounds R H n, fun hb F m ι w w0 a hF hin hok gok hfr henv hN hd => ?_⟩
  generalize hout : goL (evCode cal Γ (codeIR P U N x inner) rounds) rounds R H n = out at hb hfr
  -- where the loop stands: j rounds may follow
  let Inv : Nat → Act → World → Prop := fun j a1 w1 => ∃ R1 H1 n1 ι1, goL (evCode cal Γ (codeIR P U N x inner) rounds) j R1 H1 n1 = out ∧ Step P ι H w ι1 H1 w1 ∧ Mono H H1 ∧ EnvR ι1 U R1 a1.tmps ∧ N ≤ a1.tmps.size ∧ Defs w0 ι1 H1 w1 a1.defers
  classical
  let μ : Act → World → Nat := fun a1 w1 => if h : ∃ j, Inv j a1 w1 then Classical.choose (exists_min h) else 0
  have hμ : ∀ {a1 w1}, (∃ j, Inv j a1 w1) → Inv (μ a1 w1) a1 w1 ∧ ∀ j, Inv j a1 w1 → μ a1 w1 ≤ j := fun {a1 w1} h => by
    have h1 := Classical.choose_spec (exists_min h)
    have e : μ a1 w1 = Classical.choose (exists_min h) := by show (if h : ∃ j, Inv j a1 w1 then _ else _) = _; rw [dif_pos h]
    rw [e]
    refine ⟨h1.1, fun j hj => ?_⟩
    rcases Nat.lt_or_ge j (Classical.choose (exists_min h)) with hlt | hge
    · exact absurd hj (h1.2 j hlt)
    · exact hge
  refine wpIn_loop (fun a1 w1 => ∃ j, Inv j a1 w1) μ ⟨rounds, R, H, n, ι, hout, Step.refl hok, Mono.refl _, henv, hN, hd⟩ fun a1 w1 hI => ?_
  obtain ⟨⟨R1, H1, n1, ι1, ho, hs, m1, henv1, hN1, hd1⟩, hmin⟩ := hμ hI
  generalize hj : μ a1 w1 = j at ho hmin
  cases j with
  | zero => exact absurd ho.symm (fun e => hb e)
  | succ j =>
    rw [goL_succ] at ho
    obtain ⟨mx, kx⟩ := hx inner U N R1 H1 n1
    have mj := mono j
    generalize evCode cal Γ (codeIR P U N x inner) rounds R1 H1 n1 = o at mx kx ho
    cases o with
    | bad => exact absurd ho.symm (fun e => hb e)
    | nrm R' H' n' =>
      simp only at ho
      have mo := mj R' H' n'
      rw [ho] at mo
      refine wpIn_mono (kx (by simp) F m ι1 w1 w0 a1 hF (fun h => ⟨(hin h).1, Nat.le_trans (hin h).2 hs.size⟩) hs.hok (gok.step hs) (Out.fr_split (Out.fr_after hfr hs m1) hb mo) henv1 hN1 hd1) ?_
      rintro e a2 w2 ⟨rfl, ι2, henv2, hN2, hs2, hd2⟩
      have hI2 : Inv j a2 w2 := ⟨R', H', n', ι2, ho, hs.trans hs2 m1 mx, m1.trans mx, henv2, hN2, hd2⟩
      have := (hμ ⟨j, hI2⟩).2 j hI2
      exact ⟨⟨j, hI2⟩, by omega⟩
    | brk id R' H' n' =>
      simp only at ho
      subst ho
      refine wpIn_mono (kx (by simp) F m ι1 w1 w0 a1 hF (fun h => ⟨(hin h).1, Nat.le_trans (hin h).2 hs.size⟩) hs.hok (gok.step hs) (Out.fr_after hfr hs m1) henv1 hN1 hd1) ?_
      rintro e a2 w2 h
      have h2 := CodePost.trans hs m1 mx h
      obtain ⟨rfl, h3⟩ := h2
      exact ⟨rfl, h3⟩
    | ret R' H' n' =>
      simp only at ho
      subst ho
      refine wpIn_mono (kx (by simp) F m ι1 w1 w0 a1 hF (fun h => ⟨(hin h).1, Nat.le_trans (hin h).2 hs.size⟩) hs.hok (gok.step hs) (Out.fr_after hfr hs m1) henv1 hN1 hd1) ?_
      rintro e a2 w2 h
      have h2 := CodePost.trans hs m1 mx h
      obtain ⟨rfl, h3⟩ := h2
      exact ⟨rfl, h3⟩
end
end
end Go.Ev
