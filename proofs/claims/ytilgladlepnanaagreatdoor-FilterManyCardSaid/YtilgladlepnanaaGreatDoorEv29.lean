/-
  A verified evaluator, part 29: a region that draws its order: one operation more, whichever is ready.
-/
import Derived.Test.YtilgladlepnanaaGreatDoorEv28
namespace Go.Ev
noncomputable section
open Go

theorem exists_min {p : Nat → Prop} (h : ∃ n, p n) : ∃ n, p n ∧ ∀ m, m < n → ¬ p m := by
  obtain ⟨n, hn⟩ := h
  induction n using Nat.strongRecOn with
  | _ n ih =>
    by_cases hx : ∃ m, m < n ∧ p m
    · obtain ⟨m, h1, h2⟩ := hx; exact ih m h1 h2
    · exact ⟨n, hn, fun m hm hp => hx ⟨m, hm, hp⟩⟩
theorem exists_max {p : Nat → Prop} (b : Nat) (h : ∃ n, n < b ∧ p n) : ∃ n, n < b ∧ p n ∧ ∀ m, n < m → m < b → ¬ p m := by
  induction b with
  | zero => obtain ⟨n, h1, _⟩ := h; omega
  | succ b ih =>
    by_cases hb : p b
    · exact ⟨b, by omega, hb, fun m h1 h2 => by omega⟩
    · obtain ⟨n, h1, h2⟩ := h
      have hne : n ≠ b := fun e => by subst e; exact hb h2
      obtain ⟨k, g1, g2, g3⟩ := ih ⟨n, by omega, h2⟩
      refine ⟨k, by omega, g2, fun m h1 h2 => ?_⟩
      by_cases e : m = b
      · subst e; exact hb
      · exact g3 m h1 (by omega)
theorem pget_congr {S T : Nat → Bool} {p : Pth} : ∀ {pend : List Pend}, (∀ j ob, Pend.mk j p ob ∈ pend → S j = T j) → pget S p pend = pget T p pend
  | [], _ => rfl
  | .mk i p' o :: t, h => by
    have ih := pget_congr (S := S) (T := T) (p := p) (pend := t) fun j ob hm => h j ob (List.mem_cons_of_mem _ hm)
    simp only [pget, ih]
    cases hb : p'.beq p with
    | false => cases S i <;> cases T i <;> rfl
    | true =>
      have := (Pth.beq_iff p' p).1 hb
      subst this
      rw [h i o (List.mem_cons_self ..)]

section
variable {P : Program} {Γ : Glo} {cal : Cal} {R : Regs} {ops : Array Oper} {bs : Nat → Nat} {L : Nat → List V} {H : Nat → Heap} {n : Nat → Pth} {pa : Nat → List Past} {ca : Nat → List Calm} {pe : Nat → List Pend}
  {ι0 ι ι' : Emb} {w0 w w' : World} {a a0 : Act} {S : Array Bool} {q N U m : Nat} {F : Fence} {Q : Exit → Act → World → Prop}

/-- a calm operation's value holds whenever its turn comes -/
theorem calm_any (d : DRun P Γ cal R ops (fun i => dstsOf (ops.toList.take i) []) bs L H n pa ca pe) (iv : AnyInv P ops bs L H pa pe N ι0 w0 a0 S q a w ι) {i : Nat} {v : V} {I : I} (hi : i < ops.size)
    (hS : S.getD i false = false) (hcl : ∀ j, bit (bs i) j = true → S.getD j false = true)
    (hev : ∃ H' n', evI I cal Γ (L i) R (merge (bs i) (H i) (pe i)) (n i) = .ok v H' n') (hwas : was cal Γ R (n i) I (L i) v (bs i) (pe i) (pa i) = true)
    (hpa : pa (i + 1) = pa i) (hca : ca (i + 1) = .mk i I (L i) v (bs i) :: ca i) :
    ∃ pd nx H1 n1, (∀ x, x ∈ pd → x ∈ pe ops.size) ∧ evI I cal Γ (L i) R (merge (bs i) (H q) pd) nx = .ok v H1 n1 := by
  have hnl : ¬ LoudEx H pa i := fun hl => by
    unfold LoudEx at hl
    rw [hpa] at hl
    have := ((d.pa_spec i (by omega)).2 _ _ hl).1
    omega
  rcases Nat.le_total q i with hqi | hqi
  · by_cases hex : ∃ ℓ, q ≤ ℓ ∧ ℓ < i ∧ LoudEx H pa ℓ
    · obtain ⟨ℓ, ⟨h1, h2, h3⟩, hmin⟩ := exists_min hex
      have hH : H ℓ = H q := d.same' h1 (by omega) fun ℓ' g1 g2 g3 => hmin ℓ' g2 ⟨g1, by omega, g3⟩
      obtain ⟨H1, n1, he⟩ := was_get hwas (d.pa_spec i (by omega)).1 (d.pa_mem h3 i (by omega) h2) fun ℓ' h' hm hle => by
        obtain ⟨g1, _, g3⟩ := (d.pa_spec i (by omega)).2 ℓ' h' hm
        cases hb : bit (bs i) ℓ' with
        | false => rfl
        | true =>
          have := (iv.loud ℓ' (by omega) g3).1 (hcl ℓ' hb)
          omega
      rw [hH] at he
      exact ⟨pe i, n i, H1, n1, d.pe_sub' (by omega) (Nat.le_refl _), he⟩
    · have hH : H i = H q := d.same' hqi (by omega) fun ℓ' g1 g2 g3 => hex ⟨ℓ', g1, g2, g3⟩
      obtain ⟨H1, n1, he⟩ := hev
      rw [hH] at he
      exact ⟨pe i, n i, H1, n1, d.pe_sub' (by omega) (Nat.le_refl _), he⟩
  · by_cases hex : ∃ ℓ, ℓ < q ∧ (i ≤ ℓ ∧ LoudEx H pa ℓ)
    · obtain ⟨ℓ, h1, ⟨h2, h3⟩, hmax⟩ := exists_max q hex
      have hqM := iv.qle
      have hil : i < ℓ := Nat.lt_of_le_of_ne h2 fun e => hnl (by rw [e]; exact h3)
      have hH : H q = H (ℓ + 1) := d.same' (by omega) hqM fun ℓ' g1 g2 g3 => hmax ℓ' (by omega) g2 ⟨by omega, g3⟩
      rcases d.cases (i := ℓ) (by omega) with ⟨_, e⟩ | ⟨o, ho, hc, _, _, _, hst, _⟩
      · exfalso
        unfold LoudEx at h3
        rw [e] at h3
        have := ((d.pa_spec ℓ (by omega)).2 _ _ h3).1
        omega
      · have hmem : Calm.mk i I (L i) v (bs i) ∈ ca ℓ := d.ca_mem' (i := i + 1) (by omega) (by omega) (by rw [hca]; exact List.mem_cons_self ..)
        have hSl := (iv.loud ℓ (by omega) h3).2 h1
        have hbit : bit (bs ℓ) i = false := by
          cases hb : bit (bs ℓ) i with
          | false => rfl
          | true => have := iv.closed ℓ hSl i hb; rw [hS] at this; cases this
        obtain ⟨H1, n1, he⟩ := stays_get hst hmem hbit
        rw [← hH] at he
        exact ⟨pe ℓ, n ℓ, H1, n1, d.pe_sub' (by omega) (Nat.le_refl _), he⟩
    · have hH : H q = H i := d.same' hqi iv.qle fun ℓ' g1 g2 g3 => hex ⟨ℓ', g2, g1, g3⟩
      obtain ⟨H1, n1, he⟩ := hev
      rw [← hH] at he
      exact ⟨pe i, n i, H1, n1, d.pe_sub' (by omega) (Nat.le_refl _), he⟩

/-- one operation more -/
theorem step_any (k : CalOK P Γ cal) (hF : FW F) (d : DRun P Γ cal R ops (fun i => dstsOf (ops.toList.take i) []) bs L H n pa ca pe) (od : OrdR ops bs N)
    (gok0 : GOK Γ ι0 (H 0) w0) (hfr : Fr ι0 (H 0) (mergeS (fun _ => true) (H ops.size) (pe ops.size))) (henv : EnvR ι0 U R a0.tmps)
    (iv : AnyInv P ops bs L H pa pe N ι0 w0 a0 S q a w ι) {i : Nat} (hr : i ∈ Region.ready .any ops S) {K : Act → World → Prop}
    (hK : ∀ q' a' w' ι', AnyInv P ops bs L H pa pe N ι0 w0 a0 (S.setIfInBounds i true) q' a' w' ι' → K a' w') : wpOpIn F m P ops Q i K a w := by
  obtain ⟨hun, o, ho, hall⟩ := mem_ready.1 hr
  have hlt : i < ops.size := (Array.getElem?_eq_some_iff.1 ho).1
  have hS : S.getD i false = false := by
    have hs : i < S.size := by rw [iv.size]; exact hlt
    simp only [Array.getD_eq_getD_getElem?] at hun ⊢
    simp [hs] at hun ⊢; exact hun
  have hcl : ∀ j, bit (bs i) j = true → S.getD j false = true := fun j hb => by
    obtain ⟨e, he, hbd, h⟩ := od.bef i o ho j hb
    have h1 := hall e (by simpa using he) hbd
    rcases h with rfl | h
    · exact h1
    · exact iv.closed e.on h1 j h
  obtain ⟨g, b, v, hg, hm, hL, hd⟩ := d.step i o ho
  have hv : val L i = v := by unfold val; rw [hL]; rfl
  have slot := fun (t : Nat) (ht : t ∈ looksOf ops o) => iv.slot d od henv ho hS hcl ht
  have hw := met_ok' (o := o) (ops := ops) (tmps := a.tmps) (fun t ht c hc => (slot t ht).1 c hc) hg hm
  -- the operands
  have hrest : ∃ r' : Operand → Src, opI P r' o.op = opI P (rs (dstsOf (ops.toList.take i) [])) o.op ∧ ∀ x, V.rel ι (src (L i) R (r' x)) (a.eval x) := by
    classical
    refine ⟨fun x => if x ∈ o.op.operands.toList then rs (dstsOf (ops.toList.take i) []) x else .cst .unk, opI_congr _ fun x hx => by simp only [if_pos hx], fun x => ?_⟩
    by_cases hx : x ∈ o.op.operands.toList
    · simp only [if_pos hx]
      cases x with
      | tmp t =>
        have ht : t ∈ looksOf ops o := by
          unfold looksOf
          rw [app_eq, List.mem_append]
          exact .inl (tmpsOf_mem hx)
        obtain ⟨s1, s2⟩ := slot t ht
        show V.rel ι (src (L i) R (match idxOf t (dstsOf (ops.toList.take i) []) 0 with | some c => .loc c | none => .reg (toPth t))) (a.tmps.getD t undef)
        cases h : idxOf t (dstsOf (ops.toList.take i) []) 0 with
        | some c =>
          obtain ⟨u, h1, h2⟩ := s1 c h
          simp only [src, nth_eq, h1]; exact h2
        | none =>
          simp only [src]
          cases hR : R.get (toPth t) with
          | none => simp [V.rel]
          | some u => exact s2 h u hR
      | const y => exact ofV_rel 3 y
      | global g => show V.rel ι (.gptr g 0) _; simp only [V.rel]; rfl
      | func f => show V.rel ι (.fn f [] []) _; simp only [V.rel]; exact ⟨#[], #[], rfl, rels_nil, rels_nil⟩
    · simp only [if_neg hx, src, V.rel]
  obtain ⟨r', hr', hs⟩ := hrest
  -- the memory
  have hokB := iv.step.hok
  have gokB := gok0.step iv.step
  have m0 : Mono (H 0) (mergeS (fun i => S.getD i false) (H q) (pe ops.size)) := (d.mono' k (Nat.zero_le _) iv.qle).trans (merge_mono _ _ _)
  have frB := hfr.after iv.step m0
  have hnames := (d.pe_spec ops.size (Nat.le_refl _)).1
  have cxt : ∀ A, Sub A (mergeS (fun i => S.getD i false) (H q) (pe ops.size)) → Cxt P Γ ι A w a.eval (L i) R r' := fun A hA => ⟨hokB.sub hA, gokB.sub hA, hs, fun _ => rfl, fun _ => rfl⟩
  have hsz : i < S.size := by rw [iv.size]; exact hlt
  have notLoud : pa (i + 1) = pa i → ¬ LoudEx H pa i := fun hpa hl => by
    unfold LoudEx at hl
    rw [hpa] at hl
    have := ((d.pa_spec i (by omega)).2 _ _ hl).1
    omega
  have loudSame : ¬ LoudEx H pa i → ∀ ℓ, ℓ < ops.size → LoudEx H pa ℓ → ((S.setIfInBounds i true).getD ℓ false = true ↔ ℓ < q) := fun hn ℓ h1 h2 => by
    rw [getD_true hsz, if_neg (fun e => hn (by rw [e]; exact h2))]
    exact iv.loud ℓ h1 h2
  have noPend : pe (i + 1) = pe i → ∀ p ob, Pend.mk i p ob ∉ pe ops.size := fun hpe p ob hmem => by
    have h1 : Pend.mk i p ob ∈ pe (i + 1) := d.pe_back (ops.size - (i + 1)) (i + 1) (by omega) (by omega) (by rw [show i + 1 + (ops.size - (i + 1)) = ops.size by omega]; exact hmem)
    rw [hpe] at h1
    have := ((d.pe_spec i (by omega)).2 _ _ _ h1).1
    omega
  have stay : pa (i + 1) = pa i → pe (i + 1) = pe i → ∀ x w' ι', V.rel ι' v x → Step P ι (mergeS (fun i => S.getD i false) (H q) (pe ops.size)) w ι' (mergeS (fun i => S.getD i false) (H q) (pe ops.size)) w' → K (a.put o.dst x) w' := by
    intro hpa hpe x w' ι' hx hst
    refine hK q _ w' ι' (iv.next od ho hS hcl hst.ext (by rw [hv]; exact hx) iv.qle (loudSame (notLoud hpa)) ?_)
    have e : mergeS (fun j => (S.setIfInBounds i true).getD j false) (H q) (pe ops.size) = mergeS (fun i => S.getD i false) (H q) (pe ops.size) := mergeS_congr _ fun j p ob hmem => by
      rw [getD_true hsz, if_neg (fun e => by subst e; exact noPend hpe p ob hmem)]
    rw [e]
    exact iv.step.trans hst m0 (Mono.refl _)
  unfold wpOpIn
  simp only [ho]
  rw [hw]
  rcases hd with ⟨rfl, rfl, _, hpa, _, hpe⟩ | ⟨rfl, hc, ⟨H1, n1, he⟩, _, hpa, _, hpe⟩ | ⟨rfl, hc, hev, hwas, _, hpa, hca, hpe⟩ | ⟨rfl, hc, ⟨f, ob, hf, hevf, hHn, hnew, hpe⟩, hHi, hpa, _⟩ | ⟨rfl, hc, hall', ⟨n1, he⟩, hab, hst, hpa, _, hpe⟩
  · -- not wanted
    rw [if_neg (by simp)]
    exact ⟨fun f _ => hF.fn f, stay hpa hpe undef w ι undef_rel (Step.refl hokB)⟩
  · -- it only computes
    rw [if_pos rfl]
    have he2 := (pure_ok hc he).2 (mergeS (fun i => S.getD i false) (H q) (pe ops.size)) (n i)
    rw [← hr'] at he2
    have hop := op_ok (o := o) k (cxt _ fun _ _ h => h) he2 (Fr.refl _ _)
    exact hop.wpIn hF (no_defer he2) fun x w' ⟨ι', hx, hst⟩ => stay hpa hpe x w' ι' hx hst
  · -- it reads
    rw [if_pos rfl]
    obtain ⟨pd, nx, H1, n1, hpd, he⟩ := calm_any d iv hlt hS hcl hev hwas hpa hca
    have e1 := calm_ok hc he
    subst e1
    have hsub : Sub (merge (bs i) (H q) pd) (mergeS (fun i => S.getD i false) (H q) (pe ops.size)) := by
      rw [merge_eq]; exact merge_sub hcl hpd hnames
    rw [← hr'] at he
    have hop := op_ok (o := o) k (cxt _ hsub) he (Fr.refl _ _)
    refine hop.wpIn hF (no_defer he) fun x w' ⟨ι', hx, hst⟩ => stay hpa hpe x w' ι' hx (Step.frame hokB hsub hst (Mono.refl _) (fun p _ h => h) fun p => ?_)
    cases h : (merge (bs i) (H q) pd).get p with
    | none => rfl
    | some ob => exact hsub p ob h
  · -- a new block
    rw [if_pos rfl]
    have hmem : Pend.mk i (n i) ob ∈ pe ops.size := d.pe_sub' (i := i + 1) (by omega) (Nat.le_refl _) _ (by rw [hpe]; exact List.mem_cons_self ..)
    have hnl := notLoud hpa
    have hqn : (H q).get (n i) = none := by
      rcases Nat.le_total q i with hqi | hqi
      · cases h : (H q).get (n i) with
        | none => rfl
        | some z => exact absurd hHn (d.mono' k hqi (by omega) (n i) (by simp [h]))
      · have key : ∀ c, i + 1 + c ≤ q → (H (i + 1 + c)).get (n i) = none := by
          intro c
          induction c with
          | zero => intro _; rw [Nat.add_zero, hHi]; exact hHn
          | succ c ih =>
            intro hcq
            have ihc := ih (by omega)
            have hqM := iv.qle
            rcases d.cases (i := i + 1 + c) (by omega) with ⟨e, _⟩ | ⟨oc, hoc, hcc, _, _, habs, _, hpac, _⟩
            · rw [← Nat.add_assoc, e]; exact ihc
            · have hle : LoudEx H pa (i + 1 + c) := by unfold LoudEx; rw [hpac]; exact List.mem_cons_self ..
              have hSc := (iv.loud _ (by omega) hle).2 (by omega)
              have hbit : bit (bs (i + 1 + c)) i = false := by
                cases hb : bit (bs (i + 1 + c)) i with
                | false => rfl
                | true => have := iv.closed _ hSc i hb; rw [hS] at this; cases this
              rw [← Nat.add_assoc]
              exact absent_get habs (d.pe_sub' (i := i + 1) (by omega) (by omega) _ (by rw [hpe]; exact List.mem_cons_self ..)) hbit
        rcases Nat.eq_or_lt_of_le hqi with e | hlt2
        · rw [← e]; exact hHn
        · have := key (q - (i + 1)) (by omega)
          rwa [show i + 1 + (q - (i + 1)) = q by omega] at this
    have hBn : (mergeS (fun i => S.getD i false) (H q) (pe ops.size)).get (n i) = none := by
      rw [mergeS_get, hqn]
      cases h : pget (fun i => S.getD i false) (n i) (pe ops.size) with
      | none => rfl
      | some z =>
        obtain ⟨j, h1, h2⟩ := pget_mem h
        obtain ⟨e, _⟩ := names_unique hnames h1 hmem
        subst e
        rw [hS] at h2; cases h2
    have hFM : (mergeS (fun _ => true) (H ops.size) (pe ops.size)).get (n i) ≠ none := by
      rw [mergeS_get]
      cases h : (H ops.size).get (n i) with
      | some z => simp
      | none => simp only; rw [pget_of_mem hnames hmem rfl]; simp
    have hι : ι (n i) = none := frB (n i) hBn hFM
    obtain ⟨x, w', cb, T, hrun, hheap, ht, hos, hout, hx, hob, hdead⟩ := newI_ok (o := o) (n := n i) hs (fun _ => rfl) hokB (hr'.trans hf) hevf hι
    have hst := Step.alloc cb hokB hBn hι hdead hheap ht hos hout hob
    have hnd : ∀ c, o.op ≠ .defer c := fun c hc' => by rw [hc'] at hf; cases hf
    refine OpOK.wpIn (R := fun y w2 => y = x ∧ w2 = w') hF hnd (OpOK.value hrun ⟨rfl, rfl⟩) ?_
    rintro _ _ ⟨rfl, rfl⟩
    refine hK q _ _ _ (iv.next od ho hS hcl hst.ext (by rw [hv]; exact hx) iv.qle (loudSame hnl) ?_)
    refine Step.congr (iv.step.trans hst m0 (Mono.set _ _ _)) fun p => ?_
    rw [Tr.get_set, mergeS_get, mergeS_get]
    by_cases e : n i = p
    · subst e
      rw [if_pos rfl, hqn]
      simp only
      rw [pget_of_mem hnames hmem (by rw [getD_true hsz, if_pos rfl])]
    · rw [if_neg e]
      cases (H q).get p with
      | some z => rfl
      | none =>
        simp only
        refine pget_congr fun j ob' hmem' => ?_
        rw [getD_true hsz, if_neg]
        intro e2
        subst e2
        exact e ((d.pe_spec ops.size (Nat.le_refl _)).2 _ _ _ hmem').2.1.symm
  · -- it acts
    rw [if_pos rfl]
    have hl : LoudEx H pa i := by unfold LoudEx; rw [hpa]; exact List.mem_cons_self ..
    have hqi : q ≤ i := by
      rcases Nat.lt_or_ge i q with h | h
      · have := (iv.loud i hlt hl).2 h
        rw [hS] at this; cases this
      · exact h
    have hbl : ∀ ℓ, ℓ < i → LoudEx H pa ℓ → bit (bs i) ℓ = true := fun ℓ h1 h2 => allIn_get hall' (d.pa_mem h2 i (by omega) h1)
    have hH : H i = H q := d.same' hqi (by omega) fun ℓ g1 g2 g3 => by
      have := (iv.loud ℓ (by omega) g3).1 (hcl ℓ (hbl ℓ g2 g3))
      omega
    have hsub : Sub (merge (bs i) (H i) (pe i)) (mergeS (fun i => S.getD i false) (H q) (pe ops.size)) := by
      rw [merge_eq, hH]; exact merge_sub hcl (d.pe_sub' (by omega) (Nat.le_refl _)) hnames
    have mA : Mono (merge (bs i) (H i) (pe i)) (H (i + 1)) := evI_mono k _ he
    have dis : ∀ p, (mergeS (fun i => S.getD i false) (H q) (pe ops.size)).get p ≠ none → (merge (bs i) (H i) (pe i)).get p = none → (H (i + 1)).get p = none := by
      intro p hBp hAp
      rw [merge_eq, mergeS_get] at hAp
      have hHi : (H i).get p = none := by
        cases h : (H i).get p with
        | none => rfl
        | some z => rw [h] at hAp; cases hAp
      rw [hHi] at hAp
      rw [mergeS_get, ← hH, hHi] at hBp
      simp only at hBp hAp
      cases h : pget (fun i => S.getD i false) p (pe ops.size) with
      | none => exact absurd h hBp
      | some z =>
        obtain ⟨j, h1, h2⟩ := pget_mem h
        obtain ⟨g1, g2, g3, _⟩ := (d.pe_spec ops.size (Nat.le_refl _)).2 _ _ _ h1
        rcases Nat.lt_trichotomy j i with hji | rfl | hji
        · have h3 : Pend.mk j p z ∈ pe i := d.pe_back (ops.size - i) i (by omega) hji (by rw [show i + (ops.size - i) = ops.size by omega]; exact h1)
          cases hb : bit (bs i) j with
          | true =>
            rw [pget_of_mem (d.pe_spec i (by omega)).1 h3 hb] at hAp; cases hAp
          | false => exact absent_get hab h3 hb
        · rw [hS] at h2; cases h2
        · cases h4 : (H (i + 1)).get p with
          | none => rfl
          | some y => exact absurd g3 (d.mono' k (i := i + 1) (j := j) (by omega) (by omega) p (by simp [h4]))
    have hfrA : Fr ι (merge (bs i) (H i) (pe i)) (H (i + 1)) := fun p h1 h2 => by
      refine frB p ?_ ?_
      · cases h : (mergeS (fun i => S.getD i false) (H q) (pe ops.size)).get p with
        | none => rfl
        | some z => exact absurd (dis p (by rw [h]; simp) h1) h2
      · exact merge_mono _ _ _ p (d.mono' k (i := i + 1) (by omega) (Nat.le_refl _) p h2)
    rw [← hr'] at he
    have hop := op_ok (o := o) k (cxt _ hsub) he hfrA
    have hB' : ∀ p, (mergeS (fun j => (S.setIfInBounds i true).getD j false) (H (i + 1)) (pe ops.size)).get p =
        match (H (i + 1)).get p with | some o => some o | none => (mergeS (fun i => S.getD i false) (H q) (pe ops.size)).get p := fun p => by
      rw [mergeS_get, mergeS_get]
      cases h : (H (i + 1)).get p with
      | some z => rfl
      | none =>
        have hHi : (H i).get p = none := by
          cases h2 : (H i).get p with
          | none => rfl
          | some z => exact absurd h (d.mono1 k hlt p (by simp [h2]))
        rw [← hH, hHi]
        simp only
        refine pget_congr fun j ob' hmem' => ?_
        rw [getD_true hsz, if_neg (fun e => by subst e; exact noPend hpe p ob' hmem')]
    refine hop.wpIn hF (no_defer he) fun x w' ⟨ι', hx, hst⟩ => ?_
    have hst2 := Step.frame (B' := mergeS (fun j => (S.setIfInBounds i true).getD j false) (H (i + 1)) (pe ops.size)) hokB hsub hst mA dis hB'
    refine hK (i + 1) _ w' ι' (iv.next od ho hS hcl hst.ext (by rw [hv]; exact hx) (by omega) (fun ℓ h1 h2 => ?_) (iv.step.trans hst2 m0 fun p hp => ?_))
    · rw [getD_true hsz]
      by_cases e : i = ℓ
      · subst e; simp
      · rw [if_neg e]
        rcases Nat.lt_trichotomy ℓ i with g1 | g1 | g1
        · exact ⟨fun _ => by omega, fun _ => hcl ℓ (hbl ℓ g1 h2)⟩
        · exact absurd g1.symm e
        · rw [iv.loud ℓ h1 h2]; omega
    · rw [hB']
      cases h : (H (i + 1)).get p with
      | some z => simp
      | none => exact hp
end
end
end Go.Ev
