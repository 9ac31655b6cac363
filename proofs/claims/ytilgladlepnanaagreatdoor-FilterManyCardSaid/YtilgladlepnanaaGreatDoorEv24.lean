/-
  A verified evaluator, part 24: what a region that draws its order needs: parts of a memory; what an operation looks at.
-/
import Derived.Test.YtilgladlepnanaaGreatDoorEv23
namespace Go.Ev
noncomputable section
open Go

/-- all that A holds B holds -/
def Sub (A B : Heap) : Prop := ∀ p o, A.get p = some o → B.get p = some o
section
variable {P : Program} {Γ : Glo} {ι ι' : Emb} {A A' B B' H H' : Heap} {w w' : World} {L : List V} {R : Regs} {cal : Cal} {n n' : Pth} {v : V}

theorem Sub.live (h : Sub A B) {p : Pth} (hl : Live A p) : Live B p := let ⟨o, h1, h2⟩ := hl; ⟨o, h p o h1, h2⟩
theorem HOK.sub (h : HOK P ι B w) (hs : Sub A B) : HOK P ι A w :=
  ⟨fun p o hp => h.obj p o (hs p o hp), fun p q b s s' hp hq => h.inj p q b s s' (hs.live hp) (hs.live hq), h.lt⟩
theorem GOK.sub (h : GOK Γ ι B w) (hs : Sub A B) : GOK Γ ι A w := ⟨h.val, fun g hg p s hl => h.off g hg p s (hs.live hl)⟩
theorem live_congr (he : ∀ p, A.get p = B.get p) {p : Pth} : Live A p ↔ Live B p := by unfold Live; rw [he p]
theorem Step.congr (h : Step P ι H w ι' A w') (he : ∀ p, A.get p = B.get p) : Step P ι H w ι' B w' := by
  refine ⟨h.ext, fun p h1 h2 => ?_, h.hok.sub fun p o hp => by rw [he]; exact hp, h.kept, h.size, fun p b s hl hp hb => h.back p b s ((live_congr he).2 hl) hp hb, h.tape, h.os, h.out⟩
  obtain ⟨g1, g2⟩ := h.new p h1 h2
  exact ⟨g1, by rw [← he]; exact g2⟩
/-- what an operation does on a part of the memory, it does on the whole -/
theorem Step.frame (hok : HOK P ι B w) (sub : Sub A B) (st : Step P ι A w ι' A' w') (m : Mono A A') (dis : ∀ p, B.get p ≠ none → A.get p = none → A'.get p = none)
    (hB : ∀ p, B'.get p = match A'.get p with | some o => some o | none => B.get p) : Step P ι B w ι' B' w' := by
  have inA : ∀ p o, A'.get p = some o → B'.get p = some o := fun p o hp => by rw [hB, hp]
  have cases' : ∀ p o, B'.get p = some o → A'.get p = some o ∨ (A'.get p = none ∧ A.get p = none ∧ B.get p = some o) := fun p o hp => by
    rw [hB] at hp
    cases h : A'.get p with
    | some o' => rw [h] at hp; exact .inl hp
    | none =>
      rw [h] at hp
      refine .inr ⟨rfl, ?_, hp⟩
      cases ha : A.get p with
      | none => rfl
      | some o' => exact absurd h (m p (by simp [ha]))
  have liveCases : ∀ p, Live B' p → Live A' p ∨ (A.get p = none ∧ Live B p) := fun p hl => by
    obtain ⟨o, h1, h2⟩ := hl
    rcases cases' p o h1 with h | ⟨_, h3, h4⟩
    · exact .inl ⟨o, h, h2⟩
    · exact .inr ⟨h3, o, h4, h2⟩
  -- a block of the rest is none of the part's
  have apart : ∀ p b s, A.get p = none → Live B p → ι p = some (b, s) → ∀ q t, Live A q → ι q ≠ some (b, t) := fun p b s ha hl hp q t hq he => by
    have := hok.inj p q b s t hl (sub.live hq) hp he
    subst this
    obtain ⟨o, h1, _⟩ := hq
    rw [ha] at h1; cases h1
  have embB : ∀ p, Live B p → ∃ b s, ι p = some (b, s) ∧ b < w.heap.size := fun p hl => by
    obtain ⟨o, h1, h2⟩ := hl
    exact O.ok_emb (hok.obj p o h1) h2
  have restEmb : ∀ p b s, A.get p = none → Live B p → ι' p = some (b, s) → ι p = some (b, s) := fun p b s ha hl hp => by
    obtain ⟨b', s', h1, _⟩ := embB p hl
    have := st.ext.name p _ h1
    rw [this] at hp; cases hp; exact h1
  refine ⟨st.ext, fun p h1 h2 => ?_, ⟨fun p o hp => ?_, fun p q b s s' hp hq ep eq => ?_, st.hok.lt⟩, fun b hb hn => st.kept b hb fun p s hl => hn p s (sub.live hl), st.size, fun p b s hl hp hb => ?_, st.tape, st.os, st.out⟩
  · obtain ⟨g1, g2⟩ := st.new p h1 h2
    refine ⟨?_, ?_⟩
    · cases hb : B.get p with
      | none => rfl
      | some o => exact absurd (dis p (by simp [hb]) g1) g2
    · cases h : A'.get p with
      | none => exact absurd h g2
      | some o => rw [inA p o h]; simp
  · rcases cases' p o hp with h | ⟨_, h3, h4⟩
    · exact st.hok.obj p o h
    · refine O.ok_mono (hok.obj p o h4) st.ext fun b s hd hps => ?_
      have hl : Live B p := ⟨o, h4, hd⟩
      obtain ⟨b', s', h5, h6⟩ := embB p hl
      rw [hps] at h5; cases h5
      exact st.kept b h6 fun q t hq => apart p b s h3 hl hps q t hq
  · rcases liveCases p hp with lp | ⟨ap, bp⟩
    · rcases liveCases q hq with lq | ⟨aq, bq⟩
      · exact st.hok.inj p q b s s' lp lq ep eq
      · have e2 := restEmb q b s' aq bq eq
        obtain ⟨b', t, h5, h6⟩ := embB q bq
        rw [e2] at h5; cases h5
        obtain ⟨q', s2, hq', he'⟩ := st.back p b s lp ep h6
        exact absurd he' (apart q b s' aq bq e2 q' s2 hq')
    · have e1 := restEmb p b s ap bp ep
      rcases liveCases q hq with lq | ⟨aq, bq⟩
      · obtain ⟨b', t, h5, h6⟩ := embB p bp
        rw [e1] at h5; cases h5
        obtain ⟨q', s2, hq', he'⟩ := st.back q b s' lq eq h6
        exact absurd he' (apart p b s ap bp e1 q' s2 hq')
      · exact hok.inj p q b s s' bp bq e1 (restEmb q b s' aq bq eq)
  · rcases liveCases p hl with lp | ⟨ap, bp⟩
    · obtain ⟨q, s', hq, hq'⟩ := st.back p b s lp hp hb
      exact ⟨q, s', sub.live hq, hq'⟩
    · exact ⟨p, s, bp, restEmb p b s ap bp hp⟩

/- equal values -/
theorem veqs_cons (f : V → V → Bool) (x : V) (a m : List V) : (List.rec (motive := fun _ => List V → Bool) (fun m => match m with | [] => true | _ :: _ => false)
            (fun x _ ih2 m => match m with | [] => false | y :: m' => (match f x y with | true => ih2 m' | false => false)) (x :: a) : List V → Bool) m =
      (match m with | [] => false | y :: m' => (match f x y with | true => (List.rec (motive := fun _ => List V → Bool) (fun m => match m with | [] => true | _ :: _ => false)
            (fun x _ ih2 m => match m with | [] => false | y :: m' => (match f x y with | true => ih2 m' | false => false)) a : List V → Bool) m' | false => false)) := rfl
theorem veqs_eq (f : V → V → Bool) (hf : ∀ x y, f x y = true → x = y) : ∀ (a m : List V), (List.rec (motive := fun _ => List V → Bool) (fun m => match m with | [] => true | _ :: _ => false)
            (fun x _ ih2 m => match m with | [] => false | y :: m' => (match f x y with | true => ih2 m' | false => false)) a : List V → Bool) m = true → a = m
  | [], m, h => by cases m with | nil => rfl | cons => cases h
  | x :: a, m, h => by
    rw [veqs_cons] at h
    cases m with
    | nil => cases h
    | cons y m =>
      simp only at h
      cases hxy : f x y with
      | false => simp [hxy] at h
      | true =>
        simp only [hxy] at h
        rw [hf x y hxy, veqs_eq f hf a m h]
theorem veq_eq : ∀ (k : Nat) (x y : V), veq k x y = true → x = y
  | 0, x, y, h => by cases h
  | k + 1, x, y, h => by
    have ih := veq_eq k
    cases x <;> cases y <;> try (cases h; done)
    case bool a b => cases a <;> cases b <;> first | rfl | cases h
    case int k1 a k2 b =>
      have h' : (match keq k1 k2 with | true => ieq a b | false => false) = true := h
      cases hk : keq k1 k2 with
      | false => simp [hk] at h'
      | true =>
        simp only [hk] at h'
        rw [ieq_eq] at h'
        have := (keq_iff k1 k2).1 hk
        have e2 : a = b := by simpa using h'
        rw [this, e2]
    case str a b =>
      have h' : natsEq a b = true := h
      rw [natsEq_eq] at h'
      have e2 : a = b := by simpa using h'
      rw [e2]
    case nilp => rfl
    case ptr p o q r =>
      have h' : (match p.beq q with | true => Nat.beq o r | false => false) = true := h
      cases hk : p.beq q with
      | false => simp [hk] at h'
      | true =>
        simp only [hk] at h'
        rw [(Pth.beq_iff p q).1 hk, beq_eq h']
    case gptr p o q r =>
      have h' : (match Nat.beq p q with | true => Nat.beq o r | false => false) = true := h
      cases hk : Nat.beq p q with
      | false => simp [hk] at h'
      | true =>
        simp only [hk] at h'
        rw [beq_eq hk, beq_eq h']
    case nilsl => rfl
    case sl p o a b c q r d e f =>
      have h' : (match p.beq q, Nat.beq o r, Nat.beq a d, Nat.beq b e with
        | true, true, true, true => Nat.beq c f
        | _, _, _, _ => false) = true := h
      cases h1 : p.beq q <;> cases h2 : Nat.beq o r <;> cases h3 : Nat.beq a d <;> cases h4 : Nat.beq b e <;> simp only [h1, h2, h3, h4] at h' <;> try (cases h'; done)
      rw [(Pth.beq_iff p q).1 h1, beq_eq h2, beq_eq h3, beq_eq h4, beq_eq h']
    case nilmp => rfl
    case mp p q =>
      have h' : p.beq q = true := h
      rw [(Pth.beq_iff p q).1 h']
    case nilfn => rfl
    case fn f a b g c d =>
      have h' : (match Nat.beq f g with
        | true => (match (List.rec (motive := fun _ => List V → Bool) (fun m => match m with | [] => true | _ :: _ => false)
            (fun x _ ih2 m => match m with | [] => false | y :: m' => (match veq k x y with | true => ih2 m' | false => false)) a : List V → Bool) c with
          | true => (List.rec (motive := fun _ => List V → Bool) (fun m => match m with | [] => true | _ :: _ => false)
            (fun x _ ih2 m => match m with | [] => false | y :: m' => (match veq k x y with | true => ih2 m' | false => false)) b : List V → Bool) d
          | false => false)
        | false => false) = true := h
      cases hk : Nat.beq f g with
      | false => simp [hk] at h'
      | true =>
        simp only [hk] at h'
        split at h' <;> try (cases h'; done)
        rename_i h1
        rw [beq_eq hk, veqs_eq _ ih a c h1, veqs_eq _ ih b d h']
    case agg a c => rw [veqs_eq _ ih a c h]
    case tup a c => rw [veqs_eq _ ih a c h]
    case sym i k1 a b j k2 c d =>
      have h' : (match Nat.beq i j, keq k1 k2, ieq a c with | true, true, true => ieq b d | _, _, _ => false) = true := h
      cases h1 : Nat.beq i j <;> cases h2 : keq k1 k2 <;> cases h3 : ieq a c <;> simp only [h1, h2, h3] at h' <;> try (cases h'; done)
      rw [ieq_eq] at h3 h'
      have e3 : a = c := by simpa using h3
      have e4 : b = d := by simpa using h'
      rw [beq_eq h1, (keq_iff k1 k2).1 h2, e3, e4]
    case nilif => rfl
    case ifc t a u b =>
      have h' : (match Nat.beq t u with | true => veq k a b | false => false) = true := h
      cases h1 : Nat.beq t u with
      | false => simp [h1] at h'
      | true =>
        simp only [h1] at h'
        rw [beq_eq h1, ih a b h']

/- the classes -/
theorem pure_ok {i : I} (hc : clsOf i = .pure) (h : evI i cal Γ L R H n = .ok v H' n') : H' = H ∧ ∀ B m, evI i cal Γ L R B m = .ok v B m := by
  have viaRet : ∀ {u : Option V}, ret? u H n = .ok v H' n' → H' = H ∧ ∀ B m, ret? u B m = .ok v B m := fun {u} h => by
    obtain ⟨h1, h2, _⟩ := ret_some h
    subst h1; exact ⟨h2, fun _ _ => rfl⟩
  cases i <;> simp only [clsOf] at hc <;> try (cases hc; done)
  case mov s => cases h; exact ⟨rfl, fun _ _ => rfl⟩
  case pick c a b =>
    have h' : evPick c a b cal Γ L R H n = .ok v H' n' := h
    show _ ∧ ∀ B m, evPick c a b cal Γ L R B m = _
    unfold evPick at h' ⊢
    split at h' <;> try (cases h'; done)
    rename_i t ht
    cases t <;> cases h' <;> exact ⟨rfl, fun _ _ => rfl⟩
  case build z p =>
    have h' : evBuild z p cal Γ L R H n = .ok v H' n' := h
    show _ ∧ ∀ B m, evBuild z p cal Γ L R B m = _
    unfold evBuild at h' ⊢
    split at h' <;> try (cases h'; done)
    rename_i l hl
    cases h'
    exact ⟨rfl, fun _ _ => rfl⟩
  case mkif t x => cases h; exact ⟨rfl, fun _ _ => rfl⟩
  case mkmeth nm x =>
    have h' : evMkmeth nm x cal Γ L R H n = .ok v H' n' := h
    show _ ∧ ∀ B m, evMkmeth nm x cal Γ L R B m = _
    unfold evMkmeth at h' ⊢
    split at h' <;> try (cases h'; done)
    cases h'
    exact ⟨rfl, fun _ _ => rfl⟩
  case nilchk mt s =>
    have h' : evNilchk mt s cal Γ L R H n = .ok v H' n' := h
    show _ ∧ ∀ B m, evNilchk mt s cal Γ L R B m = _
    unfold evNilchk at h' ⊢
    split at h' <;> try (cases h'; done)
    rename_i hl
    cases h'
    exact ⟨rfl, fun _ _ => rfl⟩
  case bin op x y => exact viaRet h
  case eq b e x y =>
    have h' : evEq b e x y cal Γ L R H n = .ok v H' n' := h
    show _ ∧ ∀ B m, evEq b e x y cal Γ L R B m = _
    unfold evEq at h' ⊢
    split at h' <;> try (cases h'; done)
    rename_i hl
    cases h'
    exact ⟨rfl, fun _ _ => rfl⟩
  case un op x => exact viaRet h
  case conv c x =>
    have h' : evConv c x cal Γ L R H n = .ok v H' n' := h
    show _ ∧ ∀ B m, evConv c x cal Γ L R B m = _
    unfold evConv at h' ⊢
    cases c with
    | b2s => simp [clsOf] at hc
    | mark => simp [clsOf] at hc
    | int k =>
      cases hs : src L R x <;> rw [hs] at h' <;> try (cases h'; done)
      cases h'
      exact ⟨rfl, fun _ _ => rfl⟩
    | same =>
      cases hs : src L R x <;> rw [hs] at h' <;> try (cases h'; done)
      cases h'
      exact ⟨rfl, fun _ _ => rfl⟩
  case mkfn f a b => cases h; exact ⟨rfl, fun _ _ => rfl⟩
  case slice s x l hh m =>
    have h' : evSlice s x l hh m cal Γ L R H n = .ok v H' n' := h
    have key : ∃ u, ∀ B m', evSlice s x l hh m cal Γ L R B m' = ret? u B m' := by
      cases s with
      | str =>
        cases hs : src L R x <;> try exact ⟨none, fun _ _ => by simp only [evSlice, hs]; rfl⟩
        rename_i str
        cases h1 : bound? L R 0 l with
        | none => exact ⟨none, fun _ _ => by simp only [evSlice, hs, h1]; rfl⟩
        | some a =>
          cases h2 : bound? L R (len str) hh with
          | none => exact ⟨none, fun _ _ => by simp only [evSlice, hs, h1, h2]; rfl⟩
          | some b =>
            cases m with
            | some q => exact ⟨none, fun _ _ => by simp only [evSlice, hs, h1, h2]; rfl⟩
            | none =>
              cases h3 : Nat.ble a b with
              | false => exact ⟨none, fun _ _ => by simp only [evSlice, hs, h1, h2, h3]; rfl⟩
              | true =>
                cases h4 : Nat.ble b (len str) with
                | false => exact ⟨none, fun _ _ => by simp only [evSlice, hs, h1, h2, h3, h4]; rfl⟩
                | true => exact ⟨_, fun _ _ => by simp only [evSlice, hs, h1, h2, h3, h4]; rfl⟩
      | arr a b => exact ⟨none, fun _ _ => rfl⟩
      | sl size =>
        unfold evSlice
        repeat' split
        all_goals first | exact ⟨none, fun _ _ => rfl⟩ | exact ⟨some _, fun _ _ => rfl⟩
    obtain ⟨u, hu⟩ := key
    rw [hu] at h'
    obtain ⟨e1, e2⟩ := viaRet h'
    exact ⟨e1, fun B m' => (hu B m').trans (e2 B m')⟩
  case faddr x off => exact viaRet h
  case xaddr s x j =>
    have h' : evXaddr s x j cal Γ L R H n = .ok v H' n' := h
    have key : ∃ u, ∀ B m', evXaddr s x j cal Γ L R B m' = ret? u B m' := by
      unfold evXaddr
      repeat' split
      all_goals first | exact ⟨none, fun _ _ => rfl⟩ | exact ⟨some _, fun _ _ => rfl⟩ | exact ⟨_, fun _ _ => rfl⟩
    obtain ⟨u, hu⟩ := key
    rw [hu] at h'
    obtain ⟨e1, e2⟩ := viaRet h'
    exact ⟨e1, fun B m' => (hu B m').trans (e2 B m')⟩
  case idxs x j =>
    have h' : evIdxs x j cal Γ L R H n = .ok v H' n' := h
    have key : ∃ u, ∀ B m', evIdxs x j cal Γ L R B m' = ret? u B m' := by
      unfold evIdxs
      repeat' split
      all_goals first | exact ⟨none, fun _ _ => rfl⟩ | exact ⟨some _, fun _ _ => rfl⟩
    obtain ⟨u, hu⟩ := key
    rw [hu] at h'
    obtain ⟨e1, e2⟩ := viaRet h'
    exact ⟨e1, fun B m' => (hu B m').trans (e2 B m')⟩
  case idxa k s a x j =>
    have h' : evIdxa k s a x j cal Γ L R H n = .ok v H' n' := h
    have key : ∃ u, ∀ B m', evIdxa k s a x j cal Γ L R B m' = ret? u B m' := by
      unfold evIdxa
      repeat' split
      all_goals first | exact ⟨none, fun _ _ => rfl⟩ | exact ⟨_, fun _ _ => rfl⟩
    obtain ⟨u, hu⟩ := key
    rw [hu] at h'
    obtain ⟨e1, e2⟩ := viaRet h'
    exact ⟨e1, fun B m' => (hu B m').trans (e2 B m')⟩
  case field x off s a =>
    have h' : evField x off s a cal Γ L R H n = .ok v H' n' := h
    have key : ∃ u, ∀ B m', evField x off s a cal Γ L R B m' = ret? u B m' := by
      unfold evField
      repeat' split
      all_goals first | exact ⟨none, fun _ _ => rfl⟩ | exact ⟨_, fun _ _ => rfl⟩
    obtain ⟨u, hu⟩ := key
    rw [hu] at h'
    obtain ⟨e1, e2⟩ := viaRet h'
    exact ⟨e1, fun B m' => (hu B m').trans (e2 B m')⟩
  case extract s j =>
    have h' : evExtract s j cal Γ L R H n = .ok v H' n' := h
    have key : ∃ u, ∀ B m', evExtract s j cal Γ L R B m' = ret? u B m' := by
      unfold evExtract
      repeat' split
      all_goals first | exact ⟨none, fun _ _ => rfl⟩ | exact ⟨_, fun _ _ => rfl⟩
    obtain ⟨u, hu⟩ := key
    rw [hu] at h'
    obtain ⟨e1, e2⟩ := viaRet h'
    exact ⟨e1, fun B m' => (hu B m').trans (e2 B m')⟩
  case minmax m l =>
    have h' : evMinmax m l cal Γ L R H n = .ok v H' n' := h
    have key : ∃ u, ∀ B m', evMinmax m l cal Γ L R B m' = ret? u B m' := by
      unfold evMinmax
      repeat' split
      all_goals first | exact ⟨none, fun _ _ => rfl⟩ | exact ⟨some _, fun _ _ => rfl⟩
    obtain ⟨u, hu⟩ := key
    rw [hu] at h'
    obtain ⟨e1, e2⟩ := viaRet h'
    exact ⟨e1, fun B m' => (hu B m').trans (e2 B m')⟩
theorem calm_ok {i : I} (hc : clsOf i = .calm) (h : evI i cal Γ L R H n = .ok v H' n') : H' = H := by
  have viaRet : ∀ {u : Option V}, ret? u H n = .ok v H' n' → H' = H := fun {u} h => (ret_some h).2.1
  cases i <;> simp only [clsOf] at hc <;> try (cases hc; done)
  case load s => exact viaRet h
  case loadn s m =>
    have h' : evLoadn s m cal Γ L R H n = .ok v H' n' := h
    unfold evLoadn at h'
    split at h' <;> cases h'
    rfl
  case conv c x =>
    have h' : evConv c x cal Γ L R H n = .ok v H' n' := h
    unfold evConv at h'
    cases c <;> simp [clsOf] at hc
    repeat' split at h'
    all_goals first | (exfalso; rename CK.b2s = CK.mark => hbm; cases hbm; done) | (cases h'; rfl) | cases h'
  case lookup e z m q ok =>
    have h' : evLookup e z m q ok cal Γ L R H n = .ok v H' n' := h
    unfold evLookup at h'
    repeat' split at h'
    all_goals first | (cases h'; rfl) | cases h'
  case len k x => exact viaRet h
  case cap x =>
    have h' : evCap x cal Γ L R H n = .ok v H' n' := h
    unfold evCap at h'
    repeat' split at h'
    all_goals first | (cases h'; rfl) | cases h'
theorem float_ok {i : I} (hc : clsOf i = .float) : ∃ f, i = .new f := by
  cases i <;> simp only [clsOf] at hc <;> try (cases hc; done)
  case new f => exact ⟨f, rfl⟩
  case conv c x => cases c <;> cases hc
end
end
end Go.Ev
