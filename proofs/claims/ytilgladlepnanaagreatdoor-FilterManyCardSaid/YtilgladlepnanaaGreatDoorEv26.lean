/-
  A verified evaluator, part 26: a region that draws its order: what its evaluation in the text's order has shown.
-/
import Derived.Test.YtilgladlepnanaaGreatDoorEv25
namespace Go.Ev
noncomputable section
open Go

section
variable {P : Program} {Γ : Glo} {cal : Cal} {R : Regs} {H : Heap} {n : Pth} {L : List V} {v : V} {i : I} {bef : Nat} {pend : List Pend}

theorem was_get {ℓ : Nat} {h : Heap} : ∀ {past : List Past}, was cal Γ R n i L v bef pend past = true → past.Pairwise (fun a b => match a, b with | .mk x _, .mk y _ => y < x) → Past.mk ℓ h ∈ past →
    (∀ ℓ' h', Past.mk ℓ' h' ∈ past → ℓ ≤ ℓ' → bit bef ℓ' = false) → ∃ H' n', evI i cal Γ L R (merge bef h pend) n = .ok v H' n'
  | [], _, _, hm, _ => by simp at hm
  | .mk x hx :: past, hw, hp, hm, hb => by
    have hw' : (match bit bef x with
      | true => true
      | false => (match evI i cal Γ L R (merge bef hx pend) n with
        | .ok v' _ _ => (match veq 100 v v' with | true => was cal Γ R n i L v bef pend past | false => false)
        | .bad => false)) = true := hw
    have hle : ℓ ≤ x := by
      rcases List.mem_cons.1 hm with e | hm'
      · cases e; exact Nat.le_refl _
      · have := (List.pairwise_cons.1 hp).1 _ hm'
        exact Nat.le_of_lt this
    have hbx := hb x hx (List.mem_cons_self ..) hle
    simp only [hbx] at hw'
    cases he : evI i cal Γ L R (merge bef hx pend) n with
    | bad => simp [he] at hw'
    | ok v' H' n' =>
      simp only [he] at hw'
      cases hv : veq 100 v v' with
      | false => simp [hv] at hw'
      | true =>
        simp only [hv] at hw'
        have hv' := veq_eq 100 v v' hv
        subst hv'
        rcases List.mem_cons.1 hm with e | hm'
        · cases e; exact ⟨H', n', he⟩
        · exact was_get hw' (List.pairwise_cons.1 hp).2 hm' fun ℓ' h' hm2 hl => hb ℓ' h' (List.mem_cons_of_mem _ hm2) hl
theorem stays_get {x : Nat} {b : Nat} : ∀ {calms : List Calm}, stays cal Γ R n bef H pend calms = true → Calm.mk x i L v b ∈ calms → bit bef x = false → ∃ H' n', evI i cal Γ L R (merge b H pend) n = .ok v H' n'
  | [], _, hm, _ => by simp at hm
  | .mk y j L' u c :: calms, hs, hm, hb => by
    have hs' : (match bit bef y with
      | true => stays cal Γ R n bef H pend calms
      | false => (match evI j cal Γ L' R (merge c H pend) n with
        | .ok v' _ _ => (match veq 100 u v' with | true => stays cal Γ R n bef H pend calms | false => false)
        | .bad => false)) = true := hs
    rcases List.mem_cons.1 hm with e | hm'
    · cases e
      simp only [hb] at hs'
      cases he : evI i cal Γ L R (merge b H pend) n with
      | bad => simp [he] at hs'
      | ok v' H' n' =>
        simp only [he] at hs'
        cases hv : veq 100 v v' with
        | false => simp [hv] at hs'
        | true => rw [← veq_eq 100 v v' hv] ; exact ⟨H', n', rfl⟩
    · refine stays_get ?_ hm' hb
      cases hy : bit bef y with
      | true => simp only [hy] at hs'; exact hs'
      | false =>
        simp only [hy] at hs'
        cases he : evI j cal Γ L' R (merge c H pend) n with
        | bad => simp [he] at hs'
        | ok v' H' n' =>
          simp only [he] at hs'
          cases hv : veq 100 u v' with
          | false => simp [hv] at hs'
          | true => simp only [hv] at hs'; exact hs'
theorem absent_get {x : Nat} {p : Pth} {o : O} : ∀ {pend : List Pend}, absent bef H pend = true → Pend.mk x p o ∈ pend → bit bef x = false → H.get p = none
  | [], _, hm, _ => by simp at hm
  | .mk y q u :: pend, hs, hm, hb => by
    have hs' : (match bit bef y with
      | true => absent bef H pend
      | false => (match H.get q with | none => absent bef H pend | some _ => false)) = true := hs
    rcases List.mem_cons.1 hm with e | hm'
    · cases e
      simp only [hb] at hs'
      cases hq : H.get p with
      | none => rfl
      | some z => simp [hq] at hs'
    · refine absent_get ?_ hm' hb
      cases hy : bit bef y with
      | true => simp only [hy] at hs'; exact hs'
      | false =>
        simp only [hy] at hs'
        cases hq : H.get q with
        | none => simp only [hq] at hs'; exact hs'
        | some z => simp [hq] at hs'
theorem allIn_get {x : Nat} {h : Heap} : ∀ {past : List Past}, allIn bef past = true → Past.mk x h ∈ past → bit bef x = true
  | [], _, hm => by simp at hm
  | .mk y q :: past, hs, hm => by
    have hs' : (match bit bef y with | true => allIn bef past | false => false) = true := hs
    cases hy : bit bef y with
    | false => simp [hy] at hs'
    | true =>
      simp only [hy] at hs'
      rcases List.mem_cons.1 hm with e | hm'
      · cases e; exact hy
      · exact allIn_get hs' hm'
theorem newName_get {x : Nat} {p : Pth} {o : O} : ∀ {pend : List Pend}, newName n pend = true → Pend.mk x p o ∈ pend → p ≠ n
  | [], _, hm => by simp at hm
  | .mk y q u :: pend, hs, hm => by
    have hs' : (match q.beq n with | true => false | false => newName n pend) = true := hs
    cases hq : q.beq n with
    | true => simp [hq] at hs'
    | false =>
      simp only [hq] at hs'
      rcases List.mem_cons.1 hm with e | hm'
      · cases e
        intro e2
        rw [(Pth.beq_iff p n).2 e2] at hq; cases hq
      · exact newName_get hs' hm'
end

/-- one operation of the region, evaluated where it stands -/
def DStep (P : Program) (Γ : Glo) (cal : Cal) (R : Regs) (D : Nat → List (Option Nat)) (bs : Nat → Nat) (L : Nat → List V) (H : Nat → Heap) (n : Nat → Pth) (pa : Nat → List Past) (ca : Nat → List Calm) (pe : Nat → List Pend)
    (i : Nat) (o : Oper) (b : Bool) (v : V) : Prop :=
  (b = false ∧ v = .tup [] ∧ H (i + 1) = H i ∧ pa (i + 1) = pa i ∧ ca (i + 1) = ca i ∧ pe (i + 1) = pe i) ∨
  (b = true ∧ clsOf (opI P (rs (D i)) o.op) = .pure ∧ (∃ H' n', evI (opI P (rs (D i)) o.op) cal Γ (L i) R (H i) (n i) = .ok v H' n') ∧ H (i + 1) = H i ∧ pa (i + 1) = pa i ∧ ca (i + 1) = ca i ∧ pe (i + 1) = pe i) ∨
  (b = true ∧ clsOf (opI P (rs (D i)) o.op) = .calm ∧ (∃ H' n', evI (opI P (rs (D i)) o.op) cal Γ (L i) R (merge (bs i) (H i) (pe i)) (n i) = .ok v H' n') ∧
    was cal Γ R (n i) (opI P (rs (D i)) o.op) (L i) v (bs i) (pe i) (pa i) = true ∧ H (i + 1) = H i ∧ pa (i + 1) = pa i ∧ ca (i + 1) = .mk i (opI P (rs (D i)) o.op) (L i) v (bs i) :: ca i ∧ pe (i + 1) = pe i) ∨
  (b = true ∧ clsOf (opI P (rs (D i)) o.op) = .float ∧ (∃ f ob, opI P (rs (D i)) o.op = .new f ∧ evF f (L i) R (n i) = some (v, ob) ∧ (H i).get (n i) = none ∧ newName (n i) (pe i) = true ∧ pe (i + 1) = .mk i (n i) ob :: pe i) ∧
    H (i + 1) = H i ∧ pa (i + 1) = pa i ∧ ca (i + 1) = ca i) ∨
  (b = true ∧ clsOf (opI P (rs (D i)) o.op) = .loud ∧ allIn (bs i) (pa i) = true ∧ (∃ n', evI (opI P (rs (D i)) o.op) cal Γ (L i) R (merge (bs i) (H i) (pe i)) (n i) = .ok v (H (i + 1)) n') ∧
    absent (bs i) (H (i + 1)) (pe i) = true ∧ stays cal Γ R (n i) (bs i) (H (i + 1)) (pe i) (ca i) = true ∧ pa (i + 1) = .mk i (H i) :: pa i ∧ ca (i + 1) = ca i ∧ pe (i + 1) = pe i)
structure DRun (P : Program) (Γ : Glo) (cal : Cal) (R : Regs) (ops : Array Oper) (D : Nat → List (Option Nat)) (bs : Nat → Nat) (L : Nat → List V) (H : Nat → Heap) (n : Nat → Pth) (pa : Nat → List Past) (ca : Nat → List Calm) (pe : Nat → List Pend) : Prop where
  step : ∀ i o, ops[i]? = some o → ∃ g b v, guardI ops (D i) i o.guard = some g ∧ met g (L i) = some b ∧ L (i + 1) = v :: L i ∧ DStep P Γ cal R D bs L H n pa ca pe i o b v
  L0 : L 0 = []
  pa0 : pa 0 = []
  ca0 : ca 0 = []
  pe0 : pe 0 = []

def DOut.L : DOut → List V | .ok L _ _ _ _ _ => L | .bad => []
noncomputable def DOut.H : DOut → Heap | .ok _ H _ _ _ _ => H | .bad => .nil
def DOut.n : DOut → Pth | .ok _ _ n _ _ _ => n | .bad => .e
def DOut.pa : DOut → List Past | .ok _ _ _ p _ _ => p | .bad => []
def DOut.ca : DOut → List Calm | .ok _ _ _ _ c _ => c | .bad => []
def DOut.pe : DOut → List Pend | .ok _ _ _ _ _ p => p | .bad => []
section
variable {P : Program} {Γ : Glo} {cal : Cal} {R : Regs} {ops : Array Oper}
theorem evDs_cons (o : DOp) (l : List DOp) (idx : Nat) (L : List V) (H : Heap) (n : Pth) (pa : List Past) (ca : List Calm) (pe : List Pend) : evDs cal Γ R (o :: l) idx L H n pa ca pe = (match evDOp cal Γ R idx o L H n pa ca pe with
      | .ok L' H' n' past' calms' pend' => evDs cal Γ R l (Nat.succ idx) L' H' n' past' calms' pend'
      | .bad => .bad) := rfl
theorem evDs_append (o : DOp) : ∀ (l : List DOp) (idx : Nat) (L : List V) (H : Heap) (n : Pth) (pa : List Past) (ca : List Calm) (pe : List Pend), evDs cal Γ R (l ++ [o]) idx L H n pa ca pe =
    (match evDs cal Γ R l idx L H n pa ca pe with
      | .ok L' H' n' pa' ca' pe' => evDOp cal Γ R (idx + l.length) o L' H' n' pa' ca' pe'
      | .bad => .bad)
  | [], idx, L, H, n, pa, ca, pe => by
    show (match evDOp cal Γ R idx o L H n pa ca pe with | .ok L' H' n' pa' ca' pe' => DOut.ok L' H' n' pa' ca' pe' | .bad => .bad) = evDOp cal Γ R idx o L H n pa ca pe
    cases evDOp cal Γ R idx o L H n pa ca pe <;> rfl
  | x :: l, idx, L, H, n, pa, ca, pe => by
    rw [List.cons_append, evDs_cons, evDs_cons]
    cases evDOp cal Γ R idx x L H n pa ca pe with
    | bad => rfl
    | ok L' H' n' pa' ca' pe' =>
      simp only
      rw [evDs_append o l]
      have : Nat.succ idx + l.length = idx + (x :: l).length := by simp; omega
      rw [this]
theorem dopsIR_cons (o : Oper) (l : List Oper) (bs : List Nat) (D : List (Option Nat)) (m : Nat) : dopsIR P ops (o :: l) bs D m = (match guardI ops D m o.guard, nth bs m with
    | some g, some b => .mk g (opI P (rs D) o.op) (clsOf (opI P (rs D) o.op)) b
    | _, _ => .mk none .bad .loud 0) :: dopsIR P ops l bs (o.dst :: D) (m + 1) := rfl
theorem dopsIR_length (bs : List Nat) : ∀ (l : List Oper) (D : List (Option Nat)) (m : Nat), (dopsIR P ops l bs D m).length = l.length
  | [], _, _ => rfl
  | o :: l, D, m => by rw [dopsIR_cons, List.length_cons, dopsIR_length bs l, List.length_cons]
theorem dstsOf_cons (o : Oper) (l : List Oper) (D : List (Option Nat)) : dstsOf (o :: l) D = dstsOf l (o.dst :: D) := rfl
theorem dopsIR_get (bs : List Nat) : ∀ (l : List Oper) (D : List (Option Nat)) (m j : Nat) (o : Oper), l[j]? = some o → (dopsIR P ops l bs D m)[j]? = some (match guardI ops (dstsOf (l.take j) D) (m + j) o.guard, nth bs (m + j) with
    | some g, some b => .mk g (opI P (rs (dstsOf (l.take j) D)) o.op) (clsOf (opI P (rs (dstsOf (l.take j) D)) o.op)) b
    | _, _ => .mk none .bad .loud 0)
  | [], _, _, j, o, h => by simp at h
  | x :: l, D, m, j, o, h => by
    rw [dopsIR_cons]
    cases j with
    | zero => simp at h; subst h; rfl
    | succ j =>
      have ih := dopsIR_get bs l (x.dst :: D) (m + 1) j o (by simpa using h)
      have e : m + 1 + j = m + (j + 1) := by omega
      rw [e] at ih
      rw [List.getElem?_cons_succ, List.take_succ_cons, dstsOf_cons]
      exact ih
theorem take_succ_of {α : Type} {l : List α} {i : Nat} {x : α} (h : l[i]? = some x) : l.take (i + 1) = l.take i ++ [x] := by
  rw [List.take_add_one, h]; rfl
/-- the region's evaluation, operation by operation -/
theorem run_of {H0 : Heap} {n0 : Pth} {LM : List V} {HM : Heap} {nM : Pth} {paM : List Past} {caM : List Calm} {peM : List Pend}
    (h : evDs cal Γ R (dopsIR P ops ops.toList (befs ops.toList []) [] 0) 0 [] H0 n0 [] [] [] = .ok LM HM nM paM caM peM) :
    ∃ (L : Nat → List V) (H : Nat → Heap) (n : Nat → Pth) (pa : Nat → List Past) (ca : Nat → List Calm) (pe : Nat → List Pend), H 0 = H0 ∧ L ops.size = LM ∧ H ops.size = HM ∧ pe ops.size = peM ∧
      DRun P Γ cal R ops (fun i => dstsOf (ops.toList.take i) []) (fun i => ((befs ops.toList [])[i]?).getD 0) L H n pa ca pe := by
  let dops := dopsIR P ops ops.toList (befs ops.toList []) [] 0
  have hlen : dops.length = ops.size := by show (dopsIR P ops ops.toList (befs ops.toList []) [] 0).length = _; rw [dopsIR_length]; simp
  let at' : Nat → DOut := fun i => evDs cal Γ R (dops.take i) 0 [] H0 n0 [] [] []
  have hM : at' ops.size = .ok LM HM nM paM caM peM := by
    show evDs cal Γ R (dops.take ops.size) 0 [] H0 n0 [] [] [] = _
    rw [← hlen, List.take_length]; exact h
  have hstep : ∀ i d, dops[i]? = some d → at' (i + 1) = (match at' i with | .ok L' H' n' pa' ca' pe' => evDOp cal Γ R i d L' H' n' pa' ca' pe' | .bad => .bad) := by
    intro i d hd
    show evDs cal Γ R (dops.take (i + 1)) 0 [] H0 n0 [] [] [] = _
    rw [take_succ_of hd, evDs_append]
    have hi : i < dops.length := (List.getElem?_eq_some_iff.1 hd).1
    have : 0 + (dops.take i).length = i := by simp; omega
    rw [this]
  have hok : ∀ k i, i + k = ops.size → at' i ≠ .bad := by
    intro k
    induction k with
    | zero => intro i hi hb; rw [Nat.add_zero] at hi; subst hi; rw [hM] at hb; cases hb
    | succ k ih =>
      intro i hi hb
      have hlt : i < dops.length := by omega
      have := hstep i dops[i] (by simp [hlt])
      rw [hb] at this
      exact ih (i + 1) (by omega) this
  refine ⟨fun i => (at' i).L, fun i => (at' i).H, fun i => (at' i).n, fun i => (at' i).pa, fun i => (at' i).ca, fun i => (at' i).pe, rfl, by show (at' _).L = _; rw [hM]; rfl, by show (at' _).H = _; rw [hM]; rfl,
    by show (at' _).pe = _; rw [hM]; rfl, ⟨fun i o ho => ?_, rfl, rfl, rfl, rfl⟩⟩
  have hlt : i < ops.size := (Array.getElem?_eq_some_iff.1 ho).1
  have hol : ops.toList[i]? = some o := by simpa using ho
  have hd := dopsIR_get (P := P) (ops := ops) (befs ops.toList []) ops.toList [] 0 i o hol
  rw [Nat.zero_add] at hd
  have hs := hstep i _ hd
  have hn1 := hok (ops.size - i) i (by omega)
  have hn2 := hok (ops.size - (i + 1)) (i + 1) (by omega)
  show ∃ g b v, guardI ops (dstsOf (ops.toList.take i) []) i o.guard = some g ∧ met g (at' i).L = some b ∧ (at' (i + 1)).L = v :: (at' i).L ∧
    DStep P Γ cal R (fun i => dstsOf (ops.toList.take i) []) (fun i => ((befs ops.toList [])[i]?).getD 0) (fun i => (at' i).L) (fun i => (at' i).H) (fun i => (at' i).n) (fun i => (at' i).pa) (fun i => (at' i).ca) (fun i => (at' i).pe) i o b v
  unfold DStep
  simp only
  cases e1 : at' i with
  | bad => exact absurd e1 hn1
  | ok L H n pa ca pe =>
    rw [e1] at hs
    simp only at hs
    rw [hs]
    rw [hs] at hn2
    cases hg : guardI ops (dstsOf (ops.toList.take i) []) i o.guard with
    | none =>
      exfalso
      simp only [hg] at hn2
      apply hn2
      show (match allIn 0 pa with | true => DOut.bad | false => DOut.bad) = DOut.bad
      cases allIn 0 pa <;> rfl
    | some g =>
      rw [nth_eq] at hs hn2 ⊢
      cases hb : (befs ops.toList [])[i]? with
      | none =>
        exfalso
        simp only [hg, hb] at hn2
        apply hn2
        show (match allIn 0 pa with | true => DOut.bad | false => DOut.bad) = DOut.bad
        cases allIn 0 pa <;> rfl
      | some b =>
        simp only [hg, hb, Option.getD_some] at hn2 ⊢
        unfold evDOp at hn2 ⊢
        simp only at hn2 ⊢
        cases hm : met g L with
        | none => simp only [hm] at hn2; exact absurd rfl hn2
        | some t =>
          cases t with
          | false =>
            refine ⟨g, false, .tup [], rfl, hm, rfl, .inl ⟨rfl, rfl, rfl, rfl, rfl, rfl⟩⟩
          | true =>
            simp only [hm] at hn2 ⊢
            unfold evD1 at hn2 ⊢
            cases hc : clsOf (opI P (rs (dstsOf (ops.toList.take i) [])) o.op) with
            | pure =>
              simp only [hc] at hn2 ⊢
              cases he : evI (opI P (rs (dstsOf (ops.toList.take i) [])) o.op) cal Γ L R H n with
              | bad => simp only [he] at hn2; exact absurd rfl hn2
              | ok v H' n' => exact ⟨g, true, v, rfl, hm, rfl, .inr (.inl ⟨rfl, trivial, ⟨H', n', he⟩, rfl, rfl, rfl, rfl⟩)⟩
            | calm =>
              simp only [hc] at hn2 ⊢
              cases he : evI (opI P (rs (dstsOf (ops.toList.take i) [])) o.op) cal Γ L R (merge b H pe) n with
              | bad => simp only [he] at hn2; exact absurd rfl hn2
              | ok v H' n' =>
                simp only [he] at hn2 ⊢
                cases hw : was cal Γ R n (opI P (rs (dstsOf (ops.toList.take i) [])) o.op) L v b pe pa with
                | false => simp only [hw] at hn2; exact absurd rfl hn2
                | true => exact ⟨g, true, v, rfl, hm, rfl, .inr (.inr (.inl ⟨rfl, trivial, ⟨H', n', he⟩, hw, rfl, rfl, rfl, rfl⟩))⟩
            | float =>
              simp only [hc] at hn2 ⊢
              obtain ⟨f, hf⟩ := float_ok hc
              rw [hf] at hn2 ⊢
              simp only at hn2 ⊢
              cases he : evF f L R n with
              | none => simp only [he] at hn2; exact absurd rfl hn2
              | some vo =>
                obtain ⟨v, ob⟩ := vo
                simp only [he] at hn2 ⊢
                cases hh : H.get n with
                | some q => simp only [hh] at hn2; exact absurd rfl hn2
                | none =>
                  cases hw : newName n pe with
                  | false => simp only [hh, hw] at hn2; exact absurd rfl hn2
                  | true =>
                    exact ⟨g, true, v, rfl, hm, rfl, .inr (.inr (.inr (.inl ⟨rfl, trivial, ⟨f, ob, rfl, he, hh, hw, rfl⟩, rfl, rfl, rfl⟩)))⟩
            | loud =>
              simp only [hc] at hn2 ⊢
              cases ha : allIn b pa with
              | false => simp only [ha] at hn2; exact absurd rfl hn2
              | true =>
                simp only [ha] at hn2 ⊢
                cases he : evI (opI P (rs (dstsOf (ops.toList.take i) [])) o.op) cal Γ L R (merge b H pe) n with
                | bad => simp only [he] at hn2; exact absurd rfl hn2
                | ok v H' n' =>
                  simp only [he] at hn2 ⊢
                  cases hab : absent b H' pe with
                  | false => simp only [hab] at hn2; exact absurd rfl hn2
                  | true =>
                    cases hst : stays cal Γ R n b H' pe ca with
                    | false => simp only [hab, hst] at hn2; exact absurd rfl hn2
                    | true => exact ⟨g, true, v, rfl, hm, rfl, .inr (.inr (.inr (.inr ⟨rfl, trivial, ha, ⟨n', he⟩, hab, hst, rfl, rfl, rfl⟩)))⟩
end
end
end Go.Ev
