/-
  A verified evaluator, part 27: a region that draws its order: facts of its evaluation in the text's order.
-/
import Derived.Test.YtilgladlepnanaaGreatDoorEv26
namespace Go.Ev
noncomputable section
open Go

def Past.idx : Past → Nat | .mk i _ => i
section
variable {P : Program} {Γ : Glo} {cal : Cal} {R : Regs} {ops : Array Oper} {D : Nat → List (Option Nat)} {bs : Nat → Nat} {L : Nat → List V} {H : Nat → Heap} {n : Nat → Pth} {pa : Nat → List Past} {ca : Nat → List Calm} {pe : Nat → List Pend}

/-- the value of operation j -/
def val (L : Nat → List V) (j : Nat) : V := ((L (j + 1))[0]?).getD .unk
/-- operation i has been done, and it is loud -/
def LoudEx (H : Nat → Heap) (pa : Nat → List Past) (i : Nat) : Prop := Past.mk i (H i) ∈ pa (i + 1)

theorem DRun.op (i : Nat) (hi : i < ops.size) : ∃ o, ops[i]? = some o := ⟨ops[i], by simp [hi]⟩
theorem DRun.L_cons (d : DRun P Γ cal R ops D bs L H n pa ca pe) {i : Nat} (hi : i < ops.size) : L (i + 1) = val L i :: L i := by
  obtain ⟨o, ho⟩ := DRun.op i hi
  obtain ⟨g, b, v, _, _, hL, _⟩ := d.step i o ho
  have : val L i = v := by unfold val; rw [hL]; rfl
  rw [this]; exact hL
theorem DRun.L_get (d : DRun P Γ cal R ops D bs L H n pa ca pe) : ∀ (i : Nat), i ≤ ops.size → (L i).length = i ∧ ∀ j, j < i → (L i)[i - 1 - j]? = some (val L j)
  | 0, _ => ⟨by rw [d.L0]; rfl, fun j hj => by omega⟩
  | i + 1, hi => by
    obtain ⟨h1, h2⟩ := d.L_get i (by omega)
    rw [d.L_cons (by omega)]
    refine ⟨by simp [h1], fun j hj => ?_⟩
    by_cases e : j = i
    · subst e; simp
    · have := h2 j (by omega)
      have e2 : i + 1 - 1 - j = (i - 1 - j) + 1 := by omega
      rw [e2, List.getElem?_cons_succ]; exact this
theorem merge_mono (S : Nat → Bool) (A : Heap) (pend : List Pend) : Mono A (mergeS S A pend) := fun p hp => by
  rw [mergeS_get]
  cases h : A.get p with
  | none => exact absurd h hp
  | some o => simp
/-- each step: the memory, the past, what is pending -/
theorem DRun.cases (d : DRun P Γ cal R ops D bs L H n pa ca pe) {i : Nat} (hi : i < ops.size) :
    (H (i + 1) = H i ∧ pa (i + 1) = pa i) ∨ (∃ o, ops[i]? = some o ∧ clsOf (opI P (rs (D i)) o.op) = .loud ∧ allIn (bs i) (pa i) = true ∧ (∃ n', evI (opI P (rs (D i)) o.op) cal Γ (L i) R (merge (bs i) (H i) (pe i)) (n i) = .ok (val L i) (H (i + 1)) n') ∧
      absent (bs i) (H (i + 1)) (pe i) = true ∧ stays cal Γ R (n i) (bs i) (H (i + 1)) (pe i) (ca i) = true ∧ pa (i + 1) = .mk i (H i) :: pa i ∧ ca (i + 1) = ca i ∧ pe (i + 1) = pe i) := by
  obtain ⟨o, ho⟩ := DRun.op i hi
  obtain ⟨g, b, v, _, _, hL, hd⟩ := d.step i o ho
  have hv : val L i = v := by unfold val; rw [hL]; rfl
  rcases hd with ⟨_, _, h1, h2, _⟩ | ⟨_, _, _, h1, h2, _⟩ | ⟨_, _, _, _, h1, h2, _⟩ | ⟨_, _, _, h1, h2, _⟩ | ⟨_, h1, h2, h3, h4⟩
  · exact .inl ⟨h1, h2⟩
  · exact .inl ⟨h1, h2⟩
  · exact .inl ⟨h1, h2⟩
  · exact .inl ⟨h1, h2⟩
  · exact .inr ⟨o, ho, h1, h2, by rw [hv]; exact h3, h4⟩
theorem DRun.pe_cases (d : DRun P Γ cal R ops D bs L H n pa ca pe) {i : Nat} (hi : i < ops.size) :
    pe (i + 1) = pe i ∨ ∃ o f ob, ops[i]? = some o ∧ opI P (rs (D i)) o.op = .new f ∧ evF f (L i) R (n i) = some (val L i, ob) ∧ (H i).get (n i) = none ∧ newName (n i) (pe i) = true ∧ pe (i + 1) = .mk i (n i) ob :: pe i ∧ H (i + 1) = H i ∧ pa (i + 1) = pa i := by
  obtain ⟨o, ho⟩ := DRun.op i hi
  obtain ⟨g, b, v, _, _, hL, hd⟩ := d.step i o ho
  have hv : val L i = v := by unfold val; rw [hL]; rfl
  rcases hd with ⟨_, _, _, _, _, h⟩ | ⟨_, _, _, _, _, _, h⟩ | ⟨_, _, _, _, _, _, _, h⟩ | ⟨_, _, ⟨f, ob, h1, h2, h3, h4, h5⟩, h6, h7, _⟩ | ⟨_, _, _, _, _, _, _, _, h⟩
  · exact .inl h
  · exact .inl h
  · exact .inl h
  · exact .inr ⟨o, f, ob, ho, h1, by rw [hv]; exact h2, h3, h4, h5, h6, h7⟩
  · exact .inl h
theorem DRun.mono1 (k : CalOK P Γ cal) (d : DRun P Γ cal R ops D bs L H n pa ca pe) {i : Nat} (hi : i < ops.size) : Mono (H i) (H (i + 1)) := by
  rcases d.cases hi with ⟨h, _⟩ | ⟨o, _, _, _, ⟨n', he⟩, _⟩
  · rw [h]; exact Mono.refl _
  · exact (merge_mono _ _ _).trans (evI_mono k _ he)
theorem DRun.mono (k : CalOK P Γ cal) (d : DRun P Γ cal R ops D bs L H n pa ca pe) : ∀ (c i : Nat), i + c ≤ ops.size → Mono (H i) (H (i + c))
  | 0, i, _ => Mono.refl _
  | c + 1, i, h => (d.mono k c i (by omega)).trans (by rw [← Nat.add_assoc]; exact d.mono1 k (by omega))
theorem DRun.mono' (k : CalOK P Γ cal) (d : DRun P Γ cal R ops D bs L H n pa ca pe) {i j : Nat} (hij : i ≤ j) (hj : j ≤ ops.size) : Mono (H i) (H j) := by
  have := d.mono k (j - i) i (by omega)
  rwa [Nat.add_sub_cancel' hij] at this
theorem DRun.pa_spec (d : DRun P Γ cal R ops D bs L H n pa ca pe) : ∀ (i : Nat), i ≤ ops.size → (pa i).Pairwise (fun a b => match a, b with | .mk x _, .mk y _ => y < x) ∧ ∀ ℓ h, Past.mk ℓ h ∈ pa i → ℓ < i ∧ h = H ℓ ∧ LoudEx H pa ℓ
  | 0, _ => by rw [d.pa0]; exact ⟨List.Pairwise.nil, fun ℓ h hm => by simp at hm⟩
  | i + 1, hi => by
    obtain ⟨h1, h2⟩ := d.pa_spec i (by omega)
    rcases d.cases (i := i) (by omega) with ⟨_, e⟩ | ⟨o, _, _, _, _, _, _, e, _⟩
    · rw [e]
      exact ⟨h1, fun ℓ h hm => let ⟨a, b⟩ := h2 ℓ h hm; ⟨by omega, b⟩⟩
    · have hl : LoudEx H pa i := by unfold LoudEx; rw [e]; exact List.mem_cons_self ..
      rw [e]
      refine ⟨List.pairwise_cons.2 ⟨fun q hq => ?_, h1⟩, fun ℓ h hm => ?_⟩
      · obtain ⟨ℓ, h⟩ := q
        exact (h2 ℓ h hq).1
      · rcases List.mem_cons.1 hm with e2 | hm
        · cases e2; exact ⟨by omega, rfl, hl⟩
        · obtain ⟨a, b⟩ := h2 ℓ h hm; exact ⟨by omega, b⟩
theorem DRun.pa_mem (d : DRun P Γ cal R ops D bs L H n pa ca pe) {ℓ : Nat} (hl : LoudEx H pa ℓ) : ∀ (i : Nat), i ≤ ops.size → ℓ < i → Past.mk ℓ (H ℓ) ∈ pa i
  | 0, _, h => by omega
  | i + 1, hi, h => by
    by_cases e : ℓ = i
    · subst e; exact hl
    · have := d.pa_mem hl i (by omega) (by omega)
      rcases d.cases (i := i) (by omega) with ⟨_, e⟩ | ⟨o, _, _, _, _, _, _, e, _⟩
      · rw [e]; exact this
      · rw [e]; exact List.mem_cons_of_mem _ this
theorem DRun.not_loud (d : DRun P Γ cal R ops D bs L H n pa ca pe) {i : Nat} (hi : i < ops.size) (h : ¬ LoudEx H pa i) : H (i + 1) = H i := by
  rcases d.cases hi with ⟨e, _⟩ | ⟨o, _, _, _, _, _, _, e, _⟩
  · exact e
  · exact absurd (by unfold LoudEx; rw [e]; exact List.mem_cons_self ..) h
theorem DRun.same (d : DRun P Γ cal R ops D bs L H n pa ca pe) : ∀ (c i : Nat), i + c ≤ ops.size → (∀ ℓ, i ≤ ℓ → ℓ < i + c → ¬ LoudEx H pa ℓ) → H (i + c) = H i
  | 0, i, _, _ => rfl
  | c + 1, i, h, hn => by
    rw [← Nat.add_assoc, d.not_loud (by omega) (hn (i + c) (by omega) (by omega))]
    exact d.same c i (by omega) fun ℓ h1 h2 => hn ℓ h1 (by omega)
theorem DRun.same' (d : DRun P Γ cal R ops D bs L H n pa ca pe) {i j : Nat} (hij : i ≤ j) (hj : j ≤ ops.size) (hn : ∀ ℓ, i ≤ ℓ → ℓ < j → ¬ LoudEx H pa ℓ) : H j = H i := by
  have := d.same (j - i) i (by omega) (fun ℓ h1 h2 => hn ℓ h1 (by omega))
  rwa [Nat.add_sub_cancel' hij] at this
theorem DRun.pe_spec (d : DRun P Γ cal R ops D bs L H n pa ca pe) : ∀ (i : Nat), i ≤ ops.size → Names (pe i) ∧ ∀ j p ob, Pend.mk j p ob ∈ pe i → j < i ∧ p = n j ∧ (H j).get p = none ∧ H (j + 1) = H j ∧ ¬ LoudEx H pa j
  | 0, _ => by rw [d.pe0]; exact ⟨trivial, fun j p ob hm => by simp at hm⟩
  | i + 1, hi => by
    obtain ⟨h1, h2⟩ := d.pe_spec i (by omega)
    rcases d.pe_cases (i := i) (by omega) with e | ⟨o, f, ob, _, _, _, g1, g2, e, g3, g4⟩
    · rw [e]
      exact ⟨h1, fun j p ob hm => let ⟨a, b⟩ := h2 j p ob hm; ⟨by omega, b⟩⟩
    · have hnl : ¬ LoudEx H pa i := fun hl => by
        unfold LoudEx at hl
        rw [g4] at hl
        have := ((d.pa_spec i (by omega)).2 _ _ hl).1
        omega
      rw [e]
      refine ⟨⟨fun j x hm => ?_, h1⟩, fun j p x hm => ?_⟩
      · exact newName_get g2 hm rfl
      · rcases List.mem_cons.1 hm with e2 | hm
        · cases e2; exact ⟨by omega, rfl, g1, g3, hnl⟩
        · obtain ⟨a, b⟩ := h2 j p x hm; exact ⟨by omega, b⟩
theorem DRun.pe_sub (d : DRun P Γ cal R ops D bs L H n pa ca pe) : ∀ (c i : Nat), i + c ≤ ops.size → ∀ q, q ∈ pe i → q ∈ pe (i + c)
  | 0, i, _, q, h => h
  | c + 1, i, hc, q, h => by
    have := d.pe_sub c i (by omega) q h
    rw [← Nat.add_assoc]
    rcases d.pe_cases (i := i + c) (by omega) with e | ⟨o, f, ob, _, _, _, _, _, e, _⟩
    · rw [e]; exact this
    · rw [e]; exact List.mem_cons_of_mem _ this
theorem DRun.pe_sub' (d : DRun P Γ cal R ops D bs L H n pa ca pe) {i j : Nat} (hij : i ≤ j) (hj : j ≤ ops.size) : ∀ q, q ∈ pe i → q ∈ pe j := by
  have := d.pe_sub (j - i) i (by omega)
  rwa [Nat.add_sub_cancel' hij] at this
/-- what was pending behind operation i and is of an earlier operation was pending before it -/
theorem DRun.pe_back (d : DRun P Γ cal R ops D bs L H n pa ca pe) {j : Nat} {p : Pth} {ob : O} : ∀ (c i : Nat), i + c ≤ ops.size → j < i → Pend.mk j p ob ∈ pe (i + c) → Pend.mk j p ob ∈ pe i
  | 0, i, _, _, h => h
  | c + 1, i, hc, hj, h => by
    rw [← Nat.add_assoc] at h
    rcases d.pe_cases (i := i + c) (by omega) with e | ⟨o, f, ob', _, _, _, _, _, e, _⟩
    · rw [e] at h; exact d.pe_back c i (by omega) hj h
    · rw [e] at h
      rcases List.mem_cons.1 h with e2 | h
      · cases e2; omega
      · exact d.pe_back c i (by omega) hj h
theorem DRun.ca_mem (d : DRun P Γ cal R ops D bs L H n pa ca pe) {q : Calm} : ∀ (c i : Nat), i + c ≤ ops.size → q ∈ ca i → q ∈ ca (i + c)
  | 0, i, _, h => h
  | c + 1, i, hc, h => by
    have := d.ca_mem c i (by omega) h
    rw [← Nat.add_assoc]
    obtain ⟨o, ho⟩ := DRun.op (i + c) (show i + c < ops.size by omega)
    obtain ⟨g, b, v, _, _, hL, hd⟩ := d.step (i + c) o ho
    rcases hd with ⟨_, _, _, _, e, _⟩ | ⟨_, _, _, _, _, e, _⟩ | ⟨_, _, _, _, _, _, e, _⟩ | ⟨_, _, _, _, _, e⟩ | ⟨_, _, _, _, _, _, _, e, _⟩
    · rw [e]; exact this
    · rw [e]; exact this
    · rw [e]; exact List.mem_cons_of_mem _ this
    · rw [e]; exact this
    · rw [e]; exact this
theorem DRun.ca_mem' (d : DRun P Γ cal R ops D bs L H n pa ca pe) {q : Calm} {i j : Nat} (hij : i ≤ j) (hj : j ≤ ops.size) (h : q ∈ ca i) : q ∈ ca j := by
  have := d.ca_mem (j - i) i (by omega) h
  rwa [Nat.add_sub_cancel' hij] at this
end
end
end Go.Ev
