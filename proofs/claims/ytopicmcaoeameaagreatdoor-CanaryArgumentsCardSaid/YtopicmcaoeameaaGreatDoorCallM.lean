/-
  A call of a plan that holds a machine, out of an evaluation.
-/
import Derived.Test.YtopicmcaoeameaaGreatDoorFirst
namespace Go.Proofs.YtopicmcaoeameaaGreatDoor
open Go Go.Ev Go.RowKit

theorem plU_closed : (plL (nameOf (planU 3)) mach0 = true ∧ (ro3.all fun e => plL (nameOf (planU 3)) e.2) = true) ∧ nameOf (planU 3) nT = false ∧ nameOf (planU 3) (root 3) = true ∧ nameOf ro3 nMach = false := by decide +kernel
theorem HM_get (p : Pth) : HM.get p = if nMach = p then some (O.cells mach0) else none := by
  unfold HM
  rw [Tr.get_set]
  split
  · rfl
  · rw [Tr.get_nil]
theorem live_HM {p : Pth} (h : Live HM p) : p = nMach := by
  obtain ⟨o, h1, _⟩ := h
  rw [HM_get] at h1
  split at h1
  · rename_i e; exact e.symm
  · cases h1
theorem machOK_get {H : Heap} (h : machOK H = true) : ∃ l, H.get nMach = some (.cells l) ∧ l.take 14 = mach0.take 14 ∧ l.length = 19 := by
  unfold machOK at h
  split at h
  · rename_i l hl
    split at h
    · rename_i hv
      have := veq_eq _ _ _ hv
      injection this with this
      exact ⟨l, hl, this, Nat.eq_of_beq_eq_true h⟩
    · cases h
  · cases h
theorem rels_take {ι : Emb} : ∀ (n : Nat) (l : List V) (xs : List Value), V.rels ι l xs → V.rels ι (l.take n) (xs.take n)
  | 0, _, _, _ => rels_nil
  | n + 1, [], xs, h => by rw [rels_nil_inv h]; exact rels_nil
  | n + 1, v :: l, xs, h => by
    obtain ⟨x, t, rfl, hx, ht⟩ := rels_cons_inv h
    exact rels_cons hx (rels_take n l t ht)
/-- cells that mean just one value -/
def rigid : V → Bool | .int _ _ => true | .bool _ => true | .nilsl => true | .sl _ _ _ _ e => Nat.blt 0 e | _ => false
theorem rigid_eq {ι ι' : Emb} (hle : ι.le ι') {v : V} (hv : rigid v = true) {x y : Value} (h1 : V.rel ι v x) (h2 : V.rel ι' v y) : y = x := by
  cases v <;> simp only [rigid] at hv <;> try (cases hv; done)
  · exact (show y = _ from h2).trans (show x = _ from h1).symm
  · exact (show y = _ from h2).trans (show x = _ from h1).symm
  · exact (show y = _ from h2).trans (show x = _ from h1).symm
  · obtain ⟨b, s, c, p1, rfl, q1, q2, q3⟩ := h1
    obtain ⟨b', s', c', p1', rfl, q1', q2', q3'⟩ := h2
    have hp := hle.name _ _ p1
    rw [p1'] at hp
    cases hp
    rename_i p o m c0 e
    have he : 0 < e := by simpa using hv
    have a1 := q3 (by omega)
    have a2 := q3' (by omega)
    rw [hle.same _ _ _ p1, ← a1] at a2
    have : c' * e = c * e := by omega
    have := Nat.eq_of_mul_eq_mul_right he this
    subst this
    rfl
theorem rigids_eq {ι ι' : Emb} (hle : ι.le ι') : ∀ (l : List V) (xs ys : List Value), l.all rigid = true → V.rels ι l xs → V.rels ι' l ys → ys = xs
  | [], xs, ys, _, h1, h2 => by rw [rels_nil_inv h1, rels_nil_inv h2]
  | v :: l, xs, ys, h, h1, h2 => by
    obtain ⟨x, t, rfl, hx, ht⟩ := rels_cons_inv h1
    obtain ⟨y, u, rfl, hy, hu⟩ := rels_cons_inv h2
    simp only [List.all_cons, Bool.and_eq_true] at h
    rw [rigid_eq hle h.1 hx hy, rigids_eq hle l t u h.2 ht hu]
theorem mach_rigid : (mach0.take 14).all rigid = true := by decide +kernel
/-- a call that reads what was laid, and an input's cells, and runs the machine -/
theorem callMach {P : Program} {cal : Cal} {cells : List V} (k : CalOK P ⟨fun _ => [], [], [], ro3 ++ [(nT, cells)]⟩ cal) {f : Nat} {args : List V} {v : V} {H : Heap} {n m : Pth}
    (h : cal.fn f args HM m = .ok v H n) (hfree : freeH H (nT :: ro3.map (·.1)) = true) (hm : machOK H = true) {lo hi b mb : Nat} {w : World} (hw : Laid1 3 lo hi w b mb)
    {tb off : Nat} (htb : tb < lo ∨ hi ≤ tb) {c : Array Value} {el : TypeId} {fr : Nat × Nat} (hb : w.heap[tb]? = some (.cells c el fr)) (hle : off + cells.length ≤ c.size) (σ : Nat → Int) (tsz : Nat)
    (hc : ∀ ι : Emb, ι.sym = σ → V.rels ι cells ((c.toList.drop off).take cells.length)) (xs : Array Value)
    (hxs : ∀ ι : Emb, ι (root 3) = some (b, 0) → ι nT = some (tb, off) → ι.size tb = tsz → ι.sym = σ → V.rels ι args xs.toList) :
    Calls P f xs w fun e w1 => ∃ x ι', e = .returned x ∧ V.rel ι' v x ∧ Bel (fun k => k = mb) w.heap.size w w1 := by
  obtain ⟨ι, hro, hr, hin, hma⟩ := hw
  obtain ⟨hm1, mc, mel, mfr, hm2, hm3, hm4⟩ := hma rfl
  obtain ⟨⟨cl1, cl2⟩, hT, hroot, hnm⟩ := plU_closed
  have hmn : nameOf (planU 3) nMach = true := nameOf_iff.2 ⟨(nMach, mach0), List.mem_cons_self .., rfl⟩
  let ι' : Emb := ⟨fun p => if nT = p then some (tb, off) else if nameOf (planU 3) p = true then ι p else none, fun x => if x = tb then tsz else ι.size x, σ⟩
  have eT : ι' nT = some (tb, off) := by show (if nT = nT then some (tb, off) else if nameOf (planU 3) nT = true then ι nT else none) = _; rw [if_pos rfl]
  have eN : ∀ p, nameOf (planU 3) p = true → ι' p = ι p := fun p hp => by
    have hne : nT ≠ p := fun e => by rw [e, hp] at hT; cases hT
    show (if nT = p then some (tb, off) else if nameOf (planU 3) p = true then ι p else none) = _
    rw [if_neg hne, if_pos hp]
  have hmem : ∀ p, nameOf (planU 3) p = true → ∀ c s, ι p = some (c, s) → c ≠ tb := fun p hp c s hc e => by
    obtain ⟨x, hx, rfl⟩ := nameOf_iff.1 hp
    obtain ⟨l1, l2, _⟩ := hin x hx c s hc
    rw [e] at l1 l2
    rcases htb with h | h
    · exact Nat.not_le_of_lt h l1
    · exact Nat.not_le_of_lt l2 h
  have hmove : ∀ p b s, nameOf (planU 3) p = true → ι p = some (b, s) → ι' p = some (b, s) ∧ ι'.size b = ι.size b := fun p x s hp hx =>
    ⟨(eN p hp).trans hx, by show (if x = tb then tsz else ι.size x) = _; rw [if_neg (hmem p hp x s hx)]⟩
  have hlt : ∀ p b s, ι' p = some (b, s) → b < w.heap.size := fun p x s hx => by
    by_cases e : nT = p
    · subst e
      rw [eT] at hx
      cases hx
      exact (Array.getElem?_eq_some_iff.1 hb).1
    · by_cases hp : nameOf (planU 3) p = true
      · rw [eN p hp] at hx
        obtain ⟨y, hy, rfl⟩ := nameOf_iff.1 hp
        obtain ⟨b', s', c', el', fr', h1, h2, _⟩ := hro y hy
        rw [hx] at h1
        cases h1
        exact (Array.getElem?_eq_some_iff.1 h2).1
      · have : ι' p = none := by show (if nT = p then some (tb, off) else if nameOf (planU 3) p = true then ι p else none) = _; rw [if_neg e, if_neg hp]
        rw [this] at hx; cases hx
  have eM : ι' nMach = some (mb, 0) := (eN _ hmn).trans hm1
  have hmtb : mb ≠ tb := hmem nMach hmn mb 0 hm1
  have hmlt : mb < w.heap.size := (Array.getElem?_eq_some_iff.1 hm2).1
  have hmr : V.rels ι' mach0 ((mc.toList.drop 0).take mach0.length) := by
    obtain ⟨b', s', c', el', fr', h1, h2, h3⟩ := hro (nMach, mach0) (List.mem_cons_self ..)
    rw [hm1] at h1
    cases h1
    rw [hm2] at h2
    cases h2
    exact V.rels.move hmove _ _ cl1 h3
  have hsz : ι'.size mb = mc.size := by show (if mb = tb then tsz else ι.size mb) = _; rw [if_neg hmtb]; exact hm4
  have hHOK : HOK P ι' HM w := by
    refine ⟨fun p o ho => ?_, fun p q b s s' hp hq _ _ => (live_HM hp).trans (live_HM hq).symm, hlt⟩
    rw [HM_get] at ho
    split at ho
    · rename_i e
      subst e
      cases ho
      exact ⟨mb, 0, mc, mel, mfr, eM, hm2, hm3, hmr, hsz, rfl⟩
    · cases ho
  have hro' : ∀ e ∈ ro3, ∃ b s c el fr, ι' e.1 = some (b, s) ∧ w.heap[b]? = some (Obj.cells c el fr) ∧ V.rels ι' e.2 ((c.toList.drop s).take e.2.length) ∧ b ≠ mb := fun e he => by
    have he' : e ∈ planU 3 := List.mem_cons_of_mem _ he
    obtain ⟨b', s', c', el', fr', h1, h2, h3⟩ := hro e he'
    have hn : nameOf (planU 3) e.1 = true := nameOf_iff.2 ⟨e, he', rfl⟩
    refine ⟨b', s', c', el', fr', (eN _ hn).trans h1, h2, V.rels.move hmove _ _ (by have := List.all_eq_true.1 cl2 e he; exact this) h3, fun eb => ?_⟩
    have := ((hin e he' b' s' h1).2.2.1 eb).2
    have h5 : nameOf ro3 nMach = true := nameOf_iff.2 ⟨e, he, this⟩
    rw [hnm] at h5
    cases h5
  obtain ⟨_, _, hk⟩ := k.fn _ _ _ _ _ _ _ h
  refine (hk ι' w xs hHOK ⟨fun g i v h => by simp at h, fun g h => absurd rfl h, fun e he => by simp at he, fun e he => by simp at he, fun e he => by simp at he, fun e he => ?_⟩ (fun p h1 h2 => ?_)
    (hxs ι' ((eN _ hroot).trans hr) eT (by show (if tb = tb then tsz else ι.size tb) = _; rw [if_pos rfl]) rfl)).mono fun e w1 he => ?_
  · rcases List.mem_append.1 he with he | he
    · obtain ⟨b', s', c', el', fr', h1, h2, h3, h4⟩ := hro' e he
      refine ⟨b', s', c', el', fr', h1, h2, h3, fun q t hl hq => ?_⟩
      rw [live_HM hl, eM] at hq
      cases hq
      exact h4 rfl
    · simp only [List.mem_singleton] at he
      subst he
      refine ⟨tb, off, c, el, fr, eT, hb, hc ι' rfl, fun q t hl hq => ?_⟩
      rw [live_HM hl, eM] at hq
      cases hq
      exact hmtb rfl
  · cases hp : ι' p with
    | none => rfl
    | some z =>
      exfalso
      by_cases e : nT = p
      · subst e
        exact h2 (freeH_ok hfree nT (List.mem_cons_self ..))
      · by_cases hn : nameOf (planU 3) p = true
        · obtain ⟨y, hy, rfl⟩ := nameOf_iff.1 hn
          rcases List.mem_cons.1 (show y ∈ (nMach, mach0) :: ro3 from hy) with rfl | hy'
          · rw [HM_get, if_pos rfl] at h1
            cases h1
          · exact h2 (freeH_ok hfree y.1 (List.mem_cons_of_mem _ (List.mem_map.2 ⟨y, hy', rfl⟩)))
        · have : ι' p = none := by show (if nT = p then some (tb, off) else if nameOf (planU 3) p = true then ι p else none) = _; rw [if_neg e, if_neg hn]
          rw [this] at hp; cases hp
  · obtain ⟨x, rfl, ι'', hv', hs⟩ := he
    refine ⟨x, ι'', rfl, hv', hs.os, hs.tape, hs.out, hs.size, fun b hb hne => hs.kept b hb fun p s hl hp => ?_, fun b hb e => ?_⟩
    · rw [live_HM hl, eM] at hp
      cases hp
      exact hne rfl
    · subst e
      obtain ⟨l, hl1, hl2, hl3⟩ := machOK_get hm
      obtain ⟨b', s', c', el', fr', h1, h2, h3, h4, h5, h6⟩ := hs.hok.obj _ _ hl1
      rw [hs.ext.name _ _ eM] at h1
      cases h1
      have hsz' : c'.size = mc.size := by rw [← h5, hs.ext.same _ _ _ eM, hsz]
      refine .inr ⟨mc, c', mel, el', mfr, fr', hm2, h2, h3, hsz', fun i hi => ?_⟩
      have hm19 : mach0.length = 19 := rfl
      have r1 := rels_take 14 _ _ hmr
      have r2 := rels_take 14 _ _ h4
      rw [hl2] at r2
      have heq := rigids_eq hs.ext _ _ _ mach_rigid r1 r2
      rw [hl3, hm19, List.drop_zero, List.drop_zero, List.take_take, List.take_take] at heq
      have := congrArg (fun l => l[i]?) heq
      simp only [List.getElem?_take] at this
      rw [if_pos (by omega), if_pos (by omega), Array.getElem?_toList, Array.getElem?_toList] at this
      exact this
end Go.Proofs.YtopicmcaoeameaaGreatDoor
