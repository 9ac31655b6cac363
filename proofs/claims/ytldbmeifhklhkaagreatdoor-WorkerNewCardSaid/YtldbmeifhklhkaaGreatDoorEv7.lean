/-
  A verified evaluator, part 7: memory: reads, stores; new blocks; aggregates.
-/
import Derived.Test.YtldbmeifhklhkaaGreatDoorEv6
namespace Go.Ev
noncomputable section
open Go

theorem window_overlay {α : Type} (C ys : List α) (s n o : Nat) (hsn : s + n ≤ C.length) (hon : o + ys.length ≤ n) :
    (((C.take (s + o) ++ ys ++ C.drop (s + o + ys.length)).drop s).take n) = ((C.drop s).take n).take o ++ ys ++ ((C.drop s).take n).drop (o + ys.length) := by
  obtain ⟨A, B, D, rfl, hA, hB⟩ : ∃ A B D, C = A ++ B ++ D ∧ A.length = s ∧ B.length = n :=
    ⟨C.take s, (C.drop s).take n, C.drop (s + n), by rw [List.append_assoc, ← List.drop_drop, List.take_append_drop, List.take_append_drop], by simp; omega, by simp; omega⟩
  have e1 : (A ++ B ++ D).take (s + o) = A ++ B.take o := by
    rw [List.append_assoc, List.take_append, hA]
    have : s + o - s = o := by omega
    rw [List.take_of_length_le (by omega), this, List.take_append_of_le_length (by omega)]
  have e2 : (A ++ B ++ D).drop (s + o + ys.length) = B.drop (o + ys.length) ++ D := by
    rw [List.append_assoc, List.drop_append, hA]
    have : s + o + ys.length - s = o + ys.length := by omega
    rw [List.drop_of_length_le (by omega), this, List.drop_append_of_le_length (by omega)]; rfl
  have e3 : ((A ++ B ++ D).drop s).take n = B := by
    rw [List.append_assoc, List.drop_left' hA, List.take_left' hB]
  rw [e1, e2, e3]
  have e4 : A ++ B.take o ++ ys ++ (B.drop (o + ys.length) ++ D) = A ++ ((B.take o ++ ys ++ B.drop (o + ys.length)) ++ D) := by simp
  rw [e4, List.drop_left' hA, List.take_left']
  simp; omega

section
variable {P : Program} {Γ : Glo} {ι : Emb} {H : Heap} {w : World}
/-- a named block of cells, as the model has it -/
theorem cells_of (h : HOK P ι H w) {p : Pth} {l : List V} (hp : H.get p = some (.cells l)) :
    ∃ b s c el fr, ι p = some (b, s) ∧ w.heap[b]? = some (.cells c el fr) ∧ (fr.2 ≤ fr.1 ∨ c.size ≤ fr.1) ∧ V.rels ι l ((c.toList.drop s).take l.length) ∧ (l = [] ∨ s + l.length ≤ c.size) ∧ ι.size b = c.size := by
  obtain ⟨b, s, c, el, fr, hι, hh, hf, hr, hz⟩ := h.obj p _ hp
  refine ⟨b, s, c, el, fr, hι, hh, hf, hr, ?_, hz⟩
  have := rels_length hr
  cases l with
  | nil => exact .inl rfl
  | cons v t => right; simp at this ⊢; omega
theorem getElem?_of_window {c : Array Value} {s n o : Nat} {y : Value} (h : ((c.toList.drop s).take n)[o]? = some y) : c[s + o]? = some y ∧ o < n := by
  rw [List.getElem?_take] at h
  by_cases ho : o < n
  · rw [if_pos ho, List.getElem?_drop] at h
    exact ⟨by simpa using h, ho⟩
  · rw [if_neg ho] at h; cases h
theorem cellAt_ok (h : HOK P ι H w) (g : GOK Γ ι H w) {u v : V} {x : Value} (hc : cellAt Γ H u = some v) (hr : V.rel ι u x) :
    ∃ a y, x = .pointer (some a) ∧ (load a).run P w = .ok y w ∧ V.rel ι v y := by
  cases u <;> simp [cellAt] at hc
  case ptr p o =>
    cases hp : H.get p with
    | none => simp [hp] at hc
    | some ob =>
      cases ob <;> simp [hp] at hc
      rename_i l
      rw [nth_eq] at hc
      obtain ⟨b, s, c, el, fr, hι, hh, hf, hl, _, _⟩ := cells_of h hp
      simp only [V.rel] at hr
      obtain ⟨b', s', hι', rfl⟩ := hr
      rw [hι] at hι'; cases hι'
      obtain ⟨y, hy, hvy⟩ := rels_get hl hc
      exact ⟨_, y, rfl, run_load_cell hh (getElem?_of_window hy).1, hvy⟩
  case gptr gg o =>
    rw [nth_eq] at hc
    simp only [V.rel] at hr
    obtain ⟨c, el, fr, k, m, hh, rfl, hy⟩ := g.val gg o v hc
    exact ⟨_, _, hr, run_load_cell hh hy, by simp [V.rel]⟩
theorem cellsAt_ok (h : HOK P ι H w) (g : GOK Γ ι H w) {u : V} {x : Value} {n : Nat} {l : List V} (hc : cellsAt Γ H u n = some l) (hr : V.rel ι u x) :
    ∃ a ys, x = .pointer (some a) ∧ (loadCells a n).run P w = .ok ys w ∧ V.rels ι l ys.toList ∧ l.length = n := by
  cases u <;> simp [cellsAt] at hc
  case ptr p o =>
    cases hp : H.get p with
    | none => simp [hp] at hc
    | some ob =>
      cases ob <;> simp [hp] at hc
      rename_i l0
      obtain ⟨hn, rfl⟩ := takeN_some hc
      rw [dropN_eq] at hn ⊢
      obtain ⟨b, s, c, el, fr, hι, hh, hf, hl, hsz, hbz⟩ := cells_of h hp
      simp only [V.rel] at hr
      obtain ⟨b', s', hι', rfl⟩ := hr
      rw [hι] at hι'; cases hι'
      by_cases hz : n = 0
      · subst hz
        exact ⟨_, #[], rfl, by simp [loadCells, loadCellsFrom], by simpa using rels_nil, by simp⟩
      · have hle : s + o + n ≤ c.size := by
          simp at hn
          rcases hsz with rfl | hsz
          · simp at hn; omega
          · omega
        refine ⟨_, _, rfl, run_loadCells_cells hh hle, ?_, by simp at hn ⊢; omega⟩
        have := rels_take n (rels_drop o hl)
        rw [List.drop_take, List.take_take, List.drop_drop] at this
        have e : min n (l0.length - o) = n := by simp at hn; exact Nat.min_eq_left hn
        rw [e] at this
        simpa using this
  case gptr gg o =>
    obtain ⟨hn, rfl⟩ := takeN_some hc
    rw [dropN_eq] at hn ⊢
    simp only [V.rel] at hr
    by_cases hz : n = 0
    · subst hz
      exact ⟨_, #[], hr, by simp [loadCells, loadCellsFrom], by simpa using rels_nil, by simp⟩
    · simp at hn
      have h0 : ∃ v, (Γ gg)[o]? = some v := ⟨(Γ gg)[o]'(by omega), by simp⟩
      obtain ⟨v, hv⟩ := h0
      obtain ⟨c, el, fr, k, m, hh, _, _⟩ := g.val gg o v hv
      have pt : ∀ i, o + i < (Γ gg).length → ∃ k m, (Γ gg)[o + i]? = some (V.int k m) ∧ c[o + i]? = some (Value.int k m) := fun i hi => by
        obtain ⟨c', el', fr', k, m, hh', e, hy⟩ := g.val gg (o + i) (Γ gg)[o + i] (by simp)
        rw [hh] at hh'; cases hh'
        exact ⟨k, m, by rw [← e]; simp, hy⟩
      have hle : o + n ≤ c.size := by
        obtain ⟨k, m, _, hy⟩ := pt (n - 1) (by omega)
        have := (Array.getElem?_eq_some_iff.1 hy).1
        omega
      refine ⟨_, _, hr, run_loadCells_cells hh hle, ?_, by simp; omega⟩
      have key : ∀ j i, i + j = n → V.rels ι (((Γ gg).drop (o + i)).take j) ((c.toList.drop (o + i)).take j) := by
        intro j
        induction j with
        | zero => intro i _; simpa using rels_nil
        | succ j ih =>
          intro i hij
          obtain ⟨k, m, h1, h2⟩ := pt i (by omega)
          have l1 := (List.getElem?_eq_some_iff.1 h1)
          have l2 := (Array.getElem?_eq_some_iff.1 h2)
          obtain ⟨h3, e3⟩ := l1
          obtain ⟨h4, e4⟩ := l2
          rw [List.drop_eq_getElem_cons h3, List.drop_eq_getElem_cons (l := c.toList) (i := o + i) (by simpa using h4), List.take_succ_cons, List.take_succ_cons, e3]
          have e5 : c.toList[o + i]'(by simpa using h4) = Value.int k m := by simpa using e4
          rw [e5]
          exact rels_cons (by simp [V.rel]) (ih (i + 1) (by omega))
      simpa using key n 0 (by omega)
theorem putAt_ok (h : HOK P ι H w) {u : V} {x : Value} {vs : List V} {H' : Heap} (hp : putAt H u vs = some H') (hr : V.rel ι u x) {ys : List Value} (hy : V.rels ι vs ys) :
    ∃ a w', x = .pointer (some a) ∧ (storeCells a ys).run P w = .ok () w' ∧ Step P ι H w ι H' w' := by
  cases u <;> simp [putAt] at hp
  rename_i p o
  cases hg : H.get p with
  | none => simp [hg] at hp
  | some ob =>
    cases ob <;> simp [hg] at hp
    rename_i l
    cases hle : Nat.ble (o + len vs) (len l) with
    | false => simp [hle] at hp
    | true =>
      cases ha : allOne vs with
      | false => simp [hle, ha] at hp
      | true =>
        simp only [hle, ha, Option.some.injEq] at hp
        subst hp
        have hle' := ble_le hle
        rw [len_eq, len_eq] at hle'
        obtain ⟨b, s, c, el, fr, hι, hh, hf, hl, hsz, hbz⟩ := cells_of h hg
        simp only [V.rel] at hr
        obtain ⟨b', s', hι', rfl⟩ := hr
        rw [hι] at hι'; cases hι'
        have hyl := rels_length hy
        by_cases hz : ys = []
        · subst hz
          have hv0 : vs = [] := by cases vs with | nil => rfl | cons => simp at hyl
          subst hv0
          refine ⟨_, w, rfl, by simp [storeCells], ?_⟩
          have e : overlay l o [] = l := by
            have : o ≤ l.length := by simpa using hle'
            rw [overlay_eq l o [] (by simpa using this)]; simp
          rw [e]
          exact Step.write h hg (by simp) hι (SameBut.refl b w) (h.obj p _ hg)
        · have hlen : 0 < ys.length := List.length_pos_iff.2 hz
          have hle2 : s + o + 0 + ys.length ≤ c.size := by
            rcases hsz with rfl | hsz
            · simp at hle'; rw [hyl, hle'.2] at hlen; simp at hlen
            · omega
          obtain ⟨w', c', hrun, hsb, hh', hc', hsz'⟩ := run_storeCells_cells (P := P) (b := b) (el := el) (fr := fr) (s + o) ys 0 w c hh hf hle2 (allOne_rels ha hy)
          refine ⟨_, w', rfl, hrun, Step.write h hg (by simp) hι hsb ⟨b, s, c', el, fr, hι, hh', by rw [hsz']; exact hf, ?_, by rw [hsz']; exact hbz⟩⟩
          rw [overlay_length]
          have hov := rels_overlay hl hy hle'
          refine (congrArg (V.rels ι _) ?_).mp hov
          rw [hc']
          have hsl : s + l.length ≤ c.size := by
            rcases hsz with rfl | hsz
            · simp at hle'; rw [hyl, hle'.2] at hlen; simp at hlen
            · exact hsz
          exact (window_overlay c.toList ys s l.length o (by simpa using hsl) (by omega)).symm
end
end
end Go.Ev
