/-
  A verified evaluator, part 7: memory: reads, stores; new blocks; aggregates.
  A verified evaluator, part 8: aggregates and new blocks.
-/
import Derived.Test.YtilgladlepnanaaGreatDoorEv6
namespace Go.Ev
noncomputable section
open Go

theorem window_overlay {α : Type} (C ys : List α) (s n o : Nat) (hsn : s + n ≤ C.length) (hon : o + ys.length ≤ n) :
    (((C.take (s + o) ++ ys ++ C.drop (s + o + ys.length)).drop s).take n) = ((C.drop s).take n).take o ++ ys ++ ((C.drop s).take n).drop (o + ys.length) := by
  obtain ⟨A, B, D, rfl, hA, hB⟩ : ∃ A B D, C = A ++ B ++ D ∧ A.length = s ∧ B.length = n :=
    ⟨C.take s, (C.drop s).take n, C.drop (s + n), by rw [List.append_assoc, ← List.drop_drop, List.take_append_drop, List.take_append_drop], by simp; omega, by simp; omega⟩
  have e1 : (A ++ B ++ D).take (s + o) = A ++ B.take o := by
    rw [List.append_assoc, List.take_append, hA]
    have : s + o - s = o := by omega
    rw [List.take_of_length_le (by omega), this, List.take_append_of_le_length (by omega)]
  have e2 : (A ++ B ++ D).drop (s + o + ys.length) = B.drop (o + ys.length) ++ D := by
    rw [List.append_assoc, List.drop_append, hA]
    have : s + o + ys.length - s = o + ys.length := by omega
    rw [List.drop_of_length_le (by omega), this, List.drop_append_of_le_length (by omega)]; rfl
  have e3 : ((A ++ B ++ D).drop s).take n = B := by
    rw [List.append_assoc, List.drop_left' hA, List.take_left' hB]
  rw [e1, e2, e3]
  have e4 : A ++ B.take o ++ ys ++ (B.drop (o + ys.length) ++ D) = A ++ ((B.take o ++ ys ++ B.drop (o + ys.length)) ++ D) := by simp
  rw [e4, List.drop_left' hA, List.take_left']
  simp; omega

section
variable {P : Program} {Γ : Glo} {ι : Emb} {H : Heap} {w : World}
/-- a named block of cells, as the model has it -/
theorem cells_of (h : HOK P ι H w) {p : Pth} {l : List V} (hp : H.get p = some (.cells l)) :
    ∃ b s c el fr, ι p = some (b, s) ∧ w.heap[b]? = some (.cells c el fr) ∧ (fr.1 = fr.2 ∨ c.size ≤ fr.1) ∧ V.rels ι l ((c.toList.drop s).take l.length) ∧ (l = [] ∨ s + l.length ≤ c.size) ∧ ι.size b = c.size ∧ s = 0 := by
  obtain ⟨b, s, c, el, fr, hι, hh, hf, hr, hz⟩ := h.obj p _ hp
  refine ⟨b, s, c, el, fr, hι, hh, hf, hr, ?_, hz⟩
  have := rels_length hr
  cases l with
  | nil => exact .inl rfl
  | cons v t => right; simp at this ⊢; omega
theorem getElem?_of_window {c : Array Value} {s n o : Nat} {y : Value} (h : ((c.toList.drop s).take n)[o]? = some y) : c[s + o]? = some y ∧ o < n := by
  rw [List.getElem?_take] at h
  by_cases ho : o < n
  · rw [if_pos ho, List.getElem?_drop] at h
    exact ⟨by simpa using h, ho⟩
  · rw [if_neg ho] at h; cases h
theorem cellAt_ok (h : HOK P ι H w) (g : GOK Γ ι H w) {u v : V} {x : Value} (hc : cellAt Γ H u = some v) (hr : V.rel ι u x) :
    ∃ a y, x = .pointer (some a) ∧ (load a).run P w = .ok y w ∧ V.rel ι v y := by
  cases u <;> simp [cellAt] at hc
  case ptr p o =>
    cases hp : H.get p with
    | none => simp [hp] at hc
    | some ob =>
      cases ob <;> simp [hp] at hc
      rename_i l
      rw [nth_eq] at hc
      obtain ⟨b, s, c, el, fr, hι, hh, hf, hl, _, _⟩ := cells_of h hp
      simp only [V.rel] at hr
      obtain ⟨b', s', hι', rfl⟩ := hr
      rw [hι] at hι'; cases hι'
      obtain ⟨y, hy, hvy⟩ := rels_get hl hc
      exact ⟨_, y, rfl, run_load_cell hh (getElem?_of_window hy).1, hvy⟩
  case gptr gg o =>
    rw [nth_eq] at hc
    simp only [V.rel] at hr
    obtain ⟨c, el, fr, k, m, hh, rfl, hy⟩ := g.val gg o v hc
    exact ⟨_, _, hr, run_load_cell hh hy, by simp [V.rel]⟩
theorem cellsAt_ok (h : HOK P ι H w) (g : GOK Γ ι H w) {u : V} {x : Value} {n : Nat} {l : List V} (hc : cellsAt Γ H u n = some l) (hr : V.rel ι u x) :
    ∃ a ys, x = .pointer (some a) ∧ (loadCells a n).run P w = .ok ys w ∧ V.rels ι l ys.toList ∧ l.length = n := by
  cases u <;> simp [cellsAt] at hc
  case ptr p o =>
    cases hp : H.get p with
    | none => simp [hp] at hc
    | some ob =>
      cases ob <;> simp [hp] at hc
      rename_i l0
      obtain ⟨hn, rfl⟩ := takeN_some hc
      rw [dropN_eq] at hn ⊢
      obtain ⟨b, s, c, el, fr, hι, hh, hf, hl, hsz, hbz⟩ := cells_of h hp
      simp only [V.rel] at hr
      obtain ⟨b', s', hι', rfl⟩ := hr
      rw [hι] at hι'; cases hι'
      by_cases hz : n = 0
      · subst hz
        exact ⟨_, #[], rfl, by simp [loadCells, loadCellsFrom], by simpa using rels_nil, by simp⟩
      · have hle : s + o + n ≤ c.size := by
          simp at hn
          rcases hsz with rfl | hsz
          · simp at hn; omega
          · omega
        refine ⟨_, _, rfl, run_loadCells_cells hh hle, ?_, by simp at hn ⊢; omega⟩
        have := rels_take n (rels_drop o hl)
        rw [List.drop_take, List.take_take, List.drop_drop] at this
        have e : min n (l0.length - o) = n := by simp at hn; exact Nat.min_eq_left hn
        rw [e] at this
        simpa using this
  case gptr gg o =>
    obtain ⟨hn, rfl⟩ := takeN_some hc
    rw [dropN_eq] at hn ⊢
    simp only [V.rel] at hr
    by_cases hz : n = 0
    · subst hz
      exact ⟨_, #[], hr, by simp [loadCells, loadCellsFrom], by simpa using rels_nil, by simp⟩
    · simp at hn
      have h0 : ∃ v, (Γ gg)[o]? = some v := ⟨(Γ gg)[o]'(by omega), by simp⟩
      obtain ⟨v, hv⟩ := h0
      obtain ⟨c, el, fr, k, m, hh, _, _⟩ := g.val gg o v hv
      have pt : ∀ i, o + i < (Γ gg).length → ∃ k m, (Γ gg)[o + i]? = some (V.int k m) ∧ c[o + i]? = some (Value.int k m) := fun i hi => by
        obtain ⟨c', el', fr', k, m, hh', e, hy⟩ := g.val gg (o + i) (Γ gg)[o + i] (by simp)
        rw [hh] at hh'; cases hh'
        exact ⟨k, m, by rw [← e]; simp, hy⟩
      have hle : o + n ≤ c.size := by
        obtain ⟨k, m, _, hy⟩ := pt (n - 1) (by omega)
        have := (Array.getElem?_eq_some_iff.1 hy).1
        omega
      refine ⟨_, _, hr, run_loadCells_cells hh hle, ?_, by simp; omega⟩
      have key : ∀ j i, i + j = n → V.rels ι (((Γ gg).drop (o + i)).take j) ((c.toList.drop (o + i)).take j) := by
        intro j
        induction j with
        | zero => intro i _; simpa using rels_nil
        | succ j ih =>
          intro i hij
          obtain ⟨k, m, h1, h2⟩ := pt i (by omega)
          have l1 := (List.getElem?_eq_some_iff.1 h1)
          have l2 := (Array.getElem?_eq_some_iff.1 h2)
          obtain ⟨h3, e3⟩ := l1
          obtain ⟨h4, e4⟩ := l2
          rw [List.drop_eq_getElem_cons h3, List.drop_eq_getElem_cons (l := c.toList) (i := o + i) (by simpa using h4), List.take_succ_cons, List.take_succ_cons, e3]
          have e5 : c.toList[o + i]'(by simpa using h4) = Value.int k m := by simpa using e4
          rw [e5]
          exact rels_cons (by simp [V.rel]) (ih (i + 1) (by omega))
      simpa using key n 0 (by omega)
theorem putAt_ok (h : HOK P ι H w) {u : V} {x : Value} {vs : List V} {H' : Heap} (hp : putAt H u vs = some H') (hr : V.rel ι u x) {ys : List Value} (hy : V.rels ι vs ys) :
    ∃ a w', x = .pointer (some a) ∧ (storeCells a ys).run P w = .ok () w' ∧ Step P ι H w ι H' w' := by
  cases u <;> simp [putAt] at hp
  rename_i p o
  cases hg : H.get p with
  | none => simp [hg] at hp
  | some ob =>
    cases ob <;> simp [hg] at hp
    rename_i l
    cases hle : Nat.ble (o + len vs) (len l) with
    | false => simp [hle] at hp
    | true =>
      cases ha : allOne vs with
      | false => simp [hle, ha] at hp
      | true =>
        simp only [hle, ha, Option.some.injEq] at hp
        subst hp
        have hle' := ble_le hle
        rw [len_eq, len_eq] at hle'
        obtain ⟨b, s, c, el, fr, hι, hh, hf, hl, hsz, hbz⟩ := cells_of h hg
        simp only [V.rel] at hr
        obtain ⟨b', s', hι', rfl⟩ := hr
        rw [hι] at hι'; cases hι'
        have hyl := rels_length hy
        by_cases hz : ys = []
        · subst hz
          have hv0 : vs = [] := by cases vs with | nil => rfl | cons => simp at hyl
          subst hv0
          refine ⟨_, w, rfl, by simp [storeCells], ?_⟩
          have e : overlay l o [] = l := by
            have : o ≤ l.length := by simpa using hle'
            rw [overlay_eq l o [] (by simpa using this)]; simp
          rw [e]
          exact Step.write h hg (by simp) hι (SameBut.refl b w) (h.obj p _ hg)
        · have hlen : 0 < ys.length := List.length_pos_iff.2 hz
          have hle2 : s + o + 0 + ys.length ≤ c.size := by
            rcases hsz with rfl | hsz
            · simp at hle'; rw [hyl, hle'.2] at hlen; simp at hlen
            · omega
          obtain ⟨w', c', hrun, hsb, hh', hc', hsz'⟩ := run_storeCells_cells (P := P) (b := b) (el := el) (fr := fr) (s + o) ys 0 w c hh hf hle2 (allOne_rels ha hy)
          refine ⟨_, w', rfl, hrun, Step.write h hg (by simp) hι hsb ⟨b, s, c', el, fr, hι, hh', by rw [hsz']; exact hf, ?_, by rw [hsz']; exact hbz.1, hbz.2⟩⟩
          rw [overlay_length]
          have hov := rels_overlay hl hy hle'
          refine (congrArg (V.rels ι _) ?_).mp hov
          rw [hc']
          have hsl : s + l.length ≤ c.size := by
            rcases hsz with rfl | hsz
            · simp at hle'; rw [hyl, hle'.2] at hlen; simp at hlen
            · exact hsz
          exact (window_overlay c.toList ys s l.length o (by simpa using hsl) (by omega)).symm
end
end
end Go.Ev
namespace Go.Ev
noncomputable section
open Go

theorem foldl_set (off : Nat) : ∀ (vs : List Value) (j : Nat) (cs : Array Value), off + j + vs.length ≤ cs.size →
    ((vs.zipIdx j).foldl (fun cs (x : Value × Nat) => cs.setIfInBounds (off + x.2) x.1) cs).toList = cs.toList.take (off + j) ++ vs ++ cs.toList.drop (off + j + vs.length)
  | [], j, cs, _ => by simp
  | x :: vs, j, cs, h => by
    simp only [List.zipIdx_cons, List.foldl_cons]
    have hlt : off + j < cs.size := by simp at h; omega
    rw [foldl_set off vs (j + 1) _ (by simp at h ⊢; omega)]
    simp only [Array.toList_setIfInBounds, List.length_cons]
    have e1 : (cs.toList.set (off + j) x).take (off + (j + 1)) = cs.toList.take (off + j) ++ [x] := by
      have hl : (cs.toList.take (off + j)).length = off + j := by simp; omega
      rw [List.set_eq_take_append_cons_drop, if_pos (by simpa using hlt), List.take_append, hl]
      have : off + (j + 1) - (off + j) = 1 := by omega
      rw [this, List.take_of_length_le (by rw [hl]; omega)]; simp
    have e2 : (cs.toList.set (off + j) x).drop (off + (j + 1) + vs.length) = cs.toList.drop (off + j + (vs.length + 1)) := by
      rw [List.drop_set_of_lt (by omega)]; congr 1; omega
    rw [e1, e2]; simp
theorem foldl_set_size (off : Nat) : ∀ (vs : List Value) (j : Nat) (cs : Array Value), ((vs.zipIdx j).foldl (fun cs (x : Value × Nat) => cs.setIfInBounds (off + x.2) x.1) cs).size = cs.size
  | [], j, cs => rfl
  | x :: vs, j, cs => by simp only [List.zipIdx_cons, List.foldl_cons]; rw [foldl_set_size off vs]; simp

def PartsR (place : Nat → Option (Nat × Nat)) (r : Operand → Src) : List (Nat × Operand) → List (Nat × Nat × Src) → Prop
  | [], qs => qs = []
  | p :: ps, qs => ∃ q t, qs = q :: t ∧ place p.1 = some (q.1, q.2.1) ∧ q.2.2 = r p.2 ∧ PartsR place r ps t
section
variable {P : Program} {ι : Emb} {ρ : Operand → Value} {L : List V} {R : Regs} {r : Operand → Src}
/-- parts of an aggregate: the model's and ours -/
theorem fill_ok (hs : ∀ x, V.rel ι (src L R (r x)) (ρ x)) (place : Nat → Option (Nat × Nat)) : ∀ (parts : List (Nat × Operand)) (ps : List (Nat × Nat × Src)) (c l : List V) (cs : Array Value),
    PartsR place r parts ps →
    V.rels ι c cs.toList → layParts L R ps c = some l → ∃ cs', Instr.fill place cs (parts.map fun p => (p.1, ρ p.2)) = some cs' ∧ V.rels ι l cs'.toList
  | [], _, c, l, cs, hf, hc, h => by
    have hf' : _ = [] := hf
    subst hf'
    simp [layParts] at h
    subst h
    exact ⟨cs, by simp [Instr.fill], hc⟩
  | p :: parts, _, c, l, cs, hf, hc, h => by
    obtain ⟨⟨off, size, s⟩, ps, rfl, hpl, hsr, hrest⟩ := hf
    · simp only at hpl hsr
      subst hsr
      have h' : (match layPart L R c (off, size, r p.2) with | some c' => layParts L R ps c' | none => none) = some l := h
      cases hlp : layPart L R c (off, size, r p.2) with
      | none => simp [hlp] at h'
      | some c' =>
        simp only [hlp] at h'
        unfold layPart at hlp
        cases hco : cellsOf (src L R (r p.2)) with
        | none => simp [hco] at hlp
        | some vs =>
          simp only [hco] at hlp
          cases hb1 : Nat.beq (len vs) size with
          | false => simp [hb1] at hlp
          | true =>
            cases hb2 : Nat.ble (off + size) (len c) with
            | false => simp [hb1, hb2] at hlp
            | true =>
              simp only [hb1, hb2, Option.some.injEq] at hlp
              subst hlp
              have e1 := beq_eq hb1
              have e2 := ble_le hb2
              rw [len_eq] at e1 e2
              have hv := cellsOf_rel hco (hs p.2)
              have hvl := rels_length hv
              have hcl := rels_length hc
              simp only [Array.length_toList] at hvl hcl
              have hov := rels_overlay hc hv (o := off) (by omega)
              have hfs := foldl_set off (ρ p.2).cells.toList 0 cs (by simp; omega)
              have hsz := foldl_set_size off (ρ p.2).cells.toList 0 cs
              obtain ⟨cs', hfill, hr'⟩ := fill_ok hs place parts ps (overlay c off vs) l
                (((ρ p.2).cells.toList.zipIdx 0).foldl (fun cs (x : Value × Nat) => cs.setIfInBounds (off + x.2) x.1) cs) hrest
                (by rw [hfs]; simpa using hov) h'
              refine ⟨cs', ?_, hr'⟩
              simp only [List.map_cons, Instr.fill, hpl]
              rw [if_neg (by simp; omega)]
              rw [← hfill]
              congr 1
              rw [← Array.foldl_toList]
              congr 1
              simp [Array.toList_zipIdx]
end

theorem zeroCells_eq {α : Type} [Inhabited α] (z : Array α) (n : Nat) : ((Array.range (n * z.size)).map (fun i => z[i % z.size]!)).toList = repl n z.toList := by
  rw [repl_eq]
  induction n with
  | zero => simp
  | succ n ih =>
    rw [List.replicate_succ', List.flatten_append, ← ih]
    simp only [Array.toList_map, Array.toList_range]
    rw [Nat.succ_mul, List.range_add, List.map_append]
    congr 1
    simp only [List.flatten_cons, List.flatten_nil, List.append_nil, List.map_map]
    apply List.ext_getElem
    · simp
    · intro i h1 h2
      simp at h1 h2
      simp [Nat.add_mod, Nat.mod_eq_of_lt h2, h2]
end
end Go.Ev
