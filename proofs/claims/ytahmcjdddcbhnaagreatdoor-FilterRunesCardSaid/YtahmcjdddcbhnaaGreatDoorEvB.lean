/-
  A verified evaluator of the model's code, part B of A, B, C, D (texts 8 to 16).
-/
import Derived.Test.YtahmcjdddcbhnaaGreatDoorEvA
import Derived.Laws.StructEq
import Derived.Laws.BytesArg
import Derived.ChangeKeysEq
/-
  A verified evaluator, part 7: memory: reads, stores; new blocks; aggregates.
  A verified evaluator, part 8: aggregates and new blocks.
-/
namespace Go.Ev
noncomputable section
open Go

theorem window_overlay {α : Type} (C ys : List α) (s n o : Nat) (hsn : s + n ≤ C.length) (hon : o + ys.length ≤ n) :
    (((C.take (s + o) ++ ys ++ C.drop (s + o + ys.length)).drop s).take n) = ((C.drop s).take n).take o ++ ys ++ ((C.drop s).take n).drop (o + ys.length) := by
  obtain ⟨A, B, D, rfl, hA, hB⟩ : ∃ A B D, C = A ++ B ++ D ∧ A.length = s ∧ B.length = n :=
    ⟨C.take s, (C.drop s).take n, C.drop (s + n), by rw [List.append_assoc, ← List.drop_drop, List.take_append_drop, List.take_append_drop], by simp; omega, by simp; omega⟩
  have e1 : (A ++ B ++ D).take (s + o) = A ++ B.take o := by
    rw [List.append_assoc, List.take_append, hA]
    have : s + o - s = o := by omega
    rw [List.take_of_length_le (by omega), this, List.take_append_of_le_length (by omega)]
  have e2 : (A ++ B ++ D).drop (s + o + ys.length) = B.drop (o + ys.length) ++ D := by
    rw [List.append_assoc, List.drop_append, hA]
    have : s + o + ys.length - s = o + ys.length := by omega
    rw [List.drop_of_length_le (by omega), this, List.drop_append_of_le_length (by omega)]; rfl
  have e3 : ((A ++ B ++ D).drop s).take n = B := by
    rw [List.append_assoc, List.drop_left' hA, List.take_left' hB]
  rw [e1, e2, e3]
  have e4 : A ++ B.take o ++ ys ++ (B.drop (o + ys.length) ++ D) = A ++ ((B.take o ++ ys ++ B.drop (o + ys.length)) ++ D) := by simp
  rw [e4, List.drop_left' hA, List.take_left']
  simp; omega

section
variable {P : Program} {Γ : Glo} {ι : Emb} {H : Heap} {w : World}
/-- a named block of cells, as the model has it -/
theorem cells_of (h : HOK P ι H w) {p : Pth} {l : List V} (hp : H.get p = some (.cells l)) :
    ∃ b s c el fr, ι p = some (b, s) ∧ w.heap[b]? = some (.cells c el fr) ∧ (fr.1 = fr.2 ∨ c.size ≤ fr.1) ∧ V.rels ι l ((c.toList.drop s).take l.length) ∧ (l = [] ∨ s + l.length ≤ c.size) ∧ ι.size b = c.size ∧ s = 0 := by
  obtain ⟨b, s, c, el, fr, hι, hh, hf, hr, hz⟩ := h.obj p _ hp
  refine ⟨b, s, c, el, fr, hι, hh, hf, hr, ?_, hz⟩
  have := rels_length hr
  cases l with
  | nil => exact .inl rfl
  | cons v t => right; simp at this ⊢; omega
theorem getElem?_of_window {c : Array Value} {s n o : Nat} {y : Value} (h : ((c.toList.drop s).take n)[o]? = some y) : c[s + o]? = some y ∧ o < n := by
  rw [List.getElem?_take] at h
  by_cases ho : o < n
  · rw [if_pos ho, List.getElem?_drop] at h
    exact ⟨by simpa using h, ho⟩
  · rw [if_neg ho] at h; cases h
theorem roOf_cons (e : Pth × List V) (l : List (Pth × List V)) (p : Pth) : roOf (e :: l) p = (match e.1.beq p with | true => some e.2 | false => roOf l p) := rfl
theorem roOf_mem {p : Pth} {v : List V} : ∀ {l : List (Pth × List V)}, roOf l p = some v → (p, v) ∈ l
  | [], h => by cases h
  | e :: l, h => by
    rw [roOf_cons] at h
    cases h1 : e.1.beq p with
    | false => rw [h1] at h; exact List.mem_cons_of_mem _ (roOf_mem h)
    | true =>
      rw [h1] at h
      have e1 := (Pth.beq_iff _ _).1 h1
      cases h
      subst e1
      exact List.mem_cons_self ..
theorem cellAt_ok (h : HOK P ι H w) (g : GOK Γ ι H w) {u v : V} {x : Value} (hc : cellAt Γ H u = some v) (hr : V.rel ι u x) :
    ∃ a y, x = .pointer (some a) ∧ (load a).run P w = .ok y w ∧ V.rel ι v y := by
  cases u <;> simp [cellAt] at hc
  case ptr p o =>
    cases hp : H.get p with
    | none =>
      simp only [hp] at hc
      cases hro : roOf Γ.ro p with
      | none => simp [hro] at hc
      | some l =>
        simp only [hro] at hc
        rw [nth_eq] at hc
        obtain ⟨b, s, c, el, fr, h1, h2, h3, _⟩ := g.ro _ (roOf_mem hro)
        simp only [V.rel] at hr
        obtain ⟨b', s', hι', rfl⟩ := hr
        rw [h1] at hι'; cases hι'
        obtain ⟨y, hy, hvy⟩ := rels_get h3 hc
        exact ⟨_, y, rfl, run_load_cell h2 (getElem?_of_window hy).1, hvy⟩
    | some ob =>
      cases ob <;> simp [hp] at hc
      rename_i l
      rw [nth_eq] at hc
      obtain ⟨b, s, c, el, fr, hι, hh, hf, hl, _, _⟩ := cells_of h hp
      simp only [V.rel] at hr
      obtain ⟨b', s', hι', rfl⟩ := hr
      rw [hι] at hι'; cases hι'
      obtain ⟨y, hy, hvy⟩ := rels_get hl hc
      exact ⟨_, y, rfl, run_load_cell hh (getElem?_of_window hy).1, hvy⟩
  case gptr gg o =>
    rw [nth_eq] at hc
    simp only [V.rel] at hr
    obtain ⟨c, el, fr, k, m, hh, rfl, hy⟩ := g.val gg o v hc
    exact ⟨_, _, hr, run_load_cell hh hy, by simp [V.rel]⟩
theorem ldOf_cons (e : Pth × Nat × V) (l : List (Pth × Nat × V)) (p : Pth) (k : Nat) : ldOf (e :: l) p k = (match e.1.beq p, Nat.beq e.2.1 k with | true, true => some e.2.2 | _, _ => ldOf l p k) := rfl
theorem ldOf_mem {p : Pth} {k : Nat} {v : V} : ∀ {l : List (Pth × Nat × V)}, ldOf l p k = some v → (p, k, v) ∈ l
  | [], h => by cases h
  | e :: l, h => by
    rw [ldOf_cons] at h
    cases h1 : e.1.beq p <;> cases h2 : Nat.beq e.2.1 k <;> simp only [h1, h2] at h <;> try (exact List.mem_cons_of_mem _ (ldOf_mem h))
    have e1 := (Pth.beq_iff _ _).1 h1
    have e2 := beq_eq h2
    cases h
    subst e1; subst e2
    exact List.mem_cons_self ..
theorem loadOf_ok (h : HOK P ι H w) (g : GOK Γ ι H w) {u v : V} {x : Value} (hc : loadOf Γ H u = some v) (hr : V.rel ι u x) :
    ∃ a y, x = .pointer (some a) ∧ (load a).run P w = .ok y w ∧ V.rel ι v y := by
  cases u
  case ept p k =>
    obtain ⟨b, s, z, h1, h2, h3, h4⟩ := g.lds _ (ldOf_mem hc)
    simp only [V.rel] at hr
    obtain ⟨b', s', hp, hx⟩ := hr
    rw [h1] at hp; cases hp
    exact ⟨_, z, hx, by simp [load, Sem.run, h3], h4⟩
  all_goals (refine cellAt_ok h g ?_ hr; exact hc)
theorem window_cells {b s o n : Nat} {c : Array Value} {el : TypeId} {fr : Nat × Nat} {l0 : List V} (hh : w.heap[b]? = some (.cells c el fr)) (hl : V.rels ι l0 ((c.toList.drop s).take l0.length)) (hsz : l0 = [] ∨ s + l0.length ≤ c.size) (hn : n ≤ (l0.drop o).length) :
    ∃ ys, (loadCells ⟨b, s + o, none⟩ n).run P w = .ok ys w ∧ V.rels ι ((l0.drop o).take n) ys.toList ∧ ((l0.drop o).take n).length = n := by
  by_cases hz : n = 0
  · subst hz
    exact ⟨#[], by simp [loadCells, loadCellsFrom], by simpa using rels_nil, by simp⟩
  · have hle : s + o + n ≤ c.size := by
      simp at hn
      rcases hsz with rfl | hsz
      · simp at hn; omega
      · omega
    refine ⟨_, run_loadCells_cells hh hle, ?_, by simp at hn ⊢; omega⟩
    have := rels_take n (rels_drop o hl)
    rw [List.drop_take, List.take_take, List.drop_drop] at this
    have e : min n (l0.length - o) = n := by simp at hn; exact Nat.min_eq_left hn
    rw [e] at this
    simpa using this
theorem cellsAt_ok (h : HOK P ι H w) (g : GOK Γ ι H w) {u : V} {x : Value} {n : Nat} {l : List V} (hc : cellsAt Γ H u n = some l) (hr : V.rel ι u x) :
    ∃ a ys, x = .pointer (some a) ∧ (loadCells a n).run P w = .ok ys w ∧ V.rels ι l ys.toList ∧ l.length = n := by
  cases u <;> simp [cellsAt] at hc
  case ptr p o =>
    cases hp : H.get p with
    | none =>
      simp only [hp] at hc
      cases hro : roOf Γ.ro p with
      | none => simp [hro] at hc
      | some l0 =>
        simp only [hro] at hc
        obtain ⟨hn, rfl⟩ := takeN_some hc
        rw [dropN_eq] at hn ⊢
        obtain ⟨b, s, c, el, fr, h1, h2, h3, _⟩ := g.ro _ (roOf_mem hro)
        simp only [V.rel] at hr
        obtain ⟨b', s', hι', rfl⟩ := hr
        rw [h1] at hι'; cases hι'
        have hsz : l0 = [] ∨ s + l0.length ≤ c.size := by
          have := rels_length h3
          cases l0 with
          | nil => exact .inl rfl
          | cons v t => right; simp at this ⊢; omega
        obtain ⟨ys, g1, g2, g3⟩ := window_cells (P := P) h2 h3 hsz hn
        exact ⟨_, ys, rfl, g1, g2, g3⟩
    | some ob =>
      cases ob <;> simp [hp] at hc
      rename_i l0
      obtain ⟨hn, rfl⟩ := takeN_some hc
      rw [dropN_eq] at hn ⊢
      obtain ⟨b, s, c, el, fr, hι, hh, hf, hl, hsz, hbz⟩ := cells_of h hp
      simp only [V.rel] at hr
      obtain ⟨b', s', hι', rfl⟩ := hr
      rw [hι] at hι'; cases hι'
      obtain ⟨ys, g1, g2, g3⟩ := window_cells (P := P) hh hl hsz hn
      exact ⟨_, ys, rfl, g1, g2, g3⟩
  case gptr gg o =>
    obtain ⟨hn, rfl⟩ := takeN_some hc
    rw [dropN_eq] at hn ⊢
    simp only [V.rel] at hr
    by_cases hz : n = 0
    · subst hz
      exact ⟨_, #[], hr, by simp [loadCells, loadCellsFrom], by simpa using rels_nil, by simp⟩
    · simp at hn
      have h0 : ∃ v, (Γ gg)[o]? = some v := ⟨(Γ gg)[o]'(by omega), by simp⟩
      obtain ⟨v, hv⟩ := h0
      obtain ⟨c, el, fr, k, m, hh, _, _⟩ := g.val gg o v hv
      have pt : ∀ i, o + i < (Γ gg).length → ∃ k m, (Γ gg)[o + i]? = some (V.int k m) ∧ c[o + i]? = some (Value.int k m) := fun i hi => by
        obtain ⟨c', el', fr', k, m, hh', e, hy⟩ := g.val gg (o + i) (Γ gg)[o + i] (by simp)
        rw [hh] at hh'; cases hh'
        exact ⟨k, m, by rw [← e]; simp, hy⟩
      have hle : o + n ≤ c.size := by
        obtain ⟨k, m, _, hy⟩ := pt (n - 1) (by omega)
        have := (Array.getElem?_eq_some_iff.1 hy).1
        omega
      refine ⟨_, _, hr, run_loadCells_cells hh hle, ?_, by simp; omega⟩
      have key : ∀ j i, i + j = n → V.rels ι (((Γ gg).drop (o + i)).take j) ((c.toList.drop (o + i)).take j) := by
        intro j
        induction j with
        | zero => intro i _; simpa using rels_nil
        | succ j ih =>
          intro i hij
          obtain ⟨k, m, h1, h2⟩ := pt i (by omega)
          have l1 := (List.getElem?_eq_some_iff.1 h1)
          have l2 := (Array.getElem?_eq_some_iff.1 h2)
          obtain ⟨h3, e3⟩ := l1
          obtain ⟨h4, e4⟩ := l2
          rw [List.drop_eq_getElem_cons h3, List.drop_eq_getElem_cons (l := c.toList) (i := o + i) (by simpa using h4), List.take_succ_cons, List.take_succ_cons, e3]
          have e5 : c.toList[o + i]'(by simpa using h4) = Value.int k m := by simpa using e4
          rw [e5]
          exact rels_cons (by simp [V.rel]) (ih (i + 1) (by omega))
      simpa using key n 0 (by omega)
theorem putAt_ok (h : HOK P ι H w) {u : V} {x : Value} {vs : List V} {H' : Heap} (hp : putAt H u vs = some H') (hr : V.rel ι u x) {ys : List Value} (hy : V.rels ι vs ys) :
    ∃ a w', x = .pointer (some a) ∧ (storeCells a ys).run P w = .ok () w' ∧ Step P ι H w ι H' w' := by
  cases u <;> simp [putAt] at hp
  rename_i p o
  cases hg : H.get p with
  | none => simp [hg] at hp
  | some ob =>
    cases ob <;> simp [hg] at hp
    rename_i l
    cases hle : Nat.ble (o + len vs) (len l) with
    | false => simp [hle] at hp
    | true =>
      cases ha : allOne vs with
      | false => simp [hle, ha] at hp
      | true =>
        simp only [hle, ha, Option.some.injEq] at hp
        subst hp
        have hle' := ble_le hle
        rw [len_eq, len_eq] at hle'
        obtain ⟨b, s, c, el, fr, hι, hh, hf, hl, hsz, hbz⟩ := cells_of h hg
        simp only [V.rel] at hr
        obtain ⟨b', s', hι', rfl⟩ := hr
        rw [hι] at hι'; cases hι'
        have hyl := rels_length hy
        by_cases hz : ys = []
        · subst hz
          have hv0 : vs = [] := by cases vs with | nil => rfl | cons => simp at hyl
          subst hv0
          refine ⟨_, w, rfl, by simp [storeCells], ?_⟩
          have e : overlay l o [] = l := by
            have : o ≤ l.length := by simpa using hle'
            rw [overlay_eq l o [] (by simpa using this)]; simp
          rw [e]
          exact Step.write h hg (by simp) hι (SameBut.refl b w) (h.obj p _ hg)
        · have hlen : 0 < ys.length := List.length_pos_iff.2 hz
          have hle2 : s + o + 0 + ys.length ≤ c.size := by
            rcases hsz with rfl | hsz
            · simp at hle'; rw [hyl, hle'.2] at hlen; simp at hlen
            · omega
          obtain ⟨w', c', hrun, hsb, hh', hc', hsz'⟩ := run_storeCells_cells (P := P) (b := b) (el := el) (fr := fr) (s + o) ys 0 w c hh hf hle2 (allOne_rels ha hy)
          refine ⟨_, w', rfl, hrun, Step.write h hg (by simp) hι hsb ⟨b, s, c', el, fr, hι, hh', by rw [hsz']; exact hf, ?_, by rw [hsz']; exact hbz.1, hbz.2⟩⟩
          rw [overlay_length]
          have hov := rels_overlay hl hy hle'
          refine (congrArg (V.rels ι _) ?_).mp hov
          rw [hc']
          have hsl : s + l.length ≤ c.size := by
            rcases hsz with rfl | hsz
            · simp at hle'; rw [hyl, hle'.2] at hlen; simp at hlen
            · exact hsz
          exact (window_overlay c.toList ys s l.length o (by simpa using hsl) (by omega)).symm
end
end
end Go.Ev
namespace Go.Ev
noncomputable section
open Go

theorem foldl_set (off : Nat) : ∀ (vs : List Value) (j : Nat) (cs : Array Value), off + j + vs.length ≤ cs.size →
    ((vs.zipIdx j).foldl (fun cs (x : Value × Nat) => cs.setIfInBounds (off + x.2) x.1) cs).toList = cs.toList.take (off + j) ++ vs ++ cs.toList.drop (off + j + vs.length)
  | [], j, cs, _ => by simp
  | x :: vs, j, cs, h => by
    simp only [List.zipIdx_cons, List.foldl_cons]
    have hlt : off + j < cs.size := by simp at h; omega
    rw [foldl_set off vs (j + 1) _ (by simp at h ⊢; omega)]
    simp only [Array.toList_setIfInBounds, List.length_cons]
    have e1 : (cs.toList.set (off + j) x).take (off + (j + 1)) = cs.toList.take (off + j) ++ [x] := by
      have hl : (cs.toList.take (off + j)).length = off + j := by simp; omega
      rw [List.set_eq_take_append_cons_drop, if_pos (by simpa using hlt), List.take_append, hl]
      have : off + (j + 1) - (off + j) = 1 := by omega
      rw [this, List.take_of_length_le (by rw [hl]; omega)]; simp
    have e2 : (cs.toList.set (off + j) x).drop (off + (j + 1) + vs.length) = cs.toList.drop (off + j + (vs.length + 1)) := by
      rw [List.drop_set_of_lt (by omega)]; congr 1; omega
    rw [e1, e2]; simp
theorem foldl_set_size (off : Nat) : ∀ (vs : List Value) (j : Nat) (cs : Array Value), ((vs.zipIdx j).foldl (fun cs (x : Value × Nat) => cs.setIfInBounds (off + x.2) x.1) cs).size = cs.size
  | [], j, cs => rfl
  | x :: vs, j, cs => by simp only [List.zipIdx_cons, List.foldl_cons]; rw [foldl_set_size off vs]; simp

def PartsR (place : Nat → Option (Nat × Nat)) (r : Operand → Src) : List (Nat × Operand) → List (Nat × Nat × Src) → Prop
  | [], qs => qs = []
  | p :: ps, qs => ∃ q t, qs = q :: t ∧ place p.1 = some (q.1, q.2.1) ∧ q.2.2 = r p.2 ∧ PartsR place r ps t
section
variable {P : Program} {ι : Emb} {ρ : Operand → Value} {L : List V} {R : Regs} {r : Operand → Src}
/-- parts of an aggregate: the model's and ours -/
theorem fill_ok (hs : ∀ x, V.rel ι (src L R (r x)) (ρ x)) (place : Nat → Option (Nat × Nat)) : ∀ (parts : List (Nat × Operand)) (ps : List (Nat × Nat × Src)) (c l : List V) (cs : Array Value),
    PartsR place r parts ps →
    V.rels ι c cs.toList → layParts L R ps c = some l → ∃ cs', Instr.fill place cs (parts.map fun p => (p.1, ρ p.2)) = some cs' ∧ V.rels ι l cs'.toList
  | [], _, c, l, cs, hf, hc, h => by
    have hf' : _ = [] := hf
    subst hf'
    simp [layParts] at h
    subst h
    exact ⟨cs, by simp [Instr.fill], hc⟩
  | p :: parts, _, c, l, cs, hf, hc, h => by
    obtain ⟨⟨off, size, s⟩, ps, rfl, hpl, hsr, hrest⟩ := hf
    · simp only at hpl hsr
      subst hsr
      have h' : (match layPart L R c (off, size, r p.2) with | some c' => layParts L R ps c' | none => none) = some l := h
      cases hlp : layPart L R c (off, size, r p.2) with
      | none => simp [hlp] at h'
      | some c' =>
        simp only [hlp] at h'
        unfold layPart at hlp
        cases hco : cellsOf (src L R (r p.2)) with
        | none => simp [hco] at hlp
        | some vs =>
          simp only [hco] at hlp
          cases hb1 : Nat.beq (len vs) size with
          | false => simp [hb1] at hlp
          | true =>
            cases hb2 : Nat.ble (off + size) (len c) with
            | false => simp [hb1, hb2] at hlp
            | true =>
              simp only [hb1, hb2, Option.some.injEq] at hlp
              subst hlp
              have e1 := beq_eq hb1
              have e2 := ble_le hb2
              rw [len_eq] at e1 e2
              have hv := cellsOf_rel hco (hs p.2)
              have hvl := rels_length hv
              have hcl := rels_length hc
              simp only [Array.length_toList] at hvl hcl
              have hov := rels_overlay hc hv (o := off) (by omega)
              have hfs := foldl_set off (ρ p.2).cells.toList 0 cs (by simp; omega)
              have hsz := foldl_set_size off (ρ p.2).cells.toList 0 cs
              obtain ⟨cs', hfill, hr'⟩ := fill_ok hs place parts ps (overlay c off vs) l
                (((ρ p.2).cells.toList.zipIdx 0).foldl (fun cs (x : Value × Nat) => cs.setIfInBounds (off + x.2) x.1) cs) hrest
                (by rw [hfs]; simpa using hov) h'
              refine ⟨cs', ?_, hr'⟩
              simp only [List.map_cons, Instr.fill, hpl]
              rw [if_neg (by simp; omega)]
              rw [← hfill]
              congr 1
              rw [← Array.foldl_toList]
              congr 1
              simp [Array.toList_zipIdx]
end

theorem zeroCells_eq {α : Type} [Inhabited α] (z : Array α) (n : Nat) : ((Array.range (n * z.size)).map (fun i => z[i % z.size]!)).toList = repl n z.toList := by
  rw [repl_eq]
  induction n with
  | zero => simp
  | succ n ih =>
    rw [List.replicate_succ', List.flatten_append, ← ih]
    simp only [Array.toList_map, Array.toList_range]
    rw [Nat.succ_mul, List.range_add, List.map_append]
    congr 1
    simp only [List.flatten_cons, List.flatten_nil, List.append_nil, List.map_map]
    apply List.ext_getElem
    · simp
    · intro i h1 h2
      simp at h1 h2
      simp [Nat.add_mod, Nat.mod_eq_of_lt h2, h2]
end
end Go.Ev
/-
  A verified evaluator, part 9: operations that make one new block.
-/
namespace Go.Ev
noncomputable section
open Go

/-- an operation that makes one block, ob, under the name n, and has the value v -/
def NewOK (P : Program) (ρ : Operand → Value) (o : Oper) (w : World) (ι : Emb) (n : Pth) (v : V) (ob : O) : Prop :=
  ∃ x w' c T, (execOp ρ o).run P w = .ok (.value x) w' ∧ w'.heap = w.heap.push c ∧ w'.tape = w.tape ∧ w'.os = w.os ∧ w'.output = w.output ∧
    V.rel (upd ι n (w.heap.size, 0) T) v x ∧ ob.ok P (upd ι n (w.heap.size, 0) T) w' n ∧ ob ≠ .dead

theorem wrap_i64 {a : Nat} (h : a ≤ 1073741824) : IntKind.i64.wrap (a : Int) = (a : Int) := by
  have h1 : IntKind.i64.min = -9223372036854775808 := rfl
  have h2 : IntKind.i64.max = 9223372036854775807 := rfl
  exact wrap_small _ _ (by rw [h1, h2]; omega)
section
variable {P : Program} {ι : Emb} {w w' : World} {n : Pth}
theorem newCells_ok {c : Array Value} {el : TypeId} {fr : Nat × Nat} {l : List V} (hh : w'.heap = w.heap.push (.cells c el fr)) (hf : fr.1 = fr.2 ∨ c.size ≤ fr.1)
    (hr : V.rels (upd ι n (w.heap.size, 0) c.size) l (c.toList.take l.length)) : (O.cells l).ok P (upd ι n (w.heap.size, 0) c.size) w' n :=
  ⟨w.heap.size, 0, c, el, fr, upd_same _ _ _ _, by rw [hh]; simp, hf, by simpa using hr, upd_size _ _ _ _, rfl⟩
theorem newCells_whole {c : Array Value} {el : TypeId} {l : List V} (hh : w'.heap = w.heap.push (.cells c el (0, 0)))
    (hr : V.rels (upd ι n (w.heap.size, 0) c.size) l c.toList) : (O.cells l).ok P (upd ι n (w.heap.size, 0) c.size) w' n :=
  newCells_ok hh (.inl rfl) (by rw [List.take_of_length_le (by rw [rels_length hr]; exact Nat.le_refl _)]; exact hr)
end

section
variable {P : Program} {ι : Emb} {w : World} {n : Pth} {ρ : Operand → Value} {o : Oper} {L : List V} {R : Regs} {r : Operand → Src} {v : V} {ob : O} {H : Heap}
theorem new_alloc {t : TypeId} {zs : List V} (ho : o.op = .alloc t) (hz : zeroCellsT P t = some zs) :
    NewOK P ρ o w ι n (.ptr n 0) (.cells zs) := by
  obtain ⟨z, hz', hr0⟩ := zeroCells_rel (ι := ι) hz
  have hr : V.rels (upd ι n (w.heap.size, 0) z.cells.size) zs z.cells.toList := by
    obtain ⟨z2, hz2, hr2⟩ := zeroCells_rel (ι := upd ι n (w.heap.size, 0) z.cells.size) hz
    rw [hz'] at hz2; cases hz2; exact hr2
  have hrun : (Instr.alloc t true (.tuple #[])).run P w = .ok (.pointer (some ⟨w.heap.size, 0, none⟩)) (w.alloc (.cells z.cells t)) := by
    unfold Instr.alloc
    rw [run_ok_bind (run_zeroValue hz')]
    simp only []
    rw [run_ok_bind (run_newVar t z)]; rfl
  refine ⟨_, w.alloc (.cells z.cells t), .cells z.cells t, _, by unfold execOp; rw [ho]; exact run_v hrun, rfl, rfl, rfl, rfl, ?_, newCells_whole rfl hr, by simp⟩
  simp only [V.rel]
  exact ⟨w.heap.size, 0, upd_same _ _ _ _, rfl⟩
theorem new_box {t : TypeId} {x : Operand} {s : Src} {l : List V} (ho : o.op = .box t x) (hs : V.rel ι (src L R s) (ρ x)) (hc : cellsOf (src L R s) = some l) (hn : ι n = none) (hok : HOK P ι H w) :
    NewOK P ρ o w ι n (.ptr n 0) (.cells l) := by
  have hr := V.rels.mono (upd_le_new (T := (ρ x).cells.size) hn hok) _ _ (cellsOf_rel hc hs)
  have hrun : (Instr.box t (ρ x)).run P w = .ok (.pointer (some ⟨w.heap.size, 0, none⟩)) (w.alloc (.cells (ρ x).cells t)) := by
    unfold Instr.box
    rw [run_ok_bind (run_newVar t _)]; rfl
  refine ⟨_, w.alloc (.cells (ρ x).cells t), .cells (ρ x).cells t, _, by unfold execOp; rw [ho]; exact run_v hrun, rfl, rfl, rfl, rfl, ?_, newCells_whole rfl hr, by simp⟩
  simp only [V.rel]
  exact ⟨w.heap.size, 0, upd_same _ _ _ _, rfl⟩
theorem new_mkmap {t : TypeId} {rv : Option Operand} (ho : o.op = .makeMap t rv)
    (hrv : rv = none ∨ ∃ k m a b, rv = some (.const (.int k m)) ∧ P.underlying t = some (.map a b)) (hρ : ∀ y, ρ (.const y) = y) : NewOK P ρ o w ι n (.mp n) (.map [] 0) := by
  have hrun : (Instr.makeMap t (rv.map ρ)).run P w = .ok (.map (some w.heap.size)) (w.alloc (.map #[] 0)) := by
    rcases hrv with rfl | ⟨k, m, a, b, rfl, hu⟩
    · simp [Instr.makeMap, Result.andThen]
    · simp [Instr.makeMap, Sem.run_bind, Result.andThen, hρ, run_underlying hu, asInt, asIntOf]
  refine ⟨_, w.alloc (.map #[] 0), .map #[] 0, 0, by unfold execOp; rw [ho]; exact run_v hrun, rfl, rfl, rfl, rfl, ?_, ?_, by simp⟩
  · simp only [V.rel]; exact ⟨w.heap.size, upd_same _ _ _ _, rfl⟩
  · exact ⟨w.heap.size, #[], upd_same _ _ _ _, by show (w.heap.push _)[_]? = _; simp, rfl⟩
theorem new_buildsl {t e : TypeId} {m k : Nat} {ps : Array (Nat × Operand)} {zs : List V} {l : List V} (ho : o.op = .buildSlice t m ps) (hu : P.underlying t = some (.slice e)) (hk : sizeT P e = some k)
    (hz : zeroCellsT P e = some zs) (hb : m * k ≤ 16777216) (hzk : zs.length = k) (hs : ∀ x, V.rel ι (src L R (r x)) (ρ x)) (hl : layParts L R (arrayParts k r ps.toList) (repl m zs) = some l) (hn : ι n = none) (hok : HOK P ι H w) :
    NewOK P ρ o w ι n (.sl n 0 m m 0) (.cells l) := by
  obtain ⟨z, hz', hzr⟩ := zeroCells_rel (ι := ι) hz
  have hzl := rels_length hzr
  simp only [Array.length_toList] at hzl
  have hzs : z.cells.size = k := by omega
  -- the zeroes
  have hrep : V.rels ι (repl m zs) (repl m z.cells.toList) := by
    rw [repl_eq, repl_eq]
    clear hl hb ho
    induction m with
    | zero => simpa using rels_nil
    | succ m ih => rw [List.replicate_succ, List.replicate_succ, List.flatten_cons, List.flatten_cons]; exact rels_append hzr ih
  have hparts : ∀ l : List (Nat × Operand), PartsR (fun i => some (i * k, k)) r l (arrayParts k r l) := fun l => by
    induction l with
    | nil => rfl
    | cons p t ih => exact ⟨_, _, rfl, rfl, rfl, ih⟩
  have main : ∀ c0 : Array Value, c0.toList = repl m z.cells.toList → ∃ cs', Instr.fill (fun i => some (i * k, k)) c0 (ps.toList.map fun p => (p.1, ρ p.2)) = some cs' ∧ V.rels ι l cs'.toList :=
    fun c0 hc0 => fill_ok hs _ ps.toList _ (repl m zs) l c0 (hparts _) (by rw [hc0]; exact hrep) hl
  have hrun : ∃ cs' : Array Value, V.rels ι l cs'.toList ∧ (Instr.buildSlice t m (ps.map fun (i, x) => (i, ρ x))).run P w = .ok (.slice (some ⟨w.heap.size, 0, none⟩) m m) (w.alloc (.cells cs' e)) := by
    have hnot : ¬ (m * k > 2 ^ 24) := by omega
    unfold Instr.buildSlice
    by_cases hz0 : m * k = 0
    · obtain ⟨cs', hfill, hr'⟩ := main #[] (by
        rw [repl_eq]
        rcases Nat.mul_eq_zero.1 hz0 with h0 | h0
        · subst h0; rfl
        · have : z.cells = #[] := Array.eq_empty_of_size_eq_zero (by omega)
          rw [this]; simp)
      refine ⟨cs', hr', ?_⟩
      rw [run_ok_bind (run_underlying hu w)]
      simp only []
      rw [run_ok_bind (run_sizeOf hk)]
      rw [if_neg hnot, if_pos hz0, hz0]
      have hp : (ps.map fun (x : Nat × Operand) => (x.1, ρ x.2)).toList = ps.toList.map fun p => (p.1, ρ p.2) := by simp
      have hr0 : ((Array.range 0).map fun i => (#[] : Array Value)[i % (#[] : Array Value).size]!) = #[] := by simp
      rw [run_ok_bind (run_ofPure _)]
      simp only [hr0, hp, hfill]
      rw [run_ok_bind (run_newRow e cs')]; rfl
    · obtain ⟨cs', hfill, hr'⟩ := main ((Array.range (m * k)).map (fun i => z.cells[i % z.cells.size]!)) (by rw [← hzs]; exact zeroCells_eq z.cells m)
      refine ⟨cs', hr', ?_⟩
      rw [run_ok_bind (run_underlying hu w)]
      simp only []
      rw [run_ok_bind (run_sizeOf hk)]
      rw [if_neg hnot, if_neg hz0]
      have hp : (ps.map fun (x : Nat × Operand) => (x.1, ρ x.2)).toList = ps.toList.map fun p => (p.1, ρ p.2) := by simp
      rw [run_ok_bind (run_zeroValue hz'), run_ok_bind (run_ofPure _)]
      simp only [hp, hfill]
      rw [run_ok_bind (run_newRow e cs')]; rfl
  obtain ⟨cs', hr', hrun⟩ := hrun
  refine ⟨_, w.alloc (.cells cs' e), .cells cs' e, _, by unfold execOp; rw [ho]; exact run_v hrun, rfl, rfl, rfl, rfl, ?_, newCells_whole rfl (V.rels.mono (upd_le_new hn hok) _ _ hr'), by simp⟩
  simp only [V.rel]
  exact ⟨w.heap.size, 0, m, upd_same _ _ _ _, by simp, Nat.le_refl _, fun _ => rfl, fun h => absurd rfl h⟩
theorem new_mksl {t e : TypeId} {k bytes a b : Nat} {xl xc : Operand} {zs : List V} {kl kc : IntKind} (ho : o.op = .makeSlice t xl xc) (hu : P.underlying t = some (.slice e)) (hk : sizeT P e = some k)
    (hby : bytesT P e = some bytes) (hz : zeroCellsT P e = some zs) (hzk : zs.length = k) (hl : ρ xl = .int kl (a : Int)) (hc : ρ xc = .int kc (b : Int)) (hab : a ≤ b) (hbb : b * bytes ≤ 1073741824) (hbl : b ≤ 1073741824)
    (hn : ι n = none) (hok : HOK P ι H w) : NewOK P ρ o w ι n (.sl n 0 a b 0) (.cells (repl b zs)) := by
  obtain ⟨z, hz', hzr⟩ := zeroCells_rel (ι := ι) hz
  have hzl := rels_length hzr
  simp only [Array.length_toList] at hzl
  have hzs : z.cells.size = k := by omega
  have hrep : V.rels ι (repl b zs) (repl b z.cells.toList) := by
    rw [repl_eq, repl_eq]
    clear hbb hbl hab ho hc
    induction b with
    | zero => simpa using rels_nil
    | succ m ih => rw [List.replicate_succ, List.replicate_succ, List.flatten_cons, List.flatten_cons]; exact rels_append hzr ih
  obtain ⟨i, hi, hib⟩ : ∃ i, P.info? e = some i ∧ i.bytes = bytes := by
    unfold bytesT at hby
    cases hi : P.info? e with
    | none => simp [hi] at hby
    | some i => simp [hi] at hby; exact ⟨i, rfl, hby⟩
  have wa : IntKind.i64.wrap (a : Int) = (a : Int) := wrap_i64 (by omega)
  have wb : IntKind.i64.wrap (b : Int) = (b : Int) := wrap_i64 hbl
  have tl : ∀ c : Nat, c ≤ b → (decide ((c : Int) < 0) || decide ((bytes : Int) * (c : Int) > 2 ^ 48)) = false := fun c hc => by
    have h1 : ¬ ((c : Int) < 0) := by omega
    have h2 : bytes * c ≤ b * bytes := by rw [Nat.mul_comm b]; exact Nat.mul_le_mul_left _ hc
    have h3 : ¬ ((bytes : Int) * (c : Int) > 2 ^ 48) := by
      have this : ((bytes * c : Nat) : Int) ≤ ((1073741824 : Nat) : Int) := Int.ofNat_le.2 (Nat.le_trans h2 hbb)
      rw [Int.natCast_mul] at this
      omega
    rw [decide_eq_false h1, decide_eq_false h3]; rfl
  have hrun : (Instr.makeSlice t (ρ xl) (ρ xc)).run P w = .ok (.slice (some ⟨w.heap.size, 0, none⟩) a b) (w.alloc (.cells (repl b z.cells.toList).toArray e)) := by
    unfold Instr.makeSlice
    rw [run_ok_bind (run_underlying hu w)]
    simp only [hl, hc, asInt, asIntOf]
    simp only [Sem.run_bind, run_ofPure, Result.andThen, run_typeInfo hi, hib, wa, wb, tl b (Nat.le_refl b), tl a hab]
    have c1 : ¬ ((a : Int) < 0) := by omega
    have c2 : ¬ ((a : Int) > (b : Int)) := by omega
    simp only [c1, c2, decide_false, Bool.or_false, Bool.false_eq_true, if_false, Sem.run_bind, Result.andThen]
    have room : ¬ (b * bytes > roomBytes) := by unfold roomBytes; omega
    simp only [Int.toNat_natCast, askRoom, if_neg room, run_ofPure, run_sizeOf hk]
    by_cases hz0 : b * k = 0
    · have e0 : (repl b z.cells.toList).toArray = #[] := by
        rw [repl_eq]
        rcases Nat.mul_eq_zero.1 hz0 with h0 | h0
        · rw [h0]; rfl
        · have : z.cells = #[] := Array.eq_empty_of_size_eq_zero (by omega)
          rw [this]; simp
      have hr0 : ((Array.range 0).map fun i => (#[] : Array Value)[i % (#[] : Array Value).size]!) = #[] := by simp
      simp only [hz0, if_true, e0]
      rw [run_ok_bind (run_ofPure _)]
      simp only [hr0]
      rw [run_ok_bind (run_newRow e #[])]; rfl
    · have e1 : (Array.range (b * k)).map (fun i => z.cells[i % z.cells.size]!) = (repl b z.cells.toList).toArray := by
        apply Array.toList_inj.1
        rw [← hzs, zeroCells_eq z.cells b]
      simp only [if_neg hz0, Sem.run_bind, run_zeroValue hz', Result.andThen, run_ofPure, e1, run_newRow]
  refine ⟨_, w.alloc (.cells (repl b z.cells.toList).toArray e), .cells (repl b z.cells.toList).toArray e, _, by unfold execOp; rw [ho]; exact run_v hrun, rfl, rfl, rfl, rfl, ?_,
    newCells_whole rfl (by simpa using V.rels.mono (upd_le_new hn hok) _ _ hrep), by simp⟩
  simp only [V.rel]
  exact ⟨w.heap.size, 0, b, upd_same _ _ _ _, by simp, Nat.le_refl _, fun _ => rfl, fun h => absurd rfl h⟩
theorem ofBytes_rels {ι : Emb} : ∀ l : List UInt8, V.rels ι (ofBytes (l.map UInt8.toNat)) (l.map fun b => Value.int .u8 (b.toNat : Int))
  | [] => rels_nil
  | b :: t => rels_cons (by simp [V.rel]) (ofBytes_rels t)
theorem ofBytes_length : ∀ l : List Nat, (ofBytes l).length = l.length
  | [] => rfl
  | _ :: t => by show (ofBytes t).length + 1 = _; rw [ofBytes_length t]; rfl
theorem new_s2b {s d e : TypeId} {x : Operand} {b : ByteArray} (ho : o.op = .convert s d x) (hus : P.underlying s = some .string) (hud : P.underlying d = some (.slice e))
    (hue : P.underlying e = some (.int .u8)) (hx : ρ x = .string b) (_hn : ι n = none) :
    NewOK P ρ o w ι n (.sl n 0 b.size b.size 1) (.cells (ofBytes (b.data.toList.map UInt8.toNat))) := by
  let cap := (Question.appendCap b.size 0 e).cut (w.tape w.drawn (.appendCap b.size 0 e))
  have hcap : b.size ≤ cap := by show b.size ≤ b.size + _; omega
  let c : Array Value := (b.data.map fun y => Value.int .u8 (y.toNat : Int)) ++ Array.replicate (cap - b.size) (.int .u8 0)
  let w1 : World := { w with drawn := w.drawn + 1 }
  let w' : World := (w1.alloc (.cells c e)).freeze { block := w.heap.size, off := c.size } 1
  have hheap : w'.heap = w.heap.push (.cells c e (c.size, c.size + 1)) := by
    show ((w1.alloc (.cells c e)).freeze { block := w.heap.size, off := c.size } 1).heap = _
    unfold World.freeze
    rw [if_neg (by decide)]
    show ((w1.heap.push (.cells c e)).modify w.heap.size (fun x => match x with
      | .cells c_1 elem (lo, hi) => .cells c_1 elem (if (lo == hi) = true then (c.size, c.size + 1) else (min lo c.size, max hi (c.size + 1)))
      | o => o)) = _
    apply Array.ext_getElem?
    intro i
    rw [Array.getElem?_modify, Array.getElem?_push, Array.getElem?_push]
    show (if w.heap.size = i then _ else _) = _
    by_cases hi : i = w.heap.size
    · subst hi; simp [w1]
    · have : ¬ w.heap.size = i := fun e => hi e.symm
      simp [hi, this, w1]
  have hrun : (convert s d (ρ x)).run P w = .ok (.slice (some ⟨w.heap.size, 0, none⟩) b.size cap) w' := by
    rw [hx]
    unfold convert
    rw [run_ok_bind (run_underlying hus w), run_ok_bind (run_underlying hud w)]
    simp only []
    rw [run_ok_bind (run_underlying hue w)]
    simp only []
    unfold Conv.stringToBytes
    have h1 : (choose (.appendCap b.size 0 e)).run P w = .ok cap w1 := by
      simp [choose, Sem.run, Question.forced, cap, w1]
    rw [run_ok_bind h1]
    simp only []
    rw [run_ok_bind (run_newRow e _)]
    have h2 : (markStringish ⟨w1.heap.size, 0, none⟩).run P (w1.alloc (.cells c e)) = .ok () w' := by
      unfold markStringish
      have h3 : (shape w1.heap.size).run P (w1.alloc (.cells c e)) = .ok (some (e, c.size)) (w1.alloc (.cells c e)) := by
        have h4 : (w1.alloc (.cells c e)).heap[w1.heap.size]? = some (.cells c e) := by show (w1.heap.push _)[_]? = _; simp
        simp only [shape, Sem.run, World.shape?, h4]
      rw [run_ok_bind h3]
      simp [freeze, Sem.run, w', w1]
    rw [run_ok_bind h2]; rfl
  refine ⟨_, w', .cells c e (c.size, c.size + 1), _, by unfold execOp; rw [ho]; exact run_v hrun, hheap, ?_, ?_, ?_, ?_, newCells_ok hheap (.inr (Nat.le_refl _)) ?_, by simp⟩
  · show ((w1.alloc (.cells c e)).freeze _ 1).tape = _
    unfold World.freeze; rw [if_neg (by decide)]; rfl
  · show ((w1.alloc (.cells c e)).freeze _ 1).os = _
    unfold World.freeze; rw [if_neg (by decide)]; rfl
  · show ((w1.alloc (.cells c e)).freeze _ 1).output = _
    unfold World.freeze; rw [if_neg (by decide)]; rfl
  · simp only [V.rel]
    refine ⟨w.heap.size, 0, cap, upd_same _ _ _ _, by simp, hcap, fun h => absurd h (by decide), fun _ => ?_⟩
    have hus2 := upd_size ι n (w.heap.size, 0) c.size
    simp only at hus2
    rw [hus2]
    have hcs : c.size = cap := by simp [c]; omega
    omega
  · rw [ofBytes_length]
    have : c.toList.take (b.data.toList.map UInt8.toNat).length = b.data.toList.map fun y => Value.int .u8 (y.toNat : Int) := by
      simp [c]
    rw [this]
    exact ofBytes_rels _
end
end
end Go.Ev
/-
  A verified evaluator, part 10: operations that compute or read.
-/
namespace Go.Ev
noncomputable section
open Go

structure Cxt (P : Program) (Γ : Glo) (ι : Emb) (H : Heap) (w : World) (ρ : Operand → Value) (L : List V) (R : Regs) (r : Operand → Src) : Prop where
  hok : HOK P ι H w
  gok : GOK Γ ι H w
  hs : ∀ x, V.rel ι (src L R (r x)) (ρ x)
  hc : ∀ y, ρ (.const y) = y
  hf : ∀ f, ρ (.func f) = .func (.func f) #[] #[]

section
variable {P : Program} {Γ : Glo} {ι : Emb} {H H' : Heap} {w : World} {ρ : Operand → Value} {L : List V} {R : Regs} {r : Operand → Src} {cal : Cal} {n n' : Pth} {v : V} {o : Oper}

/-- a value that is computed, the memory staying -/
theorem OpOK.same (c : Cxt P Γ ι H w ρ L R r) {s : Sem Value} {x : Value} (he : execOp ρ o = (do pure (Next.value (← s)) : Sem Next)) (hr : s.run P w = .ok x w) (hv : V.rel ι v x) :
    OpOK P ρ o w (Post P ι H w H v) :=
  OpOK.value (by rw [he]; exact run_v hr) (Post.pure c.hok hv)
theorem ret_some {u : Option V} (h : ret? u H n = .ok v H' n') : u = some v ∧ H' = H ∧ n' = n := by
  cases u with
  | none => simp [ret?] at h
  | some x => simp [ret?] at h; obtain ⟨rfl, rfl, rfl⟩ := h; exact ⟨rfl, rfl, rfl⟩

theorem ok_mov (c : Cxt P Γ ι H w ρ L R r) {x : Operand} (ho : o.op = .move x ∨ o.op = .assign x) (he : evI (.mov (r x)) cal Γ L R H n = .ok v H' n') : OpOK P ρ o w (Post P ι H w H' v) := by
  have he' : Res.ok (src L R (r x)) H n = .ok v H' n' := he
  simp at he'; obtain ⟨rfl, rfl, rfl⟩ := he'
  refine OpOK.value (x := ρ x) (w' := w) ?_ (Post.pure c.hok (c.hs x))
  unfold execOp
  rcases ho with ho | ho <;> rw [ho] <;> rfl
theorem ok_pick (c : Cxt P Γ ι H w ρ L R r) {x a b : Operand} (ho : o.op = .pick x a b) (he : evI (.pick (r x) (r a) (r b)) cal Γ L R H n = .ok v H' n') : OpOK P ρ o w (Post P ι H w H' v) := by
  have he' : evPick (r x) (r a) (r b) cal Γ L R H n = .ok v H' n' := he
  unfold evPick at he'
  have hx := c.hs x
  cases hb : src L R (r x) <;> simp [hb] at he'
  rename_i t
  rw [hb] at hx; simp only [V.rel] at hx
  have hrun : ∀ (y : Value), (if t then ρ a else ρ b) = y → (execOp ρ o).run P w = .ok (.value y) w := fun y hy => by
    unfold execOp; rw [ho]
    simp only [hx]
    subst hy
    cases t <;> rfl
  cases t <;> simp at he' <;> obtain ⟨rfl, rfl, rfl⟩ := he'
  · exact OpOK.value (hrun _ rfl) (Post.pure c.hok (c.hs b))
  · exact OpOK.value (hrun _ rfl) (Post.pure c.hok (c.hs a))
theorem ok_load (c : Cxt P Γ ι H w ρ L R r) {t : TypeId} {a : Operand} (ho : o.op = .load t a) (he : evI (opI P r (.load t a)) cal Γ L R H n = .ok v H' n') : OpOK P ρ o w (Post P ι H w H' v) := by
  unfold opI at he
  cases hag : aggT P t with
  | none => simp [hag] at he; cases he
  | some b =>
    cases b with
    | false =>
      have he' : evLoad (r a) cal Γ L R H n = .ok v H' n' := by simp only [hag] at he; exact he
      obtain ⟨h1, rfl, rfl⟩ := ret_some he'
      obtain ⟨ad, y, hx, hrun, hv⟩ := loadOf_ok c.hok c.gok h1 (c.hs a)
      refine OpOK.same c (s := Instr.loadAt t (ρ a)) (by unfold execOp; rw [ho]) ?_ hv
      unfold Instr.loadAt
      rw [hx]
      simp only [Instr.sureAddr]
      rw [run_ok_bind (run_ofPure ad)]
      unfold loadVar
      rw [run_ok_bind (run_isAgg hag)]
      exact hrun
    | true =>
      cases hsz : sizeT P t with
      | none => simp [hag, hsz] at he; cases he
      | some m =>
        have he' : evLoadn (r a) m cal Γ L R H n = .ok v H' n' := by simp only [hag, hsz] at he; exact he
        unfold evLoadn at he'
        cases hc : cellsAt Γ H (src L R (r a)) m with
        | none => simp [hc] at he'
        | some l =>
          simp [hc] at he'
          obtain ⟨rfl, rfl, rfl⟩ := he'
          obtain ⟨ad, ys, hx, hrun, hv, _⟩ := cellsAt_ok c.hok c.gok hc (c.hs a)
          refine OpOK.same c (s := Instr.loadAt t (ρ a)) (x := .agg ys) (by unfold execOp; rw [ho]) ?_ (by simp only [V.rel]; exact ⟨ys, rfl, hv⟩)
          unfold Instr.loadAt
          rw [hx]
          simp only [Instr.sureAddr]
          rw [run_ok_bind (run_ofPure ad)]
          unfold loadVar
          rw [run_ok_bind (run_isAgg hag)]
          simp only [if_true]
          rw [run_ok_bind (run_sizeOf hsz), run_ok_bind hrun]; rfl
theorem ok_store (c : Cxt P Γ ι H w ρ L R r) {t : TypeId} {a x : Operand} (ho : o.op = .store t a x) (he : evI (opI P r (.store t a x)) cal Γ L R H n = .ok v H' n') : OpOK P ρ o w (Post P ι H w H' v) := by
  unfold opI at he
  cases hsz : sizeT P t with
  | none => simp [hsz] at he; cases he
  | some m =>
    have he' : evStore (r a) (r x) m cal Γ L R H n = .ok v H' n' := by simp only [hsz] at he; exact he
    unfold evStore at he'
    cases hco : cellsOf (src L R (r x)) with
    | none => simp [hco] at he'
    | some l =>
      simp only [hco] at he'
      cases hb : Nat.beq (len l) m with
      | false => simp [hb] at he'
      | true =>
        simp only [hb] at he'
        cases hp : putAt H (src L R (r a)) l with
        | none => simp [hp] at he'
        | some H1 =>
          simp [hp] at he'
          obtain ⟨rfl, rfl, rfl⟩ := he'
          have hv := cellsOf_rel hco (c.hs x)
          have hl := rels_length hv
          have e1 := beq_eq hb
          rw [len_eq] at e1
          obtain ⟨ad, w', hx, hrun, hst⟩ := putAt_ok c.hok hp (c.hs a) hv
          refine OpOK.skip (w' := w') ?_ ⟨ι, by simp [V.rel], hst⟩
          unfold execOp; rw [ho]
          refine run_u ?_
          unfold Instr.storeAt
          rw [hx]
          simp only [Instr.sureAddr]
          rw [run_ok_bind (run_ofPure ad)]
          unfold storeVar
          rw [run_ok_bind (run_sizeOf hsz)]
          rw [if_neg (by simp at hl; omega)]
          exact hrun
theorem methAt_ok {m : String} {t f : Nat} (h : methAt P m t = some f) : ∃ ti me ptr, P.info? t = some ti ∧ ti.methods.find? (·.name == m) = some me ∧ me.path.toList = [] ∧ me.func = some (f, ptr) ∧ plainRecv P t ptr = true := by
  unfold methAt at h
  cases hi : P.info? t with
  | none => simp [hi] at h
  | some ti =>
    cases hf : ti.methods.find? (·.name == m) with
    | none => simp [hi, hf] at h
    | some me =>
      simp only [hi, hf] at h
      cases hp : me.path.toList with
      | cons a l => simp [hp] at h
      | nil =>
        cases hfu : me.func with
        | none => simp [hp, hfu] at h
        | some fp =>
          obtain ⟨f', ptr⟩ := fp
          simp only [hp, hfu] at h
          cases hr : plainRecv P t ptr with
          | false => simp [hr] at h
          | true => simp [hr] at h; subst h; exact ⟨ti, me, ptr, rfl, hf, hp, hfu, hr⟩
theorem run_method {m : String} {t f : Nat} {x : Value} (h : methAt P m t = some f) (fuel : Nat) : (Go.method (fuel + 1) t x m).run P w = .ok (f, x) w := by
  obtain ⟨ti, me, ptr, hi, hf, hp, hfu, hr⟩ := methAt_ok h
  unfold Go.method
  rw [run_ok_bind (run_typeInfo hi)]
  simp only [hf, hp]
  have hfo : (Go.follow [] t (.val x)).run P w = .ok (t, .val x) w := rfl
  rw [run_ok_bind hfo]
  simp only [hfu]
  have hre : ∀ nm, (Go.receiverAt t (.val x) ptr nm).run P w = .ok x w := fun nm => by
    unfold plainRecv at hr
    cases hu : P.underlying t with
    | none => simp [hu] at hr
    | some d =>
      unfold Go.receiverAt
      rw [run_ok_bind (run_underlying hu w)]
      cases d <;> cases ptr <;> simp [hu] at hr <;> rfl
  rw [run_ok_bind (hre _)]; rfl
theorem run_nilAhead {m : String} {t f : Nat} {x : Value} (h : methAt P m t = some f) (fuel : Nat) : (Go.nilAhead (fuel + 1) t x m).run P w = .ok (some false) w := by
  obtain ⟨ti, me, ptr, hi, hf, hp, hfu, hr⟩ := methAt_ok h
  unfold Go.nilAhead
  rw [run_ok_bind (run_typeInfo hi)]
  simp only [hf, hp]
  have hfo : (Go.followBlind [] t (some x)).run P w = .ok (.ok (t, some x)) w := rfl
  rw [run_ok_bind hfo]
  simp only [hfu]
  unfold plainRecv at hr
  cases hu : P.underlying t with
  | none => simp [hu] at hr
  | some d =>
    cases ptr with
    | true => rfl
    | false =>
      simp only
      rw [run_ok_bind (run_underlying hu w)]
      cases d <;> simp [hu] at hr <;> rfl
theorem ok_nilchk (c : Cxt P Γ ι H w ρ L R r) {x : Operand} (ho : o.op = .nilCheck x) (he : evI (.nilchk (methAt P) (r x)) cal Γ L R H n = .ok v H' n') : OpOK P ρ o w (Post P ι H w H' v) := by
  have he' : evNilchk (methAt P) (r x) cal Γ L R H n = .ok v H' n' := he
  unfold evNilchk at he'
  have hx := c.hs x
  cases hsu : sureM (methAt P) (src L R (r x)) with
  | false => simp [hsu] at he'
  | true =>
    simp [hsu] at he'
    obtain ⟨rfl, rfl, rfl⟩ := he'
    refine OpOK.value (x := ρ x) (w' := w) ?_ (Post.pure c.hok hx)
    unfold execOp; rw [ho]
    cases hb : src L R (r x) <;> simp [hb, sureM, sure] at hsu <;> rw [hb] at hx <;> simp only [V.rel] at hx
    case ptr => obtain ⟨_, _, _, e⟩ := hx; simp only [e]; rfl
    case gptr => simp only [hx]; rfl
    case sl => obtain ⟨_, _, _, _, e, _⟩ := hx; simp only [e]; rfl
    case fn => obtain ⟨_, _, e, _⟩ := hx; simp only [e]; rfl
    case ifc => obtain ⟨_, e, _⟩ := hx; simp only [e]; rfl
    case mth m t u =>
      obtain ⟨y, e, _⟩ := hx
      cases hm : methAt P m t with
      | none => simp [hm] at hsu
      | some f =>
        simp only [e]
        have hp : (program).run P w = .ok P w := rfl
        simp only [List.getElem?_toArray, List.getElem?_cons_zero]
        obtain ⟨dk, hdk⟩ : ∃ k, P.types.size + Made.depth = k + 1 := ⟨P.types.size + (Made.depth - 1), by unfold Made.depth; omega⟩
        rw [run_ok_bind hp, hdk, run_ok_bind (run_nilAhead hm _)]
        rfl
theorem ok_mkif (c : Cxt P Γ ι H w ρ L R r) {t : TypeId} {x : Operand} (ho : o.op = .makeInterface t x) (he : evI (opI P r (.makeInterface t x)) cal Γ L R H n = .ok v H' n') :
    OpOK P ρ o w (Post P ι H w H' v) := by
  unfold opI at he
  cases hu : P.underlying t with
  | none => simp [hu] at he; cases he
  | some d =>
    have key : ∀ he' : evMkif t (r x) cal Γ L R H n = .ok v H' n', (Instr.makeInterface t (ρ x)).run P w = .ok (.iface t (ρ x)) w → OpOK P ρ o w (Post P ι H w H' v) := fun he' hrun => by
      unfold evMkif at he'
      cases he'
      exact OpOK.same c (s := Instr.makeInterface t (ρ x)) (by unfold execOp; rw [ho]) hrun (by simp only [V.rel]; exact ⟨_, rfl, c.hs x⟩)
    cases d <;> simp only [hu] at he <;> try (cases he; done)
    all_goals
      refine key he ?_
      unfold Instr.makeInterface
      rw [run_ok_bind (run_underlying hu w)]; rfl
theorem ok_mkmeth (c : Cxt P Γ ι H w ρ L R r) {m : String} {a b : Array Operand} (ho : o.op = .makeFunc (.method m) a b)
    (he : evI (opI P r (.makeFunc (.method m) a b)) cal Γ L R H n = .ok v H' n') : OpOK P ρ o w (Post P ι H w H' v) := by
  unfold opI at he
  obtain ⟨x, ha, hb, he⟩ : ∃ x, a.toList = [x] ∧ b.toList = [] ∧ evI (.mkmeth m (r x)) cal Γ L R H n = .ok v H' n' := by
    cases ha : a.toList with
    | nil => simp only [ha] at he; cases he
    | cons x l =>
      cases l with
      | cons y l => simp only [ha] at he; cases he
      | nil =>
        cases hb : b.toList with
        | cons y l => simp only [ha, hb] at he; cases he
        | nil => simp only [ha, hb] at he; exact ⟨x, rfl, rfl, he⟩
  have he' : evMkmeth m (r x) cal Γ L R H n = .ok v H' n' := he
  unfold evMkmeth at he'
  cases hs : src L R (r x) <;> simp only [hs] at he' <;> try (cases he'; done)
  rename_i t u
  cases he'
  have hx := c.hs x
  rw [hs] at hx
  simp only [V.rel] at hx
  obtain ⟨y, hxe, hy⟩ := hx
  refine OpOK.same c (s := Instr.makeFunc (.method m) (a.map ρ) (b.map ρ)) (x := .func (.method m) (a.map ρ) (b.map ρ)) (by unfold execOp; rw [ho]) rfl ?_
  simp only [V.rel]
  have e1 : a.map ρ = #[.iface t y] := by apply Array.toList_inj.1; rw [Array.toList_map, ha]; simp [hxe]
  have e2 : b.map ρ = #[] := by apply Array.toList_inj.1; rw [Array.toList_map, hb]; simp
  exact ⟨y, by rw [e1, e2], hy⟩
theorem eqGuard_prim {op : BinOp} {t : TypeId} {x y : Operand} {a b : Value} (h1 : ¬ (a = .nilIface)) (h2 : ∀ l, a ≠ .agg l) : (eqGuard op t x y a b).run P w = .ok () w := by
  unfold eqGuard
  by_cases hop : (match op with | .eql => true | .neq => true | _ => false) = true
  · cases op <;> simp at hop <;> cases a <;> simp at h1 h2 <;> rfl
  · cases op <;> simp at hop <;> rfl
theorem ok_bin (c : Cxt P Γ ι H w ρ L R r) {op : BinOp} {t t' : TypeId} {x y : Operand} (ho : o.op = .binOp op t x y t') (he : evI (.bin op (r x) (r y)) cal Γ L R H n = .ok v H' n') :
    OpOK P ρ o w (Post P ι H w H' v) := by
  have he' : evBin op (r x) (r y) cal Γ L R H n = .ok v H' n' := he
  obtain ⟨h1, rfl, rfl⟩ := ret_some he'
  have hx := c.hs x
  have hy := c.hs y
  have key : ∃ z, (binOp op t (ρ x) (ρ y)).run P w = .ok z w ∧ V.rel ι v z ∧ ¬ (ρ x = .nilIface) ∧ (∀ l, ρ x ≠ .agg l) := by
    unfold binG at h1
    cases hb : binOf op (src L R (r x)) (src L R (r y)) with
    | none =>
      simp only [hb] at h1
      obtain ⟨z, k, a, hz, hv, he⟩ := toldOf_ok (P := P) (w := w) c.gok.tab h1 hx hy t
      exact ⟨z, hz, hv, by rw [he]; simp, by rw [he]; simp⟩
    | some v0 =>
    simp only [hb, Option.some.injEq] at h1
    rw [h1] at hb
    clear h1
    have h1 := hb
    clear hb
    unfold binOf at h1
    have viaSym : symBin op (src L R (r x)) (src L R (r y)) = some v → ∃ z, (binOp op t (ρ x) (ρ y)).run P w = .ok z w ∧ V.rel ι v z ∧ ¬ (ρ x = .nilIface) ∧ (∀ l, ρ x ≠ .agg l) := by
      intro hs
      obtain ⟨z, k, a, hz, hv, he⟩ := symBin_ok (P := P) (w := w) hs hx hy t
      exact ⟨z, hz, hv, by rw [he]; simp, by rw [he]; simp⟩
    cases hu : src L R (r x) <;> simp only [hu] at h1 <;> try (exact viaSym (by rw [hu]; exact h1))
    case int k a =>
      cases hw : src L R (r y) <;> simp only [hw] at h1 <;> try (exact viaSym (by rw [hu, hw]; exact h1))
      rw [hu] at hx; simp only [V.rel] at hx
      rename_i j b
      rw [hw] at hy; simp only [V.rel] at hy
      rw [hx, hy]
      have done : ∀ op', op = op' → (op' ≠ .shl) → (op' ≠ .shr) → (match keq k j with | true => intBin op' k a b | false => none) = some v →
          ∃ z, (binOp op t (.int k a) (.int j b)).run P w = .ok z w ∧ V.rel ι v z ∧ ¬ (Value.int k a = .nilIface) ∧ (∀ l, Value.int k a ≠ .agg l) := by
        intro op' e _ _ h
        subst e
        cases hk : keq k j with
        | false => simp [hk] at h
        | true =>
          have := (keq_iff k j).1 hk
          subst this
          simp only [hk] at h
          obtain ⟨z, hz, hv, ht⟩ := intBin_ok (P := P) (w := w) (ι := ι) h
          exact ⟨z, by rw [ht t]; exact hz, hv, by simp, by simp⟩
      cases op <;> simp at h1
      case shl => obtain ⟨z, hz, hv⟩ := shift_ok (P := P) (w := w) (ι := ι) (j := j) h1 t; exact ⟨z, by simpa using hz, hv, by simp, by simp⟩
      case shr => obtain ⟨z, hz, hv⟩ := shift_ok (P := P) (w := w) (ι := ι) (j := j) h1 t; exact ⟨z, by simpa using hz, hv, by simp, by simp⟩
      all_goals exact done _ rfl (by simp) (by simp) h1
    case str s =>
      cases hw : src L R (r y) <;> simp only [hw] at h1 <;> try (exact viaSym (by rw [hu, hw]; exact h1))
      rw [hu] at hx; simp only [V.rel] at hx
      obtain ⟨a, hxa, rfl⟩ := hx
      rw [hw] at hy; simp only [V.rel] at hy
      obtain ⟨b, hyb, rfl⟩ := hy
      rw [hxa, hyb]
      obtain ⟨z, hz, hv⟩ := strBin_ok (P := P) (w := w) (ι := ι) h1 t
      exact ⟨z, hz, hv, by simp, by simp⟩
  obtain ⟨z, hz, hv, g1, g2⟩ := key
  refine OpOK.same c (s := do eqGuard op t x y (ρ x) (ρ y); binOp op t (ρ x) (ρ y)) (by unfold execOp; rw [ho]) ?_ hv
  rw [run_ok_bind (eqGuard_prim g1 g2)]
  exact hz
theorem ok_un (c : Cxt P Γ ι H w ρ L R r) {op : UnOp} {t : TypeId} {x : Operand} (ho : o.op = .unOp op t x) (he : evI (.un op (r x)) cal Γ L R H n = .ok v H' n') :
    OpOK P ρ o w (Post P ι H w H' v) := by
  have he' : evUn op (r x) cal Γ L R H n = .ok v H' n' := he
  obtain ⟨h1, rfl, rfl⟩ := ret_some he'
  obtain ⟨z, hz, hv⟩ := unOf_ok (P := P) (w := w) (ι := ι) h1 (c.hs x)
  exact OpOK.same c (s := Op.unary op (ρ x)) (by unfold execOp; rw [ho]) hz hv
theorem ok_extract (c : Cxt P Γ ι H w ρ L R r) {x : Operand} {i : Nat} (ho : o.op = .extract x i) (he : evI (.extract (r x) i) cal Γ L R H n = .ok v H' n') :
    OpOK P ρ o w (Post P ι H w H' v) := by
  have he' : evExtract (r x) i cal Γ L R H n = .ok v H' n' := he
  unfold evExtract at he'
  have hx := c.hs x
  cases hu : src L R (r x) <;> simp [hu] at he'
  rename_i l
  obtain ⟨h1, rfl, rfl⟩ := ret_some he'
  rw [nth_eq] at h1
  rw [hu] at hx; simp only [V.rel] at hx
  obtain ⟨cs, hxe, hl⟩ := hx
  obtain ⟨y, hy, hv⟩ := rels_get hl h1
  refine OpOK.same c (s := Instr.extract (ρ x) i) (x := y) (by unfold execOp; rw [ho]) ?_ hv
  rw [hxe]
  have hy' : cs[i]? = some y := by simpa using hy
  simp only [Instr.extract, hy']; rfl
theorem srcs_rels (hs : ∀ x, V.rel ι (src L R (r x)) (ρ x)) : ∀ xs : List Operand, V.rels ι (srcs L R (xs.map r)) (xs.map ρ)
  | [] => rels_nil
  | x :: t => rels_cons (hs x) (srcs_rels hs t)
theorem ok_mkfn (c : Cxt P Γ ι H w ρ L R r) {f : Nat} {a b : Array Operand} (ho : o.op = .makeFunc (.func f) a b)
    (he : evI (.mkfn f (a.toList.map r) (b.toList.map r)) cal Γ L R H n = .ok v H' n') : OpOK P ρ o w (Post P ι H w H' v) := by
  have he' : Res.ok (.fn f (srcs L R (a.toList.map r)) (srcs L R (b.toList.map r))) H n = .ok v H' n' := he
  simp at he'; obtain ⟨rfl, rfl, rfl⟩ := he'
  refine OpOK.same c (s := Instr.makeFunc (.func f) (a.map ρ) (b.map ρ)) (x := .func (.func f) (a.map ρ) (b.map ρ)) (by unfold execOp; rw [ho]) rfl ?_
  simp only [V.rel]
  exact ⟨_, _, rfl, by simpa using srcs_rels c.hs a.toList, by simpa using srcs_rels c.hs b.toList⟩
theorem addrPlus_ok {u v : V} {x : Value} {m : Nat} (h : addrPlus u m = some v) (hr : V.rel ι u x) : ∃ a, x = .pointer (some a) ∧ V.rel ι v (.pointer (some (a.add m))) := by
  cases u <;> simp [addrPlus] at h
  · subst h
    simp only [V.rel] at hr ⊢
    obtain ⟨b, s, hp, rfl⟩ := hr
    exact ⟨_, rfl, b, s, hp, by rw [addr_add, Nat.add_assoc]⟩
  · subst h
    simp only [V.rel] at hr ⊢
    exact ⟨_, hr, by rw [addr_add]⟩
theorem ok_faddr (c : Cxt P Γ ι H w ρ L R r) {t : TypeId} {x : Operand} {f : Nat} (ho : o.op = .fieldAddr t x f) (he : evI (opI P r (.fieldAddr t x f)) cal Γ L R H n = .ok v H' n') :
    OpOK P ρ o w (Post P ι H w H' v) := by
  unfold opI at he
  cases hu : P.underlying t with
  | none => simp [hu] at he; cases he
  | some d =>
    cases d <;> simp only [hu] at he <;> try (cases he; done)
    rename_i fs
    cases hf : fs[f]? with
    | none => simp [hf] at he; cases he
    | some g =>
      cases hsz : sizeT P g.type with
      | none => simp [hf, hsz] at he; cases he
      | some m =>
        cases m with
        | zero => simp [hf, hsz] at he; cases he
        | succ m =>
          have he' : evFaddr (r x) g.offset cal Γ L R H n = .ok v H' n' := by simp only [hf, hsz] at he; exact he
          obtain ⟨h1, rfl, rfl⟩ := ret_some he'
          obtain ⟨a, hx, hv⟩ := addrPlus_ok h1 (c.hs x)
          refine OpOK.same c (s := Instr.fieldAt t (ρ x) f) (by unfold execOp; rw [ho]) ?_ hv
          unfold Instr.fieldAt
          rw [run_ok_bind (run_underlying hu w)]
          simp only [hf, hx, Instr.sureAddr]
          rw [run_ok_bind (run_ofPure a)]
          unfold fieldPlace
          have : (do if (← sizeOf g.type) = 0 then partAt a g.offset g.byteOffset else pure (a.add g.offset) : Sem Addr).run P w = .ok (a.add g.offset) w := by
            rw [run_ok_bind (run_sizeOf hsz)]; simp []
          rw [run_ok_bind this]; rfl
end
end
end Go.Ev
/-
  A verified evaluator, part 11: indexing, fields, slices of slices, conversions, lengths, comparisons.
-/
namespace Go.Ev
noncomputable section
open Go

section
variable {P : Program} {Γ : Glo} {ι : Emb} {H H' : Heap} {w : World} {ρ : Operand → Value} {L : List V} {R : Regs} {r : Operand → Src} {cal : Cal} {n n' : Pth} {v : V} {o : Oper}

theorem ok_xaddr (c : Cxt P Γ ι H w ρ L R r) {t : TypeId} {x i : Operand} (ho : o.op = .indexAddr t x i) (he : evI (opI P r (.indexAddr t x i)) cal Γ L R H n = .ok v H' n') :
    OpOK P ρ o w (Post P ι H w H' v) := by
  unfold opI at he
  have hi := c.hs i
  have hx := c.hs x
  cases hu : P.underlying t with
  | none => simp [hu] at he; cases he
  | some d =>
    cases d <;> simp only [hu] at he <;> try (cases he; done)
    case slice e =>
      cases hsz : sizeT P e with
      | none => simp [hsz] at he; cases he
      | some k =>
        have he' : evXaddr (.sl k) (r x) (r i) cal Γ L R H n = .ok v H' n' := by simp only [hsz] at he; exact he
        unfold evXaddr at he'
        cases hbi : src L R (r i) <;> simp only [hbi] at he' <;> try (cases he'; done)
        case sym q kd lo1 hi1 =>
          cases kd <;> simp only at he' <;> try (cases he'; done)
          cases hbx : src L R (r x) <;> simp only [hbx] at he' <;> try (cases he'; done)
          rename_i p j
          cases hs1 : Nat.beq k 1 <;> cases hl0 : ilt lo1 0 <;> simp only [hs1, hl0] at he' <;> try (cases he'; done)
          split at he' <;> try (cases he'; done)
          rename_i hless
          cases he'
          have := beq_eq hs1; subst this
          rw [hbi] at hi; rw [hbx] at hx
          obtain ⟨k2, a2, b2, e1, e2, hd⟩ := lessG_ok c.gok.tab hless (x := ρ i) (y := .int .i64 (ι.sym j)) hi (by
            simp only [V.rel] at hx ⊢
            obtain ⟨_, m, _, _, h0, h1, _⟩ := hx
            exact ⟨trivial, by omega, h1⟩)
          simp only [V.rel] at hi hx
          obtain ⟨a, m, cc, hxe, hm, _, hb⟩ := hx
          obtain ⟨hie, hlo, _⟩ := hi
          rw [hie] at e1; cases e1
          cases e2
          rw [ilt_eq] at hl0
          have hl1 : 0 ≤ lo1 := by simpa using hl0
          have hlt : ι.sym q < ι.sym j := by simpa using hd
          obtain ⟨b, s, rfl, hp⟩ := hb (by omega)
          refine OpOK.same c (s := Instr.indexAt t (ρ x) (ρ i)) (x := .pointer (some ⟨b, s + (ι.sym q).toNat, none⟩)) (by unfold execOp; rw [ho]) ?_ (by simp only [V.rel]; exact ⟨b, s, hp, rfl⟩)
          unfold Instr.indexAt
          rw [hie, hxe]
          simp only [asIntOf]
          rw [run_ok_bind (run_ofPure _)]
          simp only []
          rw [run_ok_bind (run_underlying hu w)]
          simp only []
          rw [run_ok_bind (run_ofPure _)]
          simp only []
          rw [run_ok_bind (run_underlying hu w)]
          simp only []
          have hc1 : (0 ≤ ι.sym q ∧ ι.sym q < (m : Int)) := by omega
          rw [if_pos hc1, run_ok_bind (run_sizeOf hsz), addr_add]
          simp []
        rename_i ik m
        cases m <;> simp at he'
        rename_i j
        cases hbx : src L R (r x) <;> simp [hbx] at he'
        rename_i p off m cp ex
        cases hlt : Nat.blt j m with
        | false => simp [hlt] at he'
        | true =>
          simp [hlt] at he'
          obtain ⟨rfl, rfl, rfl⟩ := he'
          rw [hbi] at hi; rw [hbx] at hx
          simp only [V.rel] at hi hx
          obtain ⟨b, s, c', hp, hxe, _⟩ := hx
          have hjm := blt_lt hlt
          refine OpOK.same c (s := Instr.indexAt t (ρ x) (ρ i)) (x := .pointer (some ⟨b, s + (off + j * k), none⟩)) (by unfold execOp; rw [ho]) ?_ (by simp only [V.rel]; exact ⟨b, s, hp, rfl⟩)
          unfold Instr.indexAt
          rw [hi, hxe]
          simp only [asIntOf]
          rw [run_ok_bind (run_ofPure _)]
          simp only []
          rw [run_ok_bind (run_underlying hu w)]
          simp only []
          rw [run_ok_bind (run_ofPure _)]
          simp only []
          rw [run_ok_bind (run_underlying hu w)]
          simp only []
          have hc1 : (0 ≤ Int.ofNat j ∧ Int.ofNat j < (m : Int)) := by simp only [Int.ofNat_eq_natCast]; omega
          rw [if_pos hc1, run_ok_bind (run_sizeOf hsz), addr_add]
          simp [Nat.add_assoc]
    case array m e =>
      cases hsz : sizeT P e with
      | none => simp [hsz] at he; cases he
      | some k =>
        have he' : evXaddr (.arr m k) (r x) (r i) cal Γ L R H n = .ok v H' n' := by simp only [hsz] at he; exact he
        unfold evXaddr at he'
        cases hbi : src L R (r i) <;> simp [hbi] at he'
        case sym q kd lo1 hi1 => cases kd <;> simp at he'
        rename_i ik mm
        cases mm <;> simp at he'
        rename_i j
        cases hlt : Nat.blt j m with
        | false => simp [hlt] at he'
        | true =>
          simp only [hlt] at he'
          obtain ⟨h1, rfl, rfl⟩ := ret_some he'
          obtain ⟨a, hxe, hv⟩ := addrPlus_ok h1 hx
          rw [hbi] at hi
          simp only [V.rel] at hi
          have hjm := blt_lt hlt
          refine OpOK.same c (s := Instr.indexAt t (ρ x) (ρ i)) (x := .pointer (some (a.add (j * k)))) (by unfold execOp; rw [ho]) ?_ hv
          unfold Instr.indexAt
          rw [hi, hxe]
          simp only [asIntOf]
          rw [run_ok_bind (run_ofPure _)]
          simp only []
          rw [run_ok_bind (run_underlying hu w)]
          simp only [Instr.sureAddr]
          rw [run_ok_bind (run_ofPure a), run_ok_bind (run_ofPure _)]
          simp only []
          rw [run_ok_bind (run_underlying hu w)]
          simp only []
          have hc1 : (0 ≤ Int.ofNat j ∧ Int.ofNat j < (m : Int)) := by simp only [Int.ofNat_eq_natCast]; omega
          rw [if_pos hc1, run_ok_bind (run_sizeOf hsz)]
          simp []
theorem part_ok {t : TypeId} {b : Bool} {k : Nat} {cs : Array Value} {l : List V} {off : Nat} (hag : aggT P t = some b) (hsz : sizeT P t = some k) (hl : V.rels ι l cs.toList) (h : partOf l off k b = some v) :
    ∃ y, (part t cs off).run P w = .ok y w ∧ V.rel ι v y := by
  unfold partOf at h
  unfold part
  cases b with
  | true =>
    simp only [takeN_eq, dropN_eq] at h
    by_cases hk : k ≤ (l.drop off).length
    · rw [if_pos hk] at h
      simp at h; subst h
      refine ⟨.agg (cs.extract off (off + k)), ?_, ?_⟩
      · rw [run_ok_bind (run_isAgg hag)]
        simp only [if_true]
        rw [run_ok_bind (run_sizeOf hsz)]; rfl
      · simp only [V.rel]
        refine ⟨_, rfl, ?_⟩
        have := rels_take k (rels_drop off hl)
        rw [Array.toList_extract, List.extract_eq_take_drop]
        simpa using this
    · rw [if_neg hk] at h; simp at h
  | false =>
    simp only [nth_eq] at h
    obtain ⟨y, hy, hv⟩ := rels_get hl h
    refine ⟨y, ?_, hv⟩
    rw [run_ok_bind (run_isAgg hag)]
    have hy' : cs[off]? = some y := by simpa using hy
    simp only [Bool.false_eq_true, if_false, hy']; rfl
theorem ok_field (c : Cxt P Γ ι H w ρ L R r) {t : TypeId} {x : Operand} {f : Nat} (ho : o.op = .field t x f) (he : evI (opI P r (.field t x f)) cal Γ L R H n = .ok v H' n') :
    OpOK P ρ o w (Post P ι H w H' v) := by
  unfold opI at he
  cases hu : P.underlying t with
  | none => simp [hu] at he; cases he
  | some d =>
    cases d <;> simp only [hu] at he <;> try (cases he; done)
    rename_i fs
    cases hf : fs[f]? with
    | none => simp [hf] at he; cases he
    | some g =>
      cases hag : aggT P g.type with
      | none => simp [hf, hag] at he; cases he
      | some b =>
        cases hsz : sizeT P g.type with
        | none => simp [hf, hag, hsz] at he; cases he
        | some m =>
          have he' : evField (r x) g.offset m b cal Γ L R H n = .ok v H' n' := by simp only [hf, hag, hsz] at he; exact he
          unfold evField at he'
          have hx := c.hs x
          cases hbx : src L R (r x) <;> simp [hbx] at he'
          obtain ⟨h1, rfl, rfl⟩ := ret_some he'
          rw [hbx] at hx; simp only [V.rel] at hx
          obtain ⟨cs, hxe, hl⟩ := hx
          obtain ⟨y, hrun, hv⟩ := part_ok (w := w) hag hsz hl h1
          refine OpOK.same c (s := Instr.field t (ρ x) f) (by unfold execOp; rw [ho]) ?_ hv
          unfold Instr.field
          rw [run_ok_bind (run_underlying hu w)]
          simp only [hf, hxe, asAgg]
          rw [run_ok_bind (run_ofPure cs)]
          exact hrun
theorem ok_index (c : Cxt P Γ ι H w ρ L R r) {t : TypeId} {x i : Operand} (ho : o.op = .index t x i) (he : evI (opI P r (.index t x i)) cal Γ L R H n = .ok v H' n') :
    OpOK P ρ o w (Post P ι H w H' v) := by
  unfold opI at he
  have hi := c.hs i
  have hx := c.hs x
  cases hu : P.underlying t with
  | none => simp [hu] at he; cases he
  | some d =>
    cases d <;> simp only [hu] at he <;> try (cases he; done)
    case string =>
      have he' : evIdxs (r x) (r i) cal Γ L R H n = .ok v H' n' := he
      unfold evIdxs at he'
      cases hbi : src L R (r i) <;> simp [hbi] at he'
      rename_i ik m
      cases m <;> simp at he'
      rename_i j
      cases hbx : src L R (r x) <;> simp [hbx] at he'
      rename_i s
      rw [nth_eq] at he'
      cases hj : s[j]? with
      | none => simp [hj] at he'
      | some b =>
        simp [hj] at he'
        obtain ⟨rfl, rfl, rfl⟩ := he'
        rw [hbi] at hi; rw [hbx] at hx
        simp only [V.rel] at hi hx
        obtain ⟨bs, hxe, rfl⟩ := hx
        rw [List.getElem?_map] at hj
        cases hb : bs.data.toList[j]? with
        | none => simp [hb] at hj
        | some y =>
          simp [hb] at hj
          subst hj
          refine OpOK.same c (s := Instr.index t (ρ x) (ρ i)) (x := .int .u8 (y.toNat : Int)) (by unfold execOp; rw [ho]) ?_ (by simp [V.rel])
          have hy : bs[j]? = some y := by
            have h2 := List.getElem?_eq_some_iff.1 hb
            obtain ⟨h3, h4⟩ := h2
            have h5 : j < bs.size := by simpa using h3
            have : bs[j]? = some bs[j] := by simp [h5]
            rw [this]
            congr 1
          unfold Instr.index
          rw [hi, hxe]
          simp only [asIntOf]
          rw [run_ok_bind (run_ofPure _)]
          simp only []
          rw [run_ok_bind (run_underlying hu w)]
          have h0 : (0 ≤ Int.ofNat j) := by simp only [Int.ofNat_eq_natCast]; omega
          have e1 : (Int.ofNat j).toNat = j := rfl
          simp only [if_pos h0, e1, hy]; rfl
    case array m e =>
      cases hsz : sizeT P e with
      | none => simp [hsz] at he; cases he
      | some k =>
        cases hag : aggT P e with
        | none => simp [hsz, hag] at he; cases he
        | some b =>
          have he' : evIdxa m k b (r x) (r i) cal Γ L R H n = .ok v H' n' := by simp only [hsz, hag] at he; exact he
          unfold evIdxa at he'
          cases hbi : src L R (r i) <;> simp [hbi] at he'
          rename_i ik mm
          cases mm <;> simp at he'
          rename_i j
          cases hbx : src L R (r x) <;> simp [hbx] at he'
          rename_i l
          cases hlt : Nat.blt j m with
          | false => simp [hlt] at he'
          | true =>
            simp only [hlt] at he'
            obtain ⟨h1, rfl, rfl⟩ := ret_some he'
            rw [hbi] at hi; rw [hbx] at hx
            simp only [V.rel] at hi hx
            obtain ⟨cs, hxe, hl⟩ := hx
            obtain ⟨y, hrun, hv⟩ := part_ok (w := w) hag hsz hl h1
            have hjm := blt_lt hlt
            refine OpOK.same c (s := Instr.index t (ρ x) (ρ i)) (by unfold execOp; rw [ho]) ?_ hv
            unfold Instr.index
            rw [hi, hxe]
            simp only [asIntOf]
            rw [run_ok_bind (run_ofPure _)]
            simp only []
            rw [run_ok_bind (run_underlying hu w)]
            simp only []
            have hc1 : (0 ≤ Int.ofNat j ∧ Int.ofNat j < (m : Int)) := by simp only [Int.ofNat_eq_natCast]; omega
            rw [if_pos hc1, run_ok_bind (run_sizeOf hsz)]
            exact hrun

/- s[lo:hi:mx] -/
theorem bound_some {d : Nat} {s : Option Operand} {a : Nat} (hs : ∀ x, V.rel ι (src L R (r x)) (ρ x)) (h : bound? L R d (s.map r) = some a) :
    (s = none ∧ a = d) ∨ ∃ y k, s = some y ∧ ρ y = .int k (a : Int) := by
  cases s with
  | none => simp [bound?] at h; exact .inl ⟨rfl, h.symm⟩
  | some y =>
    right
    simp only [Option.map_some, bound?] at h
    have hy := hs y
    cases hb : src L R (r y) <;> simp [hb] at h
    rename_i k m
    cases m <;> simp at h
    subst h
    rw [hb] at hy; simp only [V.rel] at hy
    exact ⟨y, k, rfl, hy⟩
theorem run_sliceBound {x : Value} {k : IntKind} {a y : Nat} {code : BoundsCode} (hx : x = .int k (a : Int)) (h : a ≤ y) : (Instr.sliceBound x y code).run P w = .ok a w := by
  unfold Instr.sliceBound
  rw [hx]
  simp only [asIntOf]
  rw [run_ok_bind (run_ofPure _)]
  simp only []
  rw [if_pos (by omega)]; simp []
theorem run_sliceBounds (hs : ∀ x, V.rel ι (src L R (r x)) (ρ x)) {isSlice : Bool} {m cp a b d : Nat} {lo hi mx : Option Operand}
    (hlo : bound? L R 0 (lo.map r) = some a) (hhi : bound? L R m (hi.map r) = some b) (hmx : bound? L R cp (mx.map r) = some d)
    (h1 : a ≤ b) (h2 : b ≤ d) (h3 : d ≤ cp) (hmh : mx = none ∨ hi.isSome = true) (cap' : Nat) (hcap : mx = none ∨ cp ≤ cap') (hcp : mx = none → b ≤ cap') :
    (Instr.sliceBounds isSlice m cap' (lo.map ρ) (hi.map ρ) (mx.map ρ)).run P w = .ok (a, b, if mx.isSome then d else cap') w := by
  unfold Instr.sliceBounds
  rcases bound_some hs hlo with ⟨rfl, rfl⟩ | ⟨yl, kl, rfl, el⟩ <;> rcases bound_some hs hhi with ⟨rfl, rfl⟩ | ⟨yh, kh, rfl, eh⟩ <;> rcases bound_some hs hmx with ⟨rfl, rfl⟩ | ⟨ym, km, rfl, em⟩
  · simp []
  · simp at hmh
  · simp only [Option.map_none, Option.map_some]
    rw [run_ok_bind (run_ofPure _)]
    try simp only []
    rw [run_ok_bind (run_sliceBound eh (hcp rfl))]
    try simp only []
    rw [run_ok_bind (run_ofPure _)]; rfl
  · simp only [Option.map_none, Option.map_some]
    rw [run_ok_bind (run_sliceBound em (by rcases hcap with h | h; cases h; omega))]
    try simp only []
    rw [run_ok_bind (run_sliceBound eh h2)]
    try simp only []
    rw [run_ok_bind (run_ofPure _)]; rfl
  · simp only [Option.map_none, Option.map_some]
    rw [run_ok_bind (run_ofPure _)]
    try simp only []
    rw [run_ok_bind (run_ofPure _)]
    try simp only []
    rw [run_ok_bind (run_sliceBound el h1)]; rfl
  · simp at hmh
  · simp only [Option.map_none, Option.map_some]
    rw [run_ok_bind (run_ofPure _)]
    try simp only []
    rw [run_ok_bind (run_sliceBound eh (hcp rfl))]
    try simp only []
    rw [run_ok_bind (run_sliceBound el h1)]; rfl
  · simp only [Option.map_some]
    rw [run_ok_bind (run_sliceBound em (by rcases hcap with h | h; cases h; omega))]
    try simp only []
    rw [run_ok_bind (run_sliceBound eh h2)]
    try simp only []
    rw [run_ok_bind (run_sliceBound el h1)]; rfl
end
end
end Go.Ev
/-
  A verified evaluator, part 12: slices of slices, conversions, comparisons, lengths, aggregates.
-/
namespace Go.Ev
noncomputable section
open Go

section
variable {P : Program} {Γ : Glo} {ι : Emb} {H H' : Heap} {w : World} {ρ : Operand → Value} {L : List V} {R : Regs} {r : Operand → Src} {cal : Cal} {n n' : Pth} {v : V} {o : Oper}

theorem addr_add_zero (a : Addr) : a.add 0 = a := by simp [Addr.add]
theorem hmOK_some {mx hi : Option Operand} (h : hmOK (mx.map r) (hi.map r) = true) : mx = none ∨ hi.isSome = true := by
  cases mx <;> cases hi <;> simp [hmOK] at h <;> simp
theorem bytes_extract (s : ByteArray) (a b : Nat) (_h1 : a ≤ b) (_h2 : b ≤ s.size) : (s.extract a b).data.toList = (s.data.toList.drop a).take (b - a) := by
  simp [ByteArray.data_extract, Array.toList_extract, List.extract_eq_take_drop]
theorem ok_slice (c : Cxt P Γ ι H w ρ L R r) {t : TypeId} {x : Operand} {lo hi mx : Option Operand} (ho : o.op = .slice t x lo hi mx)
    (he : evI (opI P r (.slice t x lo hi mx)) cal Γ L R H n = .ok v H' n') : OpOK P ρ o w (Post P ι H w H' v) := by
  unfold opI at he
  have hx := c.hs x
  cases hu : P.underlying t with
  | none => simp [hu] at he; cases he
  | some d =>
    cases d <;> simp only [hu] at he <;> try (cases he; done)
    case string =>
      have he' : evSlice .str (r x) (lo.map r) (hi.map r) (mx.map r) cal Γ L R H n = .ok v H' n' := he
      unfold evSlice at he'
      simp only at he'
      cases hbx : src L R (r x) <;> simp only [hbx] at he' <;> try (cases he'; done)
      rename_i s
      cases hl : bound? L R 0 (lo.map r) with
      | none => simp [hl] at he'
      | some a =>
        cases hh : bound? L R (len s) (hi.map r) with
        | none => simp [hl, hh] at he'
        | some b =>
          cases mx with
          | some m => simp [hl, hh] at he'
          | none =>
            simp only [hl, hh, Option.map_none] at he'
            cases h1 : Nat.ble a b with
            | false => simp [h1] at he'
            | true =>
              cases h2 : Nat.ble b (len s) with
              | false => simp [h1, h2] at he'
              | true =>
                simp only [h1, h2] at he'
                obtain ⟨h3, rfl, rfl⟩ := ret_some he'
                rw [hbx] at hx
                simp only [V.rel] at hx
                obtain ⟨bs, hxe, rfl⟩ := hx
                have l1 := ble_le h1
                have l2 := ble_le h2
                rw [len_eq] at l2 hh
                simp at l2 hh
                rw [takeN_eq, dropN_eq] at h3
                by_cases hle : b - a ≤ ((bs.data.toList.map UInt8.toNat).drop a).length
                · rw [if_pos hle] at h3
                  simp at h3; subst h3
                  have hsz : bs.data.size = bs.size := rfl
                  refine OpOK.same c (s := Instr.sliceAt t (ρ x) (lo.map ρ) (hi.map ρ) none) (x := .string (bs.extract a b)) (by unfold execOp; rw [ho]; rfl) ?_ ?_
                  · unfold Instr.sliceAt
                    rw [run_ok_bind (run_underlying hu w)]
                    simp only []
                    unfold Instr.slice
                    rw [run_ok_bind (run_underlying hu w), hxe]
                    simp only [Option.isSome_none, Bool.false_eq_true, if_false]
                    have hb := run_sliceBounds (P := P) (w := w) (isSlice := false) (m := bs.size) (cp := bs.size) (a := a) (b := b) (d := bs.size) (lo := lo) (hi := hi) (mx := none) c.hs hl (by rw [← hsz]; exact hh) rfl l1 (by rw [← hsz]; exact l2) (Nat.le_refl _) (.inl rfl) bs.size (.inl rfl) (fun _ => by rw [← hsz]; exact l2)
                    simp only [Option.map_none] at hb
                    rw [run_ok_bind hb]; rfl
                  · simp only [V.rel]
                    refine ⟨_, rfl, ?_⟩
                    rw [bytes_extract bs a b l1 (by rw [← hsz]; exact l2)]
                    simp [List.map_take, List.map_drop]
                · rw [if_neg hle] at h3; simp at h3
    case slice e =>
      cases hsz : sizeT P e with
      | none => simp [hsz] at he; cases he
      | some k =>
        have he' : evSlice (.sl k) (r x) (lo.map r) (hi.map r) (mx.map r) cal Γ L R H n = .ok v H' n' := by simp only [hsz] at he; exact he
        unfold evSlice at he'
        simp only at he'
        cases hm : hmOK (mx.map r) (hi.map r) with
        | false => simp [hm] at he'
        | true =>
        have hm' := hmOK_some hm
        simp only [hm] at he'
        cases hbx : src L R (r x) <;> simp only [hbx] at he' <;> try (cases he'; done)
        case nilsl =>
          cases hl : bound? L R 0 (lo.map r) with
          | none => simp [hl] at he'
          | some a =>
            cases hh : bound? L R 0 (hi.map r) with
            | none => simp [hl, hh] at he'
            | some b =>
              cases hmm : bound? L R 0 (mx.map r) with
              | none => simp [hl, hh, hmm] at he'
              | some d =>
                simp only [hl, hh, hmm] at he'
                cases h1 : Nat.beq a 0 <;> cases h2 : Nat.beq b 0 <;> cases h3 : Nat.beq d 0 <;> simp [h1, h2, h3] at he'
                obtain ⟨rfl, rfl, rfl⟩ := he'
                have := beq_eq h1; subst this
                have := beq_eq h2; subst this
                have := beq_eq h3; subst this
                rw [hbx] at hx
                simp only [V.rel] at hx
                refine OpOK.same c (s := Instr.sliceAt t (ρ x) (lo.map ρ) (hi.map ρ) (mx.map ρ)) (x := .slice none 0 0) (by unfold execOp; rw [ho]) ?_ (by simp [V.rel])
                unfold Instr.sliceAt
                rw [run_ok_bind (run_underlying hu w)]
                simp only []
                unfold Instr.slice
                rw [run_ok_bind (run_underlying hu w), hx]
                simp only []
                have hb := run_sliceBounds (P := P) (w := w) (isSlice := true) (m := 0) (cp := 0) (a := 0) (b := 0) (d := 0) (lo := lo) (hi := hi) (mx := mx) c.hs hl hh hmm (Nat.le_refl _) (Nat.le_refl _) (Nat.le_refl _) hm' 0 (.inr (Nat.le_refl _)) (fun _ => Nat.le_refl _)
                rw [run_ok_bind hb]
                simp only []
                rw [run_ok_bind (run_sizeOf hsz)]
                cases mx <;> simp []
        case sl0 zc =>
          cases hl : bound? L R 0 (lo.map r) with
          | none => simp [hl] at he'
          | some a =>
            cases hh : bound? L R 0 (hi.map r) with
            | none => simp [hl, hh] at he'
            | some b =>
              cases hmm : bound? L R 0 (mx.map r) with
              | none => simp [hl, hh, hmm] at he'
              | some d =>
                simp only [hl, hh, hmm] at he'
                cases h1 : Nat.beq a 0 <;> cases h2 : Nat.beq b 0 <;> cases h3 : Nat.beq d 0 <;> simp [h1, h2, h3] at he'
                obtain ⟨rfl, rfl, rfl⟩ := he'
                have := beq_eq h1; subst this
                have := beq_eq h2; subst this
                have := beq_eq h3; subst this
                rw [hbx] at hx
                simp only [V.rel] at hx
                obtain ⟨ad, c', hxe, hz⟩ := hx
                have hb := run_sliceBounds (P := P) (w := w) (isSlice := true) (m := 0) (cp := 0) (a := 0) (b := 0) (d := 0) (lo := lo) (hi := hi) (mx := mx) c.hs hl hh hmm (Nat.le_refl _) (Nat.le_refl _) (Nat.le_refl _) hm' c' (.inr (Nat.zero_le _)) (fun _ => Nat.zero_le _)
                refine OpOK.same c (s := Instr.sliceAt t (ρ x) (lo.map ρ) (hi.map ρ) (mx.map ρ)) (x := .slice (if (if mx.isSome then 0 else c') = 0 then some ad else (some ad).map (·.add (0 * k))) 0 ((if mx.isSome then 0 else c') - 0)) (by unfold execOp; rw [ho]) ?_ ?_
                · unfold Instr.sliceAt
                  rw [run_ok_bind (run_underlying hu w)]
                  simp only []
                  unfold Instr.slice
                  rw [run_ok_bind (run_underlying hu w), hxe]
                  simp only []
                  rw [run_ok_bind hb]
                  simp only []
                  rw [run_ok_bind (run_sizeOf hsz)]; rfl
                · simp only [V.rel]
                  refine ⟨ad, (if mx.isSome then 0 else c') - 0, ?_, fun hz' => ?_⟩
                  · simp only [Nat.zero_mul, Option.map_some, addr_add_zero, ite_self]
                  · cases mx with
                    | none => simp at hz'; simpa using hz hz'
                    | some y => simp
        case sl p off m cp ex =>
          cases hl : bound? L R 0 (lo.map r) with
          | none => simp [hl] at he'
          | some a =>
            cases hh : bound? L R m (hi.map r) with
            | none => simp [hl, hh] at he'
            | some b =>
              cases hmm : bound? L R cp (mx.map r) with
              | none => simp [hl, hh, hmm] at he'
              | some d =>
                simp only [hl, hh, hmm] at he'
                cases h1 : Nat.ble a b with
                | false => simp [h1] at he'
                | true =>
                cases h2 : Nat.ble b d with
                | false => simp [h1, h2] at he'
                | true =>
                cases h3 : Nat.ble d cp with
                | false => simp [h1, h2, h3] at he'
                | true =>
                simp only [h1, h2, h3] at he'
                have l1 := ble_le h1
                have l2 := ble_le h2
                have l3 := ble_le h3
                rw [hbx] at hx
                simp only [V.rel] at hx
                obtain ⟨bk, s, c', hp, hxe, hcc, hex⟩ := hx
                have hdm : mx = none → d = cp := fun e => by subst e; simp [bound?] at hmm; exact hmm.symm
                have hb := run_sliceBounds (P := P) (w := w) (isSlice := true) (m := m) (cp := cp) (a := a) (b := b) (d := d) (lo := lo) (hi := hi) (mx := mx) c.hs hl hh hmm l1 l2 l3 hm' c' (.inr hcc) (fun e => by have := hdm e; omega)
                have hrun : (Instr.sliceAt t (ρ x) (lo.map ρ) (hi.map ρ) (mx.map ρ)).run P w =
                    .ok (.slice (if (if mx.isSome then d else c') = a then some ⟨bk, s + off, none⟩ else (some (⟨bk, s + off, none⟩ : Addr)).map (·.add (a * k))) (b - a) ((if mx.isSome then d else c') - a)) w := by
                  unfold Instr.sliceAt
                  rw [run_ok_bind (run_underlying hu w)]
                  simp only []
                  unfold Instr.slice
                  rw [run_ok_bind (run_underlying hu w), hxe]
                  simp only []
                  rw [run_ok_bind hb]
                  simp only []
                  rw [run_ok_bind (run_sizeOf hsz)]; rfl
                have fin : ∀ (u : V), u = v → H = H' → V.rel ι u (.slice (if (if mx.isSome then d else c') = a then some ⟨bk, s + off, none⟩ else (some (⟨bk, s + off, none⟩ : Addr)).map (·.add (a * k))) (b - a) ((if mx.isSome then d else c') - a)) →
                    OpOK P ρ o w (Post P ι H w H' v) := fun u e1 e2 hr => by
                  subst e1; subst e2
                  exact OpOK.same c (s := Instr.sliceAt t (ρ x) (lo.map ρ) (hi.map ρ) (mx.map ρ)) (by unfold execOp; rw [ho]) hrun hr
                cases ha0 : Nat.beq a 0 with
                | true =>
                  have := beq_eq ha0; subst this
                  simp only [] at he'
                  simp at he'
                  obtain ⟨e1, e2, _⟩ := he'
                  refine fin _ e1 e2 ?_
                  simp only [V.rel]
                  cases mx with
                  | none =>
                    have hdc := hdm rfl
                    refine ⟨bk, s, c', hp, ?_, by omega, fun h0 => by have := hex.1 h0; omega, hex.2⟩
                    simp only [Nat.zero_mul, Option.map_some, addr_add, Nat.add_zero, ite_self, Nat.sub_zero, Option.isSome_none, Bool.false_eq_true, if_false]
                  | some y =>
                    refine ⟨bk, s, d, hp, ?_, Nat.le_refl _, fun _ => rfl, fun h0 => absurd rfl h0⟩
                    simp only [Nat.zero_mul, Option.map_some, addr_add, Nat.add_zero, ite_self, Nat.sub_zero, Option.isSome_some, if_true]
                | false =>
                  have hane : a ≠ 0 := fun e => by subst e; simp at ha0
                  cases hda : Nat.beq d a with
                  | false =>
                    have hdane : d ≠ a := fun e => by subst e; simp at hda
                    simp only [ha0, hda] at he'
                    have hne : ¬ ((if mx.isSome then d else c') = a) := by
                      cases mx with
                      | none => have := hdm rfl; simp; omega
                      | some y => simpa using hdane
                    cases mx with
                    | some y =>
                      simp at he'
                      obtain ⟨e1, e2, _⟩ := he'
                      refine fin _ e1 e2 ?_
                      rw [if_neg hne]
                      simp only [V.rel]
                      refine ⟨bk, s, d - a, hp, ?_, Nat.le_refl _, fun _ => rfl, fun h0 => absurd rfl h0⟩
                      simp only [Option.map_some, addr_add, Nat.add_assoc, Option.isSome_some, if_true]
                    | none =>
                      have hdc := hdm rfl
                      cases ex with
                      | zero =>
                        simp at he'
                        obtain ⟨e1, e2, _⟩ := he'
                        refine fin _ e1 e2 ?_
                        rw [if_neg hne]
                        simp only [V.rel]
                        have := hex.1 rfl
                        refine ⟨bk, s, c' - a, hp, ?_, by omega, fun _ => by omega, fun h0 => absurd rfl h0⟩
                        simp only [Option.map_some, addr_add, Nat.add_assoc, Option.isSome_none, Bool.false_eq_true, if_false]
                      | succ e =>
                        cases hek : Nat.beq (Nat.succ e) k with
                        | false => simp only [Option.map_none, hek] at he'; cases he'
                        | true =>
                          have := beq_eq hek; subst this
                          simp only [Option.map_none, hek] at he'
                          simp at he'
                          obtain ⟨e1, e2, _⟩ := he'
                          refine fin _ e1 e2 ?_
                          rw [if_neg hne]
                          simp only [V.rel]
                          refine ⟨bk, s, c' - a, hp, ?_, by omega, fun h0 => absurd h0 (by omega), fun _ => ?_⟩
                          · simp only [Option.map_some, addr_add, Nat.add_assoc, Option.isSome_none, Bool.false_eq_true, if_false]
                          · have h0 := hex.2 (by omega)
                            rw [← h0, Nat.sub_mul]
                            have hac : a * (e + 1) ≤ c' * (e + 1) := Nat.mul_le_mul_right _ (by omega)
                            omega
                  | true =>
                    have := beq_eq hda; subst this
                    have hbd : b = d := by omega
                    subst hbd
                    simp only [ha0, hda] at he'
                    by_cases hz0 : mx = none ∧ ex ≠ 0
                    · obtain ⟨rfl, hex0⟩ := hz0
                      cases ex with
                      | zero => exact absurd rfl hex0
                      | succ e =>
                        simp at he'
                        obtain ⟨e1, e2, _⟩ := he'
                        refine fin _ e1 e2 ?_
                        simp only [V.rel, Nat.sub_self, Option.isSome_none, Bool.false_eq_true, if_false]
                        by_cases hcb : c' = b
                        · rw [if_pos hcb]; exact ⟨_, _, rfl, fun h => by cases h⟩
                        · rw [if_neg hcb]; exact ⟨_, _, rfl, fun h => by cases h⟩
                    have key : (if mx.isSome then b else c') = b ∧ V.sl p off 0 0 0 = v ∧ H = H' := by
                      cases mx with
                      | none =>
                        have := hdm rfl
                        cases ex with
                        | succ e => exact absurd ⟨rfl, Nat.succ_ne_zero e⟩ hz0
                        | zero => simp at he'; refine ⟨by simp; have := hex.1 rfl; omega, he'.1, he'.2.1⟩
                      | some y => simp at he'; exact ⟨by simp, he'.1, he'.2.1⟩
                    obtain ⟨k1, e1, e2⟩ := key
                    refine fin _ e1 e2 ?_
                    rw [k1, if_pos rfl]
                    have hba : b - b = 0 := Nat.sub_self b
                    simp only [V.rel, hba]
                    exact ⟨bk, s, 0, hp, rfl, Nat.le_refl _, fun _ => rfl, fun h0 => absurd rfl h0⟩

theorem bytesOf_cons (u : V) (t : List V) : bytesOf (u :: t) = (match u with
      | .int .u8 (.ofNat n) => (match Nat.blt n 256, bytesOf t with | true, some r => some (n :: r) | _, _ => none)
      | _ => none) := rfl
theorem bytesOf_rels : ∀ {l : List V} {bs : List Nat} {xs : List Value}, bytesOf l = some bs → V.rels ι l xs → xs = bs.map (fun (b : Nat) => Value.int .u8 (b : Int)) ∧ ∀ b ∈ bs, b < 256
  | [], bs, xs, h, hr => by
    have h' : some [] = some bs := h
    simp at h'; subst h'
    rw [rels_nil_inv hr]; simp
  | u :: t, bs, xs, h, hr => by
    obtain ⟨x, ys, rfl, hx, ht⟩ := rels_cons_inv hr
    have h' := h
    rw [bytesOf_cons] at h'
    cases u <;> (try (simp at h'; done))
    rename_i k m
    cases k <;> (try (simp at h'; done))
    cases m <;> (try (simp at h'; done))
    rename_i b
    simp only [] at h'
    cases hb : Nat.blt b 256 with
    | false => simp [hb] at h'
    | true =>
      cases hbt : bytesOf t with
      | none => simp [hb, hbt] at h'
      | some rr =>
        simp [hb, hbt] at h'
        subst h'
        obtain ⟨e1, e2⟩ := bytesOf_rels hbt ht
        simp only [V.rel] at hx
        subst hx; subst e1
        refine ⟨by simp, fun z hz => ?_⟩
        rcases List.mem_cons.1 hz with rfl | hz
        · exact blt_lt hb
        · exact e2 z hz
theorem symIn_wrap {k : IntKind} {lo hi z : Int} (h : symIn k lo hi = true) (h1 : lo ≤ z) (h2 : z ≤ hi) : k.wrap z = z := by
  unfold symIn at h
  split at h
  · rename_i a b
    have hb := blt_lt h
    have hz : 0 ≤ z := Int.le_trans (Int.natCast_nonneg a) h1
    have hz2 : z < (IntKindlim k : Nat) := by
      have : z ≤ (b : Int) := h2
      omega
    refine wrap_small k _ ?_
    cases k <;> simp only [IntKindlim, IntKind.min, IntKind.max, IntKind.bits, IntKind.signed] at * <;> simp at * <;> omega
  · cases h
theorem convI_inv {s d : TypeId} {ds dd : TypeDesc} {y : Src} {ck : CK} (hi : convI P s d y = .conv ck y) (hs : P.underlying s = some ds) (hd : P.underlying d = some dd) :
    (∃ k k', ds = .int k' ∧ dd = .int k ∧ ck = .int k) ∨ (ds = .string ∧ dd = .string ∧ ck = .same) ∨ (∃ e, ds = .slice e ∧ dd = .string ∧ P.underlying e = some (.int .u8) ∧ ck = .b2s) ∨
      (∃ e, ds = .slice e ∧ dd = .slice e ∧ s = d ∧ P.underlying e = some (.int .u8) ∧ ck = .mark) := by
  unfold convI at hi
  rw [hs, hd] at hi
  cases ds <;> cases dd <;> simp only at hi <;> try (cases hi; done)
  · cases hi; exact .inl ⟨_, _, rfl, rfl, rfl⟩
  · cases hi; exact .inr (.inl ⟨rfl, rfl, rfl⟩)
  · rename_i e
    cases hue : P.underlying e with
    | none => simp [hue] at hi
    | some q => cases q <;> simp [hue] at hi; rename_i kq; cases kq <;> simp at hi
  · rename_i e
    cases hue : P.underlying e with
    | none => simp [hue] at hi
    | some q =>
      cases q <;> simp [hue] at hi
      rename_i kq
      cases kq <;> simp at hi
      exact .inr (.inr (.inl ⟨e, rfl, rfl, hue, hi.symm⟩))
  · rename_i e0 e
    cases hsd : Nat.beq s d with
    | false => simp [hsd] at hi
    | true =>
      have := beq_eq hsd; subst this
      rw [hs] at hd; cases hd
      cases hue : P.underlying e0 with
      | none => simp [hue] at hi
      | some q =>
        cases q <;> simp [hue] at hi
        rename_i kq
        cases kq <;> simp at hi
        exact .inr (.inr (.inr ⟨e0, rfl, rfl, rfl, hue, hi.symm⟩))
theorem ok_conv (c : Cxt P Γ ι H w ρ L R r) {s d : TypeId} {x : Operand} {ck : CK} (ho : o.op = .convert s d x) (hi : convI P s d (r x) = .conv ck (r x))
    (he : evI (.conv ck (r x)) cal Γ L R H n = .ok v H' n') : OpOK P ρ o w (Post P ι H w H' v) := by
  have he' : evConv ck (r x) cal Γ L R H n = .ok v H' n' := he
  unfold evConv at he'
  have hx := c.hs x
  have hexec : execOp ρ o = (do pure (Next.value (← convert s d (ρ x))) : Sem Next) := by unfold execOp; rw [ho]
  cases hs : P.underlying s with
  | none => unfold convI at hi; simp [hs] at hi
  | some ds =>
    cases hd : P.underlying d with
    | none => unfold convI at hi; simp [hs, hd] at hi
    | some dd =>
      have hinv := convI_inv hi hs hd
      cases ck with
      | int k =>
        have hh : (∃ k', ds = .int k') ∧ dd = .int k := by
          rcases hinv with ⟨k1, k2, h1, h2, h3⟩ | ⟨_, _, h3⟩ | ⟨_, _, _, _, h3⟩ | ⟨_, _, _, _, _, h3⟩ <;> cases h3
          exact ⟨⟨k2, h1⟩, h2⟩
        obtain ⟨⟨k', rfl⟩, rfl⟩ := hh
        cases hbx : src L R (r x) <;> simp [hbx] at he'
        case sym i kx lo hi =>
          cases hsi : symIn k lo hi with
          | false => simp [hsi] at he'
          | true =>
            simp only [hsi] at he'
            cases he'
            rw [hbx] at hx; simp only [V.rel] at hx
            obtain ⟨hx, h1, h2⟩ := hx
            have hw := symIn_wrap hsi h1 h2
            refine OpOK.same c (s := convert s d (ρ x)) (x := .int k (k.wrap (ι.sym i))) hexec ?_ (by simp only [V.rel]; exact ⟨by rw [hw], h1, h2⟩)
            rw [hx]
            unfold convert
            rw [run_ok_bind (run_underlying hs w), run_ok_bind (run_underlying hd w)]; rfl
        rename_i kx m
        obtain ⟨rfl, rfl, rfl⟩ := he'
        rw [hbx] at hx; simp only [V.rel] at hx
        refine OpOK.same c (s := convert s d (ρ x)) (x := .int k (k.wrap m)) hexec ?_ (by simp [V.rel, wr_eq])
        rw [hx]
        unfold convert
        rw [run_ok_bind (run_underlying hs w), run_ok_bind (run_underlying hd w)]; rfl
      | mark =>
        have hh : ∃ e, ds = .slice e ∧ dd = .slice e ∧ s = d ∧ P.underlying e = some (.int .u8) := by
          rcases hinv with ⟨_, _, _, _, h3⟩ | ⟨_, _, h3⟩ | ⟨_, _, _, _, h3⟩ | ⟨e, h1, h2, h4, h5, _⟩ <;> try (cases h3; done)
          exact ⟨e, h1, h2, h4, h5⟩
        obtain ⟨e, rfl, rfl, rfl, hue⟩ := hh
        cases hbx : src L R (r x) <;> simp [hbx] at he'
        rename_i p off m cp ex
        cases hg : H.get p with
        | none => simp [hg] at he'
        | some ob =>
          cases ob <;> simp [hg] at he'
          rename_i l
          obtain ⟨rfl, rfl, rfl⟩ := he'
          rw [hbx] at hx
          have hxx := hx
          simp only [V.rel] at hx
          obtain ⟨b, s0, c', hp, hxe, _⟩ := hx
          obtain ⟨b2, s2, cs, el, fr, hι2, hh2, hf, hl, hsz2, hbz⟩ := cells_of c.hok hg
          rw [hp] at hι2; cases hι2
          let w' : World := w.freeze { block := b, off := cs.size } 1
          have hw' : w'.heap = w.heap.modify b (fun x => match x with
              | .cells c_1 elem (lo, hi) => .cells c_1 elem (if (lo == hi) = true then (cs.size, cs.size + 1) else (min lo cs.size, max hi (cs.size + 1)))
              | o => o) := by
            show (w.freeze { block := b, off := cs.size } 1).heap = _
            unfold World.freeze; rw [if_neg (by decide)]; rfl
          have hlt := (Array.getElem?_eq_some_iff.1 hh2).1
          have hsb : SameBut b w w' := by
            refine ⟨by rw [hw']; simp, fun b' hb' => by rw [hw', Array.getElem?_modify, if_neg (fun e => hb' e.symm)], ?_, ?_, ?_⟩
            · show (w.freeze _ 1).tape = _
              unfold World.freeze; rw [if_neg (by decide)]
            · show (w.freeze _ 1).os = _
              unfold World.freeze; rw [if_neg (by decide)]
            · show (w.freeze _ 1).output = _
              unfold World.freeze; rw [if_neg (by decide)]
          obtain ⟨fr', hh', hf'⟩ : ∃ fr', w'.heap[b]? = some (.cells cs el fr') ∧ (fr'.1 = fr'.2 ∨ cs.size ≤ fr'.1) := by
            obtain ⟨f1, f2⟩ := fr
            refine ⟨if (f1 == f2) = true then (cs.size, cs.size + 1) else (min f1 cs.size, max f2 (cs.size + 1)), ?_, ?_⟩
            · rw [hw', Array.getElem?_modify, if_pos rfl, hh2]; rfl
            · by_cases e12 : f1 = f2
              · rw [if_pos (by simpa using e12)]; exact .inr (Nat.le_refl _)
              · rw [if_neg (by simpa using e12)]
                rcases hf with h0 | h0
                · exact absurd h0 e12
                · exact .inr (by simp only at h0 ⊢; omega)
          refine OpOK.value (x := ρ x) (w' := w') ?_ ⟨ι, hxx, Step.write c.hok hg (by simp) hp hsb ⟨b, s0, cs, el, fr', hp, hh', hf', hl, hbz⟩⟩
          rw [hexec]
          refine run_v ?_
          unfold convert
          rw [run_ok_bind (run_underlying hs w), run_ok_bind (run_underlying hd w), hxe]
          simp only [BEq.rfl]
          rw [run_ok_bind (run_underlying hue w)]
          simp only []
          have hm : (markStringish ⟨b, s0 + off, none⟩).run P w = .ok () w' := by
            unfold markStringish
            have hs2 : (shape b).run P w = .ok (some (el, cs.size)) w := by simp only [shape, Sem.run, World.shape?, hh2]
            rw [run_ok_bind hs2]
            simp [freeze, Sem.run, w']
          rw [run_ok_bind hm]; rfl
      | same =>
        cases hbx : src L R (r x) <;> simp [hbx] at he'
        obtain ⟨rfl, rfl, rfl⟩ := he'
        rw [hbx] at hx
        have hxx := hx
        simp only [V.rel] at hx
        obtain ⟨bs, hxe, hbs⟩ := hx
        have hh : ds = .string ∧ dd = .string := by
          rcases hinv with ⟨_, _, _, _, h3⟩ | ⟨h1, h2, _⟩ | ⟨_, _, _, _, h3⟩ | ⟨_, _, _, _, _, h3⟩ <;> try (cases h3; done)
          exact ⟨h1, h2⟩
        obtain ⟨rfl, rfl⟩ := hh
        refine OpOK.same c (s := convert s d (ρ x)) (x := ρ x) hexec ?_ hxx
        rw [hxe]
        unfold convert
        rw [run_ok_bind (run_underlying hs w), run_ok_bind (run_underlying hd w)]; rfl
      | b2s =>
        have hh : ∃ e, ds = .slice e ∧ dd = .string ∧ P.underlying e = some (.int .u8) := by
          rcases hinv with ⟨_, _, _, _, h3⟩ | ⟨_, _, h3⟩ | ⟨e, h1, h2, h4, _⟩ | ⟨_, _, _, _, _, h3⟩ <;> try (cases h3; done)
          exact ⟨e, h1, h2, h4⟩
        obtain ⟨e, rfl, rfl, hue⟩ := hh
        cases hbx : src L R (r x) <;> simp [hbx] at he'
        case nilsl =>
          obtain ⟨rfl, rfl, rfl⟩ := he'
          rw [hbx] at hx; simp only [V.rel] at hx
          refine OpOK.same c (s := convert s d (ρ x)) (x := .string .empty) hexec ?_ (by simp only [V.rel]; exact ⟨_, rfl, rfl⟩)
          rw [hx]; exact run_convert_bytes_nil w s e hs hue 0 0 d hd
        case sl p off m cp ex =>
          cases hca : cellsAt Γ H (.ptr p off) m with
          | none => simp [hca] at he'
          | some l =>
            cases hbo : bytesOf l with
            | none => simp [hca, hbo] at he'
            | some bs =>
              simp [hca, hbo] at he'
              obtain ⟨rfl, rfl, rfl⟩ := he'
              rw [hbx] at hx; simp only [V.rel] at hx
              obtain ⟨b, s0, c', hp, hxe, _⟩ := hx
              obtain ⟨a, ys, hae, hload, hr, hlen⟩ := cellsAt_ok c.hok c.gok hca (x := .pointer (some ⟨b, s0 + off, none⟩)) (by simp only [V.rel]; exact ⟨b, s0, hp, rfl⟩)
              simp at hae; subst hae
              obtain ⟨e1, e2⟩ := bytesOf_rels hbo hr
              have hys : ys = ((bs.map (fun (b : Nat) => (b : Int))).map (Value.int .u8)).toArray := by
                apply Array.toList_inj.1
                rw [e1]; simp
              refine OpOK.same c (s := convert s d (ρ x)) (x := .string ((bs.map fun (b : Nat) => (b : Int)).foldl (fun r n => r.push (UInt8.ofNat n.toNat)) ByteArray.empty)) hexec ?_ ?_
              · rw [hxe, run_convert_bytes_string w s d e _ m c' hs hue hd]
                exact run_bytesToString w _ m c' _ (by rw [hload, hys])
              · simp only [V.rel]
                refine ⟨_, rfl, ?_⟩
                rw [foldl_push_bytes]
                simp only [List.map_map, Array.toList_append]
                have e0 : ByteArray.empty.data.toList = [] := rfl
                rw [e0]
                simp only [List.nil_append, List.map_map]
                rw [List.map_congr_left (g := id)]
                · simp
                · intro z hz
                  have := e2 z hz
                  simp [Nat.mod_eq_of_lt this]
end
end
end Go.Ev
/-
  A verified evaluator, part 13: comparisons, lengths, aggregates, least and greatest.
-/
namespace Go.Ev
noncomputable section
open Go

section
variable {P : Program} {Γ : Glo} {ι : Emb} {H H' : Heap} {w : World} {ρ : Operand → Value} {L : List V} {R : Regs} {r : Operand → Src} {cal : Cal} {n n' : Pth} {v : V} {o : Oper}

theorem baseT_fits {t : TypeId} {b : BK} (h : baseT P t = some b) : ∃ d, P.underlying t = some d ∧ b.fits d P ∧ aggT P t = some false := by
  unfold baseT at h
  unfold aggT
  cases hu : P.underlying t with
  | none => simp [hu] at h
  | some d =>
    cases d <;> simp [hu] at h
    · subst h; exact ⟨_, rfl, trivial, rfl⟩
    · subst h; exact ⟨_, rfl, trivial, rfl⟩
    · subst h; exact ⟨_, rfl, trivial, rfl⟩
theorem flatEq_cons (a b : List V) (p : Nat × BK) (offs : List (Nat × BK)) : flatEq a b (p :: offs) = (match nth a p.1 with
    | some x => (match nth b p.1 with
      | some y => (match baseEq p.2 x y with | some true => flatEq a b offs | some false => some false | none => none)
      | none => none)
    | none => none) := rfl
theorem part_base {t : TypeId} {b : BK} {cs : Array Value} {off : Nat} {y : Value} (h : baseT P t = some b) (hy : cs[off]? = some y) : (part t cs off).run P w = .ok y w := by
  obtain ⟨d, hu, hf, hag⟩ := baseT_fits h
  unfold part
  rw [run_ok_bind (run_isAgg hag)]
  simp only [Bool.false_eq_true, if_false, hy]; rfl
theorem eqFields_ok {a b : List V} {xs ys : Array Value} (ha : V.rels ι a xs.toList) (hb : V.rels ι b ys.toList) (d : Nat) : ∀ (fs : List Field) (offs : List (Nat × BK)) (c : Bool),
    flatOffs P fs = some offs → flatEq a b offs = some c → (Op.eqFields (d + 1) xs ys fs).run P w = .ok c w
  | [], offs, c, ho, hc => by
    simp [flatOffs] at ho; subst ho
    have hc' : some true = some c := hc
    simp at hc'; subst hc'; rfl
  | f :: fs, offs, c, ho, hc => by
    unfold flatOffs at ho
    cases hbt : baseT P f.type with
    | none => simp [hbt] at ho
    | some bk =>
      cases hn : decide (f.name = "_") with
      | true => simp [hbt, hn] at ho
      | false =>
        cases hr : flatOffs P fs with
        | none => simp [hbt, hn, hr] at ho
        | some t =>
          simp [hbt, hn, hr] at ho
          subst ho
          rw [flatEq_cons] at hc
          simp only [nth_eq] at hc
          cases hx : a[f.offset]? with
          | none => simp [hx] at hc
          | some u =>
            cases hy : b[f.offset]? with
            | none => simp [hx, hy] at hc
            | some u' =>
              simp only [hx, hy] at hc
              obtain ⟨x, hx', hrx⟩ := rels_get ha hx
              obtain ⟨y, hy', hry⟩ := rels_get hb hy
              have hx2 : xs[f.offset]? = some x := by simpa using hx'
              have hy2 : ys[f.offset]? = some y := by simpa using hy'
              obtain ⟨dd, hu, hf, _⟩ := baseT_fits hbt
              have hne : f.name ≠ "_" := by simpa using hn
              unfold Op.eqFields
              rw [if_pos hne, run_ok_bind (part_base hbt hx2), run_ok_bind (part_base hbt hy2)]
              cases he : baseEq bk u u' with
              | none => simp [he] at hc
              | some q =>
                rw [run_ok_bind (baseEq_ok he hrx hry hu hf d)]
                cases q with
                | true =>
                  simp only [he] at hc
                  simp only [Bool.not_true, Bool.false_eq_true, if_false]
                  exact eqFields_ok ha hb d fs t c hr hc
                | false =>
                  simp [he] at hc; subst hc
                  rfl
theorem eqItems_ok {a b : List V} {xs ys : Array Value} {e : TypeId} {bk : BK} (ha : V.rels ι a xs.toList) (hb : V.rels ι b ys.toList) (hbt : baseT P e = some bk) (d : Nat) : ∀ (is : List Nat) (c : Bool),
    flatEq a b (is.map fun i => (i, bk)) = some c → (Op.eqItems (d + 1) e 1 xs ys is).run P w = .ok c w
  | [], c, hc => by
    have hc' : some true = some c := hc
    simp at hc'; subst hc'; rfl
  | i :: is, c, hc => by
    rw [List.map_cons, flatEq_cons] at hc
    simp only [nth_eq] at hc
    cases hx : a[i]? with
    | none => simp [hx] at hc
    | some u =>
      cases hy : b[i]? with
      | none => simp [hx, hy] at hc
      | some u' =>
        simp only [hx, hy] at hc
        obtain ⟨x, hx', hrx⟩ := rels_get ha hx
        obtain ⟨y, hy', hry⟩ := rels_get hb hy
        have hx2 : xs[i * 1]? = some x := by simpa using hx'
        have hy2 : ys[i * 1]? = some y := by simpa using hy'
        obtain ⟨dd, hu, hf, _⟩ := baseT_fits hbt
        unfold Op.eqItems
        rw [run_ok_bind (part_base hbt hx2), run_ok_bind (part_base hbt hy2)]
        cases he : baseEq bk u u' with
        | none => simp [he] at hc
        | some q =>
          rw [run_ok_bind (baseEq_ok he hrx hry hu hf d)]
          cases q with
          | true =>
            simp only [he] at hc
            simp only [Bool.not_true, Bool.false_eq_true, if_false]
            exact eqItems_ok ha hb hbt d is c hc
          | false =>
            simp [he] at hc; subst hc
            rfl
/-- '==' on what ekOf takes in -/
theorem equal_ok {t : TypeId} {e : EK} {u u' : V} {x y : Value} {c : Bool} (hk : ekOf P t = some e) (hx : V.rel ι u x) (hy : V.rel ι u' y) (h : eqOf e u u' = some c) :
    (Op.equal t x y).run P w = .ok c w ∧ (∀ op i j, (eqGuard op t i j x y).run P w = .ok () w) ∧
      (binOp .eql t x y = (do pure (.bool (← Op.equal t x y)))) ∧ (binOp .neq t x y = (do pure (.bool (!(← Op.equal t x y))))) := by
  unfold ekOf at hk
  have base : ∀ (b : BK) (d : TypeDesc), P.underlying t = some d → b.fits d P → (b = .bool ∨ b = .ptr ∨ b = .sl ∨ b = .mp ∨ b = .fn) → baseEq b u u' = some c →
      (Op.equal t x y).run P w = .ok c w ∧ (∀ op i j, (eqGuard op t i j x y).run P w = .ok () w) ∧
      (binOp .eql t x y = (do pure (.bool (← Op.equal t x y)))) ∧ (binOp .neq t x y = (do pure (.bool (!(← Op.equal t x y))))) := by
    intro b d hd hf hb hc
    refine ⟨baseEq_ok hc hx hy hd hf 9999, ?_⟩
    have sh : (∃ a b, x = .bool a ∧ y = .bool b) ∨ (∃ a b, x = .pointer a ∧ y = .pointer b) ∨ (∃ a b c d e f, x = .slice a b c ∧ y = .slice d e f) ∨ (∃ a b, x = .map a ∧ y = .map b) ∨
        ((x = .nilFunc ∨ ∃ a b c, x = .func a b c) ∧ (y = .nilFunc ∨ ∃ a b c, y = .func a b c)) := by
      rcases hb with rfl | rfl | rfl | rfl | rfl <;> cases u <;> simp [baseEq] at hc <;> cases u' <;> simp at hc <;> simp only [V.rel] at hx hy
      case inl => exact .inl ⟨_, _, hx, hy⟩
      all_goals first
        | (subst hx; subst hy; simp; done)
        | (obtain ⟨_, _, _, rfl⟩ := hx; subst hy; simp; done)
        | (obtain ⟨_, _, _, rfl⟩ := hy; subst hx; simp; done)
        | (obtain ⟨_, _, _, rfl⟩ := hx; obtain ⟨_, _, _, rfl⟩ := hy; simp; done)
        | (obtain ⟨_, _, _, _, rfl, _⟩ := hx; subst hy; simp; done)
        | (obtain ⟨_, _, _, _, rfl, _⟩ := hy; subst hx; simp; done)
        | (obtain ⟨_, _, rfl⟩ := hx; subst hy; simp; done)
        | (obtain ⟨_, _, rfl⟩ := hy; subst hx; simp; done)
        | (obtain ⟨_, _, rfl, _⟩ := hx; subst hy; simp; done)
        | (obtain ⟨_, _, rfl, _⟩ := hy; subst hx; simp; done)
    rcases sh with ⟨a, b, rfl, rfl⟩ | ⟨a, b, rfl, rfl⟩ | ⟨_, _, _, _, _, _, rfl, rfl⟩ | ⟨_, _, rfl, rfl⟩ | ⟨hxx, hyy⟩
    · exact ⟨fun op i j => eqGuard_prim (by simp) (by simp), rfl, rfl⟩
    · exact ⟨fun op i j => eqGuard_prim (by simp) (by simp), rfl, rfl⟩
    · exact ⟨fun op i j => eqGuard_prim (by simp) (by simp), rfl, rfl⟩
    · exact ⟨fun op i j => eqGuard_prim (by simp) (by simp), rfl, rfl⟩
    · rcases hxx with rfl | ⟨_, _, _, rfl⟩ <;> rcases hyy with rfl | ⟨_, _, _, rfl⟩ <;> exact ⟨fun op i j => eqGuard_prim (by simp) (by simp), rfl, rfl⟩
  cases hu : P.underlying t with
  | none => simp [hu] at hk
  | some d =>
    cases d <;> simp [hu] at hk
    case bool => subst hk; exact base .bool _ hu trivial (by simp) h
    case pointer e' =>
      cases hs : sizeT P e' with
      | none => simp [hs] at hk
      | some m =>
        cases m with
        | zero => simp [hs] at hk
        | succ m => simp [hs] at hk; subst hk; exact base .ptr _ hu ⟨m, hs⟩ (by simp) h
    case slice => subst hk; exact base .sl _ hu trivial (by simp) h
    case map => subst hk; exact base .mp _ hu trivial (by simp) h
    case func => subst hk; exact base .fn _ hu trivial (by simp) h
    case array m el =>
      cases hb : baseT P el with
      | none => simp [hb] at hk
      | some bk =>
        cases hs : sizeT P el with
        | none => simp [hb, hs] at hk
        | some sz =>
          cases hg : P.eqGuardType P.depth t with
          | true => simp [hb, hs, hg] at hk
          | false =>
            have hsz : sz = 1 := by
              simp [hb, hs, hg] at hk
              split at hk <;> simp_all
            subst hsz
            simp [hb, hs, hg] at hk
            subst hk
            unfold eqOf at h
            cases u <;> simp at h
            cases u' <;> simp at h
            rename_i a b
            simp only [V.rel] at hx hy
            obtain ⟨xs, rfl, hxs⟩ := hx
            obtain ⟨ys, rfl, hys⟩ := hy
            obtain ⟨i, hi, hisz⟩ : ∃ i, P.info? el = some i ∧ i.size = 1 := by
              unfold sizeT at hs
              cases hi : P.info? el with
              | none => simp [hi] at hs
              | some i => simp [hi] at hs; exact ⟨i, rfl, hs⟩
            have hce : P.cellsOf el = 1 := by simp [Program.cellsOf, hi, hisz]
            refine ⟨?_, fun op i j => run_eqGuard_agg w op t i j xs ys hg, rfl, rfl⟩
            show (Op.equalIn (9999 + 1) t (.agg xs) (.agg ys)).run P w = _
            rw [run_equalIn_array w 9999 xs ys hu hi, hce]
            exact eqItems_ok hxs hys hb 9998 (List.range m) c h
    case struct fs =>
      cases hst : P.stoodInHeld t with
      | true => simp [hst] at hk
      | false =>
        cases hg : P.eqGuardType P.depth t with
        | true => simp [hst, hg] at hk
        | false =>
          simp [hst, hg] at hk
          obtain ⟨offs, hof, rfl⟩ := hk
          unfold eqOf at h
          cases u <;> simp at h
          cases u' <;> simp at h
          simp only [V.rel] at hx hy
          obtain ⟨xs, rfl, hxs⟩ := hx
          obtain ⟨ys, rfl, hys⟩ := hy
          have hfo : P.fieldsOf t = fs := by simp [Program.fieldsOf, hu]
          refine ⟨?_, fun op i j => run_eqGuard_agg w op t i j xs ys hg, rfl, rfl⟩
          show (Op.equalIn (9999 + 1) t (.agg xs) (.agg ys)).run P w = _
          rw [run_equalIn_struct w 9999 t xs ys (by rw [hfo]; exact hu) hst, hfo]
          exact eqFields_ok hxs hys 9998 fs.toList offs c hof h
theorem ok_eq (c : Cxt P Γ ι H w ρ L R r) {op : BinOp} {t t' : TypeId} {x y : Operand} {neg : Bool} {e : EK} (ho : o.op = .binOp op t x y t') (hop : op = if neg then .neq else .eql) (hk : ekOf P t = some e)
    (he : evI (.eq neg e (r x) (r y)) cal Γ L R H n = .ok v H' n') : OpOK P ρ o w (Post P ι H w H' v) := by
  have he' : evEq neg e (r x) (r y) cal Γ L R H n = .ok v H' n' := he
  unfold evEq at he'
  cases hq : eqOf e (src L R (r x)) (src L R (r y)) with
  | none => simp [hq] at he'
  | some b =>
    simp [hq] at he'
    obtain ⟨rfl, rfl, rfl⟩ := he'
    obtain ⟨h1, h2, h3, h4⟩ := equal_ok (w := w) hk (c.hs x) (c.hs y) hq
    refine OpOK.same c (s := do eqGuard op t x y (ρ x) (ρ y); binOp op t (ρ x) (ρ y)) (x := .bool (if neg then !b else b)) (by unfold execOp; rw [ho]) ?_ (by cases neg <;> simp [V.rel])
    rw [run_ok_bind (h2 op x y)]
    subst hop
    cases neg with
    | false =>
      simp only [Bool.false_eq_true, if_false]
      rw [h3, run_ok_bind h1]; rfl
    | true =>
      simp only [if_true]
      rw [h4, run_ok_bind h1]; rfl
/-- an interface against a constant -/
theorem ok_ifcEq (c : Cxt P Γ ι H w ρ L R r) {op : BinOp} {t t' : TypeId} {x y : Operand} {neg : Bool} (ho : o.op = .binOp op t x y t') (hi : ifcEq P op t x y = some neg)
    (he : evI (.eq neg (.base .ifc) (r x) (r y)) cal Γ L R H n = .ok v H' n') : OpOK P ρ o w (Post P ι H w H' v) := by
  have he' : evEq neg (.base .ifc) (r x) (r y) cal Γ L R H n = .ok v H' n' := he
  unfold evEq at he'
  have hx := c.hs x
  have hy := c.hs y
  cases hq : eqOf (.base .ifc) (src L R (r x)) (src L R (r y)) with
  | none => simp [hq] at he'
  | some q =>
    simp [hq] at he'
    obtain ⟨rfl, rfl, rfl⟩ := he'
    have hq' : baseEq .ifc (src L R (r x)) (src L R (r y)) = some q := hq
    unfold ifcEq at hi
    cases hu : P.underlying t with
    | none => simp [hu] at hi
    | some d =>
      cases d <;> simp only [hu] at hi <;> try (cases hi; done)
      rename_i ms
      have heq : (Op.equal t (ρ x) (ρ y)).run P w = .ok q w := baseEq_ok hq' hx hy hu trivial 9999
      cases hcc : isC x || isC y with
      | false => cases op <;> simp [hcc] at hi
      | true =>
        have hsh : (ρ x = .nilIface ∨ ∃ a b, ρ x = .iface a b) ∧ (ρ y = .nilIface ∨ ∃ a b, ρ y = .iface a b) := by
          cases hbx : src L R (r x) <;> rw [hbx] at hq' hx <;> simp [baseEq] at hq' <;> cases hby : src L R (r y) <;> rw [hby] at hq' hy <;> simp at hq' <;> simp only [V.rel] at hx hy
          · exact ⟨.inr (by obtain ⟨z, e, _⟩ := hx; exact ⟨_, _, e⟩), .inl hy⟩
          · exact ⟨.inl hx, .inr (by obtain ⟨z, e, _⟩ := hy; exact ⟨_, _, e⟩)⟩
          · exact ⟨.inl hx, .inl hy⟩
        have hg : (op = .eql ∨ op = .neq) → (eqGuard op t x y (ρ x) (ρ y)).run P w = .ok () w := fun hop => by
          unfold eqGuard
          rcases hop with rfl | rfl <;> rcases hsh with ⟨e1 | ⟨a, b, e1⟩, e2 | ⟨a', b', e2⟩⟩ <;> rw [e1, e2] <;> first | rfl | (cases x <;> cases y <;> first | rfl | exact absurd hcc Bool.false_ne_true)
        have hb1 : binOp .eql t (ρ x) (ρ y) = (do pure (.bool (← Op.equal t (ρ x) (ρ y)))) := by
          rcases hsh with ⟨e1 | ⟨a, b, e1⟩, e2 | ⟨a', b', e2⟩⟩ <;> rw [e1, e2] <;> rfl
        have hb2 : binOp .neq t (ρ x) (ρ y) = (do pure (.bool (!(← Op.equal t (ρ x) (ρ y))))) := by
          rcases hsh with ⟨e1 | ⟨a, b, e1⟩, e2 | ⟨a', b', e2⟩⟩ <;> rw [e1, e2] <;> rfl
        cases op <;> simp [hcc] at hi <;> subst hi
        · refine OpOK.same c (s := do eqGuard .eql t x y (ρ x) (ρ y); binOp .eql t (ρ x) (ρ y)) (x := .bool q) (by unfold execOp; rw [ho]) ?_ (by simp [V.rel])
          rw [run_ok_bind (hg (.inl rfl)), hb1, run_ok_bind heq]; rfl
        · refine OpOK.same c (s := do eqGuard .neq t x y (ρ x) (ρ y); binOp .neq t (ρ x) (ρ y)) (x := .bool (!q)) (by unfold execOp; rw [ho]) ?_ (by simp [V.rel])
          rw [run_ok_bind (hg (.inr rfl)), hb2, run_ok_bind heq]; rfl
end
end
end Go.Ev
/-
  A verified evaluator, part 14: maps.
-/
namespace Go.Ev
noncomputable section
open Go

section
variable {P : Program} {Γ : Glo} {ι : Emb} {H H' : Heap} {w : World} {ρ : Operand → Value} {L : List V} {R : Regs} {r : Operand → Src} {cal : Cal} {n n' : Pth} {v : V} {o : Oper}

theorem findKey_cons (e : EK) (k : V) (x : V × V × Nat) (es : List (V × V × Nat)) (i : Nat) : findKey e k (x :: es) i = (match eqOf e k x.1 with
      | some true => some (some (i, x.2.1))
      | some false => findKey e k es (Nat.succ i)
      | none => none) := rfl
theorem findKey_nil (e : EK) (k : V) (i : Nat) : findKey e k [] i = some none := rfl
/-- the kinds of keys: numbers, strings, truth values -/
theorem keyOf_base {t : TypeId} {e : EK} (h : keyOf P t = some e) : ∃ b d, e = .base b ∧ baseT P t = some b ∧ P.underlying t = some d ∧
    ((b = .int ∧ ∃ k, d = .int k) ∨ (b = .str ∧ d = .string) ∨ (b = .bool ∧ d = .bool)) := by
  unfold keyOf at h
  cases hb : baseT P t with
  | none => simp [hb] at h
  | some b =>
    simp [hb] at h
    subst h
    unfold baseT at hb
    cases hu : P.underlying t with
    | none => simp [hu] at hb
    | some d =>
      cases d <;> simp [hu] at hb <;> subst hb
      · exact ⟨.bool, _, rfl, rfl, rfl, by simp⟩
      · exact ⟨.int, _, rfl, rfl, rfl, by simp⟩
      · exact ⟨.str, _, rfl, rfl, rfl, by simp⟩
theorem sameNow_ok {b : BK} {d : TypeDesc} {u u' : V} {x y : Value} {c : Bool} (hb : (b = .int ∧ ∃ k, d = .int k) ∨ (b = .str ∧ d = .string) ∨ (b = .bool ∧ d = .bool))
    (h : baseEq b u u' = some c) (hx : V.rel ι u x) (hy : V.rel ι u' y) : Instr.sameNow d x y = some c ∧ (c = true → x = y ∧ Instr.sameBits 10000 y x = true) := by
  rcases hb with ⟨rfl, k0, rfl⟩ | ⟨rfl, rfl⟩ | ⟨rfl, rfl⟩
  · have h' : intEq u u' = some c := h
    obtain ⟨k, a, b, rfl, rfl, h⟩ := intEq_ok h' hx hy
    refine ⟨by simp [Instr.sameNow, h], fun hc => ?_⟩
    subst hc
    have : a = b := by simpa using h
    subst this
    exact ⟨rfl, by simp [Instr.sameBits]⟩
  · cases u <;> simp [baseEq] at h
    cases u' <;> simp at h
    simp only [V.rel] at hx hy
    obtain ⟨p, rfl, rfl⟩ := hx
    obtain ⟨q, rfl, rfl⟩ := hy
    rw [natsEq_map] at h
    have e1 : (p == q) = c := by rw [bytes_beq]; exact h
    refine ⟨by simp only [Instr.sameNow]; rw [e1], fun hc => ?_⟩
    subst hc
    have : p = q := by
      have : p.data.toList = q.data.toList := by simpa using h
      exact WideShapes.bytes_inj this
    subst this
    refine ⟨rfl, ?_⟩
    simp only [Instr.sameBits]
    exact e1
  · cases u <;> simp [baseEq] at h
    cases u' <;> simp at h
    rename_i a b
    simp only [V.rel] at hx hy
    subst hx; subst hy
    have e1 : (a == b) = c := by cases a <;> cases b <;> simpa using h
    refine ⟨by simp only [Instr.sameNow]; rw [e1], fun hc => ?_⟩
    subst hc
    have : a = b := by simpa using e1
    subst this
    exact ⟨rfl, by simp [Instr.sameBits]⟩
theorem findNow_ok {b : BK} {d : TypeDesc} {u : V} {x : Value} (hb : (b = .int ∧ ∃ k, d = .int k) ∨ (b = .str ∧ d = .string) ∨ (b = .bool ∧ d = .bool)) (hx : V.rel ι u x) :
    ∀ (es : List (V × V × Nat)) (ms : List MapEntry) (i : Nat), ERel ι es ms →
      (findKey (.base b) u es i = some none → Instr.findNow d x ms i = some none) ∧
      (∀ j v, findKey (.base b) u es i = some (some (j, v)) → i ≤ j ∧ ∃ m, ms[j - i]? = some m ∧ V.rel ι v m.val ∧ Instr.findNow d x ms i = some (some (j, m.val)) ∧ m.key = x ∧ Instr.sameBits 10000 m.key x = true)
  | [], ms, i, h => by
    have h' : ms = [] := h
    subst h'
    rw [findKey_nil]
    exact ⟨fun _ => rfl, fun j v hj => by simp at hj⟩
  | e :: es, ms, i, h => by
    obtain ⟨m, t, rfl, hk, hv, hbn, ht⟩ := h
    obtain ⟨ih1, ih2⟩ := findNow_ok hb hx es t (Nat.succ i) ht
    rw [findKey_cons]
    show (_ → _) ∧ _
    cases hq : baseEq b u e.1 with
    | none => simp [eqOf, hq]
    | some c =>
      obtain ⟨hs, hsame⟩ := sameNow_ok hb hq hx hk
      cases c with
      | true =>
        obtain ⟨e1, e2⟩ := hsame rfl
        simp only [eqOf, hq]
        refine ⟨fun hn => by simp at hn, fun j v hj => ?_⟩
        simp at hj
        obtain ⟨rfl, rfl⟩ := hj
        refine ⟨Nat.le_refl _, m, by simp, hv, ?_, e1.symm, e2⟩
        unfold Instr.findNow
        rw [hs]
      | false =>
        simp only [eqOf, hq]
        refine ⟨fun hn => ?_, fun j v hj => ?_⟩
        · unfold Instr.findNow
          rw [hs]
          exact ih1 hn
        · obtain ⟨hle, m', hm', hv', hf, hk1, hk2⟩ := ih2 j v hj
          refine ⟨by omega, m', ?_, hv', ?_, hk1, hk2⟩
          · have : j - i = (j - Nat.succ i) + 1 := by omega
            rw [this]; simpa using hm'
          · unfold Instr.findNow
            rw [hs]
            exact hf
/-- a number that is surely among the keys -/
theorem allInt_cons (k : IntKind) (e : V × V × Nat) (es : List (V × V × Nat)) : allInt k (e :: es) = (match e.1 with
    | .int j _ => (match keq k j with | true => allInt k es | false => false)
    | _ => false) := rfl
theorem hasInt_cons (k : IntKind) (c : Int) (e : V × V × Nat) (es : List (V × V × Nat)) : hasInt k c (e :: es) = (match e.1 with
    | .int j a => (match keq k j, ieq a c with | true, true => true | _, _ => hasInt k c es)
    | _ => hasInt k c es) := rfl
theorem hasAll_succ (k : IntKind) (st : Nat) (es : List (V × V × Nat)) (m : Nat) (c : Int) : hasAll k st es (m + 1) c = (match hasInt k c es with | true => hasAll k st es m (c + st) | false => false) := rfl
theorem hasAll_ok {k : IntKind} {st : Nat} {es : List (V × V × Nat)} : ∀ (m : Nat) (c : Int), hasAll k st es m c = true → ∀ j : Nat, j < m → hasInt k (c + (j : Int) * (st : Int)) es = true
  | 0, _, _, j, hj => absurd hj (Nat.not_lt_zero _)
  | m + 1, c, h, j, hj => by
    rw [hasAll_succ] at h
    cases hi : hasInt k c es with
    | false => simp [hi] at h
    | true =>
      simp only [hi] at h
      cases j with
      | zero => simpa using hi
      | succ j =>
        have := hasAll_ok m (c + st) h j (by omega)
        have e : c + (st : Int) + (j : Int) * (st : Int) = c + ((j + 1 : Nat) : Int) * (st : Int) := by
          rw [Int.natCast_add, Int.add_mul]; simp; omega
        rw [e] at this; exact this
theorem findNow_has {k k0 : IntKind} {c : Int} : ∀ (es : List (V × V × Nat)) (ms : List MapEntry) (i : Nat), ERel ι es ms → allInt k es = true → hasInt k c es = true →
    ∃ j y, Instr.findNow (.int k0) (.int k c) ms i = some (some (j, y))
  | [], ms, i, _, _, h => by cases h
  | e :: es, ms, i, h, ha, hh => by
    obtain ⟨m, t, rfl, hk, hv, hbn, ht⟩ := h
    rw [allInt_cons] at ha
    rw [hasInt_cons] at hh
    cases he : e.1 <;> simp only [he] at ha <;> try (cases ha; done)
    rename_i j a
    simp only [he] at hh
    rw [he] at hk
    simp only [V.rel] at hk
    cases hkj : keq k j with
    | false => simp [hkj] at ha
    | true =>
      simp only [hkj] at ha hh
      have := (keq_iff k j).1 hkj
      subst this
      unfold Instr.findNow
      rw [hk]
      simp only [Instr.sameNow, if_true]
      by_cases e1 : c = a
      · subst e1; simp
      · have e2 : (c == a) = false := by simpa using e1
        have e3 : ieq a c = false := by rw [ieq_eq]; simpa using fun e => e1 e.symm
        rw [e2]
        simp only [e3] at hh
        exact findNow_has es t (i + 1) ht ha hh
theorem coversInt_ok {u : V} {x : Value} {es : List (V × V × Nat)} (h : coversInt u es = true) (hx : V.rel ι u x) : ∃ k c, x = .int k c ∧ allInt k es = true ∧ hasInt k c es = true := by
  cases u <;> simp only [coversInt] at h <;> try (cases h; done)
  case sym i k lo hi =>
    simp only [V.rel] at hx
    obtain ⟨rfl, h1, h2⟩ := hx
    cases hd : natOf (hi - lo) with
    | none => simp [hd] at h
    | some d =>
      cases ha : allInt k es with
      | false => simp [hd, ha] at h
      | true =>
        cases hb : Nat.ble d 4096 with
        | false => simp [hd, ha, hb] at h
        | true =>
          simp only [hd, ha, hb] at h
          have e1 := natOf_some hd
          refine ⟨k, _, rfl, ha, ?_⟩
          have := hasAll_ok _ _ h (ι.sym i - lo).toNat (by omega)
          have e2 : lo + (((ι.sym i - lo).toNat : Nat) : Int) * ((1 : Nat) : Int) = ι.sym i := by omega
          rw [e2] at this; exact this
  case iv k lo hi st =>
    simp only [V.rel] at hx
    obtain ⟨j, rfl, h1⟩ := hx
    cases hd : natOf (hi - lo) with
    | none => simp [hd] at h
    | some d =>
      cases ha : allInt k es with
      | false => simp [hd, ha] at h
      | true =>
        cases hs : Nat.blt 0 st with
        | false => simp [hd, ha, hs] at h
        | true =>
          cases hb : Nat.ble d 4096 with
          | false => simp [hd, ha, hs, hb] at h
          | true =>
            simp only [hd, ha, hs, hb] at h
            have e1 := natOf_some hd
            have hst := blt_lt hs
            refine ⟨k, _, rfl, ha, hasAll_ok _ _ h j ?_⟩
            have e2 : ((j * st : Nat) : Int) ≤ (d : Int) := by rw [Int.natCast_mul]; omega
            have e3 : j * st ≤ d := by exact_mod_cast e2
            have : j ≤ d / st := (Nat.le_div_iff_mul_le hst).2 e3
            show j < Nat.succ (Nat.div d st)
            have e4 : Nat.div d st = d / st := rfl
            omega
theorem run_findKey {t : TypeId} {d : TypeDesc} {x : Value} {ms : List MapEntry} {res : Option (Nat × Value)} (hd : P.underlying t = some d) (h : Instr.findNow d x ms 0 = some res) :
    (Instr.findKey t x ms).run P w = .ok res w := by
  unfold Instr.findKey
  rw [run_ok_bind (run_underlying hd w), h]; rfl
theorem run_checkKey {t : TypeId} {d : TypeDesc} {b : BK} {x : Value} {em : Bool} (hd : P.underlying t = some d) (hb : (b = .int ∧ ∃ k, d = .int k) ∨ (b = .str ∧ d = .string) ∨ (b = .bool ∧ d = .bool)) :
    (Instr.checkKey em 10000 t x).run P w = .ok () w := by
  unfold Instr.checkKey
  rw [run_ok_bind (run_underlying hd w)]
  rcases hb with ⟨_, k, rfl⟩ | ⟨_, rfl⟩ | ⟨_, rfl⟩ <;> rfl
theorem run_getObj_map {b : Nat} {es : Array MapEntry} {cl : Nat} (h : w.heap[b]? = some (.map es cl)) : (getObj b).run P w = .ok (.map es cl) w := by simp [getObj, Sem.run, h]
theorem run_setObj_map {b : Nat} {es : Array MapEntry} {cl : Nat} (ob : Obj) (h : w.heap[b]? = some (.map es cl)) : (setObj b ob).run P w = .ok () (w.putObj b ob) := by simp [setObj, Sem.run, h, World.putObj]
theorem sameBut_putObj {b : Nat} {ob ob' : Obj} (h : w.heap[b]? = some ob) : SameBut b w (w.putObj b ob') ∧ (w.putObj b ob').heap[b]? = some ob' := by
  have hlt := (Array.getElem?_eq_some_iff.1 h).1
  exact ⟨⟨World.putObj_size, fun b' hb => World.putObj_heap_other hb, rfl, rfl, rfl⟩, World.putObj_heap_same hlt⟩
theorem map_of (h : HOK P ι H w) {p : Pth} {es : List (V × V × Nat)} {cl : Nat} (hp : H.get p = some (.map es cl)) :
    ∃ b es', ι p = some (b, 0) ∧ w.heap[b]? = some (.map es' cl) ∧ ERel ι es es'.toList := h.obj p _ hp
theorem ok_lookup (c : Cxt P Γ ι H w ρ L R r) {t : TypeId} {m k : Operand} {ok : Bool} (ho : o.op = .lookup t m k ok) (he : evI (opI P r (.lookup t m k ok)) cal Γ L R H n = .ok v H' n') :
    OpOK P ρ o w (Post P ι H w H' v) := by
  unfold opI at he
  cases hu : P.underlying t with
  | none => simp [hu] at he; cases he
  | some dd =>
    cases dd <;> simp only [hu] at he <;> try (cases he; done)
    rename_i kt et
    cases hk : keyOf P kt with
    | none => simp [hk] at he; cases he
    | some e =>
      cases hz : zeroT P et with
      | none => simp [hk, hz] at he; cases he
      | some z =>
        have he' : evLookup e (ofV 4 z) (r m) (r k) ok cal Γ L R H n = .ok v H' n' := by simp only [hk, hz] at he; exact he
        unfold evLookup at he'
        obtain ⟨b, d, rfl, hbt, hd, hb⟩ := keyOf_base hk
        have hm := c.hs m
        have hkk := c.hs k
        cases hes : mapAt H (src L R (r m)) with
        | none => simp [hes] at he'
        | some es =>
          simp only [hes] at he'
          -- the entries
          have hent : ∃ ms : Array MapEntry, ERel ι es ms.toList ∧ ((ρ m = .map none ∧ ms = #[]) ∨ ∃ bk cl, ρ m = .map (some bk) ∧ w.heap[bk]? = some (.map ms cl)) := by
            unfold mapAt at hes
            cases hbm : src L R (r m) <;> simp [hbm] at hes
            · subst hes
              rw [hbm] at hm; simp only [V.rel] at hm
              exact ⟨#[], rfl, .inl ⟨hm, rfl⟩⟩
            · rename_i p
              cases hg : H.get p with
              | none => simp [hg] at hes
              | some ob =>
                cases ob <;> simp [hg] at hes
                subst hes
                obtain ⟨bk, es', hι, hh, hr⟩ := map_of c.hok hg
                rw [hbm] at hm; simp only [V.rel] at hm
                obtain ⟨b2, hι2, hme⟩ := hm
                rw [hι] at hι2; cases hι2
                exact ⟨es', hr, .inr ⟨bk, _, hme, hh⟩⟩
          obtain ⟨ms, hr, hrun⟩ := hent
          obtain ⟨f1, f2⟩ := findNow_ok hb hkk es ms.toList 0 hr
          have fin : ∀ (u : V) (y : Value) (bb : Bool) (res : Option (Nat × Value)), V.rel ι u y → Instr.findNow d (ρ k) ms.toList 0 = some res →
              ((res = none ∧ y = z ∧ bb = false) ∨ ∃ j, res = some (j, y) ∧ bb = true) →
              (ok = true → V.tup [u, .bool bb] = v) → (ok = false → u = v) → H = H' → OpOK P ρ o w (Post P ι H w H' v) := by
            intro u y bb res hru hf hres hv1 hv2 hH
            subst hH
            refine OpOK.same c (s := Instr.lookup t (ρ m) (ρ k) ok) (x := if ok then .tuple #[y, .bool bb] else y) (by unfold execOp; rw [ho]) ?_ ?_
            · unfold Instr.lookup
              rw [run_ok_bind (run_underlying hu w)]
              simp only []
              have rest : ∀ em, (do
                  Instr.checkKey em 10000 kt (ρ k)
                  let (v, ok') ← match ← Instr.findKey kt (ρ k) ms.toList with
                    | some (_, v) => pure (v, true)
                    | none => pure (← zeroValue et, false)
                  pure (if ok = true then Value.tuple #[v, .bool ok'] else v) : Sem Value).run P w = .ok (if ok then .tuple #[y, .bool bb] else y) w := fun em => by
                rw [run_ok_bind (run_checkKey hd hb)]
                rw [run_ok_bind (run_findKey hd hf)]
                rcases hres with ⟨rfl, rfl, rfl⟩ | ⟨j, rfl, rfl⟩
                · simp only []
                  rw [run_ok_bind (run_zeroValue hz)]; rfl
                · rfl
              rcases hrun with ⟨e1, rfl⟩ | ⟨bk, cl, e1, hh⟩
              · rw [e1]
                simp only []
                rw [run_ok_bind (run_ofPure _)]
                exact rest _
              · rw [e1]
                simp only []
                rw [run_ok_bind (run_getObj_map hh)]
                exact rest _
            · cases ok with
              | true => rw [← hv1 rfl]; simp only [V.rel, if_true]; exact ⟨_, rfl, rels_cons hru (rels_one (by simp [V.rel]))⟩
              | false => rw [← hv2 rfl]; simpa using hru
          cases hf : findKey (.base b) (src L R (r k)) es 0 with
          | none =>
            simp only [hf] at he'
            cases hcv : covers (.base b) (src L R (r k)) es with
            | false => simp [hcv] at he'
            | true =>
              simp [hcv] at he'
              rcases hb with ⟨rfl, k0, rfl⟩ | ⟨rfl, rfl⟩ | ⟨rfl, rfl⟩ <;> try (cases hcv; done)
              obtain ⟨kk, cc, hxe, ha, hh⟩ := coversInt_ok (show coversInt (src L R (r k)) es = true from hcv) hkk
              obtain ⟨j, y, hfn⟩ := findNow_has (k0 := k0) es ms.toList 0 hr ha hh
              exact fin .unk y true (some (j, y)) (by simp [V.rel]) (by rw [hxe]; exact hfn) (.inr ⟨j, rfl, rfl⟩) (fun e => by subst e; exact he'.1) (fun e => by subst e; exact he'.1) he'.2.1
          | some res =>
            cases res with
            | none =>
              simp only [hf] at he'
              simp at he'
              refine fin (ofV 4 z) z false none (ofV_rel 4 z) (f1 hf) (.inl ⟨rfl, rfl, rfl⟩) (fun e => by subst e; exact he'.1) (fun e => by subst e; exact he'.1) he'.2.1
            | some jv =>
              obtain ⟨j, vv⟩ := jv
              simp only [hf] at he'
              obtain ⟨_, mm, _, hrv, hfn, _⟩ := f2 j vv hf
              simp at he'
              exact fin vv mm.val true (some (j, mm.val)) hrv hfn (.inr ⟨j, rfl, rfl⟩) (fun e => by subst e; exact he'.1) (fun e => by subst e; exact he'.1) he'.2.1
end
end
end Go.Ev
/-
  A verified evaluator, part 15: maps: writing, deleting, ranging.
-/
namespace Go.Ev
noncomputable section
open Go

section
variable {P : Program} {Γ : Glo} {ι : Emb} {H H' : Heap} {w : World} {ρ : Operand → Value} {L : List V} {R : Regs} {r : Operand → Src} {cal : Cal} {n n' : Pth} {v : V} {o : Oper}

theorem ERel_setVal {u : V} {y : Value} (hy : V.rel ι u y) : ∀ (es : List (V × V × Nat)) (ms : List MapEntry) (i : Nat) (m : MapEntry), ERel ι es ms → ms[i]? = some m →
    ERel ι (setVal es u i) (ms.modify i fun e => { e with key := m.key, val := y })
  | [], ms, i, m, h, hi => by
    have h' : ms = [] := h
    subst h'; simp at hi
  | e :: es, ms, 0, m, h, hi => by
    obtain ⟨m0, t, rfl, hk, hv, hb, ht⟩ := h
    simp at hi; subst hi
    show ERel ι ((e.1, u, e.2.2) :: es) _
    exact ⟨{ m0 with val := y }, t, by simp, hk, hy, hb, ht⟩
  | e :: es, ms, i + 1, m, h, hi => by
    obtain ⟨m0, t, rfl, hk, hv, hb, ht⟩ := h
    simp at hi
    show ERel ι (e :: setVal es u i) _
    exact ⟨m0, _, by simp, hk, hv, hb, ERel_setVal hy es t i m ht hi⟩
theorem ERel_append {k u : V} {x y : Value} {b : Nat} (hk : V.rel ι k x) (hu : V.rel ι u y) : ∀ (es : List (V × V × Nat)) (ms : List MapEntry), ERel ι es ms →
    ERel ι (es ++ [(k, u, b)]) (ms ++ [{ key := x, val := y, born := b }])
  | [], ms, h => by
    have h' : ms = [] := h
    subst h'
    exact ⟨_, [], rfl, hk, hu, rfl, rfl⟩
  | e :: es, ms, h => by
    obtain ⟨m0, t, rfl, hk', hv, hb, ht⟩ := h
    exact ⟨m0, _, rfl, hk', hv, hb, ERel_append hk hu es t ht⟩
theorem ERel_dropAt : ∀ (es : List (V × V × Nat)) (ms : List MapEntry) (i : Nat), ERel ι es ms → ERel ι (dropAt es i) (ms.eraseIdx i)
  | [], ms, i, h => by
    have h' : ms = [] := h
    subst h'; exact rfl
  | e :: es, ms, 0, h => by
    obtain ⟨m0, t, rfl, hk, hv, hb, ht⟩ := h
    exact ht
  | e :: es, ms, i + 1, h => by
    obtain ⟨m0, t, rfl, hk, hv, hb, ht⟩ := h
    show ERel ι (e :: dropAt es i) _
    exact ⟨m0, _, rfl, hk, hv, hb, ERel_dropAt es t i ht⟩
theorem ERel_length : ∀ {es : List (V × V × Nat)} {ms : List MapEntry}, ERel ι es ms → ms.length = es.length
  | [], ms, h => by
    have h' : ms = [] := h
    subst h'; rfl
  | e :: es, ms, h => by
    obtain ⟨m0, t, rfl, _, _, _, ht⟩ := h
    simp [ERel_length ht]
/-- a map's store, with the key's kind known -/
theorem mapupd_run {t kt et : TypeId} {m k x : Operand} {e : EK} (c : Cxt P Γ ι H w ρ L R r) (hu : P.underlying t = some (.map kt et)) (hk : keyOf P kt = some e)
    (he : evMapupd e (r m) (r k) (r x) cal Γ L R H n = .ok v H' n') :
    ∃ w', (Instr.mapUpdate t (ρ m) (ρ k) (ρ x)).run P w = .ok () w' ∧ Step P ι H w ι H' w' ∧ v = .unk := by
  unfold evMapupd at he
  obtain ⟨b, d, rfl, hbt, hd, hb⟩ := keyOf_base hk
  have hm := c.hs m
  have hkk := c.hs k
  have hxx := c.hs x
  cases hbm : src L R (r m) <;> simp only [hbm] at he <;> try (cases he; done)
  rename_i p
  cases hg : H.get p with
  | none => simp [hg] at he
  | some ob =>
    cases ob <;> simp only [hg] at he <;> try (cases he; done)
    rename_i es cl
    obtain ⟨bk, es', hι, hh, hr⟩ := map_of c.hok hg
    rw [hbm] at hm; simp only [V.rel] at hm
    obtain ⟨b2, hι2, hme⟩ := hm
    rw [hι] at hι2; cases hι2
    obtain ⟨f1, f2⟩ := findNow_ok hb hkk es es'.toList 0 hr
    have pre : ∀ (res : Option (Nat × Value)) (w' : World), Instr.findNow d (ρ k) es'.toList 0 = some res →
        (match res with
          | some (i, _) => do
            let key ← Instr.keyThatStays (((es'[i]?).map (·.key)).getD (ρ k)) (ρ k)
            setObj bk (.map (es'.modify i fun e => { e with key, val := ρ x }) cl)
          | none => setObj bk (.map (es'.push { key := ρ k, val := ρ x, born := cl }) (cl + 1)) : Sem Unit).run P w = .ok () w' →
        (Instr.mapUpdate t (ρ m) (ρ k) (ρ x)).run P w = .ok () w' := by
      intro res w' hf hres
      unfold Instr.mapUpdate
      rw [run_ok_bind (run_underlying hu w), hme]
      simp only []
      rw [run_ok_bind (run_getObj_map hh)]
      simp only []
      rw [run_ok_bind (run_checkKey hd hb), run_ok_bind (run_findKey hd hf)]
      exact hres
    cases hf : findKey (.base b) (src L R (r k)) es 0 with
    | none => simp [hf] at he
    | some res =>
      cases res with
      | none =>
        simp [hf] at he
        obtain ⟨rfl, rfl, rfl⟩ := he
        obtain ⟨hsb, hnew⟩ := sameBut_putObj (ob' := .map (es'.push { key := ρ k, val := ρ x, born := cl }) (cl + 1)) hh
        refine ⟨_, pre none _ (f1 hf) (run_setObj_map _ hh), Step.write c.hok hg (by simp) hι hsb ⟨bk, _, hι, hnew, ?_⟩, rfl⟩
        rw [app_eq, Array.toList_push]
        exact ERel_append hkk hxx es _ hr
      | some jv =>
        obtain ⟨j, vv⟩ := jv
        simp [hf] at he
        obtain ⟨rfl, rfl, rfl⟩ := he
        obtain ⟨_, mm, hmm, hrv, hfn, hkey, hsame⟩ := f2 j vv hf
        have hmm' : es'[j]? = some mm := by simpa using hmm
        obtain ⟨hsb, hnew⟩ := sameBut_putObj (ob' := .map (es'.modify j fun e => { e with key := mm.key, val := ρ x }) cl) hh
        refine ⟨_, pre (some (j, mm.val)) _ hfn ?_, Step.write c.hok hg (by simp) hι hsb ⟨bk, _, hι, hnew, ?_⟩, rfl⟩
        · simp only []
          have hst : (Instr.keyThatStays (((es'[j]?).map (·.key)).getD (ρ k)) (ρ k)).run P w = .ok mm.key w := by
            rw [hmm']
            simp only [Option.map_some, Option.getD_some]
            unfold Instr.keyThatStays
            rw [if_pos hsame, hkey]; rfl
          rw [run_ok_bind hst]
          exact run_setObj_map _ hh
        · rw [Array.toList_modify]
          exact ERel_setVal hxx es _ j mm hr (by simpa using hmm')
theorem ok_mapupd (c : Cxt P Γ ι H w ρ L R r) {t : TypeId} {m k x : Operand} (ho : o.op = .mapUpdate t m k x ∨ o.op = .insert t m k x)
    (he : evI (opI P r (.mapUpdate t m k x)) cal Γ L R H n = .ok v H' n') : OpOK P ρ o w (Post P ι H w H' v) := by
  unfold opI at he
  cases hu : P.underlying t with
  | none => simp [hu] at he; cases he
  | some dd =>
    cases dd <;> simp only [hu] at he <;> try (cases he; done)
    rename_i kt et
    cases hk : keyOf P kt with
    | none => simp [hk] at he; cases he
    | some e =>
      have he' : evMapupd e (r m) (r k) (r x) cal Γ L R H n = .ok v H' n' := by simp only [hk] at he; exact he
      obtain ⟨w', hrun, hst, rfl⟩ := mapupd_run c hu hk he'
      refine OpOK.skip (w' := w') ?_ ⟨ι, by simp [V.rel], hst⟩
      unfold execOp
      rcases ho with ho | ho <;> rw [ho] <;> exact run_u hrun
theorem delete_eq (t a ty : TypeId) (x y : Value) : Builtin.delete_ #[t, a] ty #[x, y] = (do
    let .map keyType _ ← underlying t | stuck "delete: map type expected"
    match x with
    | .map none => Instr.checkKey true 10000 keyType y
    | .map (some r) =>
      let .map es clock ← getObj r | stuck "delete: map expected"
      Instr.checkKey es.isEmpty 10000 keyType y
      match ← Instr.findKey keyType y es.toList with
      | some (i, _) => setObj r (.map (es.eraseIdxIfInBounds i) clock)
      | none => setObj r (.map es clock)
    | _ => stuck "delete: map expected"
    pure (.tuple #[])) := rfl
theorem delete_run {t kt et : TypeId} {m k : Operand} {e : EK} {at2 : TypeId} {ty : TypeId} (c : Cxt P Γ ι H w ρ L R r) (hu : P.underlying t = some (.map kt et)) (hk : keyOf P kt = some e)
    (he : evDelete e (r m) (r k) cal Γ L R H n = .ok v H' n') :
    ∃ w', (Builtin.delete_ #[t, at2] ty #[ρ m, ρ k]).run P w = .ok (.tuple #[]) w' ∧ Step P ι H w ι H' w' ∧ v = .tup [] := by
  unfold evDelete at he
  obtain ⟨b, d, rfl, hbt, hd, hb⟩ := keyOf_base hk
  have hm := c.hs m
  have hkk := c.hs k
  cases hbm : src L R (r m) <;> simp only [hbm] at he <;> try (cases he; done)
  rename_i p
  cases hg : H.get p with
  | none => simp [hg] at he
  | some ob =>
    cases ob <;> simp only [hg] at he <;> try (cases he; done)
    rename_i es cl
    obtain ⟨bk, es', hι, hh, hr⟩ := map_of c.hok hg
    rw [hbm] at hm; simp only [V.rel] at hm
    obtain ⟨b2, hι2, hme⟩ := hm
    rw [hι] at hι2; cases hι2
    obtain ⟨f1, f2⟩ := findNow_ok hb hkk es es'.toList 0 hr
    have pre : ∀ (res : Option (Nat × Value)) (w' : World), Instr.findNow d (ρ k) es'.toList 0 = some res →
        (match res with
          | some (i, _) => setObj bk (.map (es'.eraseIdxIfInBounds i) cl)
          | none => setObj bk (.map es' cl) : Sem Unit).run P w = .ok () w' →
        (Builtin.delete_ #[t, at2] ty #[ρ m, ρ k]).run P w = .ok (.tuple #[]) w' := by
      intro res w' hf hres
      rw [hme, delete_eq]
      rw [run_ok_bind (run_underlying hu w)]
      simp only []
      rw [run_ok_bind (run_getObj_map hh)]
      simp only []
      rw [run_ok_bind (run_checkKey hd hb), run_ok_bind (run_findKey hd hf)]
      cases res with
      | none => simp only [] at hres ⊢; rw [run_ok_bind hres]; rfl
      | some q => simp only [] at hres ⊢; rw [run_ok_bind hres]; rfl
    cases hf : findKey (.base b) (src L R (r k)) es 0 with
    | none => simp [hf] at he
    | some res =>
      cases res with
      | none =>
        simp [hf] at he
        obtain ⟨rfl, rfl, rfl⟩ := he
        obtain ⟨hsb, hnew⟩ := sameBut_putObj (ob' := .map es' cl) hh
        exact ⟨_, pre none _ (f1 hf) (run_setObj_map _ hh), Step.write c.hok hg (by simp) hι hsb ⟨bk, _, hι, hnew, hr⟩, rfl⟩
      | some jv =>
        obtain ⟨j, vv⟩ := jv
        simp [hf] at he
        obtain ⟨rfl, rfl, rfl⟩ := he
        obtain ⟨_, mm, hmm, hrv, hfn, hkey, hsame⟩ := f2 j vv hf
        have hmm' : es'[j]? = some mm := by simpa using hmm
        have hj : j < es'.size := (Array.getElem?_eq_some_iff.1 hmm').1
        obtain ⟨hsb, hnew⟩ := sameBut_putObj (ob' := .map (es'.eraseIdxIfInBounds j) cl) hh
        refine ⟨_, pre (some (j, mm.val)) _ hfn (run_setObj_map _ hh), Step.write c.hok hg (by simp) hι hsb ⟨bk, _, hι, hnew, ?_⟩, rfl⟩
        have : (es'.eraseIdxIfInBounds j).toList = es'.toList.eraseIdx j := by
          simp [Array.eraseIdxIfInBounds, hj]
        rw [this]
        exact ERel_dropAt es _ j hr
theorem leftOf_cons (seen : List Nat) (e : V × V × Nat) (es : List (V × V × Nat)) : leftOf seen (e :: es) = (match notSeen seen e.2.2 with | true => e :: leftOf seen es | false => leftOf seen es) := rfl
theorem notSeen_eq : ∀ (seen : List Nat) (b : Nat), notSeen seen b = !(seen.contains b)
  | [], b => rfl
  | s :: t, b => by
    show (match Nat.beq s b with | true => false | false => notSeen t b) = _
    rw [notSeen_eq t b, List.contains_cons]
    have : Nat.beq s b = (b == s) := by rw [Bool.eq_iff_iff]; simp only [Nat.beq_eq, beq_iff_eq]; exact eq_comm
    rw [this]
    cases (b == s) <;> simp
theorem leftOf_ok (seen : List Nat) : ∀ (es : List (V × V × Nat)) (ms : List MapEntry), ERel ι es ms → ERel ι (leftOf seen es) (ms.filter fun e => !(seen.contains e.born))
  | [], ms, h => by
    have h' : ms = [] := h
    subst h'; exact rfl
  | e :: es, ms, h => by
    obtain ⟨m0, t, rfl, hk, hv, hb, ht⟩ := h
    rw [leftOf_cons, notSeen_eq, List.filter_cons, ← hb]
    have ih := leftOf_ok seen es t ht
    cases seen.contains m0.born with
    | true => simp only [Bool.not_true, Bool.false_eq_true, if_false]; exact ih
    | false => simp only [Bool.not_false, if_true]; exact ⟨m0, _, rfl, hk, hv, hb, ih⟩
theorem anyBefore_ok (last : Nat) : ∀ (es : List (V × V × Nat)) (ms : List MapEntry), ERel ι es ms → anyBefore last es = !(ms.all fun e => decide (e.born ≥ last))
  | [], ms, h => by
    have h' : ms = [] := h
    subst h'; rfl
  | e :: es, ms, h => by
    obtain ⟨m0, t, rfl, hk, hv, hb, ht⟩ := h
    show (match Nat.blt e.2.2 last with | true => true | false => anyBefore last es) = _
    rw [anyBefore_ok last es t ht, List.all_cons, ← hb]
    have : Nat.blt m0.born last = !(decide (m0.born ≥ last)) := by rw [Bool.eq_iff_iff]; simp [Nat.blt_eq]
    rw [this]
    cases decide (m0.born ≥ last) <;> simp
theorem ok_range (c : Cxt P Γ ι H w ρ L R r) {t : TypeId} {x : Operand} (ho : o.op = .range t x) (he : evI (opI P r (.range t x)) cal Γ L R H n = .ok v H' n') (hfr : Fr ι H H') :
    OpOK P ρ o w (Post P ι H w H' v) := by
  unfold opI at he
  cases hu : P.underlying t with
  | none => simp [hu] at he; cases he
  | some dd =>
    cases dd <;> simp only [hu] at he <;> try (cases he; done)
    have he' : evRange (r x) cal Γ L R H n = .ok v H' n' := he
    unfold evRange at he'
    have hx := c.hs x
    have fin : ∀ (ob : O) (it : Obj), ob ≠ .dead → fresh H n ob (.ptr n 0) = .ok v H' n' → (∀ hι : ι n = none, ob.ok P (upd ι n (w.heap.size, 0) 0) (w.alloc it) n) →
        (Instr.range t (ρ x)).run P w = .ok (.pointer (some ⟨w.heap.size, 0, none⟩)) (w.alloc it) → OpOK P ρ o w (Post P ι H w H' v) := by
      intro ob it hd hf hok hrun
      unfold fresh at hf
      cases hn : H.get n with
      | some q => simp [hn] at hf
      | none =>
        simp [hn] at hf
        obtain ⟨rfl, rfl, rfl⟩ := hf
        have hι : ι n = none := hfr n hn (by rw [Tr.get_set_same]; simp)
        refine OpOK.value (w' := w.alloc it) (by unfold execOp; rw [ho]; exact run_v hrun) ⟨_, ?_, Step.alloc it c.hok hn hι hd rfl rfl rfl rfl (hok hι)⟩
        simp only [V.rel]
        exact ⟨_, _, upd_same _ _ _ _, rfl⟩
    cases hbx : src L R (r x) <;> simp only [hbx] at he' <;> try (cases he'; done)
    case nilmp =>
      rw [hbx] at hx; simp only [V.rel] at hx
      refine fin _ (.mapIter none 0 #[] 0) (by simp) he' (fun hι => ⟨_, _, _, upd_same _ _ _ _, by show (w.heap.push _)[_]? = _; simp, rfl, rfl⟩) ?_
      unfold Instr.range
      rw [run_ok_bind (run_underlying hu w), hx]
      simp only []
      rw [run_ok_bind (run_ofPure _), run_ok_bind (run_newObj_alloc P w _)]; rfl
    case mp p =>
      cases hg : H.get p with
      | none => simp [hg] at he'
      | some ob =>
        cases ob <;> simp only [hg] at he' <;> try (cases he'; done)
        rename_i es cl
        obtain ⟨bk, es', hι0, hh, hr⟩ := map_of c.hok hg
        rw [hbx] at hx; simp only [V.rel] at hx
        obtain ⟨b2, hι2, hme⟩ := hx
        rw [hι0] at hι2; cases hι2
        refine fin _ (.mapIter (some bk) cl #[] cl) (by simp) he' (fun hι => ⟨_, _, _, upd_same _ _ _ _, by show (w.heap.push _)[_]? = _; simp, rfl, bk, (upd_le_new hι c.hok).name _ _ hι0, rfl⟩) ?_
        unfold Instr.range
        rw [run_ok_bind (run_underlying hu w), hme]
        simp only []
        rw [run_ok_bind (run_getObj_map hh)]
        simp only []
        rw [run_ok_bind (run_ofPure _), run_ok_bind (run_newObj_alloc P w _)]; rfl
end
end
end Go.Ev
/-
  A verified evaluator, part 16: steps of a range over a map; lengths; aggregates; least and greatest.
-/
namespace Go.Ev
noncomputable section
open Go

section
variable {P : Program} {Γ : Glo} {ι : Emb} {H H' : Heap} {w : World} {ρ : Operand → Value} {L : List V} {R : Regs} {r : Operand → Src} {cal : Cal} {n n' : Pth} {v : V} {o : Oper}

theorem run_choose_forced {q : Question} (h : q.forced = true) : (choose q).run P w = .ok 0 w := by simp [choose, Sem.run, h]
theorem run_getObj_iter {b : Nat} {m : Option Nat} {a : Nat} {s : Array Nat} {l : Nat} (h : w.heap[b]? = some (.mapIter m a s l)) : (getObj b).run P w = .ok (.mapIter m a s l) w := by simp [getObj, Sem.run, h]
theorem run_setObj_iter {b : Nat} {m : Option Nat} {a : Nat} {s : Array Nat} {l : Nat} (ob : Obj) (h : w.heap[b]? = some (.mapIter m a s l)) : (setObj b ob).run P w = .ok () (w.putObj b ob) := by simp [setObj, Sem.run, h, World.putObj]
theorem next_eq (a : Addr) (sp : Option Nat) (bk : Nat) (ty : TypeId) (ha : a = ⟨bk, 0, sp⟩) : Instr.next (.pointer (some a)) false ty = (do
    match ← getObj bk, false with
    | .stringIter s pos, true =>
      if pos < s.size then
        let (c, width) := Utf8.decode s pos
        setObj bk (.stringIter s (pos + width))
        pure (.tuple #[.bool true, goInt pos, .int .i32 c])
      else pure (.tuple #[.bool false])
    | .mapIter none _ _ _, false => pure (.tuple #[.bool false])
    | .mapIter (some m) since seen last, false =>
      let .map es clock ← getObj m | stuck "Next: map expected"
      if !seen.isEmpty && !es.isEmpty && es.all (·.born ≥ last) then
        unsupported (.noEntry "instr/Next: every entry that the ranged map held at the last iteration is gone, and it holds new ones")
      let left := es.filter fun e => !seen.contains e.born
      let old := left.filter (·.born < since)
      let new := left.filter (·.born ≥ since)
      let candidates := (if old.isEmpty then #[none] else #[]) ++ (old ++ new).map some
      match candidates[← choose (.mapNext candidates.size)]? with
      | some (some e) =>
        setObj bk (.mapIter (some m) since (seen.push e.born) clock)
        pure (.tuple #[.bool true, e.key, e.val])
      | some none => pure (.tuple #[.bool false])
      | none => stuck "Next: no such candidate"
    | _, _ => stuck "Next: iterator of the other kind") := by subst ha; rfl
theorem ok_next (c : Cxt P Γ ι H w ρ L R r) {it : Operand} (ho : o.op = .next it false) (he : evI (.next (r it)) cal Γ L R H n = .ok v H' n') : OpOK P ρ o w (Post P ι H w H' v) := by
  have he' : evNext (r it) cal Γ L R H n = .ok v H' n' := he
  unfold evNext at he'
  have hx := c.hs it
  cases hb : src L R (r it) <;> simp only [hb] at he' <;> try (cases he'; done)
  rename_i q off
  cases off with
  | succ k => simp at he'
  | zero =>
  simp only [] at he'
  rw [hb] at hx; simp only [V.rel] at hx
  cases hg : H.get q with
  | none => simp [hg] at he'
  | some ob =>
    cases ob <;> simp only [hg] at he' <;> try (cases he'; done)
    rename_i m since seen last
    obtain ⟨bk, m', seen', hι, hh, hseen, hm⟩ := c.hok.obj q _ hg
    obtain ⟨b2, s2, hι2, hxe⟩ := hx
    rw [hι] at hι2; cases hι2
    have hexec : ∀ {y w'}, (Instr.next (ρ it) false o.type).run P w = .ok y w' → (execOp ρ o).run P w = .ok (.value y) w' := fun h => by unfold execOp; rw [ho]; exact run_v h
    have hne := next_eq (⟨bk, 0 + 0, none⟩ : Addr) none bk o.type rfl
    cases m with
    | none =>
      simp at he'
      obtain ⟨rfl, rfl, rfl⟩ := he'
      simp only at hm; subst hm
      refine OpOK.value (hexec (y := .tuple #[.bool false]) (w' := w) ?_) (Post.pure c.hok ?_)
      · rw [hxe, hne, run_ok_bind (run_getObj_iter hh)]; rfl
      · simp only [V.rel]; exact ⟨_, rfl, rels_one (by simp [V.rel])⟩
    | some p =>
      obtain ⟨bm, hbm, rfl⟩ := hm
      simp only [] at he'
      cases hgp : H.get p with
      | none => simp [hgp] at he'
      | some obp =>
        cases obp <;> simp only [hgp] at he' <;> try (cases he'; done)
        rename_i es cl
        obtain ⟨bk2, es', hιp, hhp, hr⟩ := map_of c.hok hgp
        rw [hbm] at hιp; cases hιp
        -- not the case that the model leaves open
        have hopen : ((!seen'.isEmpty && !es'.isEmpty && es'.all (fun e => decide (e.born ≥ last))) = false) ∧
            stepOf H n q p since seen cl (leftOf seen es) = .ok v H' n' := by
          have hab := anyBefore_ok (ι := ι) last es es'.toList hr
          have hall : es'.all (fun e => decide (e.born ≥ last)) = es'.toList.all fun e => decide (e.born ≥ last) := by simp
          have hse : seen'.isEmpty = seen.isEmpty := by rw [← hseen]; cases seen' with | mk l => cases l <;> rfl
          have hee : es'.isEmpty = es.isEmpty := by
            have := ERel_length hr
            cases es' with
            | mk l => cases l <;> cases es <;> simp at this <;> rfl
          rw [hall, hse, hee]
          cases seen with
          | nil => exact ⟨rfl, by cases es <;> exact he'⟩
          | cons s0 st =>
            cases es with
            | nil => exact ⟨by cases seen' <;> rfl, he'⟩
            | cons e0 et =>
              cases hq : anyBefore last (e0 :: et) with
              | false => simp [hq] at he'
              | true =>
                simp only [hq] at he'
                rw [hq] at hab
                refine ⟨?_, he'⟩
                have : (es'.toList.all fun e => decide (e.born ≥ last)) = false := by
                  cases hx : (es'.toList.all fun e => decide (e.born ≥ last)) with
                  | false => rfl
                  | true => rw [hx] at hab; cases hab
                rw [this]; rfl
        obtain ⟨hopen1, he2⟩ := hopen
        have hleft := leftOf_ok (ι := ι) seen es es'.toList hr
        have hfl : (es'.filter fun e => !(seen'.contains e.born)).toList = es'.toList.filter fun e => !(seen.contains e.born) := by
          rw [Array.toList_filter, ← hseen]; congr 1; funext e; simp
        rw [← hfl] at hleft
        generalize hlf : (es'.filter fun e => !(seen'.contains e.born)) = left at hleft
        cases hlo : leftOf seen es with
        | nil =>
          rw [hlo] at he2 hleft
          simp [stepOf] at he2
          obtain ⟨rfl, rfl, rfl⟩ := he2
          have hl0 : left = #[] := by
            have : left.toList = [] := hleft
            exact Array.toList_eq_nil_iff.1 this
          refine OpOK.value (hexec (y := .tuple #[.bool false]) (w' := w) ?_) (Post.pure c.hok ?_)
          · rw [hxe, hne, run_ok_bind (run_getObj_iter hh)]
            simp only []
            rw [run_ok_bind (run_getObj_map hhp)]
            have hfe : ∀ f : MapEntry → Bool, (#[] : Array MapEntry).filter f = #[] := fun f => by simp
            have hc1 : ((if (#[] : Array MapEntry).isEmpty = true then #[none] else #[]) ++ ((#[] : Array MapEntry) ++ #[]).map some) = #[none] := by simp
            simp only [hopen1, Bool.false_eq_true, if_false, hlf, hl0, hfe, hc1]
            have hc0 : (choose (.mapNext 1)).run P w = .ok 0 w := run_choose_forced rfl
            exact (run_ok_bind hc0).trans rfl
          · simp only [V.rel]; exact ⟨_, rfl, rels_one (by simp [V.rel])⟩
        | cons e1 et =>
          cases et with
          | cons e2 et => rw [hlo] at he2; simp [stepOf] at he2
          | nil =>
            rw [hlo] at he2 hleft
            obtain ⟨k1, v1, b1⟩ := e1
            simp only [stepOf] at he2
            cases hbs : Nat.blt b1 since with
            | false => simp [hbs] at he2
            | true =>
              simp [hbs] at he2
              obtain ⟨rfl, rfl, rfl⟩ := he2
              obtain ⟨m0, t0, hl1, hk, hv, hbn, ht⟩ := hleft
              have ht' : t0 = [] := ht
              subst ht'
              simp only at hbn hk hv
              have hl1' : left = #[m0] := Array.toList_inj.1 hl1
              have hlt := blt_lt hbs
              obtain ⟨hsb, hnew⟩ := sameBut_putObj (ob' := .mapIter (some bm) since (seen'.push m0.born) cl) hh
              refine OpOK.value (hexec (y := .tuple #[.bool true, m0.key, m0.val]) (w' := w.putObj bk (.mapIter (some bm) since (seen'.push m0.born) cl)) ?_) ⟨ι, ?_, Step.write c.hok hg (by simp) hι hsb ⟨bk, _, _, hι, hnew, ?_, bm, hbm, rfl⟩⟩
              · rw [hxe, hne, run_ok_bind (run_getObj_iter hh)]
                simp only []
                rw [run_ok_bind (run_getObj_map hhp)]
                simp only [hopen1, Bool.false_eq_true, if_false, hlf, hl1']
                have hf1 : (#[m0].filter fun e => decide (e.born < since)) = #[m0] := by
                  have : decide (m0.born < since) = true := by simp; omega
                  exact Array.toList_inj.1 (by simp [this])
                have hf2 : (#[m0].filter fun e => decide (e.born ≥ since)) = #[] := by
                  have : decide (m0.born ≥ since) = false := by simp; omega
                  exact Array.toList_inj.1 (by simp [this])
                have hc1 : ((if (#[m0] : Array MapEntry).isEmpty = true then #[none] else #[]) ++ ((#[m0] : Array MapEntry) ++ #[]).map some) = #[some m0] := by simp
                simp only [hf1, hf2, hc1]
                have hc0 : (choose (.mapNext 1)).run P w = .ok 0 w := run_choose_forced rfl
                refine (run_ok_bind hc0).trans ?_
                show (do setObj bk (.mapIter (some bm) since (seen'.push m0.born) cl); pure (.tuple #[.bool true, m0.key, m0.val]) : Sem Value).run P w = _
                rw [run_ok_bind (run_setObj_iter _ hh)]; rfl
              · simp only [V.rel]; exact ⟨_, rfl, rels_cons (by simp [V.rel]) (rels_cons hk (rels_one hv))⟩
              · rw [Array.toList_push, hseen, app_eq, hbn]
theorem ok_entry (c : Cxt P Γ ι H w ρ L R r) {it : Operand} (ho : o.op = .entry it) (he : evI (.entry (r it)) cal Γ L R H n = .ok v H' n') : OpOK P ρ o w (Post P ι H w H' v) := by
  have he' : evEntry (r it) cal Γ L R H n = .ok v H' n' := he
  unfold evEntry at he'
  have hx := c.hs it
  cases hb : src L R (r it) <;> simp only [hb] at he' <;> try (cases he'; done)
  rename_i q off
  cases off with
  | succ k => simp at he'
  | zero =>
  simp only [] at he'
  rw [hb] at hx; simp only [V.rel] at hx
  cases hg : H.get q with
  | none => simp [hg] at he'
  | some ob =>
    cases ob <;> simp only [hg] at he' <;> try (cases he'; done)
    rename_i m since seen last
    cases m with
    | none => simp at he'
    | some p =>
    obtain ⟨bk, m', seen', hι, hh, hseen, hm⟩ := c.hok.obj q _ hg
    obtain ⟨b2, s2, hι2, hxe⟩ := hx
    rw [hι] at hι2; cases hι2
    obtain ⟨bm, hbm, rfl⟩ := hm
    simp only [] at he'
    cases hgp : H.get p with
    | none => simp [hgp] at he'
    | some obp =>
      cases hla : lastOf seen with
      | none => cases obp <;> simp [hgp, hla] at he'
      | some bs =>
        cases obp <;> simp only [hgp, hla] at he' <;> try (cases he'; done)
        rename_i es cl
        cases hcl : Nat.beq cl last with
        | false => simp [hcl] at he'
        | true =>
          have := beq_eq hcl; subst this
          simp only [hcl] at he'
          cases hfb : findBorn bs es with
          | none => simp [hfb] at he'
          | some e1 =>
            obtain ⟨k1, v1, b1⟩ := e1
            simp [hfb] at he'
            obtain ⟨rfl, rfl, rfl⟩ := he'
            obtain ⟨bk2, es', hιp, hhp, hr⟩ := map_of c.hok hgp
            rw [hbm] at hιp; cases hιp
            have hlast : ∀ l : List Nat, lastOf l = l.getLast? := fun l => by
              induction l with
              | nil => rfl
              | cons x t ih =>
                show (match lastOf t with | some y => some y | none => some x) = _
                rw [ih]
                cases t with
                | nil => rfl
                | cons y t =>
                  rw [List.getLast?_cons_cons]
                  cases h : (y :: t).getLast? with
                  | none => simp at h
                  | some z => rfl
            have hback : seen'.back? = some bs := by
              rw [hlast] at hla
              rw [← Array.getLast?_toList, hseen]; exact hla
            have hfind : ∀ (es : List (V × V × Nat)) (ms : List MapEntry), ERel ι es ms → findBorn bs es = some (k1, v1, b1) → ∃ m0, ms.find? (·.born == bs) = some m0 ∧ V.rel ι k1 m0.key ∧ V.rel ι v1 m0.val := by
              intro es
              induction es with
              | nil => intro ms _ h; simp [findBorn] at h
              | cons e t ih =>
                intro ms h hf
                obtain ⟨m0, t', rfl, hk, hv, hbn, ht⟩ := h
                have hf' : (match Nat.beq e.2.2 bs with | true => some e | false => findBorn bs t) = some (k1, v1, b1) := hf
                rw [List.find?_cons]
                have hq : (m0.born == bs) = Nat.beq e.2.2 bs := by rw [← hbn, Bool.eq_iff_iff]; simp
                rw [hq]
                cases hc : Nat.beq e.2.2 bs with
                | true =>
                  simp [hc] at hf'
                  subst hf'
                  exact ⟨m0, rfl, hk, hv⟩
                | false =>
                  simp only [hc] at hf'
                  exact ih t' ht hf'
            obtain ⟨m0, hm0, hk0, hv0⟩ := hfind es es'.toList hr hfb
            refine OpOK.same c (s := Instr.entry (ρ it)) (x := .tuple #[m0.key, m0.val]) (by unfold execOp; rw [ho]) ?_ (by simp only [V.rel]; exact ⟨_, rfl, rels_cons hk0 (rels_one hv0)⟩)
            rw [hxe]
            show (do
              let .mapIter (some m) _ seen stepped ← getObj bk | stuck "Entry: an iterator over a map that is not nil expected"
              let some stamp := seen.back? | stuck "Entry: no step yet"
              let .map es clock ← getObj m | stuck "Entry: map expected"
              if clock != stepped then unsupported (.noEntry "instr/Entry: an insertion since the step")
              match es.find? (·.born == stamp) with
              | some e => pure (.tuple #[e.key, e.val])
              | none => unsupported (.noEntry "instr/Entry.removed") : Sem Value).run P w = _
            rw [run_ok_bind (run_getObj_iter hh)]
            simp only [hback]
            rw [run_ok_bind (run_getObj_map hhp)]
            simp only [bne_self_eq_false, Bool.false_eq_true, if_false]
            have : es'.find? (·.born == bs) = some m0 := by rw [← Array.find?_toList]; exact hm0
            rw [this]; rfl
end
end
end Go.Ev
