/-
  A verified evaluator, part 8: aggregates and new blocks.
-/
import Derived.Test.YtldbmeifhklhkaaGreatDoorEv7
namespace Go.Ev
noncomputable section
open Go

theorem foldl_set (off : Nat) : ∀ (vs : List Value) (j : Nat) (cs : Array Value), off + j + vs.length ≤ cs.size →
    ((vs.zipIdx j).foldl (fun cs (x : Value × Nat) => cs.setIfInBounds (off + x.2) x.1) cs).toList = cs.toList.take (off + j) ++ vs ++ cs.toList.drop (off + j + vs.length)
  | [], j, cs, _ => by simp
  | x :: vs, j, cs, h => by
    simp only [List.zipIdx_cons, List.foldl_cons]
    have hlt : off + j < cs.size := by simp at h; omega
    rw [foldl_set off vs (j + 1) _ (by simp at h ⊢; omega)]
    simp only [Array.toList_setIfInBounds, List.length_cons]
    have e1 : (cs.toList.set (off + j) x).take (off + (j + 1)) = cs.toList.take (off + j) ++ [x] := by
      have hl : (cs.toList.take (off + j)).length = off + j := by simp; omega
      rw [List.set_eq_take_append_cons_drop, if_pos (by simpa using hlt), List.take_append, hl]
      have : off + (j + 1) - (off + j) = 1 := by omega
      rw [this, List.take_of_length_le (by rw [hl]; omega)]; simp
    have e2 : (cs.toList.set (off + j) x).drop (off + (j + 1) + vs.length) = cs.toList.drop (off + j + (vs.length + 1)) := by
      rw [List.drop_set_of_lt (by omega)]; congr 1; omega
    rw [e1, e2]; simp
theorem foldl_set_size (off : Nat) : ∀ (vs : List Value) (j : Nat) (cs : Array Value), ((vs.zipIdx j).foldl (fun cs (x : Value × Nat) => cs.setIfInBounds (off + x.2) x.1) cs).size = cs.size
  | [], j, cs => rfl
  | x :: vs, j, cs => by simp only [List.zipIdx_cons, List.foldl_cons]; rw [foldl_set_size off vs]; simp

def PartsR (place : Nat → Option (Nat × Nat)) (r : Operand → Src) : List (Nat × Operand) → List (Nat × Nat × Src) → Prop
  | [], qs => qs = []
  | p :: ps, qs => ∃ q t, qs = q :: t ∧ place p.1 = some (q.1, q.2.1) ∧ q.2.2 = r p.2 ∧ PartsR place r ps t
section
variable {P : Program} {ι : Emb} {ρ : Operand → Value} {L : List V} {R : Regs} {r : Operand → Src}
/-- parts of an aggregate: the model's and ours -/
theorem fill_ok (hs : ∀ x, V.rel ι (src L R (r x)) (ρ x)) (place : Nat → Option (Nat × Nat)) : ∀ (parts : List (Nat × Operand)) (ps : List (Nat × Nat × Src)) (c l : List V) (cs : Array Value),
    PartsR place r parts ps →
    V.rels ι c cs.toList → layParts L R ps c = some l → ∃ cs', Instr.fill place cs (parts.map fun p => (p.1, ρ p.2)) = some cs' ∧ V.rels ι l cs'.toList
  | [], _, c, l, cs, hf, hc, h => by
    have hf' : _ = [] := hf
    subst hf'
    simp [layParts] at h
    subst h
    exact ⟨cs, by simp [Instr.fill], hc⟩
  | p :: parts, _, c, l, cs, hf, hc, h => by
    obtain ⟨⟨off, size, s⟩, ps, rfl, hpl, hsr, hrest⟩ := hf
    · simp only at hpl hsr
      subst hsr
      have h' : (match layPart L R c (off, size, r p.2) with | some c' => layParts L R ps c' | none => none) = some l := h
      cases hlp : layPart L R c (off, size, r p.2) with
      | none => simp [hlp] at h'
      | some c' =>
        simp only [hlp] at h'
        unfold layPart at hlp
        cases hco : cellsOf (src L R (r p.2)) with
        | none => simp [hco] at hlp
        | some vs =>
          simp only [hco] at hlp
          cases hb1 : Nat.beq (len vs) size with
          | false => simp [hb1] at hlp
          | true =>
            cases hb2 : Nat.ble (off + size) (len c) with
            | false => simp [hb1, hb2] at hlp
            | true =>
              simp only [hb1, hb2, Option.some.injEq] at hlp
              subst hlp
              have e1 := beq_eq hb1
              have e2 := ble_le hb2
              rw [len_eq] at e1 e2
              have hv := cellsOf_rel hco (hs p.2)
              have hvl := rels_length hv
              have hcl := rels_length hc
              simp only [Array.length_toList] at hvl hcl
              have hov := rels_overlay hc hv (o := off) (by omega)
              have hfs := foldl_set off (ρ p.2).cells.toList 0 cs (by simp; omega)
              have hsz := foldl_set_size off (ρ p.2).cells.toList 0 cs
              obtain ⟨cs', hfill, hr'⟩ := fill_ok hs place parts ps (overlay c off vs) l
                (((ρ p.2).cells.toList.zipIdx 0).foldl (fun cs (x : Value × Nat) => cs.setIfInBounds (off + x.2) x.1) cs) hrest
                (by rw [hfs]; simpa using hov) h'
              refine ⟨cs', ?_, hr'⟩
              simp only [List.map_cons, Instr.fill, hpl]
              rw [if_neg (by simp; omega)]
              rw [← hfill]
              congr 1
              rw [← Array.foldl_toList]
              congr 1
              simp [Array.toList_zipIdx]
end

theorem zeroCells_eq {α : Type} [Inhabited α] (z : Array α) (n : Nat) : ((Array.range (n * z.size)).map (fun i => z[i % z.size]!)).toList = repl n z.toList := by
  rw [repl_eq]
  induction n with
  | zero => simp
  | succ n ih =>
    rw [List.replicate_succ', List.flatten_append, ← ih]
    simp only [Array.toList_map, Array.toList_range]
    rw [Nat.succ_mul, List.range_add, List.map_append]
    congr 1
    simp only [List.flatten_cons, List.flatten_nil, List.append_nil, List.map_map]
    apply List.ext_getElem
    · simp
    · intro i h1 h2
      simp at h1 h2
      simp [Nat.add_mod, Nat.mod_eq_of_lt h2, h2]
end
end Go.Ev
