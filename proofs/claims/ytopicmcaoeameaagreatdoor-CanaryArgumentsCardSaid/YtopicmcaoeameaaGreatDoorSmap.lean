/-
  A map keyed by strings, said as a function: what a look-up gives, what a store leaves. (Of no program.)
-/
import Derived.Maps.Own
import Derived.StringKeys
import Derived.WalkKit
namespace Go.Smap
open Go Go.Maps Go.RowKit Go.WideMaps

/-- block B is a map of at most n entries, keyed by strings, that holds what f says -/
def IsMap (w : World) (B n : Nat) (f : ByteArray → Option Value) : Prop :=
  ∃ ms cl, w.heap[B]? = some (.map ms cl) ∧ ms.size ≤ n ∧ (∀ x ∈ ms.toList, x.born < cl) ∧ (ms.toList.map (·.born)).Nodup ∧ (ms.toList.map (·.key)).Nodup ∧
    (∀ x ∈ ms.toList, ∃ s : ByteArray, s.size ≤ maxLen ∧ x.key = .string s ∧ f s = some x.val) ∧ ∀ s v, f s = some v → ∃ x ∈ ms.toList, x.key = .string s
theorem IsMap.same {w w' : World} {B n : Nat} {f : ByteArray → Option Value} (h : IsMap w B n f) (hb : w'.heap[B]? = w.heap[B]?) : IsMap w' B n f := by
  obtain ⟨ms, cl, h0, h1⟩ := h
  exact ⟨ms, cl, hb.trans h0, h1⟩
theorem IsMap.lt {w : World} {B n : Nat} {f : ByteArray → Option Value} (h : IsMap w B n f) : B < w.heap.size := by
  obtain ⟨ms, cl, h0, _⟩ := h
  exact (Array.getElem?_eq_some_iff.1 h0).1
theorem IsMap.alloc {w : World} {B n : Nat} {f : ByteArray → Option Value} (h : IsMap w B n f) (o : Obj) : IsMap (w.alloc o) B n f := h.same (Below.heap_alloc _ _ _ h.lt)
theorem isMap_made (w : World) : IsMap (w.alloc (.map #[] 0)) w.heap.size 0 fun _ => none :=
  ⟨#[], 0, heap_alloc_new _ _, by simp, by simp, by simp, by simp, by simp, by simp⟩
section
variable {P : Program} {t k e : TypeId} {w : World} {B n : Nat} {f : ByteArray → Option Value}
theorem IsMap.keys (hk : P.underlying k = some .string) {ms : Array MapEntry} (h : ∀ x ∈ ms.toList, ∃ s : ByteArray, s.size ≤ maxLen ∧ x.key = .string s ∧ f s = some x.val) : ∀ x ∈ ms.toList, ∃ l, keyOf P k x.key = some l := fun x hx => by
  obtain ⟨s, hs, hkey, _⟩ := h x hx
  exact ⟨_, by rw [hkey]; exact keyOf_string_mk hk hs⟩
theorem IsMap.lookup (h : IsMap w B n f) (ht : P.underlying t = some (.map k e)) (hk : P.underlying k = some .string) {z : Value} (hz : (zeroValue e).run P w = .ok z w) {s : ByteArray} (hs : s.size ≤ maxLen) :
    (Instr.lookup t (.map (some B)) (.string s) false).run P w = .ok ((f s).getD z) w := by
  obtain ⟨ms, cl, hb, _, _, _, hnd, h1, h2⟩ := h
  have K := string_keyed hk
  have hkey := keyOf_string_mk hk hs
  rcases K.find w hkey ms.toList (IsMap.keys hk h1) with ⟨hf, hn⟩ | ⟨j, e0, hf, hj, he⟩
  · have : f s = none := by
      cases hfs : f s with
      | none => rfl
      | some v => obtain ⟨x, hx, hxk⟩ := h2 s v hfs; exact absurd hxk (hn x hx)
    rw [this]
    simp [Instr.lookup, run_underlying ht, MapKept.run_getObj_map hb, K.check w _ hkey, hf, hz, Result.andThen]
  · obtain ⟨s', _, hk', hv⟩ := h1 e0 (List.mem_of_getElem? hj)
    rw [he] at hk'
    cases hk'
    rw [hv]
    simp [Instr.lookup, run_underlying ht, MapKept.run_getObj_map hb, K.check w _ hkey, hf, Result.andThen]
theorem IsMap.update (h : IsMap w B n f) (hn : n < maxLen) (ht : P.underlying t = some (.map k e)) (hk : P.underlying k = some .string) {s : ByteArray} (hs : s.size ≤ maxLen) (v : Value) :
    ∃ o, (Instr.mapUpdate t (.map (some B)) (.string s) v).run P w = .ok () (ChangeMaps.setBlock w B o) ∧ IsMap (ChangeMaps.setBlock w B o) B (n + 1) fun u => if u = s then some v else f u := by
  obtain ⟨ms, cl, hb, hsz, hb1, hb2, hnd, h1, h2⟩ := h
  have K := string_keyed hk
  have hkey := keyOf_string_mk hk hs
  have hlt : B < w.heap.size := (Array.getElem?_eq_some_iff.1 hb).1
  have hnew : ∀ o, (ChangeMaps.setBlock w B o).heap[B]? = some o := fun o => by simp [ChangeMaps.setBlock, hlt]
  rcases K.find w hkey ms.toList (IsMap.keys hk h1) with ⟨hf, hno⟩ | ⟨j, e0, hf, hj, he⟩
  · refine ⟨.map (ms.push ⟨.string s, v, cl⟩) (cl + 1), ?_, ms.push ⟨.string s, v, cl⟩, cl + 1, hnew _, by simp; omega, ?_, ?_, ?_, ?_, ?_⟩
    · simp [Instr.mapUpdate, run_underlying ht, MapKept.run_getObj_map hb, K.check w false hkey, hf, MapKept.run_setObj_map _ hb, Result.andThen, ChangeMaps.setBlock]
    · intro x hx
      simp only [Array.toList_push, List.mem_append, List.mem_singleton] at hx
      rcases hx with hx | rfl
      · have := hb1 x hx; omega
      · simp
    · simp only [Array.toList_push, List.map_append, List.map_singleton]
      refine List.nodup_append.2 ⟨hb2, by simp, fun a ha b hb' => ?_⟩
      simp only [List.mem_singleton] at hb'
      subst hb'
      obtain ⟨x, hx, rfl⟩ := List.mem_map.1 ha
      have := hb1 x hx
      simp; omega
    · simp only [Array.toList_push, List.map_append, List.map_singleton]
      refine List.nodup_append.2 ⟨hnd, by simp, fun a ha b hb' => ?_⟩
      simp only [List.mem_singleton] at hb'
      subst hb'
      obtain ⟨x, hx, rfl⟩ := List.mem_map.1 ha
      exact hno x hx
    · intro x hx
      simp only [Array.toList_push, List.mem_append, List.mem_singleton] at hx
      rcases hx with hx | rfl
      · obtain ⟨u, hu, hxk, hv⟩ := h1 x hx
        refine ⟨u, hu, hxk, ?_⟩
        show (if u = s then some v else f u) = _
        rw [if_neg (fun e' => hno x hx (by rw [hxk, e']))]
        exact hv
      · exact ⟨s, hs, rfl, by simp⟩
    · intro u y hu
      simp only [Array.toList_push, List.mem_append, List.mem_singleton]
      by_cases e : u = s
      · subst e
        exact ⟨_, .inr rfl, rfl⟩
      · have hu' : (if u = s then some v else f u) = some y := hu
        rw [if_neg e] at hu'
        obtain ⟨x, hx, hxk⟩ := h2 u y hu'
        exact ⟨x, .inl hx, hxk⟩
  · have hj' : ms[j]? = some e0 := by simpa using hj
    have hlist : (ms.modify j (fun e' => { e' with key := .string s, val := v })).toList = ms.toList.set j { e0 with key := .string s, val := v } := by rw [Array.toList_modify, ChangeMaps.modify_eq_set _ _ _ _ hj]
    have hkj : (ms.toList.map (·.key))[j]? = some (.string s) := by rw [List.getElem?_map, hj]; simp [he]
    have hbj : (ms.toList.map (·.born))[j]? = some e0.born := by rw [List.getElem?_map, hj]; rfl
    have hself : ∀ {α : Type} (l : List α) (i : Nat) (a : α), l[i]? = some a → l.set i a = l := fun l i a h => by
      refine List.ext_getElem? fun m => ?_
      rw [List.getElem?_set]
      split
      · rename_i e1; subst e1; split
        · exact h.symm
        · rename_i h2; rw [List.getElem?_eq_none (by omega)] at h; cases h
      · rfl
    have hkeys : (ms.toList.set j { e0 with key := .string s, val := v }).map (·.key) = ms.toList.map (·.key) := by rw [List.map_set]; exact hself _ _ _ hkj
    have hborn : (ms.toList.set j { e0 with key := .string s, val := v }).map (·.born) = ms.toList.map (·.born) := by rw [List.map_set]; exact hself _ _ _ hbj
    have hjl : j < ms.toList.length := (List.getElem?_eq_some_iff.1 hj).1
    have who : ∀ x ∈ ms.toList.set j { e0 with key := .string s, val := v }, x = { e0 with key := .string s, val := v } ∨ (x ∈ ms.toList ∧ x.key ≠ .string s) := by
      intro x hx
      obtain ⟨i, hi, ex⟩ := List.getElem_of_mem hx
      rw [List.getElem_set] at ex
      split at ex
      · exact .inl ex.symm
      · rename_i hne
        have hi' : i < ms.toList.length := by simpa using hi
        refine .inr ⟨ex ▸ List.getElem_mem hi', fun e1 => hne ?_⟩
        have hl : (ms.toList.map (·.key))[i]? = some (.string s) := by rw [List.getElem?_map, List.getElem?_eq_getElem hi', ex]; simp [e1]
        have hij := (List.getElem?_inj (i := j) (j := i) (by simpa using hjl) hnd).1 (hkj.trans hl.symm)
        exact hij
    refine ⟨.map (ms.modify j (fun e' => { e' with key := .string s, val := v })) cl, ?_, ms.modify j (fun e' => { e' with key := .string s, val := v }), cl, hnew _, by simp; omega, ?_, by rw [hlist, hborn]; exact hb2, by rw [hlist, hkeys]; exact hnd, ?_, ?_⟩
    · simp [Instr.mapUpdate, run_underlying ht, MapKept.run_getObj_map hb, K.check w false hkey, hf, hj', he, K.stays w hkey, MapKept.run_setObj_map _ hb, Result.andThen, ChangeMaps.setBlock]
    · intro x hx
      rw [hlist] at hx
      rcases who x hx with rfl | ⟨hx', _⟩
      · exact hb1 e0 (List.mem_of_getElem? hj)
      · exact hb1 x hx'
    · intro x hx
      rw [hlist] at hx
      rcases who x hx with rfl | ⟨hx', hne⟩
      · exact ⟨s, hs, rfl, by simp⟩
      · obtain ⟨u, hu, hxk, hv⟩ := h1 x hx'
        exact ⟨u, hu, hxk, by show (if u = s then some v else f u) = _; rw [if_neg (fun e' => hne (by rw [hxk, e']))]; exact hv⟩
    · intro u y hu
      rw [hlist]
      have hex : ∃ x ∈ ms.toList, x.key = .string u := by
        by_cases e : u = s
        · subst e; exact ⟨e0, List.mem_of_getElem? hj, he⟩
        · have hu' : (if u = s then some v else f u) = some y := hu
          rw [if_neg e] at hu'; exact h2 u y hu'
      obtain ⟨x, hx, hxk⟩ := hex
      have : Value.string u ∈ (ms.toList.set j { e0 with key := .string s, val := v }).map (·.key) := by rw [hkeys]; exact List.mem_map.2 ⟨x, hx, hxk⟩
      obtain ⟨x', hx', hxk'⟩ := List.mem_map.1 this
      exact ⟨x', hx', hxk'⟩
end
end Go.Smap
