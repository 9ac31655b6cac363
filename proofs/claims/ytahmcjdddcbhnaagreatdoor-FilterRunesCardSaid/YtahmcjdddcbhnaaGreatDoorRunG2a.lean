/-
  The stream of the rule \u{e4}, walked: its steps; what its results are.
  The stream of the rule \u{e4}, walked: how it begins.
  text.symbolsOf of code points, walked: what it yields, and -1 at last where the bytes are no encoding.
  text.Decode of code points, walked: the code points, or the error where the bytes are no encoding.
  The stream of the rule \u{e4}, walked: Feed of any symbols.
  The stream of the rule \u{e4}, fresh or begun: Feed and Close.
  The stream of bytes of the rule \u{e4}, walked: Close.
  The stream of bytes of the rule \u{e4}, walked: Feed.
  The stream of bytes of the rule \u{e4}, walked: Feed of good bytes.
  The reference's texts over code points, and the first bytes of some, walked.
-/
import Derived.Test.YtahmcjdddcbhnaaGreatDoorStrVW
import Derived.Test.YtahmcjdddcbhnaaGreatDoorStrYW
import Derived.Test.YtahmcjdddcbhnaaGreatDoorStrJ0W
import Derived.Test.YtahmcjdddcbhnaaGreatDoorStrJ2W
import Derived.Test.YtahmcjdddcbhnaaGreatDoorStrJ3W
import Derived.Test.YtahmcjdddcbhnaaGreatDoorRunG1a
import Derived.Test.YtahmcjdddcbhnaaGreatDoorFstWW
import Derived.Test.YtahmcjdddcbhnaaGreatDoorRunG0b
import Derived.Test.YtahmcjdddcbhnaaGreatDoorRunG0a
import Derived.Test.YtahmcjdddcbhnaaGreatDoorUtfPW
namespace Go.Proofs.YtahmcjdddcbhnaaGreatDoor
open Go Go.Ev Go.RowKit

theorem stepK_all : ∀ k, k < 24 → stepK k = true
  | 0, _ => run_stepK0
  | 1, _ => run_stepK1
  | 2, _ => run_stepK2
  | 3, _ => run_stepK3
  | 4, _ => run_stepK4
  | 5, _ => run_stepK5
  | 6, _ => run_stepK6
  | 7, _ => run_stepK7
  | 8, _ => run_stepK8
  | 9, _ => run_stepK9
  | 10, _ => run_stepK10
  | 11, _ => run_stepK11
  | 12, _ => run_stepK12
  | 13, _ => run_stepK13
  | 14, _ => run_stepK14
  | 15, _ => run_stepK15
  | 16, _ => run_stepK16
  | 17, _ => run_stepK17
  | 18, _ => run_stepK18
  | 19, _ => run_stepK19
  | 20, _ => run_stepK20
  | 21, _ => run_stepK21
  | 22, _ => run_stepK22
  | 23, _ => run_stepK23
  | k + 24, h => by omega
theorem stepJ0_all : ∀ k, k < 24 → stepJ 0 k = true
  | 0, _ => run_stepJ0_0
  | 1, _ => run_stepJ0_1
  | 2, _ => run_stepJ0_2
  | 3, _ => run_stepJ0_3
  | 4, _ => run_stepJ0_4
  | 5, _ => run_stepJ0_5
  | 6, _ => run_stepJ0_6
  | 7, _ => run_stepJ0_7
  | 8, _ => run_stepJ0_8
  | 9, _ => run_stepJ0_9
  | 10, _ => run_stepJ0_10
  | 11, _ => run_stepJ0_11
  | 12, _ => run_stepJ0_12
  | 13, _ => run_stepJ0_13
  | 14, _ => run_stepJ0_14
  | 15, _ => run_stepJ0_15
  | 16, _ => run_stepJ0_16
  | 17, _ => run_stepJ0_17
  | 18, _ => run_stepJ0_18
  | 19, _ => run_stepJ0_19
  | 20, _ => run_stepJ0_20
  | 21, _ => run_stepJ0_21
  | 22, _ => run_stepJ0_22
  | 23, _ => run_stepJ0_23
  | k + 24, h => by omega
theorem stepJ2_all : ∀ k, k < 24 → stepJ 2 k = true
  | 0, _ => run_stepJ2_0
  | 1, _ => run_stepJ2_1
  | 2, _ => run_stepJ2_2
  | 3, _ => run_stepJ2_3
  | 4, _ => run_stepJ2_4
  | 5, _ => run_stepJ2_5
  | 6, _ => run_stepJ2_6
  | 7, _ => run_stepJ2_7
  | 8, _ => run_stepJ2_8
  | 9, _ => run_stepJ2_9
  | 10, _ => run_stepJ2_10
  | 11, _ => run_stepJ2_11
  | 12, _ => run_stepJ2_12
  | 13, _ => run_stepJ2_13
  | 14, _ => run_stepJ2_14
  | 15, _ => run_stepJ2_15
  | 16, _ => run_stepJ2_16
  | 17, _ => run_stepJ2_17
  | 18, _ => run_stepJ2_18
  | 19, _ => run_stepJ2_19
  | 20, _ => run_stepJ2_20
  | 21, _ => run_stepJ2_21
  | 22, _ => run_stepJ2_22
  | 23, _ => run_stepJ2_23
  | k + 24, h => by omega
theorem stepJ3_all : ∀ k, k < 24 → stepJ 3 k = true
  | 0, _ => run_stepJ3_0
  | 1, _ => run_stepJ3_1
  | 2, _ => run_stepJ3_2
  | 3, _ => run_stepJ3_3
  | 4, _ => run_stepJ3_4
  | 5, _ => run_stepJ3_5
  | 6, _ => run_stepJ3_6
  | 7, _ => run_stepJ3_7
  | 8, _ => run_stepJ3_8
  | 9, _ => run_stepJ3_9
  | 10, _ => run_stepJ3_10
  | 11, _ => run_stepJ3_11
  | 12, _ => run_stepJ3_12
  | 13, _ => run_stepJ3_13
  | 14, _ => run_stepJ3_14
  | 15, _ => run_stepJ3_15
  | 16, _ => run_stepJ3_16
  | 17, _ => run_stepJ3_17
  | 18, _ => run_stepJ3_18
  | 19, _ => run_stepJ3_19
  | 20, _ => run_stepJ3_20
  | 21, _ => run_stepJ3_21
  | 22, _ => run_stepJ3_22
  | 23, _ => run_stepJ3_23
  | k + 24, h => by omega
/-- the numbers: how many symbols, and where the results begin -/
def numU (L : Int) (ρ : List Int) (i : Nat) : Int := match i with
  | 0 => L
  | j + 1 => (ρ[j]?).getD 0
theorem getN_mem {i : Nat} {u : V} : ∀ {l : Asg}, getN l i = some u → (i, u) ∈ l
  | [], h => by cases h
  | e :: t, h => by
    have h' : (match Nat.beq e.1 i with | true => some e.2 | false => getN t i) = some u := h
    cases hb : Nat.beq e.1 i with
    | true =>
      rw [hb] at h'
      cases h'
      have := Nat.eq_of_beq_eq_true hb
      subst this
      exact List.mem_cons_self ..
    | false =>
      rw [hb] at h'
      exact List.mem_cons_of_mem _ (getN_mem h')
theorem getS_mem {i : Nat} {u : Int × Int} : ∀ {l : Ev.Spec}, getS l i = some u → (i, u) ∈ l
  | [], h => by cases h
  | e :: t, h => by
    have h' : (match Nat.beq e.1 i with | true => some e.2 | false => getS t i) = some u := h
    cases hb : Nat.beq e.1 i with
    | true =>
      rw [hb] at h'
      cases h'
      have := Nat.eq_of_beq_eq_true hb
      subst this
      exact List.mem_cons_self ..
    | false =>
      rw [hb] at h'
      exact List.mem_cons_of_mem _ (getS_mem h')
theorem asgT_mem {i : Nat} {u : V} : ∀ {k : Nat}, (i, u) ∈ (Nat.rec [] (fun i ih => ih ++ [(Nat.succ i, V.sym (Nat.succ i) .i64 0 65536)]) k : Asg) → ∃ j, j < k ∧ i = j + 1 ∧ u = .sym (j + 1) .i64 0 65536
  | 0, h => by cases h
  | k + 1, h => by
    rcases List.mem_append.1 h with h | h
    · obtain ⟨j, hj, h1, h2⟩ := asgT_mem h
      exact ⟨j, by omega, h1, h2⟩
    · have := List.mem_singleton.1 h
      cases this
      exact ⟨k, by omega, rfl, rfl⟩
theorem spK_mem {i : Nat} {u : Int × Int} : ∀ {k : Nat}, (i, u) ∈ spK k → u = (0, 65536) ∧ i ≤ k
  | 0, h => by
    have := List.mem_singleton.1 h
    cases this
    exact ⟨rfl, Nat.le_refl _⟩
  | k + 1, h => by
    rcases List.mem_append.1 h with h | h
    · have := spK_mem h
      exact ⟨this.1, by omega⟩
    · have := List.mem_singleton.1 h
      cases this
      exact ⟨rfl, Nat.le_refl _⟩
theorem num_bd {L : Int} {ρ : List Int} (hL : 0 ≤ L ∧ L ≤ 65536) (hρ : ∀ a ∈ ρ, 0 ≤ a ∧ a ≤ 65536) {i : Nat} (hi : i ≤ ρ.length) : 0 ≤ numU L ρ i ∧ numU L ρ i ≤ 65536 := by
  cases i with
  | zero => exact hL
  | succ j =>
    have hj : j < ρ.length := by omega
    have : numU L ρ (j + 1) = ρ[j] := by
      show (ρ[j]?).getD 0 = _
      rw [List.getElem?_eq_getElem hj]
      rfl
    rw [this]
    exact hρ _ (List.getElem_mem hj)
theorem num_J {L : Int} {ρ : List Int} (hL : 0 ≤ L ∧ L + 1 ≤ 65536) (hρ : ∀ a ∈ ρ, 0 ≤ a ∧ a ≤ 65536) : Num (asgJ ρ.length) (spK ρ.length) (numU L ρ) (numU (L + 1) ρ) := by
  refine ⟨fun i u h => ?_, fun i lo hi h => ?_⟩
  · rcases List.mem_cons.1 (getN_mem h) with e | e
    · cases e; rfl
    · obtain ⟨j, hj, rfl, rfl⟩ := asgT_mem e
      rfl
  · obtain ⟨e, h2⟩ := spK_mem (getS_mem h)
    cases e
    exact num_bd ⟨by omega, hL.2⟩ hρ h2
theorem num_K {L : Int} {ρ : List Int} (hL : 0 ≤ L ∧ L + 1 ≤ 65536) (hρ : ∀ a ∈ ρ, 0 ≤ a ∧ a ≤ 65536) : Num (asgK ρ.length) (spK (Nat.succ ρ.length)) (numU L ρ) (numU (L + 1) (ρ ++ [L])) := by
  refine ⟨fun i u h => ?_, fun i lo hi h => ?_⟩
  · rcases List.mem_append.1 (getN_mem h) with e | e
    · rcases List.mem_cons.1 e with e | e
      · cases e; rfl
      · obtain ⟨j, hj, rfl, rfl⟩ := asgT_mem e
        show ((ρ ++ [L])[j]?).getD 0 = (ρ[j]?).getD 0
        rw [List.getElem?_append_left hj]
    · have := List.mem_singleton.1 e
      cases this
      show ((ρ ++ [L])[ρ.length]?).getD 0 = L
      rw [List.getElem?_append_right (Nat.le_refl _)]
      simp
  · obtain ⟨e, h2⟩ := spK_mem (getS_mem h)
    cases e
    refine num_bd ⟨by omega, hL.2⟩ (fun a ha => ?_) (by simpa using h2)
    rcases List.mem_append.1 ha with ha | ha
    · exact hρ a ha
    · have := List.mem_singleton.1 ha
      subst this
      exact ⟨hL.1, by omega⟩
/-- a stream, begun -/
structure StrU (w : World) (sb : Nat) (σ : List Nat) (L : Int) (ι : Emb) : Prop where
  lies : Lies w (strU σ) (numU L []) ι
  root : ι (nm 1) = some (sb, 0)
  sig : σ ∈ sigs
  len : 0 ≤ L ∧ L ≤ 65536
/-- .. and the results of a Feed -/
structure StrUR (w : World) (sb rp : Nat) (σ : List Nat) (L : Int) (ρ : List Int) (ι : Emb) : Prop where
  lies : Lies w (resU ρ.length ++ strU σ) (numU L ρ) ι
  root : ι (nm 1) = some (sb, 0)
  res : ι (nm 18) = some (rp, 0)
  sig : σ ∈ sigs
  len : 0 ≤ L ∧ L ≤ 65536
  pos : ∀ a ∈ ρ, 0 ≤ a ∧ a ≤ 65536
theorem nxt_sig {σ : List Nat} (h : σ ∈ sigs) : nxt σ 0 ∈ sigs ∧ nxt σ 1 ∈ sigs ∧ nxt σ 2 ∈ sigs := by
  have key : ∀ σ ∈ sigs, nxt σ 0 ∈ sigs ∧ nxt σ 1 ∈ sigs ∧ nxt σ 2 ∈ sigs := by decide
  exact key σ h
section
variable {w w' : World} {sb rp : Nat} {σ : List Nat} {L : Int} {ρ : List Int} {ι : Emb}
theorem stepU_walk (h : StrUR w sb rp σ L ρ ι) {z : Int} (hz : 0 ≤ z ∧ z ≤ 1114111) (hL : L ≤ 60000) (hk : ρ.length < 24) : Calls Tryz.prog 374 #[.pointer (some ⟨sb, 0, none⟩), .int .i64 z, .pointer (some ⟨rp, 0, none⟩)] w fun e w' => e = .returned (.tuple #[]) ∧
    ∃ σ2 ι2, StrUR w' sb rp σ2 (L + 1) (if z = 228 then ρ ++ [L] else ρ) ι2 ∧ Chg (foot ι (resU ρ.length ++ strU σ)) w w' ∧ ∀ b, foot ι2 (resU (if z = 228 then ρ ++ [L] else ρ).length ++ strU σ2) b → foot ι (resU ρ.length ++ strU σ) b ∨ w.heap.size ≤ b := by
  have h0 := h.len.1
  have other : ∀ c, stepJ c ρ.length = true → nxt σ (clsU c) ∈ sigs → V.rel ι (symU c) (.int .i64 z) → z ≠ 228 → Calls Tryz.prog 374 #[.pointer (some ⟨sb, 0, none⟩), .int .i64 z, .pointer (some ⟨rp, 0, none⟩)] w fun e w' => e = .returned (.tuple #[]) ∧
    ∃ σ2 ι2, StrUR w' sb rp σ2 (L + 1) (if z = 228 then ρ ++ [L] else ρ) ι2 ∧ Chg (foot ι (resU ρ.length ++ strU σ)) w w' ∧ ∀ b, foot ι2 (resU (if z = 228 then ρ ++ [L] else ρ).length ++ strU σ2) b → foot ι (resU ρ.length ++ strU σ) b ∨ w.heap.size ≤ b := by
    intro c hc hn hr hne
    rw [if_neg hne]
    have hxs : V.rels ι [.ptr (nm 1) 0, symU c, .ptr (nm 18) 0] [.pointer (some ⟨sb, 0, none⟩), .int .i64 z, .pointer (some ⟨rp, 0, none⟩)] :=
      rels_cons (ptr_rel h.root) (rels_cons hr (rels_cons (ptr_rel h.res) rels_nil))
    refine (runs_ok (allB_ok hc h.sig) (num_J ⟨h0, by omega⟩ h.pos) h.lies (xs := #[.pointer (some ⟨sb, 0, none⟩), .int .i64 z, .pointer (some ⟨rp, 0, none⟩)]) hxs).mono ?_
    rintro e w' ⟨x, v, ι', ι2, rfl, hp, hv, hL2, hch, hf, hr⟩
    exact ⟨by rw [unit_of hp hv], _, ι2, ⟨hL2, (hr (nm 1, nm 1) (by simp [idl])).2 _ h.root, (hr (nm 18, nm 18) (by simp [idl])).2 _ h.res, hn, ⟨by omega, by omega⟩, h.pos⟩, hch, hf⟩
  obtain ⟨n0, n1, n2⟩ := nxt_sig h.sig
  by_cases c0 : z ≤ 227
  · refine other 0 (stepJ0_all _ hk) n0 ?_ (by omega)
    simp only [symU, V.rel]
    exact ⟨z.toNat, by congr 1; omega, by omega⟩
  by_cases c1 : z = 228
  · subst c1
    rw [if_pos rfl]
    have hxs : V.rels ι [.ptr (nm 1) 0, symU 1, .ptr (nm 18) 0] [.pointer (some ⟨sb, 0, none⟩), .int .i64 228, .pointer (some ⟨rp, 0, none⟩)] :=
      rels_cons (ptr_rel h.root) (rels_cons (by simp only [symU, J, V.rel]) (rels_cons (ptr_rel h.res) rels_nil))
    refine (runs_ok (allB_ok (stepK_all _ hk) h.sig) (num_K ⟨h0, by omega⟩ h.pos) h.lies (xs := #[.pointer (some ⟨sb, 0, none⟩), .int .i64 228, .pointer (some ⟨rp, 0, none⟩)]) hxs).mono ?_
    rintro e w' ⟨x, v, ι', ι2, rfl, hp, hv, hL2, hch, hf, hr⟩
    have hl : (ρ ++ [L]).length = Nat.succ ρ.length := by simp
    refine ⟨by rw [unit_of hp hv], _, ι2, ⟨by rw [hl]; exact hL2, (hr (nm 1, nm 1) (by simp [idl])).2 _ h.root, (hr (nm 18, nm 18) (by simp [idl])).2 _ h.res, n1, ⟨by omega, by omega⟩, fun a ha => ?_⟩, hch, by rw [hl]; exact hf⟩
    rcases List.mem_append.1 ha with ha | ha
    · exact h.pos a ha
    · have := List.mem_singleton.1 ha
      subst this
      exact ⟨h0, by omega⟩
  by_cases c3 : z = 229
  · subst c3
    refine other 3 (stepJ3_all _ hk) n2 ?_ (by omega)
    simp only [symU, J, V.rel]
  · refine other 2 (stepJ2_all _ hk) n2 ?_ (by omega)
    simp only [symU, V.rel]
    exact ⟨(z - 230).toNat, by congr 1; omega, by omega⟩
end
/-- pairs of a place and the next one -/
def pairsV (ρ : List Int) : List Value := ρ.flatMap fun a => [.int .i64 a, .int .i64 (a + 1)]
theorem pairsV_len (ρ : List Int) : (pairsV ρ).length = ρ.length * 2 := by
  unfold pairsV
  induction ρ with
  | nil => rfl
  | cons a t ih => rw [List.flatMap_cons, List.length_append, ih]; simp; omega
theorem pairsU_len : ∀ k, (pairsU k).length = k * 2
  | 0 => rfl
  | k + 1 => by
    show (pairsU k ++ [_, _]).length = _
    rw [List.length_append, pairsU_len k]
    simp
    omega
theorem pairs_rel {ι : Emb} {L : Int} {ρ : List Int} (hs : ι.sym = numU L ρ) : ∀ (k : Nat), k ≤ ρ.length → ∀ (j : Nat) (v : V) (x : Value), (pairsU k)[j]? = some v → V.rel ι v x → (pairsV (ρ.take k))[j]? = some x
  | 0, _, j, v, x, h, _ => by cases h
  | k + 1, hk, j, v, x, h, hx => by
    have ih := pairs_rel hs k (by omega) j v x
    have hkl : k < ρ.length := by omega
    have e1 : pairsU (k + 1) = pairsU k ++ [.sym (k + 1) .i64 0 65536, .lin (k + 1) .i64 1 1 65537] := rfl
    have e2 : pairsV (ρ.take (k + 1)) = pairsV (ρ.take k) ++ [.int .i64 ρ[k], .int .i64 (ρ[k] + 1)] := by
      unfold pairsV
      rw [List.take_succ_eq_append_getElem hkl, List.flatMap_append]
      simp
    have hlt : (ρ.take k).length = k := by rw [List.length_take]; omega
    have hn : numU L ρ (k + 1) = ρ[k] := by
      show (ρ[k]?).getD 0 = _
      rw [List.getElem?_eq_getElem hkl]
      rfl
    rw [e1] at h
    rw [e2]
    by_cases hj : j < k * 2
    · rw [List.getElem?_append_left (by rw [pairsU_len]; exact hj)] at h
      rw [List.getElem?_append_left (by rw [pairsV_len, hlt]; exact hj)]
      exact ih h hx
    · rw [List.getElem?_append_right (by rw [pairsU_len]; omega), pairsU_len] at h
      rw [List.getElem?_append_right (by rw [pairsV_len, hlt]; omega), pairsV_len, hlt]
      obtain ⟨m, hm⟩ : ∃ m, j - k * 2 = m := ⟨_, rfl⟩
      rw [hm] at h ⊢
      match m, h with
      | 0, h =>
        cases h
        simp only [V.rel] at hx
        rw [hx.1, hs, hn]
        rfl
      | 1, h =>
        cases h
        simp only [V.rel] at hx
        rw [hx.1, hs, hn]
        rfl
      | m + 2, h => cases h
/-- what a slice leads to can be written -/
def Thawed (w : World) (v : Value) : Prop := ∀ g, Value.leads v = some g → ∀ o u, w.cell? ⟨g, o, none⟩ = some u → w.frozen? ⟨g, o, none⟩ = false
/-- what the results are -/
theorem StrUR.sees {w : World} {sb rp : Nat} {σ : List Nat} {L : Int} {ρ : List Int} {ι : Emb} (h : StrUR w sb rp σ L ρ ι) : ∃ v, w.cell? ⟨rp, 0, none⟩ = some v ∧ Sees w 2 v (pairsV ρ) ∧ (ρ = [] → v = .slice none 0 0) ∧ (∀ g, Value.leads v = some g → foot ι (resU ρ.length ++ strU σ) g) ∧ Thawed w v := by
  obtain ⟨k, hk⟩ : ∃ k, ρ.length = k := ⟨_, rfl⟩
  have hL := h.lies
  rw [hk] at hL
  match k, hk, hL with
  | 0, hk, hL =>
    obtain ⟨x, c, r⟩ := hL.cell (p := nm 18) (c := [.nilsl]) (by show (hp ((nm 18, O.cells [.nilsl]) :: strU σ)).get (nm 18) = _; rw [hp_cons, Tr.get_set, if_pos rfl]) h.res (j := 0) rfl
    simp only [V.rel] at r
    subst r
    have : ρ = [] := List.eq_nil_of_length_eq_zero hk
    subst this
    exact ⟨_, c, ⟨none, 0, 0, rfl, rfl, Nat.le_refl _, fun e => absurd rfl e⟩, fun _ => rfl, fun g hg => (by cases hg), fun g hg => (by cases hg)⟩
  | k + 1, hk, hL =>
    obtain ⟨x, c, r⟩ := hL.cell (p := nm 18) (c := [.sl (nm 19) 0 (k + 1) (k + 1) 2]) (by show (hp ((nm 18, O.cells [.sl (nm 19) 0 (k + 1) (k + 1) 2]) :: (nm 19, O.cells (pairsU (k + 1))) :: strU σ)).get (nm 18) = _; rw [hp_cons, Tr.get_set, if_pos rfl]) h.res (j := 0) rfl
    have g19 : (hp (resU (k + 1) ++ strU σ)).get (nm 19) = some (.cells (pairsU (k + 1))) := by
      show (hp ((nm 18, O.cells [.sl (nm 19) 0 (k + 1) (k + 1) 2]) :: (nm 19, O.cells (pairsU (k + 1))) :: strU σ)).get (nm 19) = _
      rw [hp_cons, Tr.get_set, if_neg (show ¬ nm 18 = nm 19 by decide), hp_cons, Tr.get_set, if_pos rfl]
    rw [V.rel] at r
    obtain ⟨b, s, c', e1, rfl, e2, -, e4⟩ := r
    have z := cells_zero hL.hok g19 e1
    subst z
    have hth : ∀ o u, w.cell? ⟨b, o, none⟩ = some u → w.frozen? ⟨b, o, none⟩ = false := by
      obtain ⟨b', s', c2, el, fr, q1, q2, q3, -⟩ := hL.hok.obj _ _ g19
      rw [e1] at q1
      cases q1
      intro o u ho
      have hol : o < c2.size := by
        simp only [World.cell?, q2] at ho
        exact (Array.getElem?_eq_some_iff.1 ho).1
      exact frozen_of q2 q3 hol
    refine ⟨_, c, ⟨_, _, _, rfl, by rw [pairsV_len, hk], e2, fun _ => ⟨b, _, rfl, hL.hok.lt _ _ _ e1, fun i u hu => ?_⟩⟩, fun e => (by rw [e] at hk; cases hk), fun g hg => (by cases hg; rw [hk]; exact ⟨nm 19, 0, ⟨_, g19, by simp⟩, e1⟩), fun g hg => (by cases hg; exact hth)⟩
    have hil : i < (pairsU (k + 1)).length := by
      have := (List.getElem?_eq_some_iff.1 hu).1
      rw [pairsV_len] at this
      rw [pairsU_len]
      omega
    obtain ⟨y, cy, ry⟩ := hL.cell g19 e1 (j := i) (List.getElem?_eq_getElem hil)
    have := pairs_rel (hL.sym) (k + 1) (by omega) i _ y (List.getElem?_eq_getElem hil) ry
    rw [List.take_of_length_le (by omega), hu] at this
    cases this
    simpa using cy
end Go.Proofs.YtahmcjdddcbhnaaGreatDoor
namespace Go.Proofs.YtahmcjdddcbhnaaGreatDoor
open Go Go.Ev Go.RowKit

/-- fresh -/
structure StrU0 (w : World) (sb : Nat) (ι : Emb) : Prop where
  lies : Lies w strU0 (fun _ => 0) ι
  root : ι (nm 1) = some (sb, 0)
structure StrU0R (w : World) (sb rp : Nat) (ι : Emb) : Prop where
  lies : Lies w (resZ ++ strU0) (fun _ => 0) ι
  root : ι (nm 1) = some (sb, 0)
  res : ι (nm 18) = some (rp, 0)
/-- begun, without its first run -/
structure StrUBt (w : World) (sb rp : Nat) (ι : Emb) : Prop where
  lies : Lies w (resZ ++ strUB) (fun _ => 0) ι
  root : ι (nm 1) = some (sb, 0)
  res : ι (nm 18) = some (rp, 0)
/-- its first run made -/
structure StrUCt (w : World) (sb rp fb gb : Nat) (ι : Emb) : Prop where
  lies : Lies w strUC (fun _ => 0) ι
  root : ι (nm 1) = some (sb, 0)
  res : ι (nm 18) = some (rp, 0)
  fst : ι (nm 6) = some (fb, 0)
  grp : ι (nm 15) = some (gb, 0)
section
variable {w w' : World} {sb rp fb gb : Nat} {σ : List Nat} {L : Int} {ι : Emb}
/-- the results' block is made -/
theorem StrU0.withRes (h : StrU0 w sb ι) : ∃ ι2, StrU0R (w.alloc (.cells #[.slice none 0 0] 63)) sb w.heap.size ι2 ∧ ∀ b, foot ι2 (resZ ++ strU0) b → foot ι strU0 b ∨ b = w.heap.size := by
  have hn : nm 18 ∉ names strU0 := by decide
  obtain ⟨ι2, a, b, -, c, d⟩ := h.lies.add hn (c := [.nilsl]) (cs := #[.slice none 0 0]) 63 (rels_cons (by simp only [V.rel]) rels_nil)
  exact ⟨ι2, ⟨a, c _ _ h.root, b⟩, d⟩
theorem sigs_names {σ : List Nat} (h : σ ∈ sigs) : nm 18 ∉ names (strU σ) := by
  have key : ∀ σ ∈ sigs, nm 18 ∉ names (strU σ) := by decide
  exact key σ h
theorem StrU.withRes (h : StrU w sb σ L ι) : ∃ ι2, StrUR (w.alloc (.cells #[.slice none 0 0] 63)) sb w.heap.size σ L [] ι2 ∧ ∀ b, foot ι2 (resZ ++ strU σ) b → foot ι (strU σ) b ∨ b = w.heap.size := by
  obtain ⟨ι2, a, b, -, c, d⟩ := h.lies.add (sigs_names h.sig) (c := [.nilsl]) (cs := #[.slice none 0 0]) 63 (rels_cons (by simp only [V.rel]) rels_nil)
  exact ⟨ι2, ⟨a, c _ _ h.root, b, h.sig, h.len, fun a ha => (by cases ha)⟩, d⟩
theorem num_0 {L : Int} {ρ : List Int} (hL : 0 ≤ L ∧ L ≤ 65536) : Num [(0, sU)] [(0, 0, 65536)] (numU L ρ) (numU L []) := by
  refine ⟨fun i u h => ?_, fun i lo hi h => ?_⟩
  · have := List.mem_singleton.1 (getN_mem h)
    cases this
    rfl
  · have := List.mem_singleton.1 (getS_mem h)
    cases this
    exact hL
theorem StrUR.drop {ρ : List Int} {rp : Nat} (h : StrUR w sb rp σ L ρ ι) (hk : ρ.length < 25) : ∃ ι2, StrU w sb σ L ι2 ∧ ∀ b, foot ι2 (strU σ) b → foot ι (resU ρ.length ++ strU σ) b := by
  obtain ⟨ι2, a, b, c⟩ := h.lies.fit (allB_ok (dropK_all _ hk) h.sig) (num_0 h.len)
  exact ⟨ι2, ⟨a, (c (nm 1, nm 1) (by simp [idl])).trans h.root, h.sig, h.len⟩, b⟩
theorem StrU.chg {F : Nat → Prop} (h : StrU w sb σ L ι) (hc : Chg F w w') (hf : ∀ b, foot ι (strU σ) b → ¬ F b) : StrU w' sb σ L ι := ⟨h.lies.chg hc hf, h.root, h.sig, h.len⟩
theorem StrU0.chg {F : Nat → Prop} (h : StrU0 w sb ι) (hc : Chg F w w') (hf : ∀ b, foot ι strU0 b → ¬ F b) : StrU0 w' sb ι := ⟨h.lies.chg hc hf, h.root⟩
theorem beginU_put (h : StrU0R w sb rp ι) : ∃ ι2, StrUBt (w.setCell ⟨sb, 4, none⟩ (.bool true)) sb rp ι2 ∧ ∀ b, foot ι2 (resZ ++ strUB) b → foot ι (resZ ++ strU0) b := by
  have hg : (hp (resZ ++ strU0)).get (nm 1) = some (.cells cell1) := by rfl
  have hput := h.lies.put hg h.root (j := 4) (v := .bool true) (x := .bool true) (by decide) (by simp only [V.rel])
  obtain ⟨ι2, a, b, c⟩ := hok_fit hput h.lies.sym fit_begunU (num_none (τ := fun _ => 0))
  refine ⟨ι2, ⟨a, (c (nm 1, nm 1) (by simp [idl])).trans h.root, (c (nm 18, nm 18) (by simp [idl])).trans h.res⟩, fun d hd => ?_⟩
  obtain ⟨q, s, g1, g2⟩ := b d hd
  exact ⟨q, s, Live.of_set ⟨_, hg, by simp⟩ g1, g2⟩
theorem runU_of {ι' ι2 : Emb} {v : V} {x : Value} (hp : isRun v = true) (hr : V.rel ι' v x) (hL : Lies w' strUC (fun _ => 0) ι2) (h : ∀ e ∈ runA v, ι2 e.1 = ι' e.2) :
    ∃ fb gb, x = .agg #[.pointer (some ⟨fb, 0, none⟩), .pointer (some ⟨gb, 0, none⟩)] ∧ ι2 (nm 6) = some (fb, 0) ∧ ι2 (nm 15) = some (gb, 0) := by
  unfold isRun at hp
  split at hp
  · rename_i p q
    have hpe := (Pth.beq_iff _ _).1 hp
    subst hpe
    have e6 := h (nm 6, nm 6) (by simp [runA])
    have e15 := h (nm 15, q) (by simp [runA])
    simp only [V.rel] at hr
    obtain ⟨cs, rfl, hc⟩ := hr
    obtain ⟨x1, t1, e1, h1, hc⟩ := rels_cons_inv hc
    obtain ⟨x2, t2, e2, h2, hc⟩ := rels_cons_inv hc
    have := rels_nil_inv hc
    subst this
    simp only [V.rel] at h1 h2
    obtain ⟨b1, s1, g1, rfl⟩ := h1
    obtain ⟨b2, s2, g2, rfl⟩ := h2
    have f1 : ι2 (nm 6) = some (b1, s1) := e6.trans g1
    have f2 : ι2 (nm 15) = some (b2, s2) := e15.trans g2
    have z1 := cells_zero hL.hok (p := nm 6) (l := [.sl (nm 10) 0 1 1 1, .bool false, .bool false, .mp (nm 11), J 0, J 0]) (by rfl) f1
    have z2 := cells_zero hL.hok (p := nm 15) (l := [J 0, J (-1), .nilsl]) (by rfl) f2
    subst z1 z2
    refine ⟨b1, b2, ?_, f1, f2⟩
    congr 1
    apply Array.toList_inj.1
    rw [e1, e2]
  · cases hp
theorem startU_walk (h : StrUBt w sb rp ι) : Calls Tryz.prog 354 #[.pointer (some ⟨sb, 0, none⟩)] w fun e w' => ∃ fb gb ι2, e = .returned (.agg #[.pointer (some ⟨fb, 0, none⟩), .pointer (some ⟨gb, 0, none⟩)]) ∧ StrUCt w' sb rp fb gb ι2 ∧
    Chg (foot ι (resZ ++ strUB)) w w' ∧ ∀ b, foot ι2 strUC b → foot ι (resZ ++ strUB) b ∨ w.heap.size ≤ b := by
  refine (runs_ok run_startU (num_none (τ := fun _ => 0)) h.lies (xs := #[.pointer (some ⟨sb, 0, none⟩)]) (rels_cons (ptr_rel h.root) rels_nil)).mono ?_
  rintro e w' ⟨x, v, ι', ι2, rfl, hp, hv, hL2, hc, hf, hr⟩
  obtain ⟨fb, gb, rfl, h6, h15⟩ := runU_of hp hv hL2 fun e he => (hr e he).1
  have hm : ∀ e ∈ [(nm 1, nm 1), (nm 18, nm 18)], e ∈ runA v := by
    intro e he
    unfold isRun at hp
    split at hp
    · simp only [runA]
      simp only [List.mem_cons, List.not_mem_nil, or_false] at he ⊢
      rcases he with rfl | rfl
      · exact .inl rfl
      · exact .inr (.inr (.inl rfl))
    · cases hp
  exact ⟨fb, gb, ι2, rfl, ⟨hL2, (hr _ (hm (nm 1, nm 1) (by simp))).2 _ h.root, (hr _ (hm (nm 18, nm 18) (by simp))).2 _ h.res, h6, h15⟩, hc, hf⟩
theorem num_Z : Num [(0, J 0)] [(0, 0, 65536)] (fun _ => 0) (numU 0 []) := by
  refine ⟨fun i u h => ?_, fun i lo hi h => ?_⟩
  · have := List.mem_singleton.1 (getN_mem h)
    cases this
    rfl
  · have := List.mem_singleton.1 (getS_mem h)
    cases this
    exact ⟨by decide, by decide⟩
theorem advU_walk (h : StrUCt w sb rp fb gb ι) {w2 : World} (hw : w2 = w.alloc (.cells #[.pointer (some ⟨fb, 0, none⟩), .pointer (some ⟨gb, 0, none⟩)] 524)) :
    Calls Tryz.prog 373 #[.pointer (some ⟨sb, 0, none⟩), .slice (some ⟨w.heap.size, 0, none⟩) 1 1, .pointer (some ⟨rp, 0, none⟩)] w2 fun e w' => e = .returned (.tuple #[]) ∧ ∃ ι2, StrUR w' sb rp [] 0 [] ι2 ∧
      Chg (fun b => foot ι strUC b ∨ w.heap.size ≤ b) w2 w' ∧ ∀ b, foot ι2 (resZ ++ strU []) b → foot ι strUC b ∨ w.heap.size ≤ b := by
  subst hw
  have hn : nm 14 ∉ names strUC := by decide
  obtain ⟨ι2, a, b, sz, c, d⟩ := h.lies.add hn (c := [.ptr (nm 6) 0, .ptr (nm 15) 0]) (cs := #[.pointer (some ⟨fb, 0, none⟩), .pointer (some ⟨gb, 0, none⟩)]) 524 (rels_cons (ptr_rel h.fst) (rels_cons (ptr_rel h.grp) rels_nil))
  have hsl : V.rel ι2 (.sl (nm 14) 0 1 1 2) (.slice (some ⟨w.heap.size, 0, none⟩) 1 1) := by
    simp only [V.rel]
    exact ⟨w.heap.size, 0, 1, b, by simp, by omega, by omega, fun _ => by rw [sz]; rfl⟩
  refine (runs_ok run_advU num_Z a (xs := #[.pointer (some ⟨sb, 0, none⟩), .slice (some ⟨w.heap.size, 0, none⟩) 1 1, .pointer (some ⟨rp, 0, none⟩)]) (rels_cons (ptr_rel (c _ _ h.root)) (rels_cons hsl (rels_cons (ptr_rel (c _ _ h.res)) rels_nil)))).mono ?_
  rintro e w' ⟨x, v, ι', ι3, rfl, hp, hv, hL2, hc, hf, hr⟩
  have hd : ∀ b, foot ι2 ((nm 14, O.cells [.ptr (nm 6) 0, .ptr (nm 15) 0]) :: strUC) b → foot ι strUC b ∨ w.heap.size ≤ b := fun b hb => (d b hb).imp id fun e => by omega
  refine ⟨by rw [unit_of hp hv], ι3, ⟨hL2, (hr (nm 1, nm 1) (by simp [idl])).2 _ (c _ _ h.root), (hr (nm 18, nm 18) (by simp [idl])).2 _ (c _ _ h.res), by decide, ⟨by omega, by omega⟩, fun a ha => (by cases ha)⟩, hc.more fun i _ hi => hd i hi, fun b hb => ?_⟩
  rcases hf b hb with h1 | h1
  · exact hd b h1
  · rw [World.size_alloc] at h1
    exact .inr (by omega)
end
end Go.Proofs.YtahmcjdddcbhnaaGreatDoor
namespace Go.Proofs.YtahmcjdddcbhnaaGreatDoor
open Go Go.RowKit Go.Shelf Go.Says Go.Utf
attribute [local go_sem] Oper.semAt_some

/-- what symbolsOf yields -/
def fullR (S : List Nat) (r : List UInt8) : List Int := S.map (fun c : Nat => (c : Int)) ++ (if r = [] then [] else [-1])
/-- what a round keeps -/
structure KR (n₀ tb rb : Nat) (W W' : World) : Prop where
  bel : Below n₀ W W'
  box1 : W'.heap[tb]? = W.heap[tb]?
  box2 : W'.heap[rb]? = W.heap[rb]?
theorem KR.refl (n₀ tb rb : Nat) (W : World) : KR n₀ tb rb W W := ⟨Below.refl _ _, rfl, rfl⟩
theorem KR.trans {n₀ tb rb : Nat} {A B C : World} (h : KR n₀ tb rb A B) (k : KR n₀ tb rb B C) : KR n₀ tb rb A C := ⟨h.bel.trans k.bel, k.box1.trans h.box1, k.box2.trans h.box2⟩
theorem KR.of_below {n₀ tb rb n : Nat} {A B : World} (h : Below n A B) (hn : n₀ ≤ n) (ht : tb < n) (hr : rb < n) : KR n₀ tb rb A B := ⟨h.mono hn, h.block tb ht, h.block rb hr⟩
theorem kr_put {n₀ tb rb B : Nat} (hn : n₀ ≤ B) (ht : tb < B) (hr : rb < B) (W : World) (l : Nat) (o o' : Obj) (hl : B ≤ l) (_h : W.heap[l]? = some o) (_hc : o.isCells = false) : KR n₀ tb rb W (W.putObj l o') :=
  ⟨below_put hn W l o' hl, World.putObj_heap_other (by omega), World.putObj_heap_other (by omega)⟩
theorem pre_full {P Q S : List Nat} {c : Nat} {r : List UInt8} (h : S = P ++ [c] ++ Q) : P.map (fun c : Nat => (c : Int)) ++ [(c : Int)] <+: fullR S r := by
  subst h
  unfold fullR
  refine ⟨Q.map (fun c : Nat => (c : Int)) ++ (if r = [] then [] else [-1]), ?_⟩
  simp
theorem Forms.bel {n : Nat} {w w' : World} (h : Forms w) (hn : 0 < n) (hb : Below n w w') : Forms w' := fun i v hv => (hb.cell (p := ⟨0, i, none⟩) hn).trans (h i v hv)
set_option maxRecDepth 1000000 in
set_option maxHeartbeats 8000000 in
theorem symsR1_in (n : Nat) (hn : 1 ≤ n) (l' tb rb n₀ : Nat) (v : Value) (x : List UInt8) (S : List Nat) (r : List UInt8) (hlen : x.length ≤ 60000) (hp : Prs x S r) (hs : Stop r) (J Jx : List Int → World → Prop) (W : World)
    (hJ : AbidesFrom W.heap.size J) (hn0 : 0 < n₀) (hnW : n₀ ≤ W.heap.size) (htb : tb < W.heap.size) (hrb : rb < W.heap.size) (hF : Forms W)
    (hY : ∀ pre (z : Int) W1, J pre W1 → pre.length < x.length + 1 → YieldAt Fence.wide (n - 1) Tryz.prog l' #[.int .i64 z] W1 fun e W' => (e = .returned (.bool true) ∧ J (pre ++ [z]) W' ∧ KR n₀ tb rb W1 W') ∨ (e = .returned (.bool false) ∧ Jx (pre ++ [z]) W'))
    (hbox : Boxed W tb 23 v) (hbox2 : Boxed W rb 4 (.bool true)) (hv : ∀ W', Below n₀ W W' → Sees W' 1 v (bv x)) (h0 : J [] W) :
    CallsIn Fence.wide n Tryz.prog 45 #[.func (.yield l') #[] #[], .pointer (some ⟨tb, 0, none⟩), .pointer (some ⟨rb, 0, none⟩)] W fun e W' => (∃ v, e = .returned v) ∧ ((∃ xs, xs = fullR S r ∧ J xs W') ∨ (∃ pre, pre <+: fullR S r ∧ Jx pre W')) := by
  obtain ⟨A, m, c, rfl, hxm, hmc, -⟩ := id (hv W (Below.refl _ _))
  have hm : x.length = m := by rw [bv_len] at hxm; omega
  subst hm
  have HP := Lib.hid hp
  have HS := Lib.hid hs
  clear hxm hp hs
  refine callsIn_of_wp Tryz.func45 rfl trivial ?_ rfl
  simp only [Tryz.ntmps45, List.size_toArray, List.length_cons, List.length_nil, Nat.reduceAdd, Nat.reduceSub, Array.replicate_succ, Array.replicate_zero, List.push_toArray, List.append_toArray, List.nil_append, List.cons_append]
  gi_wp2
  gi_loopw [4] (fun jv wr => ∃ (j : Nat) (P Q : List Nat), j ≤ x.length ∧ jv = .int .i64 (j : Int) ∧ J (P.map (fun c : Nat => (c : Int))) wr ∧ KR n₀ tb rb W wr ∧ Hid (S = P ++ Q) ∧ Hid (Prs (x.drop j) Q r)) (fun jv _ => x.length - (intOf jv).toNat)
  case atStart => exact ⟨0, [], S, Nat.zero_le _, rfl, by simpa using h0, KR.refl _ _ _ _, Lib.hid (by simp), Lib.hid (by simpa using HP.out)⟩
  case round =>
    obtain ⟨j, P, Q, hj, rfl, hJp, hK, hSP, hPQ⟩ := hrel
    have hbx : Boxed wr tb 23 (.slice A x.length c) := hK.box1.trans hbox
    have hbx2 : Boxed wr rb 4 (.bool true) := hK.box2.trans hbox2
    have hbc := hbx.cell
    have hbc2 := hbx2.cell
    have hPl : P.length ≤ x.length := by
      have h1 := HP.out.len
      have h2 := congrArg List.length hSP.out
      rw [List.length_append] at h2
      omega
    by_cases hjl : j < x.length
    case neg =>
      have hje : x.drop j = [] := List.drop_eq_nil_of_le (by omega)
      have hpq := hPQ.out
      rw [hje] at hpq
      obtain ⟨hQ, hr⟩ := prs_nil hpq
      have hfu : fullR S r = P.map (fun c : Nat => (c : Int)) := by
        unfold fullR
        rw [hr, if_pos rfl, hSP.out, hQ]
        simp
      have HE := Lib.hid (And.intro hfu hJp)
      have hjI : ¬ (j : Int) < (x.length : Int) := by omega
      clear hje hpq hQ hr hfu hJp hPQ hSP hK hY
      gi_wp2
      refine bodyPost_end (results_none rfl _ _ _) rfl ?_
      exact ⟨⟨_, rfl⟩, .inl (by rw [HE.out.1]; exact HE.out.2)⟩
    obtain ⟨A', m', c', e1, e2, e3, e4⟩ := hv wr hK.bel
    cases e1
    obtain ⟨b, s, rfl, hb, hcc⟩ := e4 (by omega)
    have hdl : (x.drop j).length = x.length - j := List.length_drop ..
    have hne : x.drop j ≠ [] := fun e => by rw [e] at hdl; simp at hdl; omega
    have hcell : ∀ i u, (bv (x.drop j))[i]? = some u → wr.cell? ⟨b, s + j + i, none⟩ = some u := fun i u hu => by
      have : (bv x)[j + i]? = some u := by
        unfold bv at hu ⊢
        rw [List.map_drop, List.getElem?_drop] at hu
        exact hu
      rw [Nat.add_assoc]
      exact hcc _ _ this
    have hc0 : wr.cell? ⟨b, s + j, none⟩ = some (.int .u8 (x[j].toNat : Int)) := hcc j _ (by unfold bv; rw [List.getElem?_map, List.getElem?_eq_getElem hjl]; rfl)
    have hlt := x[j].toNat_lt
    obtain ⟨z, hz⟩ : ∃ z : Nat, x[j].toNat = z := ⟨_, rfl⟩
    rw [hz] at hc0 hlt
    have hwz : IntKind.i64.wrap (z : Int) = (z : Int) := by rw [IntKind.wrap_i64]; omega
    have hfst := first_walk (cp := c - j) (hF.bel hn0 hK.bel) hdl hcell (by omega) (by omega) (by omega)
    have hjI : (j : Int) < (x.length : Int) := by omega
    have hcj : ¬ c = j := by omega
    have hjl0 : (0 : Int) ≤ (j : Int) := Int.natCast_nonneg _
    have hcI : (x.length : Int) ≤ (c : Int) := by omega
    have hYP := fun z W1 h => hY (P.map (fun c : Nat => (c : Int))) z W1 h (by rw [List.length_map]; omega)
    have hsz := hK.bel.size
    have hJ1 := fun w1 (hb1 : Below wr.heap.size wr w1) => hJ _ _ _ none hJp (below_grown hb1) (fun r e => by cases e)
    have hK1 := fun w1 (hb1 : Below wr.heap.size wr w1) => hK.trans (KR.of_below (n₀ := n₀) hb1 (by omega) (by omega) (by omega))
    have HNE := Lib.hid hne
    clear hz hcell hcc e2 e3 e4 hJp hbx hbx2 hne hdl hv hY hF
    by_cases ho : ∃ cd k, Utf.one (x.drop j) = .ok cd k
    · obtain ⟨cd, k, ho⟩ := ho
      have hf1 : fstE (x.drop j) = (cd, k) := by unfold fstE; rw [ho]
      rw [hf1] at hfst
      obtain ⟨⟨hk1, -, hkl⟩, -, -⟩ := one_ok HNE.out ho
      rw [List.length_drop] at hkl
      obtain ⟨Q', hQ', hP'⟩ := prs_ok hPQ.out HS.out HNE.out ho
      rw [List.drop_drop] at hP'
      have HQ := Lib.hid hQ'
      have HPP := Lib.hid hP'
      have hkI : ((k : Int) == 0) = false := beq_eq_false_iff_ne.2 (by omega)
      have hkI' : ¬ (k : Int) = 0 := by omega
      have hkI1 : (1 : Int) ≤ (k : Int) := by omega
      have hkn : (j : Int) + (k : Int) ≤ (x.length : Int) := by omega
      clear ho hf1 hQ' hP'
      gi_wp2
      refine ⟨trivial, ?_⟩
      gi_at_call 46
      refine (callsIn_wide.2 hfst).mono ?_
      clear hfst
      rintro e w1 ⟨rfl, hb1⟩
      obtain ⟨fn, tmps, assign, body, hy, hR⟩ := hYP (cd : Int) w1 (hJ1 w1 hb1)
      dsimp only
      gi_wp2
      refine hR.mono ?_
      rintro e W3 (⟨rfl, hJ3, hk3⟩ | ⟨rfl, hJx3⟩)
      · gi_wp2
        go_roundw
        case rel => exact ⟨j + k, P ++ [cd], Q', by omega, by go_num, by rw [List.map_append]; exact hJ3, (hK1 w1 hb1).trans hk3, Lib.hid (by rw [hSP.out, HQ.out]; simp), HPP⟩
        case measure => simp [intOf]; omega
      · gi_wp2
        refine bodyPost_ret (results_none rfl _ _ _) rfl ?_
        exact ⟨⟨_, rfl⟩, .inr ⟨_, pre_full (Q := Q') (by rw [hSP.out, HQ.out]; simp), hJx3⟩⟩
    · have ho' : ∀ cd k, Utf.one (x.drop j) ≠ .ok cd k := fun cd k e => ho ⟨cd, k, e⟩
      have hf1 : fstE (x.drop j) = (0, 0) := by
        unfold fstE
        cases h1 : Utf.one (x.drop j) with
        | ok cd k => exact absurd h1 (ho' cd k)
        | more => rfl
        | bad => rfl
      rw [hf1] at hfst
      obtain ⟨hQ, hr⟩ := prs_no hPQ.out ho'
      have hfu : fullR S r = P.map (fun c : Nat => (c : Int)) ++ [-1] := by
        unfold fullR
        rw [if_neg (by rw [hr]; exact HNE.out), hSP.out, hQ]
        simp
      have HE := Lib.hid hfu
      clear ho ho' hf1 hQ hr hfu
      gi_wp2
      refine ⟨trivial, ?_⟩
      gi_at_call 46
      refine (callsIn_wide.2 hfst).mono ?_
      clear hfst
      rintro e w1 ⟨rfl, hb1⟩
      obtain ⟨fn, tmps, assign, body, hy, hR⟩ := hYP (-1 : Int) w1 (hJ1 w1 hb1)
      dsimp only
      gi_wp2
      refine hR.mono ?_
      rintro e W3 (⟨rfl, hJ3, hk3⟩ | ⟨rfl, hJx3⟩)
      · gi_wp2
        refine bodyPost_ret (results_none rfl _ _ _) rfl ?_
        exact ⟨⟨_, rfl⟩, .inl ⟨_, HE.out.symm, hJ3⟩⟩
      · gi_wp2
        refine bodyPost_ret (results_none rfl _ _ _) rfl ?_
        exact ⟨⟨_, rfl⟩, .inr ⟨_, by rw [HE.out]; exact List.prefix_refl _, hJx3⟩⟩
theorem symsR_stops (n : Nat) (hn : 1 ≤ n) (tb rb n₀ : Nat) (v : Value) (x : List UInt8) (S : List Nat) (r : List UInt8) (hlen : x.length ≤ 60000) (hp : Prs x S r) (hs : Stop r) (w : World) (hn0 : 0 < n₀) (hnW : n₀ ≤ w.heap.size) (hF : Forms w)
    (hbox : Boxed w tb 23 v) (hbox2 : Boxed w rb 4 (.bool true)) (hv : ∀ W', Below n₀ w W' → Sees W' 1 v (bv x)) :
    SeqStopsK Fence.wide n Tryz.prog 45 #[.pointer (some ⟨tb, 0, none⟩), .pointer (some ⟨rb, 0, none⟩)] (fun z : Int => #[.int .i64 z]) (KR n₀ tb rb) (fun xs => xs = fullR S r) (fun pre => pre <+: fullR S r) (x.length + 1) w := by
  intro l' J Jx W hW hJ hJx hY h0
  exact symsR1_in n hn l' tb rb n₀ v x S r hlen hp hs J Jx W hJ hn0 (Nat.le_trans hnW hW.size) (by have := hbox.lt; have := hW.size; omega) (by have := hbox2.lt; have := hW.size; omega) (hF.below hW) hY
    ((hW.block tb hbox.lt).trans hbox) ((hW.block rb hbox2.lt).trans hbox2) (fun W' hb => hv W' ((hW.mono hnW).trans hb)) h0
end Go.Proofs.YtahmcjdddcbhnaaGreatDoor
namespace Go.Proofs.YtahmcjdddcbhnaaGreatDoor
open Go Go.RowKit Go.Shelf Go.Says Go.Utf
attribute [local go_sem] Oper.semAt_some

/-- numbers as cells -/
def intI (l : List Int) : List Value := l.map fun z : Int => .int .i64 z
theorem intI_nat (S : List Nat) : intI (S.map (fun c : Nat => (c : Int))) = natI S := by
  unfold intI natI
  rw [List.map_map]
  rfl
theorem full_pos {S : List Nat} {r : List UInt8} (h : ∀ z ∈ fullR S r, 0 ≤ z) : r = [] := by
  by_cases hr : r = []
  · exact hr
  · have := h (-1) (by unfold fullR; rw [if_neg hr]; simp)
    omega
theorem full_neg {S : List Nat} {r : List UInt8} {pre : List Int} {z : Int} (h : pre <+: fullR S r) (hz : z ∈ pre) (hn : z < 0) : r ≠ [] := by
  intro hr
  have hm := h.subset hz
  unfold fullR at hm
  rw [if_pos hr, List.append_nil] at hm
  obtain ⟨c, -, rfl⟩ := List.mem_map.1 hm
  omega
set_option maxRecDepth 1000000 in
set_option maxHeartbeats 8000000 in
theorem decU_walk {w : World} {v : Value} {x : List UInt8} {Sy : List Nat} {r : List UInt8} (hF : Forms w) (hlen : x.length ≤ 60000) (hvs : Sees w 1 v (bv x)) (hp : Prs x Sy r) (hs : Stop r) :
    Calls Tryz.prog 8 #[v, .bool true] w fun e w' => ((r = [] ∧ ∃ u, e = .returned (.tuple #[u, .int .i64 0]) ∧ w'.ownsRow w.heap.size 3 1 u Sy.length (natI Sy)) ∨ (r ≠ [] ∧ e = .returned (.tuple #[.slice none 0 0, .int .i64 9]))) ∧ Below w.heap.size w w' := by
  obtain ⟨i0, hi0, hz0, hz1, hz2⟩ := info_parts' infoInt
  have h0S : 0 < w.heap.size := lt_cell (hF 0 _ rfl)
  have HP := Lib.hid hp
  have HS := Lib.hid hs
  have HV := Lib.hid hvs
  have HF := Lib.hid hF
  obtain ⟨A, m, c, rfl, hxm, -, -⟩ := hvs
  have hm : x.length = m := by rw [bv_len] at hxm; omega
  subst hm
  clear hp hs hxm hF
  obtain ⟨S, hS⟩ : ∃ S, w.heap.size = S := ⟨_, rfl⟩
  refine (callsIn_wide (n := 4)).1 ?_
  refine callsIn_of_wp_marks Tryz.func8 rfl trivial ?_ rfl
  simp only [Tryz.ntmps8, List.size_toArray, List.length_cons, List.length_nil, Nat.reduceAdd, Nat.reduceSub, Array.replicate_succ, Array.replicate_zero, List.push_toArray, List.append_toArray, List.nil_append, List.cons_append]
  gi_wp2_with (first
    | (refine ⟨trivial, ?_⟩; gi_at_call 26; refine (callsIn_wide.2 (syms_walk _ A x.length c rfl true _)).mono ?_; rintro e w' ⟨rfl, rfl⟩)
    | gi_in)
  obtain ⟨W0, hW0⟩ : ∃ W0, (((((w.alloc (.cells #[.slice none 0 0] 22)).alloc (.cells #[.int .i64 0] 26)).alloc (.cells #[.slice none 0 0] 22)).alloc (.cells #[.int .i64 0] 3)).alloc (.cells #[.slice A x.length c] 23)).alloc (.cells #[.bool true] 4) = W0 := ⟨_, rfl⟩
  have b0 : Boxed W0 S 22 (.slice none 0 0) := by
    rw [← hW0, ← hS]
    exact (((((Boxed.new w 22 (.slice none 0 0)).alloc _).alloc _).alloc _).alloc _).alloc _
  have b1 : Boxed W0 (S + 1) 26 (.int .i64 0) := by
    have := ((((Boxed.new (w.alloc (.cells #[.slice none 0 0] 22)) 26 (.int .i64 0)).alloc (.cells #[.slice none 0 0] 22)).alloc (.cells #[.int .i64 0] 3)).alloc (.cells #[.slice A x.length c] 23)).alloc (.cells #[.bool true] 4)
    rwa [hW0, World.size_alloc, hS] at this
  have b2 : Boxed W0 (S + 2) 22 (.slice none 0 0) := by
    have := (((Boxed.new ((w.alloc (.cells #[.slice none 0 0] 22)).alloc (.cells #[.int .i64 0] 26)) 22 (.slice none 0 0)).alloc (.cells #[.int .i64 0] 3)).alloc (.cells #[.slice A x.length c] 23)).alloc (.cells #[.bool true] 4)
    rwa [hW0, World.size_alloc, World.size_alloc, hS] at this
  have b3 : Boxed W0 (S + 3) 3 (.int .i64 0) := by
    have := ((Boxed.new (((w.alloc (.cells #[.slice none 0 0] 22)).alloc (.cells #[.int .i64 0] 26)).alloc (.cells #[.slice none 0 0] 22)) 3 (.int .i64 0)).alloc (.cells #[.slice A x.length c] 23)).alloc (.cells #[.bool true] 4)
    rwa [hW0, World.size_alloc, World.size_alloc, World.size_alloc, hS] at this
  have b4 : Boxed W0 (S + 4) 23 (.slice A x.length c) := by
    have := (Boxed.new ((((w.alloc (.cells #[.slice none 0 0] 22)).alloc (.cells #[.int .i64 0] 26)).alloc (.cells #[.slice none 0 0] 22)).alloc (.cells #[.int .i64 0] 3)) 23 (.slice A x.length c)).alloc (.cells #[.bool true] 4)
    rwa [hW0, World.size_alloc, World.size_alloc, World.size_alloc, World.size_alloc, hS] at this
  have b5 : Boxed W0 (S + 5) 4 (.bool true) := by
    have := Boxed.new (((((w.alloc (.cells #[.slice none 0 0] 22)).alloc (.cells #[.int .i64 0] 26)).alloc (.cells #[.slice none 0 0] 22)).alloc (.cells #[.int .i64 0] 3)).alloc (.cells #[.slice A x.length c] 23)) 4 (.bool true)
    rwa [hW0, World.size_alloc, World.size_alloc, World.size_alloc, World.size_alloc, World.size_alloc, hS] at this
  have hB0 : Below S w W0 := by
    rw [← hW0]
    exact ((((((Below.refl S w).alloc (by omega) _).alloc (by simp; omega) _).alloc (by simp; omega) _).alloc (by simp; omega) _).alloc (by simp; omega) _).alloc (by simp; omega) _
  have hsz : W0.heap.size = S + 6 := by rw [← hW0, World.size_alloc, World.size_alloc, World.size_alloc, World.size_alloc, World.size_alloc, World.size_alloc, hS]
  have hv0 : ∀ W', Below S W0 W' → Sees W' 1 (.slice A x.length c) (bv x) := fun W' hb => HV.out.bel (by rw [hS]; exact hB0.trans hb)
  have hF0 : Forms W0 := HF.out.below (by rw [hS]; exact hB0)
  rw [hW0]
  clear hW0
  rw [hS] at h0S
  have hOI : OwnFrom W0.heap.size (fun (pre : List Int) (W : World) => ((((∃ u, Boxed W (S + 2) 22 u ∧ W.ownsRow (S + 6) 3 1 u pre.length (intI pre) ∧ True) ∧ Boxed W (S + 3) 3 (.int .i64 (pre.length : Int))) ∧ (Boxed W S 22 (.slice none 0 0) ∧ Boxed W (S + 1) 26 (.int .i64 0))) ∧ (Below S w W ∧ S + 6 ≤ W.heap.size))) :=
    OwnFrom.and (Own.from (fun s X Y row hs hg hr => ⟨⟨holdsRow_own (S + 6) (S + 2) 22 3 1 (fun pre : List Int => pre.length) (fun pre => intI pre) (fun _ _ => True) s X Y row hs.1.1 hg hr, boxed_own (S + 3) 3 (fun pre : List Int => .int .i64 (pre.length : Int)) s X Y row hs.1.2 hg hr⟩,
      boxed_own S 22 (fun _ : List Int => .slice none 0 0) s X Y row hs.2.1 hg hr, boxed_own (S + 1) 26 (fun _ : List Int => .int .i64 0) s X Y row hs.2.2 hg hr⟩) _) (OwnFrom.and (ownFrom_below (by omega) (by omega)) (fun _ X Y row hs hg _ => Nat.le_trans hs hg.size))
  have hOX : OwnFrom W0.heap.size (fun (pre : List Int) (W : World) => ((Boxed W S 22 (.slice none 0 0) ∧ Boxed W (S + 1) 26 (.int .i64 9)) ∧ (Below S w W ∧ S + 6 ≤ W.heap.size))) :=
    OwnFrom.and (Own.from (fun s X Y row hs hg hr => ⟨boxed_own S 22 (fun _ : List Int => .slice none 0 0) s X Y row hs.1 hg hr, boxed_own (S + 1) 26 (fun _ : List Int => .int .i64 9) s X Y row hs.2 hg hr⟩) _) (OwnFrom.and (ownFrom_below (by omega) (by omega)) (fun _ X Y row hs hg _ => Nat.le_trans hs hg.size))
  refine wpIn_rangeFunc_ownF (w0 := W0) rfl (by omega) (gf := 45) (lb := #[.pointer (some ⟨S + 4, 0, none⟩), .pointer (some ⟨S + 5, 0, none⟩)]) rfl trivial (enters_of Tryz.func45 (by kernel_rfl) rfl)
    (symsR_stops 3 (by omega) (S + 4) (S + 5) S (.slice A x.length c) x Sy r hlen HP.out HS.out W0 h0S (by omega) hF0 b4 b5 hv0) (fun h k => h.trans k) (fun W l o o' h1 h2 h3 _ => kr_put (B := W0.heap.size) (by omega) (by omega) (by omega) W l o o' h1 h2 h3) (Below.refl _ _) (fun _ => rfl)
    (fun pre W => (∀ z ∈ pre, 0 ≤ z) ∧ ((((∃ u, Boxed W (S + 2) 22 u ∧ W.ownsRow (S + 6) 3 1 u pre.length (intI pre) ∧ True) ∧ Boxed W (S + 3) 3 (.int .i64 (pre.length : Int))) ∧ (Boxed W S 22 (.slice none 0 0) ∧ Boxed W (S + 1) 26 (.int .i64 0))) ∧ (Below S w W ∧ S + 6 ≤ W.heap.size)))
    (fun cd pre W => (cd = .ret ∧ ∃ z ∈ pre, z < 0) ∧ ((Boxed W S 22 (.slice none 0 0) ∧ Boxed W (S + 1) 26 (.int .i64 9)) ∧ (Below S w W ∧ S + 6 ≤ W.heap.size)))
    (fun s X Y row hs hg hr => ⟨hs.1, hOI s X Y row hs.2 hg hr⟩)
    (fun cd s X Y row hs hg hr => ⟨hs.1, hOX s X Y row hs.2 hg hr⟩)
    ⟨fun _ h => (by cases h), ⟨⟨⟨_, b2, World.ownsRow_nil _ _ _ _, trivial⟩, b3⟩, b0, b1⟩, hB0, by omega⟩
    (fun z : Int => { tmps := #[.slice A x.length c, .bool true, undef, undef, .pointer (some ⟨S, 0, none⟩), .pointer (some ⟨S + 1, 0, none⟩), .pointer (some ⟨S + 2, 0, none⟩), .pointer (some ⟨S + 3, 0, none⟩), .int .i64 z, .slice A x.length c, .bool true, .func (.func 45) #[] #[.pointer (some ⟨S + 4, 0, none⟩), .pointer (some ⟨S + 5, 0, none⟩)],
      .int .i64 z, undef, undef, undef, undef, undef, undef, undef, undef, undef, undef, undef, undef, undef], defers := [] }) ?assign ?body ?done ?stop
  case assign =>
    intro l z W K hK
    gi_wp2
    exact hK
  case body =>
    rintro l pre z W ⟨hpos, ⟨⟨⟨v, hv, hrow, _⟩, hn⟩, hr0, hr1⟩, hB, hz3⟩ hlt
    by_cases hz : z < 0
    case pos =>
      have hzd : decide (z < 0) = true := decide_eq_true hz
      have f0 := hr0.frozen
      have c0 := hr0.cell
      have f1 : (W.setCell ⟨S, 0, none⟩ (.slice none 0 0)).frozen? ⟨S + 1, 0, none⟩ = false := (hr1.other (B' := S) (by omega) _).frozen
      have c1 : (W.setCell ⟨S, 0, none⟩ (.slice none 0 0)).cell? ⟨S + 1, 0, none⟩ = some (.int .i64 0) := (hr1.other (B' := S) (by omega) _).cell
      gi_wp2
      refine ⟨(KeepsOthers.setCell _ _ _).trans (KeepsOthers.setCell _ _ _), ⟨rfl, z, List.mem_append.2 (.inr (by simp)), hz⟩, ⟨(hr0.set (.slice none 0 0)).other (B' := S + 1) (by omega) (.int .i64 9), (hr1.other (B' := S) (by omega) (.slice none 0 0)).set (.int .i64 9)⟩, ?_, ?_⟩
      · exact (hB.setCell (p := ⟨S, 0, none⟩) (Nat.le_refl _) _).setCell (p := ⟨S + 1, 0, none⟩) (by show S ≤ S + 1; omega) _
      · simpa [World.setCell] using hz3
    have hc2 := hv.cell
    have hc3 := hn.cell
    have hf3 := hn.frozen
    have hl2 := hv.lt
    have hl3 := hn.lt
    obtain ⟨y0, hy0⟩ : ∃ y : Int, (pre.length : Int) = y := ⟨_, rfl⟩
    obtain ⟨y1, hy1⟩ : ∃ y : Int, ((pre.length + 1 : Nat) : Int) = y := ⟨_, rfl⟩
    have hW1 : IntKind.i64.wrap (y0 + 1) = y1 := by rw [← hy0, ← hy1, wrapS (by omega) (by omega)]; omega
    have hle : y1 ≤ 65536 := by omega
    have hzd : decide (z < 0) = false := decide_eq_false hz
    rw [hy0] at hn hc3
    have hn1 : Boxed (W.setCell ⟨S + 3, 0, none⟩ (.int .i64 y1)) (S + 3) 3 (.int .i64 y1) := hn.set _
    have hv1 := hv.other (B' := S + 3) (by omega) (.int .i64 y1)
    have hc3' := hn1.cell
    have hc2' := hv1.cell
    have HY := Lib.hid (And.intro hy0 hy1)
    clear hy0 hy1 hc2
    have hrow1 := row_set hrow (p := ⟨S + 3, 0, none⟩) (fun e => by have := (World.ownsRow.lt hrow (S + 3) e).1; omega) (.int .i64 y1)
    have hkb0 : Below S W (W.setCell ⟨S + 3, 0, none⟩ (.int .i64 y1)) := (Below.refl S W).setCell (p := ⟨S + 3, 0, none⟩) (by show S ≤ S + 3; omega) _
    have hk0 : KD (S + 4) (S + 5) W (W.setCell ⟨S + 3, 0, none⟩ (.int .i64 y1)) := KD.set hn (by decide) (by omega) (by omega) _
    have hB1 := hB.setCell (p := ⟨S + 3, 0, none⟩) (by show S ≤ S + 3; omega) (.int .i64 y1)
    have hr0' := hr0.other (B' := S + 3) (by omega) (.int .i64 y1)
    have hr1' := hr1.other (B' := S + 3) (by omega) (.int .i64 y1)
    have hsz1 : (W.setCell ⟨S + 3, 0, none⟩ (.int .i64 y1)).heap.size = W.heap.size := by simp [World.setCell]
    have hko := KeepsOthers.setCell W ⟨S + 3, 0, none⟩ (.int .i64 y1)
    obtain ⟨W1, hW1e⟩ : ∃ x, W.setCell ⟨S + 3, 0, none⟩ (.int .i64 y1) = x := ⟨_, rfl⟩
    rw [hW1e] at hn1 hv1 hc3' hc2' hrow1 hk0 hkb0 hB1 hr0' hr1' hsz1 hko
    have hl2' := hv1.lt
    obtain ⟨vA, vc, rfl, _⟩ := row_form hrow1
    have hc0 : (W.setCell ⟨S + 3, 0, none⟩ (.int .i64 y1)).cell? ⟨S + 3, 0, none⟩ = some (.int .i64 y1) := by rw [hW1e]; exact hc3'
    have hc0' : (W.setCell ⟨S + 3, 0, none⟩ (.int .i64 y1)).cell? ⟨S + 2, 0, none⟩ = some (.slice vA pre.length vc) := by rw [hW1e]; exact hc2'
    have hre : (W.setCell ⟨S + 3, 0, none⟩ (.int .i64 y1)).alloc (.cells #[.int .i64 z] 3) = W1.alloc (.cells #[.int .i64 z] 3) := by rw [hW1e]
    have hB1s := hB1.size
    clear hW1e hc3' hc2'
    gi_wp2_with (gi_at_builtin; refine wpListIn_append_own _ rfl _ _ 22 rfl (S + 6) 3 i0 (.int .i64 0) 1 8 Tryz.underlying22 hi0 hz0 hz1 hz2 rfl (by decide) _ _ _ rfl (hrow1.alloc _) ⟨W.heap.size, 0, none⟩ 1 1 [.int .i64 z] rfl rfl (by rw [← hsz1]; exact cell_one_new _ _ _) (by simp [Value.oneCell']) (by unfold maxLen; omega) (by omega) (by simp; omega) ?_; intro v' w1 hown' hgrow _; obtain ⟨g', cap', rfl⟩ := ownsRow_succ hown'; obtain ⟨hv2, hv3, hr2, hk2⟩ := boxed_app3 hv1 hrow1 (by omega) hown' hgrow; have hc1 := hv2.cell; have hf1 := hv2.frozen)
    have hlen2 : (pre ++ [z]).length = pre.length + 1 := by simp
    have hnat : intI (pre ++ [z]) = intI pre ++ [.int .i64 z] := by unfold intI; rw [List.map_append]; rfl
    have hy1 := HY.out.2
    have hne : ∀ q, q < S + 6 → some q ≠ Value.ownBlock (.slice vA pre.length vc) := fun q hq e => by have := (World.ownsRow.lt hrow1 q e.symm).1; omega
    have hnn := ((hn1.alloc _).kept hgrow (hne (S + 3) (by omega))).other (B' := S + 2) (by omega) (.slice (some ⟨g', 0, none⟩) (pre.length + 1) cap')
    have hq0 := ((hr0'.alloc _).kept hgrow (hne S (by omega))).other (B' := S + 2) (by omega) (.slice (some ⟨g', 0, none⟩) (pre.length + 1) cap')
    have hq1 := ((hr1'.alloc _).kept hgrow (hne (S + 1) (by omega))).other (B' := S + 2) (by omega) (.slice (some ⟨g', 0, none⟩) (pre.length + 1) cap')
    have hkd := (hk0.trans (KD.grown (tb := S + 4) (rb := S + 5) hrow1 (by decide) (by omega) (by omega) (by omega) (by omega) hgrow)).trans (KD.set (tb := S + 4) (rb := S + 5) hv2 (by decide) (by omega) (by omega) (.slice (some ⟨g', 0, none⟩) (pre.length + 1) cap'))
    have hBk : Below S W w1 := (hkb0.alloc (by have := hB1.size; omega) _).grown hgrow (by simp; omega) (fun k e => by have := (World.ownsRow.lt hrow1 k e).1; omega)
    have hBf : Below S w w1 := (hB1.alloc (by have := hB1.size; omega) _).grown hgrow (by simp; omega) (fun k e => by have := (World.ownsRow.lt hrow1 k e).1; omega)
    refine ⟨hko.trans hk2, ⟨hBk.setCell (p := ⟨S + 2, 0, none⟩) (by show S ≤ S + 2; omega) _, hkd.box1, hkd.box2⟩, fun y hy => ?_, ⟨⟨⟨_, hv3, ?_⟩, ?_⟩, hq0, hq1⟩, hBf.setCell (p := ⟨S + 2, 0, none⟩) (by show S ≤ S + 2; omega) _, by have := hkd.size; omega⟩
    · rcases List.mem_append.1 hy with h | h
      · exact hpos y h
      · have : y = z := by simpa using h
        omega
    · rw [hlen2, hnat]; exact hr2
    · rw [hlen2, hy1]; exact hnn
  case done =>
    rintro D ys W hD hT ⟨hpos, ⟨⟨⟨v, hv, hrow, _⟩, hn⟩, hr0, hr1⟩, hB, hz3⟩ hK
    have hrn : r = [] := full_pos (S := Sy) (by rw [← hT]; exact hpos)
    have hys : ys = Sy.map (fun c : Nat => (c : Int)) := by rw [hT]; unfold fullR; rw [if_pos hrn, List.append_nil]
    have hSl : Sy.length ≤ x.length := by have := HP.out.len; omega
    rw [hys, intI_nat, List.length_map] at hrow
    rw [hys, List.length_map] at hn
    have HRN := Lib.hid hrn
    clear hpos hys hrn hT
    have c2 := hv.cell
    have c3 := hn.cell
    have f0 := hr0.frozen
    have f1 := hr1.frozen
    obtain ⟨vA, vc, rfl, _⟩ := row_form hrow
    have hle : ¬ (65536 : Int) < (Sy.length : Int) := by omega
    have f1' : ∀ u, (W.setCell ⟨S, 0, none⟩ u).frozen? ⟨S + 1, 0, none⟩ = false := fun u => (hr1.other (B' := S) (by omega) u).frozen
    have c0 := hr0.cell
    have c1' : (W.setCell ⟨S, 0, none⟩ (.slice vA Sy.length vc)).cell? ⟨S + 1, 0, none⟩ = some (.int .i64 0) := (hr1.other (B' := S) (by omega) _).cell
    have f1'' := f1' (.slice vA Sy.length vc)
    clear f1' f1
    gi_wp2
    have q0 := ((hr0.set (.slice vA Sy.length vc)).other (B' := S + 1) (by omega) (.int .i64 0))
    have q1 := ((hr1.other (B' := S) (by omega) (.slice vA Sy.length vc)).set (.int .i64 0))
    have hrw := row_set (row_set hrow (p := ⟨S, 0, none⟩) (fun e => by have := (World.ownsRow.lt hrow S e).1; omega) (.slice vA Sy.length vc)) (p := ⟨S + 1, 0, none⟩) (fun e => by have := (World.ownsRow.lt hrow (S + 1) e).1; omega) (.int .i64 0)
    have hBf := (hB.setCell (p := ⟨S, 0, none⟩) (Nat.le_refl _) (.slice vA Sy.length vc)).setCell (p := ⟨S + 1, 0, none⟩) (by show S ≤ S + 1; omega) (.int .i64 0)
    have hKd : ((W.setCell ⟨S, 0, none⟩ (.slice vA Sy.length vc)).setCell ⟨S + 1, 0, none⟩ (.int .i64 0)).heap[D]? = some (.deferred (some [])) :=
      (Below.heap_setCell _ ⟨S + 1, 0, none⟩ _ D (by show D ≠ S + 1; omega)).trans ((Below.heap_setCell _ ⟨S, 0, none⟩ _ D (by show D ≠ S; omega)).trans hK)
    obtain ⟨W2, hW2⟩ : ∃ V, (W.setCell ⟨S, 0, none⟩ (.slice vA Sy.length vc)).setCell ⟨S + 1, 0, none⟩ (.int .i64 0) = V := ⟨_, rfl⟩
    rw [hW2] at q0 q1 hrw hBf hKd ⊢
    refine ⟨by simp, .inl ⟨_, _, rfl, run_takeDeferred hKd, ?_⟩⟩
    refine ⟨_, results_cells2 (by rfl) _ _ ⟨S, 0, none⟩ ⟨S + 1, 0, none⟩ (.slice vA Sy.length vc) (.int .i64 0) (by rfl) (by rfl) (by rfl) (by rfl) ?_ ?_, ?_, ?_⟩
    · exact (World.cell?_of_block (World.putObj_heap_other (by show S ≠ D; omega))).trans q0.cell
    · exact (World.cell?_of_block (World.putObj_heap_other (by show S + 1 ≠ D; omega))).trans q1.cell
    · exact .inl ⟨HRN.out, _, rfl, row_base (ownsRow_putObj hrw _ hKd rfl) (by omega)⟩
    · exact hBf.trans (below_put (n := S) (B := D) (by omega) W2 D _ (Nat.le_refl _))
  case stop =>
    rintro D cd pre W hD hSp ⟨⟨rfl, z, hz, hneg⟩, ⟨hr0, hr1⟩, hB, hz3⟩ hK
    have hrn := full_neg hSp hz hneg
    gi_wp2
    refine ⟨by simp, .inl ⟨_, _, rfl, run_takeDeferred hK, ?_⟩⟩
    refine ⟨_, results_cells2 (by rfl) _ _ ⟨S, 0, none⟩ ⟨S + 1, 0, none⟩ (.slice none 0 0) (.int .i64 9) (by rfl) (by rfl) (by rfl) (by rfl) ?_ ?_, ?_, ?_⟩
    · exact (World.cell?_of_block (World.putObj_heap_other (by show S ≠ D; omega))).trans hr0.cell
    · exact (World.cell?_of_block (World.putObj_heap_other (by show S + 1 ≠ D; omega))).trans hr1.cell
    · exact .inr ⟨hrn, rfl⟩
    · rw [hS]
      exact hB.trans (below_put (n := S) (B := D) (by omega) W D _ (Nat.le_refl _))
end Go.Proofs.YtahmcjdddcbhnaaGreatDoor
namespace Go.Proofs.YtahmcjdddcbhnaaGreatDoor
open Go Go.Ev Go.RowKit

/-- what is asked of sorted -/
def SortedOk : Prop := ∀ (w : World) (v : Value) (ρ : List Int), Sees w 2 v (pairsV ρ) → Thawed w v → ρ.Pairwise (· < ·) → (∀ a ∈ ρ, 0 ≤ a ∧ a ≤ 65536) → ρ.length ≤ 24 → (ρ = [] → v = .slice none 0 0) → Calls Tryz.prog 356 #[v] w fun e w' => e = .returned v ∧ Below w.heap.size w w'
/-- the places of the symbol, from L on -/
def hits : Int → List Nat → List Int
  | _, [] => []
  | L, c :: t => (if (c : Int) = 228 then [L] else []) ++ hits (L + 1) t
theorem hits_app : ∀ (x y : List Nat) (L : Int), hits L (x ++ y) = hits L x ++ hits (L + x.length) y
  | [], y, L => by simp [hits]
  | c :: t, y, L => by
    show _ ++ hits (L + 1) (t ++ y) = _
    rw [hits_app t y (L + 1)]
    show _ = (_ ++ hits (L + 1) t) ++ _
    rw [List.append_assoc, List.length_cons]
    congr 3
    omega
theorem hits_len : ∀ (x : List Nat) (L : Int), (hits L x).length ≤ x.length
  | [], _ => Nat.le_refl _
  | c :: t, L => by
    show ((if (c : Int) = 228 then [L] else []) ++ hits (L + 1) t).length ≤ _
    have := hits_len t (L + 1)
    rw [List.length_append, List.length_cons]
    split <;> simp <;> omega
theorem hits_bd : ∀ (x : List Nat) (L : Int), ∀ a ∈ hits L x, L ≤ a ∧ a < L + x.length
  | [], _, a, h => by cases h
  | c :: t, L, a, h => by
    have h' : a ∈ (if (c : Int) = 228 then [L] else []) ++ hits (L + 1) t := h
    rw [List.length_cons]
    rcases List.mem_append.1 h' with h | h
    · split at h
      · have := List.mem_singleton.1 h; omega
      · cases h
    · have := hits_bd t (L + 1) a h; omega
theorem hits_up : ∀ (x : List Nat) (L : Int), (hits L x).Pairwise (· < ·)
  | [], _ => List.Pairwise.nil
  | c :: t, L => by
    show ((if (c : Int) = 228 then [L] else []) ++ hits (L + 1) t).Pairwise (· < ·)
    refine List.pairwise_append.2 ⟨?_, hits_up t (L + 1), fun a ha b hb => ?_⟩
    · split <;> simp
    · split at ha
      · have := List.mem_singleton.1 ha
        have := hits_bd t (L + 1) b hb
        omega
      · cases ha
theorem hits_take {x : List Nat} {j : Nat} (hj : j < x.length) (L : Int) : hits L (x.take (j + 1)) = if ((x[j] : Nat) : Int) = 228 then hits L (x.take j) ++ [L + j] else hits L (x.take j) := by
  rw [List.take_succ_eq_append_getElem hj, hits_app, List.length_take, Nat.min_eq_left (by omega)]
  show _ ++ ((if ((x[j] : Nat) : Int) = 228 then [L + (j : Int)] else []) ++ []) = _
  split <;> simp
theorem sig_cases {p : List Nat → Prop} (h : ∀ σ, σ = [] ∨ σ = [0] ∨ σ = [1] ∨ σ = [2] ∨ σ = [0, 1] ∨ σ = [0, 2] ∨ σ = [1, 0] ∨ σ = [1, 2] ∨ σ = [2, 0] ∨ σ = [2, 1] ∨ σ = [0, 1, 2] ∨ σ = [0, 2, 1] ∨ σ = [1, 0, 2] ∨ σ = [1, 2, 0] ∨ σ = [2, 0, 1] ∨ σ = [2, 1, 0] → p σ) {σ : List Nat} (hσ : σ ∈ sigs) : p σ := h σ (by simpa [sigs] using hσ)
theorem strU_get {σ : List Nat} (h : σ ∈ sigs) : (hp (strU σ)).get (nm 1) = some (.cells [.ptr (nm 2) 0, .sl (nm 14) 0 1 1 2, sU, J 1, .bool true, .bool false]) ∧ (∃ a, (hp (strU σ)).get (nm 2) = some (.cells (.ptr (nm 3) 0 :: a))) ∧ ∃ a b, (hp (strU σ)).get (nm 3) = some (.cells (a :: .bool true :: b)) := by
  refine sig_cases (p := fun σ => (hp (strU σ)).get (nm 1) = some (.cells [.ptr (nm 2) 0, .sl (nm 14) 0 1 1 2, sU, J 1, .bool true, .bool false]) ∧ (∃ a, (hp (strU σ)).get (nm 2) = some (.cells (.ptr (nm 3) 0 :: a))) ∧ ∃ a b, (hp (strU σ)).get (nm 3) = some (.cells (a :: .bool true :: b))) (fun σ hσ => ?_) h
  rcases hσ with rfl | rfl | rfl | rfl | rfl | rfl | rfl | rfl | rfl | rfl | rfl | rfl | rfl | rfl | rfl | rfl <;> exact ⟨rfl, ⟨_, rfl⟩, _, _, rfl⟩
theorem strU0_get : (hp strU0).get (nm 1) = some (.cells cell1) ∧ (∃ a, (hp strU0).get (nm 2) = some (.cells (.ptr (nm 3) 0 :: a))) ∧ ∃ a b, (hp strU0).get (nm 3) = some (.cells (a :: .bool true :: b)) := ⟨rfl, ⟨_, rfl⟩, _, _, rfl⟩
/-- what is read of a stream -/
theorem cells_of {w : World} {A : List (Pth × O)} {ν : Nat → Int} {ι : Emb} {sb : Nat} {r l : V} {bg : Bool} {L : Int} (h : Lies w A ν ι) (hroot : ι (nm 1) = some (sb, 0)) (g1 : (hp A).get (nm 1) = some (.cells [.ptr (nm 2) 0, r, l, J 1, .bool bg, .bool false])) (g2 : ∃ a, (hp A).get (nm 2) = some (.cells (.ptr (nm 3) 0 :: a))) (g3 : ∃ a b, (hp A).get (nm 3) = some (.cells (a :: .bool true :: b)))
    (hl : ∀ x, V.rel ι l x → x = .int .i64 L) : ∃ mb cb, w.cell? ⟨sb, 0, none⟩ = some (.pointer (some ⟨mb, 0, none⟩)) ∧ w.cell? ⟨sb, 2, none⟩ = some (.int .i64 L) ∧ w.cell? ⟨sb, 4, none⟩ = some (.bool bg) ∧ w.cell? ⟨sb, 5, none⟩ = some (.bool false) ∧
    w.cell? ⟨mb, 0, none⟩ = some (.pointer (some ⟨cb, 0, none⟩)) ∧ w.cell? ⟨cb, 1, none⟩ = some (.bool true) := by
  obtain ⟨a2, g2⟩ := g2
  obtain ⟨a3, b3, g3⟩ := g3
  obtain ⟨x0, c0, r0⟩ := h.cell g1 hroot (j := 0) rfl
  obtain ⟨x2, c2, r2⟩ := h.cell g1 hroot (j := 2) rfl
  obtain ⟨x4, c4, r4⟩ := h.cell g1 hroot (j := 4) rfl
  obtain ⟨x5, c5, r5⟩ := h.cell g1 hroot (j := 5) rfl
  simp only [V.rel] at r0 r4 r5
  obtain ⟨mb, s, q0, rfl⟩ := r0
  have e0 := cells_zero h.hok g2 q0
  subst e0
  obtain ⟨y0, d0, t0⟩ := h.cell g2 q0 (j := 0) rfl
  simp only [V.rel] at t0
  obtain ⟨cb, s, p0, rfl⟩ := t0
  have e0 := cells_zero h.hok g3 p0
  subst e0
  obtain ⟨z1, f1, u1⟩ := h.cell g3 p0 (j := 1) rfl
  simp only [V.rel] at u1
  subst r4 r5 u1
  exact ⟨mb, cb, by simpa using c0, by rw [c2, hl _ r2], c4, c5, by simpa using d0, f1⟩
theorem StrU.cells {w : World} {sb : Nat} {σ : List Nat} {L : Int} {ι : Emb} (h : StrU w sb σ L ι) : ∃ mb cb, w.cell? ⟨sb, 0, none⟩ = some (.pointer (some ⟨mb, 0, none⟩)) ∧ w.cell? ⟨sb, 2, none⟩ = some (.int .i64 L) ∧ w.cell? ⟨sb, 4, none⟩ = some (.bool true) ∧ w.cell? ⟨sb, 5, none⟩ = some (.bool false) ∧
    w.cell? ⟨mb, 0, none⟩ = some (.pointer (some ⟨cb, 0, none⟩)) ∧ w.cell? ⟨cb, 1, none⟩ = some (.bool true) := by
  obtain ⟨g1, g2, g3⟩ := strU_get h.sig
  refine cells_of h.lies h.root g1 g2 g3 fun x hx => ?_
  simp only [sU, V.rel] at hx
  rw [hx.1, h.lies.sym]
  rfl
theorem StrU0.cells {w : World} {sb : Nat} {ι : Emb} (h : StrU0 w sb ι) : ∃ mb cb, w.cell? ⟨sb, 0, none⟩ = some (.pointer (some ⟨mb, 0, none⟩)) ∧ w.cell? ⟨sb, 2, none⟩ = some (.int .i64 0) ∧ w.cell? ⟨sb, 4, none⟩ = some (.bool false) ∧ w.cell? ⟨sb, 5, none⟩ = some (.bool false) ∧
    w.cell? ⟨mb, 0, none⟩ = some (.pointer (some ⟨cb, 0, none⟩)) ∧ w.cell? ⟨cb, 1, none⟩ = some (.bool true) := by
  obtain ⟨g1, g2, g3⟩ := strU0_get
  refine cells_of h.lies h.root g1 g2 g3 fun x hx => ?_
  simp only [J, V.rel] at hx
  exact hx
theorem natI_ints (x : List Nat) : natI x = ints (x.map fun c : Nat => (c : Int)) := by
  unfold natI ints
  rw [List.map_map]
  rfl
set_option maxHeartbeats 8000000 in
set_option maxRecDepth 1000000 in
theorem feedU_walk (hso : SortedOk) {w : World} {sb n : Nat} {σ : List Nat} {L : Int} {ι : Emb} {v : Value} {x : List Nat} (h : StrU w sb σ L ι) (hv : Sees w 1 v (natI x)) (hx : ∀ c ∈ x, Utf.Cp c) (hn : x.length = n) (hn24 : n ≤ 24) (hL1 : L ≤ 1000) (hd : ∀ g, Value.leads v = some g → ¬ foot ι (strU σ) g) :
    Calls Tryz.prog 360 #[.pointer (some ⟨sb, 0, none⟩), v] w fun e w' => ∃ u σ2 ι2, e = .returned (.tuple #[u, .int .i64 0]) ∧ Sees w' 2 u (pairsV (hits L x)) ∧ StrU w' sb σ2 (L + n) ι2 ∧ Chg (foot ι (strU σ)) w w' ∧
      (∀ b, foot ι2 (strU σ2) b → foot ι (strU σ) b ∨ w.heap.size ≤ b) ∧ ∀ g, Value.leads u = some g → foot ι (strU σ) g ∨ w.heap.size ≤ g := by
  have hL0 : 0 ≤ L := h.len.1
  have HN := Lib.hid hn
  have HC := Lib.hid hx
  have hva := valid_walk (r := true) (by rw [← natI_ints]; exact hv) (by rw [List.length_map]; omega) (fun z hz => by obtain ⟨c, hc, rfl⟩ := List.mem_map.1 hz; have := hx c hc; exact ⟨by omega, by have h9 := this.1; show (c : Int) ≤ 1114111; omega, fun _ => by have := this.2; omega⟩)
  obtain ⟨mb, cb, c0, c2, c4, c5, d0, f1⟩ := h.cells
  obtain ⟨A, m, cp, rfl, h1, h2, h3⟩ := hv
  have hm : n = m := by rw [natI_len] at h1; omega
  subst hm
  have hlt : ∀ b, foot ι (strU σ) b → b < w.heap.size := fun b hb => h.lies.lt hb
  have hnI : ¬ (65536 - L : Int) < (n : Int) := by omega
  have hnw : IntKind.i64.wrap (65536 - L) = 65536 - L := wrapS (by omega) (by omega)
  have hS1 := fun (w1 : World) (hb : Below w.heap.size w w1) => (h.chg (F := fun _ => False) (Chg.of_below hb) (fun _ _ h => h))
  clear h1 hx
  obtain ⟨F0, hF0⟩ : ∃ F0, F0 = foot ι (strU σ) := ⟨_, rfl⟩
  rw [← hF0]
  rw [← hF0] at hd
  go_enter Tryz.func360, Tryz.ntmps360
  have hrl := h.lies.hok.lt (nm 1) sb 0 h.root
  go_wp2_with (first
    | (go_at_call 24; refine hva.mono ?_; clear hva; rintro _ w1 ⟨rfl, hb1⟩; have h1 := hS1 w1 hb1; clear hS1; obtain ⟨ι6, hR2, hF2⟩ := h1.withRes; obtain ⟨_, _, _, _, cB, _⟩ := h1.cells; have cB2 := (((Below.refl w1.heap.size w1).alloc (Nat.le_refl _) (.cells #[.slice none 0 0] 63)).cell (p := ⟨sb, 4, none⟩) (by { have := hb1.size; show sb < w1.heap.size; omega })).trans cB)
    | fail)
  have s1 := hb1.size
  have HS := Lib.hid hR2
  have hC : Chg F0 w (w1.alloc (.cells #[.slice none 0 0] 63)) := (Chg.of_below hb1).alloc _
  have hF : ∀ b, foot ι6 (resU ([] : List Int).length ++ strU σ) b → F0 b ∨ w.heap.size ≤ b := fun b hb => by
    rw [hF0]
    exact (hF2 b hb).imp id fun e => by omega
  obtain ⟨k6, hk6⟩ : ∃ x, x = σ := ⟨_, rfl⟩
  rw [← hk6] at HS hF
  clear hF2 hR2 cB2 cB h1 c0 c2 c4 c5 d0 f1 h hnI hnw hlt h2 hF0 hrl s1
  have hn1 : (n : Int) ≤ 65536 := by omega
  go_loopw [52] (fun iv wr => ∃ j : Nat, j ≤ n ∧ iv = .int .i64 j ∧ Hid (∃ kj ιj, StrUR wr sb w1.heap.size kj (L + j) (hits L (x.take j)) ιj ∧ Chg (F0) w wr ∧ ∀ b, foot ιj (resU (hits L (x.take j)).length ++ strU kj) b → F0 b ∨ w.heap.size ≤ b)) (fun iv _ => n - (intOf iv).toNat)
  case atStart => exact ⟨0, Nat.zero_le _, rfl, Lib.hid ⟨k6, ι6, by simpa [hits] using HS.out, hC, by simpa [hits] using hF⟩⟩
  case round =>
    obtain ⟨j, hj, rfl, hX⟩ := hrel
    obtain ⟨kj, ιj, hSj, hCj, hFj⟩ := hX.out
    by_cases hjl : j < n
    · obtain ⟨b, off, rfl, hb, hcc⟩ := h3 (by omega)
      have hcell := (hCj.cell (p := ⟨b, off + j, none⟩) hb (hd b (by obtain ⟨m, rfl⟩ : ∃ m, n = m + 1 := ⟨n - 1, by omega⟩; rfl))).trans (hcc j (.int .i64 ((x[j]'(by rw [HN.out]; exact hjl) : Nat) : Int)) (by unfold natI; rw [List.getElem?_map, List.getElem?_eq_getElem (by rw [HN.out]; exact hjl)]; rfl))
      have hlx : j < x.length := by rw [HN.out]; exact hjl
      have hcp := HC.out _ (List.getElem_mem hlx)
      have htk := hits_len (x.take j) L
      rw [List.length_take] at htk
      have htt := hits_take hlx L
      obtain ⟨z, hz⟩ : ∃ z : Nat, x[j] = z := ⟨_, rfl⟩
      rw [hz] at hcell hcp htt
      have hst := stepU_walk hSj (z := (z : Int)) ⟨by omega, by have := hcp.1; omega⟩ (by omega) (by omega)
      rw [← htt] at hst
      have HTT := Lib.hid htt
      have hj1 : (j : Int) < (n : Int) := by omega
      have HCJ := Lib.hid hCj
      have HFJ := Lib.hid hFj
      clear hcc hX hSj hCj hFj h3 hC hF hd htt hz hcp htk
      go_wp2_with (first | (go_at_call 374; refine hst.mono ?_; clear hst; rintro _ w8 ⟨rfl, k8, ι8, hS8, hC8, hF8⟩) | fail)
      go_roundw
      case rel =>
        refine ⟨j + 1, hjl, by go_num, Lib.hid ⟨k8, ι8, by rw [show L + ((j + 1 : Nat) : Int) = L + (j : Int) + 1 by omega]; exact hS8, HCJ.out.trans hC8 fun i hi h => ?_, fun b hb => ?_⟩⟩
        · exact (HFJ.out i h).resolve_right (by omega)
        · have := HCJ.out.size
          rcases hF8 b hb with h1 | h1
          · exact HFJ.out b h1
          · exact .inr (by omega)
      case measure => simp [intOf]; omega
    · have hje : j = n := by omega
      have hj1 : ¬ (j : Int) < (n : Int) := by omega
      have hxt : x.take j = x := List.take_of_length_le (by rw [HN.out]; omega)
      rw [hxt] at hSj hFj
      have hbd := hits_bd x L
      have hhl := hits_len x L
      have hxl := HN.out
      obtain ⟨u, cr, hse, hnil, hlead, hthw⟩ := hSj.sees
      obtain ⟨ι9, hS9, hF9⟩ := hSj.drop (by omega)
      have hsr := hso wr u _ hse hthw (hits_up x L) (fun a ha => by have := hbd a ha; omega) (by omega) hnil
      subst hje
      have HX := Lib.hid (And.intro hS9 (And.intro hCj (And.intro (fun b hb => hFj b (hF9 b hb)) (And.intro hse (fun g hg => hFj g (hlead g hg))))))
      have hu : ∃ A n c, u = .slice A n c := by obtain ⟨A, n, c, e, -⟩ := hse; exact ⟨A, n, c, e⟩
      obtain ⟨uA, un, uc, rfl⟩ := hu
      clear hX hSj hCj hFj h3 hC hF hd hj hjl hS9 hF9 hse hlead hnil hbd hhl hxt hthw
      go_wp2_with (first | (go_at_call 356; refine hsr.mono ?_; clear hsr; rintro _ w9 ⟨rfl, hb9⟩) | fail)
      go_ret2
      obtain ⟨hS9, hC9, hF9, hse9, hl9⟩ := HX.out
      refine ⟨.slice uA un uc, kj, ι9, ?_, hse9.bel hb9, ?_, hC9.trans (Chg.of_below (F := fun _ => False) hb9) fun _ _ h => h.elim, hF9, hl9⟩
      · rfl
      exact hS9.chg (F := fun _ => False) (Chg.of_below hb9) fun _ _ h => h
set_option maxHeartbeats 8000000 in
set_option maxRecDepth 1000000 in
theorem feedU0_walk (hso : SortedOk) {L : Int} (hLe : L = 0) {w : World} {sb n : Nat} {ι : Emb} {v : Value} {x : List Nat} (h : StrU0 w sb ι) (hv : Sees w 1 v (natI x)) (hx : ∀ c ∈ x, Utf.Cp c) (hn : x.length = n) (hn24 : n ≤ 24) (hd : ∀ g, Value.leads v = some g → ¬ foot ι strU0 g) :
    Calls Tryz.prog 360 #[.pointer (some ⟨sb, 0, none⟩), v] w fun e w' => ∃ u σ2 ι2, e = .returned (.tuple #[u, .int .i64 0]) ∧ Sees w' 2 u (pairsV (hits L x)) ∧ StrU w' sb σ2 (L + n) ι2 ∧ Chg (foot ι strU0) w w' ∧
      (∀ b, foot ι2 (strU σ2) b → foot ι strU0 b ∨ w.heap.size ≤ b) ∧ ∀ g, Value.leads u = some g → foot ι strU0 g ∨ w.heap.size ≤ g := by
  have hL0 : 0 ≤ L := by omega
  have hL1 : L ≤ 1000 := by omega
  have HN := Lib.hid hn
  have HC := Lib.hid hx
  have hva := valid_walk (r := true) (by rw [← natI_ints]; exact hv) (by rw [List.length_map]; omega) (fun z hz => by obtain ⟨c, hc, rfl⟩ := List.mem_map.1 hz; have := hx c hc; exact ⟨by omega, by have h9 := this.1; show (c : Int) ≤ 1114111; omega, fun _ => by have := this.2; omega⟩)
  obtain ⟨mb, cb, c0, c2, c4, c5, d0, f1⟩ := h.cells
  obtain ⟨A, m, cp, rfl, h1, h2, h3⟩ := hv
  have hm : n = m := by rw [natI_len] at h1; omega
  subst hm
  have hlt : ∀ b, foot ι strU0 b → b < w.heap.size := fun b hb => h.lies.lt hb
  have hnI : ¬ (65536 : Int) < (n : Int) := by omega
  have hnw : IntKind.i64.wrap (65536 - 0) = 65536 := wrapS (by omega) (by omega)
  have hS1 := fun (w1 : World) (hb : Below w.heap.size w w1) => (h.chg (F := fun _ => False) (Chg.of_below hb) (fun _ _ h => h))
  clear h1 hx
  obtain ⟨F0, hF0⟩ : ∃ F0, F0 = foot ι strU0 := ⟨_, rfl⟩
  rw [← hF0]
  rw [← hF0] at hd
  go_enter Tryz.func360, Tryz.ntmps360
  have hrl := h.lies.hok.lt (nm 1) sb 0 h.root
  have hroot : foot ι strU0 sb := ⟨nm 1, 0, ⟨_, strU0_get.1, by simp⟩, h.root⟩
  go_wp2_with (first
    | (go_at_call 24; refine hva.mono ?_; clear hva; rintro _ w1 ⟨rfl, hb1⟩; have h1 := hS1 w1 hb1; clear hS1; obtain ⟨ι2, hR2, hF2⟩ := h1.withRes; obtain ⟨_, _, _, _, cB, _⟩ := h1.cells; have cB2 := (((Below.refl w1.heap.size w1).alloc (Nat.le_refl _) (.cells #[.slice none 0 0] 63)).cell (p := ⟨sb, 4, none⟩) (by { have := hb1.size; show sb < w1.heap.size; omega })).trans cB; have fB2 := hR2.lies.thaw (c := cell1) (by rfl) hR2.root (j := 4) (by decide); obtain ⟨ι3, hB3, hF3⟩ := beginU_put hR2; have hst3 := startU_walk hB3)
    | (go_at_call 354; refine hst3.mono ?_; clear hst3; rintro _ w4 ⟨fb, gb, ι4, rfl, hC4, hc4, hf4⟩; have had := advU_walk hC4 rfl)
    | (go_at_call 373; refine had.mono ?_; clear had; rintro _ w6 ⟨rfl, ι6, hS6, hc6, hf6⟩)
    | fail)
  have HS := Lib.hid (show StrUR w6 sb w1.heap.size [] L [] ι6 by rw [hLe]; exact hS6)
  have s1 := hb1.size
  have hb2 : ∀ i, foot ι2 (resZ ++ strU0) i → foot ι strU0 i ∨ w.heap.size ≤ i := fun i hi => (hF2 i hi).imp id fun e => by omega
  have k1 : Chg (fun i => foot ι strU0 i ∨ w.heap.size ≤ i) w w1 := Chg.of_below hb1
  have k3 := (k1.alloc (.cells #[.slice none 0 0] 63)).setCell (p := ⟨sb, 4, none⟩) (.inr (.inl hroot)) (.bool true)
  have k4 := k3.trans hc4 fun i _ hi => hb2 i (hF3 i hi)
  have hb4 : ∀ i, foot ι4 strUC i → foot ι strU0 i ∨ w.heap.size ≤ i := fun i hi => (hf4 i hi).elim (fun e => hb2 i (hF3 i e)) fun e => .inr (Nat.le_trans k3.size e)
  have k6c := (k4.alloc (.cells #[.pointer (some ⟨fb, 0, none⟩), .pointer (some ⟨gb, 0, none⟩)] 524)).trans hc6 fun i _ hi => hi.elim (hb4 i) fun e => .inr (Nat.le_trans k4.size e)
  have hC : Chg (foot ι strU0) w w6 := k6c.more fun i hi h => h.resolve_right (by omega)
  have hFx : ∀ b, foot ι6 (resZ ++ strU []) b → foot ι strU0 b ∨ w.heap.size ≤ b := fun b hb => (hf6 b hb).elim (hb4 b) fun e => .inr (Nat.le_trans k4.size e)
  rw [← hF0] at hC
  have hF : ∀ b, foot ι6 (resU ([] : List Int).length ++ strU []) b → F0 b ∨ w.heap.size ≤ b := fun b hb => by rw [hF0]; exact hFx b hb
  obtain ⟨k6, hk6⟩ : ∃ x : List Nat, x = [] := ⟨_, rfl⟩
  rw [← hk6] at HS hF
  clear k1 k3 k4 k6c hb2 hb4 hc4 hf4 hc6 hf6 hC4 hF2 hF3 hB3 hR2 fB2 cB2 cB h1 hS6 c0 c2 c4 c5 d0 f1 hroot h hnI hnw hlt h2 hFx hF0 hrl s1 hLe
  have hn1 : (n : Int) ≤ 65536 := by omega
  go_loopw [52] (fun iv wr => ∃ j : Nat, j ≤ n ∧ iv = .int .i64 j ∧ Hid (∃ kj ιj, StrUR wr sb w1.heap.size kj (L + j) (hits L (x.take j)) ιj ∧ Chg (F0) w wr ∧ ∀ b, foot ιj (resU (hits L (x.take j)).length ++ strU kj) b → F0 b ∨ w.heap.size ≤ b)) (fun iv _ => n - (intOf iv).toNat)
  case atStart => exact ⟨0, Nat.zero_le _, rfl, Lib.hid ⟨k6, ι6, by simpa [hits] using HS.out, hC, by simpa [hits] using hF⟩⟩
  case round =>
    obtain ⟨j, hj, rfl, hX⟩ := hrel
    obtain ⟨kj, ιj, hSj, hCj, hFj⟩ := hX.out
    by_cases hjl : j < n
    · obtain ⟨b, off, rfl, hb, hcc⟩ := h3 (by omega)
      have hcell := (hCj.cell (p := ⟨b, off + j, none⟩) hb (hd b (by obtain ⟨m, rfl⟩ : ∃ m, n = m + 1 := ⟨n - 1, by omega⟩; rfl))).trans (hcc j (.int .i64 ((x[j]'(by rw [HN.out]; exact hjl) : Nat) : Int)) (by unfold natI; rw [List.getElem?_map, List.getElem?_eq_getElem (by rw [HN.out]; exact hjl)]; rfl))
      have hlx : j < x.length := by rw [HN.out]; exact hjl
      have hcp := HC.out _ (List.getElem_mem hlx)
      have htk := hits_len (x.take j) L
      rw [List.length_take] at htk
      have htt := hits_take hlx L
      obtain ⟨z, hz⟩ : ∃ z : Nat, x[j] = z := ⟨_, rfl⟩
      rw [hz] at hcell hcp htt
      have hst := stepU_walk hSj (z := (z : Int)) ⟨by omega, by have := hcp.1; omega⟩ (by omega) (by omega)
      rw [← htt] at hst
      have HTT := Lib.hid htt
      have hj1 : (j : Int) < (n : Int) := by omega
      have HCJ := Lib.hid hCj
      have HFJ := Lib.hid hFj
      clear hcc hX hSj hCj hFj h3 hC hF hd htt hz hcp htk
      go_wp2_with (first | (go_at_call 374; refine hst.mono ?_; clear hst; rintro _ w8 ⟨rfl, k8, ι8, hS8, hC8, hF8⟩) | fail)
      go_roundw
      case rel =>
        refine ⟨j + 1, hjl, by go_num, Lib.hid ⟨k8, ι8, by rw [show L + ((j + 1 : Nat) : Int) = L + (j : Int) + 1 by omega]; exact hS8, HCJ.out.trans hC8 fun i hi h => ?_, fun b hb => ?_⟩⟩
        · exact (HFJ.out i h).resolve_right (by omega)
        · have := HCJ.out.size
          rcases hF8 b hb with h1 | h1
          · exact HFJ.out b h1
          · exact .inr (by omega)
      case measure => simp [intOf]; omega
    · have hje : j = n := by omega
      have hj1 : ¬ (j : Int) < (n : Int) := by omega
      have hxt : x.take j = x := List.take_of_length_le (by rw [HN.out]; omega)
      rw [hxt] at hSj hFj
      have hbd := hits_bd x L
      have hhl := hits_len x L
      have hxl := HN.out
      obtain ⟨u, cr, hse, hnil, hlead, hthw⟩ := hSj.sees
      obtain ⟨ι9, hS9, hF9⟩ := hSj.drop (by omega)
      have hsr := hso wr u _ hse hthw (hits_up x L) (fun a ha => by have := hbd a ha; omega) (by omega) hnil
      subst hje
      have HX := Lib.hid (And.intro hS9 (And.intro hCj (And.intro (fun b hb => hFj b (hF9 b hb)) (And.intro hse (fun g hg => hFj g (hlead g hg))))))
      have hu : ∃ A n c, u = .slice A n c := by obtain ⟨A, n, c, e, -⟩ := hse; exact ⟨A, n, c, e⟩
      obtain ⟨uA, un, uc, rfl⟩ := hu
      clear hX hSj hCj hFj h3 hC hF hd hj hjl hS9 hF9 hse hlead hnil hbd hhl hxt hthw
      go_wp2_with (first | (go_at_call 356; refine hsr.mono ?_; clear hsr; rintro _ w9 ⟨rfl, hb9⟩) | fail)
      go_ret2
      obtain ⟨hS9, hC9, hF9, hse9, hl9⟩ := HX.out
      refine ⟨.slice uA un uc, kj, ι9, ?_, hse9.bel hb9, ?_, hC9.trans (Chg.of_below (F := fun _ => False) hb9) fun _ _ h => h.elim, hF9, hl9⟩
      · rfl
      exact hS9.chg (F := fun _ => False) (Chg.of_below hb9) fun _ _ h => h
end Go.Proofs.YtahmcjdddcbhnaaGreatDoor
namespace Go.Proofs.YtahmcjdddcbhnaaGreatDoor
open Go Go.Ev Go.RowKit

/-- its blocks: fresh, or begun -/
noncomputable def shU (m : Option (List Nat)) : List (Pth × O) := match m with | none => strU0 | some σ => strU σ
/-- a stream with L symbols -/
def SU (w : World) (sb : Nat) (m : Option (List Nat)) (L : Int) (ι : Emb) : Prop := match m with | none => StrU0 w sb ι ∧ L = 0 | some σ => StrU w sb σ L ι
section
variable {w w' : World} {sb : Nat} {m : Option (List Nat)} {L : Int} {ι : Emb}
theorem SU.lt (h : SU w sb m L ι) {b : Nat} (hb : foot ι (shU m) b) : b < w.heap.size := by
  cases m with
  | none => exact h.1.lies.lt hb
  | some σ => exact StrU.lies h |>.lt hb
theorem SU.len (h : SU w sb m L ι) : 0 ≤ L := by
  cases m with
  | none => have := h.2; omega
  | some σ => exact (StrU.len h).1
theorem SU.chg {F : Nat → Prop} (h : SU w sb m L ι) (hc : Chg F w w') (hf : ∀ b, foot ι (shU m) b → ¬ F b) : SU w' sb m L ι := by
  cases m with
  | none => exact ⟨h.1.chg hc hf, h.2⟩
  | some σ => exact StrU.chg h hc hf
theorem SU.cells (h : SU w sb m L ι) : ∃ mb cb, w.cell? ⟨sb, 0, none⟩ = some (.pointer (some ⟨mb, 0, none⟩)) ∧ w.cell? ⟨sb, 5, none⟩ = some (.bool false) ∧ w.cell? ⟨mb, 0, none⟩ = some (.pointer (some ⟨cb, 0, none⟩)) ∧ w.cell? ⟨cb, 1, none⟩ = some (.bool true) := by
  cases m with
  | none =>
    obtain ⟨mb, cb, c0, -, -, c5, d0, f1⟩ := h.1.cells
    exact ⟨mb, cb, c0, c5, d0, f1⟩
  | some σ =>
    obtain ⟨mb, cb, c0, -, -, c5, d0, f1⟩ := StrU.cells h
    exact ⟨mb, cb, c0, c5, d0, f1⟩
theorem feedSU_walk (hso : SortedOk) {n : Nat} {v : Value} {x : List Nat} (h : SU w sb m L ι) (hv : Sees w 1 v (natI x)) (hx : ∀ c ∈ x, Utf.Cp c) (hn : x.length = n) (hn24 : n ≤ 24) (hL1 : L ≤ 1000) (hd : ∀ g, Value.leads v = some g → ¬ foot ι (shU m) g) :
    Calls Tryz.prog 360 #[.pointer (some ⟨sb, 0, none⟩), v] w fun e w' => ∃ u σ2 ι2, e = .returned (.tuple #[u, .int .i64 0]) ∧ Sees w' 2 u (pairsV (hits L x)) ∧ SU w' sb (some σ2) (L + n) ι2 ∧ Chg (foot ι (shU m)) w w' ∧
      (∀ b, foot ι2 (shU (some σ2)) b → foot ι (shU m) b ∨ w.heap.size ≤ b) ∧ ∀ g, Value.leads u = some g → foot ι (shU m) g ∨ w.heap.size ≤ g := by
  cases m with
  | none => exact feedU0_walk hso h.2 h.1 hv hx hn hn24 hd
  | some σ => exact feedU_walk hso h hv hx hn hn24 hL1 hd
theorem closeSU_walk (h : SU w sb m L ι) : Calls Tryz.prog 350 #[.pointer (some ⟨sb, 0, none⟩)] w fun e w' => e = .returned (.tuple #[.slice none 0 0, .int .i64 0]) ∧ Chg (foot ι (shU m)) w w' := by
  cases m with
  | none =>
    have hxs : V.rels ι [.ptr (nm 1) 0] (#[.pointer (some ⟨sb, 0, none⟩)] : Array Value).toList := rels_cons (ptr_rel h.1.root) rels_nil
    refine (runs_ok run_closeU0 (num_none (τ := fun _ => 0)) h.1.lies hxs).mono ?_
    rintro e w' ⟨x, v, ι', ι2, rfl, hp, hv, -, hc, -, -⟩
    exact ⟨by rw [done_of hp hv], hc⟩
  | some σ =>
    have hxs : V.rels ι [.ptr (nm 1) 0] (#[.pointer (some ⟨sb, 0, none⟩)] : Array Value).toList := rels_cons (ptr_rel (StrU.root h)) rels_nil
    refine (runs_ok (allB_ok run_closeU (StrU.sig h)) (num_none (τ := fun _ => 0)) (StrU.lies h) hxs).mono ?_
    rintro e w' ⟨x, v, ι', ι2, rfl, hp, hv, -, hc, -, -⟩
    exact ⟨by rw [done_of hp hv], hc⟩
end
end Go.Proofs.YtahmcjdddcbhnaaGreatDoor
namespace Go.Proofs.YtahmcjdddcbhnaaGreatDoor
open Go Go.Ev Go.RowKit

/-- a stream of bytes, some of which are held -/
structure BytU (w : World) (bb sb : Nat) (m : Option (List Nat)) (L : Int) (ι : Emb) (hv : Value) (held : List UInt8) : Prop where
  blk : Cel w bb #[.pointer (some ⟨sb, 0, none⟩), hv]
  hld : Sees w 1 hv (bv held)
  str : SU w sb m L ι
  out : ¬ foot ι (shU m) bb
  apart : ∀ g, Value.leads hv = some g → g ≠ bb
/-- where it lies -/
def BFU (bb : Nat) (m : Option (List Nat)) (ι : Emb) (hv : Value) (b : Nat) : Prop := b = bb ∨ foot ι (shU m) b ∨ Value.leads hv = some b
section
variable {w w' : World} {bb sb : Nat} {m : Option (List Nat)} {L : Int} {ι : Emb} {hv : Value} {held : List UInt8}
theorem leads_sees {size : Nat} {v : Value} {l : List Value} (h : Sees w size v l) {g : Nat} (hg : Value.leads v = some g) : g < w.heap.size := by
  obtain ⟨A, n, c, rfl, h1, h2, h3⟩ := h
  cases n with
  | zero => cases A <;> cases hg
  | succ n =>
    obtain ⟨b, s, rfl, hb, -⟩ := h3 (by omega)
    cases hg
    exact hb
theorem BytU.lt (h : BytU w bb sb m L ι hv held) {b : Nat} (hb : BFU bb m ι hv b) : b < w.heap.size := by
  rcases hb with rfl | hb | hb
  · exact h.blk.lt
  · exact h.str.lt hb
  · exact leads_sees h.hld hb
theorem BytU.chg {F : Nat → Prop} (h : BytU w bb sb m L ι hv held) (hc : Chg F w w') (hf : ∀ b, BFU bb m ι hv b → ¬ F b) : BytU w' bb sb m L ι hv held :=
  ⟨h.blk.chg hc (hf bb (.inl rfl)), h.hld.chg hc fun b hb => hf b (.inr (.inr hb)), h.str.chg hc fun b hb => hf b (.inr (.inl hb)), h.out, h.apart⟩
theorem BytU.bel (h : BytU w bb sb m L ι hv held) (hb : Below w.heap.size w w') : BytU w' bb sb m L ι hv held := h.chg (F := fun _ => False) (Chg.of_below hb) fun _ _ h => h
set_option maxHeartbeats 4000000 in
set_option maxRecDepth 1000000 in
theorem bcloseU_walk (h : BytU w bb sb m L ι hv held) : Calls Tryz.prog 347 #[.pointer (some ⟨bb, 0, none⟩)] w fun e w' => e = .returned (.tuple #[.slice none 0 0, .int .i64 (if held = [] then 0 else 9)]) ∧ Chg (foot ι (shU m)) w w' := by
  have hcl := closeSU_walk h.str
  obtain ⟨mb, cb, c0, c5, d0, f1⟩ := h.str.cells
  have b0 := h.blk.at' 0
  have b1 := h.blk.at' 1
  simp at b0 b1
  obtain ⟨A, n, c, rfl, h1, h2, -⟩ := h.hld
  have hn : held.length = n := by rw [bv_len] at h1; omega
  clear h c0 d0 f1 h1
  by_cases hh : held = []
  · rw [if_pos hh]
    have hn0 : n = 0 := by rw [← hn, hh]; rfl
    subst hn0
    clear hn hh
    go_enter Tryz.func347, Tryz.ntmps347
    go_wp2_with (first | (go_at_call 350; refine hcl.mono ?_; clear hcl; rintro _ w1 ⟨rfl, hc1⟩) | fail)
    go_ret2
    exact ⟨rfl, hc1⟩
  · rw [if_neg hh]
    have hn0 : 0 < n := by rw [← hn]; exact List.length_pos_iff.2 hh
    have hnI : (0 : Int) < (n : Int) := by omega
    clear hn hh
    go_enter Tryz.func347, Tryz.ntmps347
    go_wp2_with fail
    go_ret2
    exact ⟨rfl, Chg.refl _ _⟩
end
end Go.Proofs.YtahmcjdddcbhnaaGreatDoor
namespace Go.Proofs.YtahmcjdddcbhnaaGreatDoor
open Go Go.Ev Go.RowKit

section
variable {w : World} {bb sb : Nat} {m : Option (List Nat)} {L : Int} {ι : Emb} {hv v : Value} {held y : List UInt8} {S : List Nat} {r : List UInt8}
set_option maxHeartbeats 8000000 in
set_option maxRecDepth 1000000 in
theorem bfeedU_bad (hT : Tabs w) (h : BytU w bb sb m L ι hv held) (hy : Sees w 1 v (bv y)) (hlen : (held ++ y).length ≤ 1000) (hp : Utf.Prs (held ++ y) S r) (hs : Utf.Stop r) (hr : r ≠ []) (hbad : Utf.one r = .bad) :
    Calls Tryz.prog 352 #[.pointer (some ⟨bb, 0, none⟩), v] w fun e w' => e = .returned (.tuple #[.slice none 0 0, .int .i64 9]) ∧ Below w.heap.size w w' := by
  obtain ⟨x, hx⟩ : ∃ x, held ++ y = x := ⟨_, rfl⟩
  obtain ⟨mb, cb, c0, c5, d0, f1⟩ := h.str.cells
  have b0 := h.blk.at' 0
  have b1 := h.blk.at' 1
  simp at b0 b1
  have hlt : ∀ b, BFU bb m ι hv b → b < w.heap.size := fun b hb => h.lt hb
  obtain ⟨W1, hW1⟩ : ∃ W1, w.alloc (.cells #[hv, v] 23) = W1 := ⟨_, rfl⟩
  have hB1 : Below w.heap.size w W1 := by rw [← hW1]; exact (Below.refl _ w).alloc (Nat.le_refl _) _
  have m0 : W1.cell? ⟨w.heap.size, 0, none⟩ = some hv := by rw [← hW1]; simp
  have m1 : W1.cell? ⟨w.heap.size, 1, none⟩ = some v := by rw [← hW1]; simp
  rw [List.length_append] at hlen
  have hcon := concat_walk (x := held) (y := y) (w := W1) (vb := w.heap.size) (v1 := hv) (v2 := v) (h.hld.bel hB1) (hy.bel hB1) (by omega) (by omega) m0 m1 (by rw [← hW1, World.size_alloc]; omega)
  rw [hx] at hcon hp
  have hxl : x.length = held.length + y.length := by rw [← hx, List.length_append]
  rw [← hxl] at hlen
  have HXL := Lib.hid hxl
  clear hxl
  have hbel := fun w' (hb : Below w.heap.size w w') => h.bel hb
  obtain ⟨vA, vn, vc, rfl, -, -, -⟩ := hy
  obtain ⟨hA, hn, hc, rfl, -, -, -⟩ := h.hld
  have HT := Lib.hid hT
  have HP := Lib.hid (And.intro hp hs)
  have hwe : wholeE x r = (0, false) := wholeE_bad hr hbad
  clear hT hp hs
  go_enter Tryz.func352, Tryz.ntmps352
  go_wp2_with (first
    | (go_at_call 358; refine hcon.mono ?_; clear hcon; rintro _ w2 ⟨u2, rfl, hrow2, hb2⟩)
    | fail)
  have hb2w : Below w.heap.size w w2 := hB1.trans (hb2.mono hB1.size)
  have h2 := hbel w2 hb2w
  obtain ⟨mb2, cb2, e0, e5, g0, g1⟩ := h2.str.cells
  have p0 := h2.blk.at' 0
  simp at p0
  obtain ⟨A2, k2, rfl, hle2⟩ := row_form hrow2
  clear c0 c5 d0 f1 b0 b1 m0 m1 e5 hb2
  go_wp2_with fail
  (refine wp_region_quiet_lit (by kernel_rfl) (by kernel_rfl) ?_; (repeat (with_reducible refine wpQuiet_step (fun K hK => ?_); go_simp; with_reducible refine hK _ ?_; clear hK K)); with_reducible refine wpQuiet_nil ?_; rintro _ ⟨nq, rfl⟩)
  obtain ⟨w3, hw3⟩ : ∃ x, w2.drewN nq = x := ⟨_, rfl⟩
  have hb3 : Below w.heap.size w w3 := by rw [← hw3]; exact hb2w.trans ((belowN w2 nq).mono hb2w.size)
  have hrow3 : w3.ownsRow W1.heap.size 5 1 (.slice A2 x.length k2) x.length (bv x) := by rw [← hw3]; exact row_chg hrow2 (Chg.of_below (F := fun _ => False) (belowN w2 nq)) fun _ _ h => h
  rw [hw3]
  have hwh := whole_walk (HT.out.below hb3) (Sees.row hrow3) (by omega) HP.out.1 HP.out.2
  rw [hwe] at hwh
  dsimp only at hwh
  have HWE := Lib.hid hwe
  clear hwe hr hbad hx
  clear e0 g0 g1 p0 h2 hw3 hrow2 hb2w hbel h hlt
  go_wp2_with (first
    | (go_at_call 359; refine hwh.mono ?_; clear hwh; rintro _ w4 ⟨rfl, hb4⟩)
    | fail)
  go_ret2
  exact ⟨rfl, hb3.trans (hb4.mono hb3.size)⟩
end
end Go.Proofs.YtahmcjdddcbhnaaGreatDoor
namespace Go.Proofs.YtahmcjdddcbhnaaGreatDoor
open Go Go.Ev Go.RowKit

theorem bv_flat (l : List UInt8) : bv l = l.flatMap fun b => [Value.int .u8 (b.toNat : Int)] := by
  unfold bv
  induction l with
  | nil => rfl
  | cons a t ih => rw [List.map_cons, List.flatMap_cons, ih]; rfl
section
variable {w : World} {A B : Option Addr} {n cp : Nat} {x : List UInt8}
theorem Sees.takeB (h : Sees w 1 (.slice A n cp) (bv x)) (j : Nat) (hj : j ≤ n) : Sees w 1 (.slice A j cp) (bv (x.take j)) := by
  rw [bv_flat] at h ⊢
  exact Sees.takeF (fun b : UInt8 => [Value.int .u8 (b.toNat : Int)]) (m := 1) (fun _ => rfl) h Nat.one_pos j hj
theorem Sees.dropB (h : Sees w 1 (.slice A n cp) (bv x)) (j : Nat) (hj : j ≤ n) (hB : (if cp = j then A else A.map (·.add (j * 1))) = B) : Sees w 1 (.slice B (n - j) (cp - j)) (bv (x.drop j)) := by
  rw [bv_flat] at h ⊢
  rw [← hB]
  exact Sees.dropF (fun b : UInt8 => [Value.int .u8 (b.toNat : Int)]) (m := 1) (fun _ => rfl) Nat.one_pos h j hj
end
section
variable {w : World} {bb sb : Nat} {m : Option (List Nat)} {L : Int} {ι : Emb} {hv v : Value} {held y : List UInt8} {S : List Nat} {r : List UInt8}
set_option maxHeartbeats 16000000 in
set_option maxRecDepth 1000000 in
theorem bfeedU_good (hso : SortedOk) (hT : Tabs w) (hFo : Forms w) (h : BytU w bb sb m L ι hv held) (hy : Sees w 1 v (bv y)) (hlen : (held ++ y).length ≤ 1000) (hp : Utf.Prs (held ++ y) S r) (hs : Utf.Stop r) (hok : r = [] ∨ Utf.one r = .more) (hS : S.length ≤ 24) (hL1 : L ≤ 1000) :
    Calls Tryz.prog 352 #[.pointer (some ⟨bb, 0, none⟩), v] w fun e w' => ∃ u σ2 ι2 hv2, e = .returned (.tuple #[u, .int .i64 0]) ∧ Sees w' 2 u (pairsV (hits L S)) ∧ BytU w' bb sb (some σ2) (L + S.length) ι2 hv2 r ∧ Chg (BFU bb m ι hv) w w' ∧
      (∀ b, BFU bb (some σ2) ι2 hv2 b → BFU bb m ι hv b ∨ w.heap.size ≤ b) ∧ ∀ g, Value.leads u = some g → (BFU bb m ι hv g ∨ w.heap.size ≤ g) := by
  obtain ⟨i0, hi0, hz0, hz1, hz2⟩ := info_parts' infoU8
  obtain ⟨x, hx⟩ : ∃ x, held ++ y = x := ⟨_, rfl⟩
  obtain ⟨mb, cb, c0, c5, d0, f1⟩ := h.str.cells
  have b0 := h.blk.at' 0
  have b1 := h.blk.at' 1
  simp at b0 b1
  have hlt : ∀ b, BFU bb m ι hv b → b < w.heap.size := fun b hb => h.lt hb
  obtain ⟨W1, hW1⟩ : ∃ W1, w.alloc (.cells #[hv, v] 23) = W1 := ⟨_, rfl⟩
  have hB1 : Below w.heap.size w W1 := by rw [← hW1]; exact (Below.refl _ w).alloc (Nat.le_refl _) _
  have m0 : W1.cell? ⟨w.heap.size, 0, none⟩ = some hv := by rw [← hW1]; simp
  have m1 : W1.cell? ⟨w.heap.size, 1, none⟩ = some v := by rw [← hW1]; simp
  rw [List.length_append] at hlen
  have hcon := concat_walk (x := held) (y := y) (w := W1) (vb := w.heap.size) (v1 := hv) (v2 := v) (h.hld.bel hB1) (hy.bel hB1) (by omega) (by omega) m0 m1 (by rw [← hW1, World.size_alloc]; omega)
  rw [hx] at hcon hp
  have hxl : x.length = held.length + y.length := by rw [← hx, List.length_append]
  rw [← hxl] at hlen
  have HXL := Lib.hid hxl
  clear hxl hx
  have hbel := fun w' (hb : Below w.heap.size w w') => h.bel hb
  obtain ⟨vA, vn, vc, rfl, -, -, -⟩ := hy
  obtain ⟨hA, hn, hc, rfl, -, -, -⟩ := h.hld
  have hcps := hp.cps
  obtain ⟨p, hxp, hpp⟩ := hp.split
  obtain ⟨j, hj⟩ : ∃ j, p.length = j := ⟨_, rfl⟩
  have hjr : x.length = j + r.length := by rw [hxp, List.length_append, hj]
  have htk : x.take j = p := by rw [hxp, ← hj]; simp
  have hdr : x.drop j = r := by rw [hxp, ← hj]; simp
  have hwe : wholeE x r = ((j : Int), true) := by
    rcases hok with rfl | ho
    · rw [wholeE_nil]
      simp at hjr
      rw [hjr]
    · rw [wholeE_more ho, hjr]
      congr 1
      omega
  have hjn : j ≤ x.length := by omega
  have hrl : x.length - j = r.length := by omega
  have HJ := Lib.hid (And.intro hxp (And.intro hj (And.intro hjr (And.intro htk (And.intro hdr hrl)))))
  clear hxp hj hjr htk hdr hrl
  have HT := Lib.hid (And.intro hT hFo)
  have HP := Lib.hid (And.intro hp (And.intro hs hpp))
  have HK := Lib.hid hok
  clear hT hFo hp hs hpp hok
  obtain ⟨nS, hnS⟩ : ∃ nS, S.length = nS := ⟨_, rfl⟩
  rw [hnS] at hS ⊢
  have HNS := Lib.hid hnS
  clear hnS
  have hout := h.out
  have hbbl := h.blk.lt
  go_enter Tryz.func352, Tryz.ntmps352
  go_wp2_with (first
    | (go_at_call 358; refine hcon.mono ?_; clear hcon; rintro _ w2 ⟨u2, rfl, hrow2, hb2⟩)
    | fail)
  have hb2w : Below w.heap.size w w2 := hB1.trans (hb2.mono hB1.size)
  have h2 := hbel w2 hb2w
  obtain ⟨mb2, cb2, e0, e5, g0, g1⟩ := h2.str.cells
  have p0 := h2.blk.at' 0
  simp at p0
  obtain ⟨A2, k2, rfl, hle2⟩ := row_form hrow2
  clear c0 c5 d0 f1 b0 b1 m0 m1 e5 hb2
  go_wp2_with fail
  (refine wp_region_quiet_lit (by kernel_rfl) (by kernel_rfl) ?_; (repeat (with_reducible refine wpQuiet_step (fun K hK => ?_); go_simp; with_reducible refine hK _ ?_; clear hK K)); with_reducible refine wpQuiet_nil ?_; rintro _ ⟨nq, rfl⟩)
  obtain ⟨w3, hw3⟩ : ∃ x, w2.drewN nq = x := ⟨_, rfl⟩
  have hb3 : Below w.heap.size w w3 := by rw [← hw3]; exact hb2w.trans ((belowN w2 nq).mono hb2w.size)
  have hrow3 : w3.ownsRow W1.heap.size 5 1 (.slice A2 x.length k2) x.length (bv x) := by rw [← hw3]; exact row_chg hrow2 (Chg.of_below (F := fun _ => False) (belowN w2 nq)) fun _ _ h => h
  rw [hw3]
  have hwh := whole_walk (HT.out.1.below hb3) (Sees.row hrow3) (by omega) HP.out.1 HP.out.2.1
  rw [hwe] at hwh
  dsimp only at hwh
  have hsz1 := hB1.size
  have hfr : ∀ g, Value.leads (.slice A2 x.length k2) = some g → w.heap.size ≤ g := fun g hg => by
    have := (World.ownsRow.lt hrow3 g (leads_own hrow3 hg)).1
    omega
  obtain ⟨B2, hB2⟩ : ∃ B2, (if k2 = j then A2 else A2.map (·.add (j * 1))) = B2 := ⟨_, rfl⟩
  have hse := fun w4 (hb : Below w3.heap.size w3 w4) => (Sees.row hrow3).bel hb
  have HBB := Lib.hid hB2
  have HFR := Lib.hid hfr
  have hjk : j ≤ k2 := Nat.le_trans hjn hle2
  clear hwe hfr
  clear e0 g0 g1 p0 h2 hw3 hrow2 hb2w h hB2 hB1 hrow3
  go_wp2_with (first
    | (go_at_call 359; refine hwh.mono ?_; clear hwh; rintro _ w4 ⟨rfl, hb4⟩; have hb4w := hb3.trans (hb4.mono hb3.size); have hs4 := hse w4 hb4; have hde := decU_walk (w := w4) (v := .slice A2 j k2) (x := p) (HT.out.2.below hb4w) (by have h7 := HJ.out.2.1; omega) (by have h7 := hs4.takeB j hjn; rw [HJ.out.2.2.2.1] at h7; exact h7) HP.out.2.2 (.inl rfl); clear hse)
    | (with_reducible show wpList _ _ _ (Oper.mk _ (.slice _ _ none _ _) _ _ _ _ :: _) _ _; refine wpList_sliceTo rfl _ _ 23 rfl i0 Tryz.underlying23 hi0 (by assumption) rfl rfl hjk ?_)
    | (go_at_call 8; refine hde.mono ?_; clear hde; rintro _ w5 ⟨hq | hq, hb5⟩; rotate_left; exact absurd rfl hq.1; obtain ⟨-, u5, rfl, hrow5⟩ := hq; have hb5w := hb4w.trans (hb5.mono hb4w.size); have h5 := hbel w5 hb5w; have q0 := h5.blk.at' 0; simp at q0; have hfe := feedSU_walk hso h5.str (Sees.row hrow5) hcps HNS.out hS hL1 (fun g hg hf => by { have h6 := (World.ownsRow.lt hrow5 g (leads_own hrow5 hg)).1; have h7 := hlt g (.inr (.inl hf)); have := hb4w.size; omega }); have hs5 := hs4.bel hb5; obtain ⟨u5A, u5c, rfl, -⟩ := row_form hrow5)
    | (go_at_call 360; refine hfe.mono ?_; clear hfe; rintro _ w6 ⟨u6, σ6, ι6, rfl, hse6, hS6, hC6, hF6, hl6⟩; have hB6 := h5.blk.chg hC6 h5.out; have hs6 := hs5.chg hC6 (fun g hg hf => by { have h6 := HFR.out g hg; have h7 := hlt g (.inr (.inl hf)); omega }); have hcl := cloneb_walk (w := w6) (x := r) (v := .slice B2 (x.length - j) (k2 - j)) (by have h7 := hs6.dropB j hjn HBB.out; rw [HJ.out.2.2.2.2.1] at h7; exact h7) (by have h7 := HJ.out.2.2.1; omega); obtain ⟨u6A, u6n, u6c, rfl⟩ : ∃ a b c, u6 = .slice a b c := (by obtain ⟨a, b, c, e, -⟩ := hse6; exact ⟨a, b, c, e⟩))
    | (with_reducible show wpList _ _ _ (Oper.mk _ (.slice _ _ (some _) _ _) _ _ _ _ :: _) _ _; refine wpList_sliceFrom (J := j) rfl _ _ 23 rfl i0 Tryz.underlying23 hi0 (by assumption) rfl rfl hjn B2 HBB.out ?_)
    | (go_at_call 361; refine hcl.mono ?_; clear hcl; rintro _ w7 ⟨u7, rfl, hrow7, hb7⟩; obtain ⟨A7, c7, rfl, -⟩ := row_form hrow7; have hB7 := hB6.bel hb7 hB6.lt; have r1 := hB7.at' 1; have r2 := hB7.thaw 1; simp at r1)
    | fail)
  all_goals go_ret2
  all_goals
    have z5 := hb5w.size
    have z6 := hC6.size
    have z7 := hb7.size
    have hfrs : ∀ g, Value.leads (.slice A7 r.length c7) = some g → w6.heap.size ≤ g := fun g hg => (World.ownsRow.lt hrow7 g (leads_own hrow7 hg)).1
    have hst : ∀ (w8 : World) (u : Value), w8.setCell ⟨bb, 1, none⟩ u = w8.setCell ⟨bb, 1, none⟩ u := fun _ _ => rfl
    have hcs : Chg (fun i => i = bb) w7 (w7.setCell ⟨bb, 1, none⟩ (.slice A7 r.length c7)) := (Chg.refl (fun i => i = bb) w7).setCell (p := ⟨bb, 1, none⟩) (.inr (show bb = bb from rfl)) (.slice A7 r.length c7)
    have hl6' : ∀ g, Value.leads (.slice u6A u6n u6c) = some g → foot ι (shU m) g ∨ w.heap.size ≤ g := fun g hg => (hl6 g hg).imp id fun e => by omega
    refine ⟨.slice u6A u6n u6c, σ6, ι6, .slice A7 r.length c7, rfl, ?_, ⟨?_, ?_, ?_, ?_, ?_⟩, ?_, ?_, ?_⟩
    · refine (hse6.bel hb7).chg hcs fun g hg e => ?_
      subst e
      rcases hl6' _ hg with h1 | h1
      · exact hout h1
      · omega
    · simpa using hB7.put 1 (.slice A7 r.length c7)
    · refine (Sees.row hrow7).chg hcs fun g hg e => ?_
      have := hfrs g hg
      omega
    · have h6 := SU.chg (F := fun _ => False) hS6 (Chg.of_below hb7) fun _ _ h => h
      refine h6.chg hcs fun b hb e => ?_
      subst e
      rcases hF6 _ hb with h1 | h1
      · exact hout h1
      · omega
    · intro hf
      rcases hF6 _ hf with h1 | h1
      · exact hout h1
      · omega
    · intro g hg e
      have := hfrs g hg
      omega
    · have k5 : Chg (BFU bb m ι (.slice hA hn hc)) w w5 := Chg.of_below hb5w
      have k6c := (k5.trans hC6 fun i _ hi => .inr (.inl hi)).trans (Chg.of_below (F := fun _ => False) hb7) fun _ _ h => h.elim
      exact k6c.setCell (.inr (.inl rfl)) _
    · rintro b (rfl | hb | hb)
      · exact .inl (.inl rfl)
      · rcases hF6 b hb with h1 | h1
        · exact .inl (.inr (.inl h1))
        · exact .inr (by omega)
      · have := hfrs b hb
        exact .inr (by omega)
    · intro g hg
      rcases hl6' g hg with h1 | h1
      · exact .inl (.inr (.inl h1))
      · exact .inr h1
end
end Go.Proofs.YtahmcjdddcbhnaaGreatDoor
namespace Go.Proofs.YtahmcjdddcbhnaaGreatDoor
open Go Go.Ev Go.RowKit

def l14V : Array Value := #[.int .i64 97, .int .i64 98, .int .i64 99, .int .i64 97, .int .i64 90, .int .i64 48, .int .i64 95, .int .i64 10, .int .i64 32, .int .i64 98, .int .i64 228, .int .i64 255, .int .i64 0, .int .i64 128]
def l10V : Array Value := #[.int .i64 127, .int .i64 128, .int .i64 2047, .int .i64 2048, .int .i64 55295, .int .i64 57344, .int .i64 65535, .int .i64 65536, .int .i64 1114111, .int .i64 8364]
def l14N : List Nat := [97, 98, 99, 97, 90, 48, 95, 10, 32, 98, 228, 255, 0, 128]
def l10N : List Nat := [127, 128, 2047, 2048, 55295, 57344, 65535, 65536, 1114111, 8364]
theorem l14_at (k : Nat) (hk : k < 14) : ∃ c : Nat, Utf.Cp c ∧ l14V[k]? = some (.int .i64 (c : Int)) := by
  have h1 : ∀ c ∈ l14N, Utf.Cp c := by unfold Utf.Cp; decide
  have h2 : l14V.toList = natI l14N := by unfold l14V natI l14N; rfl
  have hl : k < l14N.length := hk
  refine ⟨l14N[k], h1 _ (List.getElem_mem hl), ?_⟩
  have : l14V.toList[k]? = some (.int .i64 ((l14N[k] : Nat) : Int)) := by rw [h2]; unfold natI; rw [List.getElem?_map, List.getElem?_eq_getElem hl]; rfl
  simpa using this
theorem l10_at (k : Nat) (hk : k < 10) : ∃ c : Nat, Utf.Cp c ∧ l10V[k]? = some (.int .i64 (c : Int)) := by
  have h1 : ∀ c ∈ l10N, Utf.Cp c := by unfold Utf.Cp; decide
  have h2 : l10V.toList = natI l10N := by unfold l10V natI l10N; rfl
  have hl : k < l10N.length := hk
  refine ⟨l10N[k], h1 _ (List.getElem_mem hl), ?_⟩
  have : l10V.toList[k]? = some (.int .i64 ((l10N[k] : Nat) : Int)) := by rw [h2]; unfold natI; rw [List.getElem?_map, List.getElem?_eq_getElem hl]; rfl
  simpa using this
theorem natI_snoc (S : List Nat) (c : Nat) : natI (S ++ [c]) = natI S ++ [.int .i64 (c : Int)] := by unfold natI; rw [List.map_append]; rfl
set_option maxHeartbeats 8000000 in
set_option maxRecDepth 1000000 in
theorem text_walk {w : World} {v : Value} {l : List Int} (h : Sees w 1 v (ints l)) (hl : l.length ≤ 9223372036854775807) (hz : ∀ z ∈ l, IntKind.i64.min ≤ z ∧ z ≤ IntKind.i64.max) :
    Calls Tryz.prog 6 #[v, .int .i64 20, .bool true] w fun e w' => ∃ u S, e = .returned u ∧ w'.ownsRow w.heap.size 3 1 u S.length (natI S) ∧ S.length ≤ 20 ∧ (∀ c ∈ S, Utf.Cp c) ∧ Below w.heap.size w w' := by
  obtain ⟨i0, hi0, hz0, hz1, hz2⟩ := info_parts' infoInt
  obtain ⟨A, n, cp, rfl, h1, h2, h3⟩ := h
  have hn : l.length = n := by rw [ints_len] at h1; omega
  have HN := Lib.hid (And.intro hn (And.intro h3 hz))
  have hnI : (n : Int) ≤ 9223372036854775807 := by omega
  clear h1 hn h3 hz hl
  go_enter Tryz.func6, Tryz.ntmps6
  go_wp2_with fail
  go_loopw [7, 8] (fun ov iv wr => ∃ (j : Nat) (S : List Nat), j ≤ 20 ∧ iv = .int .i64 j ∧ Hid (S.length = j) ∧ Hid (∀ c ∈ S, Utf.Cp c) ∧ Below w.heap.size w wr ∧ wr.ownsRow w.heap.size 3 1 ov j (natI S)) (fun _ iv _ => 20 - (intOf iv).toNat)
  case atStart => exact ⟨0, [], Nat.zero_le _, rfl, Lib.hid rfl, Lib.hid (fun c hc => by cases hc), Below.refl _ _, World.ownsRow_nil _ _ _ _⟩
  case round =>
    obtain ⟨j, S, hj, rfl, hSj, hcp, hbel, hrow⟩ := hrel
    obtain ⟨Ao, co, rfl, _⟩ := row_form hrow
    by_cases c1 : j < n
    case neg =>
      have c1' : ¬ (j : Int) < (n : Int) := by omega
      go_wp2_with fail
      go_ret
      exact ⟨_, rfl, S, by rw [hSj.out]; exact hrow, by rw [hSj.out]; exact hj, hcp.out, hbel⟩
    have c1' : (j : Int) < (n : Int) := by omega
    by_cases c2 : j < 20
    case neg =>
      have c2' : ¬ (j : Int) < 20 := by omega
      go_wp2_with fail
      go_ret
      exact ⟨_, rfl, S, by rw [hSj.out]; exact hrow, by rw [hSj.out]; exact hj, hcp.out, hbel⟩
    have c2' : (j : Int) < 20 := by omega
    obtain ⟨b0, off, rfl, hb0, hcc⟩ := HN.out.2.1 (by omega)
    have hjl : j < l.length := by rw [HN.out.1]; exact c1
    have d0 := (hbel.cell (p := ⟨b0, off + j, none⟩) hb0).trans (hcc j (.int .i64 l[j]) (by unfold ints; rw [List.getElem?_map, List.getElem?_eq_getElem hjl]; rfl))
    have ha := around_in (HN.out.2.2 l[j] (List.getElem_mem _)).1 (HN.out.2.2 l[j] (List.getElem_mem _)).2 wr
    obtain ⟨x, hx⟩ : ∃ x, l[j] = x := ⟨_, rfl⟩
    rw [hx] at d0 ha
    have hwz := hbel.size
    clear hcc hx
    go_wp2_with (first
      | (go_at_call 25; refine ha.mono ?_; clear ha; rintro _ w1 ⟨a, ha', rfl, rfl⟩
         obtain ⟨c, hcP, hcV⟩ := l14_at (a % 14).toNat (by omega)
         obtain ⟨d, hdP, hdV⟩ := l10_at (a / 56 % 10).toNat (by omega)
         obtain ⟨W1, hW1⟩ : ∃ x, w1.alloc (.cells l14V 3) = x := ⟨_, rfl⟩
         obtain ⟨W2, hW2⟩ : ∃ x, W1.alloc (.cells l10V 3) = x := ⟨_, rfl⟩
         have hB1 : Below w.heap.size w W1 := by rw [← hW1]; exact hbel.alloc hwz _
         have hB2 : Below w.heap.size w W2 := by rw [← hW2]; exact hB1.alloc hB1.size _
         have hc1 : W1.cell? ⟨w1.heap.size, (a % 14).toNat, none⟩ = some (.int .i64 (c : Int)) := by rw [← hW1]; exact ((Blk.made w1 _ _).at' _).trans hcV
         have hc2 : W2.cell? ⟨W1.heap.size, (a / 56 % 10).toNat, none⟩ = some (.int .i64 (d : Int)) := by rw [← hW2]; exact ((Blk.made W1 _ _).at' _).trans hdV
         have hrow1 : W1.ownsRow w.heap.size 3 1 (.slice Ao j co) j (natI S) := by rw [← hW1]; exact hrow.alloc _
         have hrow2 : W2.ownsRow w.heap.size 3 1 (.slice Ao j co) j (natI S) := by rw [← hW2]; exact hrow1.alloc _
         have hs1 := sees_one W1 3 #[.int .i64 (c : Int)] (size := 1) rfl
         have hs2 := sees_one W2 3 #[.int .i64 (d : Int)] (size := 1) rfl
         have hz1' := hB1.size
         have hz2' := hB2.size
         unfold l14V at hW1
         unfold l10V at hW2
         clear hcV hdV hrow d0)
      | (at_builtin; refine wpList_append_sees (base := w.heap.size) rfl _ _ 22 rfl i0 _ 8 Tryz.underlying22 hi0 hz0 hz1 hz2 rfl (by decide) (.slice Ao j co) j (natI S) rfl (hrow1.alloc _) _ 1 _ rfl hs1 rfl (by simp [Value.oneCell']) (by unfold maxLen; omega) (by omega) (by simp; omega) ?_; intro v3 w3 hrow3 hgrow3 hown3
         have hB3 : Below w.heap.size w w3 := grown_bel0 (hB1.alloc hB1.size _) (hrow1.alloc _) (by simp; omega) hgrow3
         have hR3 : w3.ownsRow w.heap.size 3 1 v3 (j + 1) (natI (S ++ [c])) := by rw [natI_snoc]; exact hrow3
         have hP3 : Hid (∀ e ∈ S ++ [c], Utf.Cp e) := Lib.hid (fun e he => by rcases List.mem_append.1 he with h | h; exact hcp.out e h; rw [List.mem_singleton.1 h]; exact hcP)
         have hL3 : Hid ((S ++ [c]).length = j + 1) := Lib.hid (by rw [List.length_append, hSj.out]; rfl))
      | (at_builtin; refine wpList_append_sees (base := w.heap.size) rfl _ _ 22 rfl i0 _ 8 Tryz.underlying22 hi0 hz0 hz1 hz2 rfl (by decide) (.slice Ao j co) j (natI S) rfl (hrow2.alloc _) _ 1 _ rfl hs2 rfl (by simp [Value.oneCell']) (by unfold maxLen; omega) (by omega) (by simp; omega) ?_; intro v3 w3 hrow3 hgrow3 hown3
         have hB3 : Below w.heap.size w w3 := grown_bel0 (hB2.alloc hB2.size _) (hrow2.alloc _) (by simp; omega) hgrow3
         have hR3 : w3.ownsRow w.heap.size 3 1 v3 (j + 1) (natI (S ++ [d])) := by rw [natI_snoc]; exact hrow3
         have hP3 : Hid (∀ e ∈ S ++ [d], Utf.Cp e) := Lib.hid (fun e he => by rcases List.mem_append.1 he with h | h; exact hcp.out e h; rw [List.mem_singleton.1 h]; exact hdP)
         have hL3 : Hid ((S ++ [d]).length = j + 1) := Lib.hid (by rw [List.length_append, hSj.out]; rfl))
      | fail)
    all_goals
      go_roundw
      case rel => exact ⟨j + 1, _, by omega, by go_num, hL3, hP3, hB3, hR3⟩
      case measure => simp [intOf]; omega
set_option maxHeartbeats 4000000 in
set_option maxRecDepth 1000000 in
theorem few_walk {w : World} {v : Value} {x : List UInt8} (h : Sees w 1 v (bv x)) (hl : x.length ≤ 9223372036854775807) :
    Calls Tryz.prog 7 #[v, .int .i64 4] w fun e w' => ∃ u, e = .returned u ∧ w'.ownsRow w.heap.size 5 1 u (x.take 4).length (bv (x.take 4)) ∧ Below w.heap.size w w' := by
  obtain ⟨i0, hi0, hz0, hz1, hz2⟩ := info_parts' infoU8
  obtain ⟨A, n, cp, rfl, h1, h2, h3⟩ := id h
  have hn : x.length = n := by rw [bv_len] at h1; omega
  obtain ⟨k, hk⟩ : ∃ k : Nat, (min (n : Int) 4) = (k : Int) := ⟨min n 4, by omega⟩
  have hkn : k ≤ n := by omega
  have htk : (x.take 4).length = k := by rw [List.length_take]; omega
  have hse : Sees w 1 (.slice A k cp) (bv (x.take 4)) := by
    have := h.takeB k hkn
    have e : x.take k = x.take 4 := by
      by_cases h4 : 4 ≤ n
      · have : k = 4 := by omega
        rw [this]
      · rw [List.take_of_length_le (by omega), List.take_of_length_le (by omega)]
    rwa [e] at this
  have HT := Lib.hid htk
  clear h h1 h3 hn
  go_enter Tryz.func7, Tryz.ntmps7
  go_wp2_with (first
    | (with_reducible show wpList _ _ _ (Oper.mk _ (.slice _ _ none _ _) _ _ _ _ :: _) _ _; refine wpList_sliceTo (J := k) rfl _ _ 23 rfl i0 Tryz.underlying23 hi0 (by assumption) rfl (by first | rfl | exact congrArg (Value.int .i64) hk) (by omega) ?_)
    | (at_builtin; refine wpList_append_sees (base := w.heap.size) rfl _ _ 23 rfl i0 _ 1 Tryz.underlying23 hi0 hz0 hz1 hz2 rfl (by decide) (.slice none 0 0) 0 [] rfl (World.ownsRow_nil _ _ _ _) (.slice A k cp) k _ rfl hse (by rw [bv_len, HT.out, Nat.mul_one]) (bv_one _) (by unfold maxLen; omega) (by omega) (Nat.le_refl _) ?_; intro v3 w3 hrow3 hgrow3 hown3; obtain ⟨A3, c3, rfl, -⟩ := row_form hrow3)
    | fail)
  go_ret
  rw [Nat.zero_add, List.nil_append] at hrow3
  exact ⟨_, rfl, by rw [HT.out]; exact hrow3, (Below.refl _ _).grown hgrow3 (Nat.le_refl _) fun k hk => by cases hk⟩
end Go.Proofs.YtahmcjdddcbhnaaGreatDoor
