/-
  Frames that leave open some blocks and what machines hold; slices.Clone and maps.Clone, walked.
  What a plan's runs give at one position: the contract.
  textError at a text of one to five symbols: none; out of evaluations.
  Where a plan's engines and runs lie.
  First at a text of one to five symbols, at a plan without a machine and without the oracle.
  The canary's See where sides may differ, walked: the cases are appended.
  The canary's See as a step of a plain state; Copy and Unlike, walked.
  The canary's Copy and Unlike, walked.
-/
import Derived.Test.YtopicmcaoeameaaGreatDoorApartG1a
import Derived.Test.YtopicmcaoeameaaGreatDoorApartG0b
import Derived.Laws.Externs
import Derived.MapKept
import Derived.Test.YtopicmcaoeameaaGreatDoorApartG0a
import Derived.Deep.AppendLies
import Derived.Deep.RegionLaw
namespace Go.Proofs.YtopicmcaoeameaaGreatDoor
open Go Go.Ev Go.RowKit Go.Smap

/-- what was there is as it was, but for the blocks X and what the machines M hold -/
structure BelX (M X : Nat → Prop) (w w' : World) : Prop where
  os : w'.os = w.os
  tape : w'.tape = w.tape
  output : w'.output = w.output
  size : w.heap.size ≤ w'.heap.size
  block : ∀ k, k < w.heap.size → ¬ X k → ¬ M k → w'.heap[k]? = w.heap[k]?
  mach : ∀ k, k < w.heap.size → M k → SameM (w.heap[k]?) (w'.heap[k]?)
theorem BelX.of {M X : Nat → Prop} {w w' : World} (h : Bel M w.heap.size w w') : BelX M X w w' := ⟨h.os, h.tape, h.output, h.size, fun k hk _ hm => h.block k hk hm, h.mach⟩
theorem BelX.trans {M X : Nat → Prop} {a b c : World} (h : BelX M X a b) (k : BelX M X b c) : BelX M X a c :=
  ⟨k.os.trans h.os, k.tape.trans h.tape, k.output.trans h.output, Nat.le_trans h.size k.size, fun i hi hx hm => (k.block i (Nat.lt_of_lt_of_le hi h.size) hx hm).trans (h.block i hi hx hm),
    fun i hi hm => (h.mach i hi hm).trans (k.mach i (Nat.lt_of_lt_of_le hi h.size) hm)⟩
theorem BelX.mono {M X X' : Nat → Prop} {w w' : World} (h : BelX M X w w') (hx : ∀ k, k < w.heap.size → X k → X' k) : BelX M X' w w' := ⟨h.os, h.tape, h.output, h.size, fun k hk h1 h2 => h.block k hk (fun e => h1 (hx k hk e)) h2, h.mach⟩
theorem BelX.bel {M X : Nat → Prop} {B : Nat} {w w' : World} (h : BelX M X w w') (hB : B ≤ w.heap.size) (hX : ∀ k, X k → B ≤ k) : Bel M B w w' :=
  ⟨h.os, h.tape, h.output, h.size, fun k hk hm => h.block k (by omega) (fun e => by have := hX k e; omega) hm, fun k hk hm => h.mach k (by omega) hm⟩
theorem Laid1.kept {M : Nat → Prop} {k lo hi b mb : Nat} {w w' : World} (h : Laid1 k lo hi w b mb) (hs : ∀ c, lo ≤ c → c < hi → ¬ M c → w'.heap[c]? = w.heap[c]?) (ht : ∀ c, lo ≤ c → c < hi → M c → SameM (w.heap[c]?) (w'.heap[c]?)) (hM : ∀ c, lo ≤ c → c < hi → M c → k = 3 ∧ c = mb) : Laid1 k lo hi w' b mb := by
  obtain ⟨ι, h1, h2, h3, h4⟩ := h
  refine ⟨ι, fun e he => ?_, h2, h3, fun hk => ?_⟩
  · obtain ⟨c, s, cs, el, fr, e1, e2, e3⟩ := h1 e he
    obtain ⟨l1, l2, l3⟩ := h3 e he c s e1
    by_cases hm : M c
    · obtain ⟨rfl, rfl⟩ := hM c l1 l2 hm
      have hn : e.1 = nMach := (l3.1 rfl).2
      have hcs : e.2 = mach0 := by
        rcases List.mem_cons.1 (show e ∈ (nMach, mach0) :: ro3 from he) with rfl | he'
        · rfl
        · have := (List.mem_filter.1 he').2
          rw [hn, (Pth.beq_iff nMach nMach).2 rfl] at this
          cases this
      rcases ht c l1 l2 hm with e4 | ⟨x, x', t, t', gr, gr', k1, k2, k3, k4, k5⟩
      · exact ⟨c, s, cs, el, fr, e1, e4.trans e2, e3⟩
      · rw [e2] at k1
        cases k1
        obtain ⟨e5, cs', el', fr', e7, e8, e9⟩ := h4 rfl
        rw [e2] at e7
        cases e7
        have hs0 : s = 0 := by rw [hn, e5] at e1; cases e1; rfl
        subst hs0
        refine ⟨c, 0, x', t', gr', e1, k2, ?_⟩
        rw [hcs] at e3 ⊢
        refine rels_swap (mach0.take 14) 5 _ _ e3 (by simp [k4]) fun i hi => ?_
        have hi' : i < 14 := by simpa [mach0] using hi
        have hm19 : mach0.length = 19 := rfl
        rw [List.drop_zero, List.drop_zero, List.getElem?_take, List.getElem?_take, hm19, if_pos (by omega), if_pos (by omega), Array.getElem?_toList, Array.getElem?_toList, k5 i hi']
    · exact ⟨c, s, cs, el, fr, e1, (hs c l1 l2 hm).trans e2, e3⟩
  · obtain ⟨e5, cs, el, fr, e7, e8, e9⟩ := h4 hk
    refine ⟨e5, ?_⟩
    subst hk
    obtain ⟨l1, l2, _⟩ := h3 (nMach, mach0) (List.mem_cons_self ..) mb 0 e5
    by_cases hm : M mb
    · rcases ht mb l1 l2 hm with e4 | ⟨x, x', t, t', gr, gr', k1, k2, k3, k4, k5⟩
      · exact ⟨cs, el, fr, e4.trans e7, e8, e9⟩
      · rw [e7] at k1
        cases k1
        exact ⟨x', t', gr', k2, k3, e9.trans k4.symm⟩
    · exact ⟨cs, el, fr, (hs mb l1 l2 hm).trans e7, e8, e9⟩
theorem SetAt.kept {M : Nat → Prop} {lo hi b : Nat} {w w' : World} {rs : List Rl} (h : SetAt M lo hi w b rs) (hs : ∀ c, lo ≤ c → c < hi → ¬ M c → w'.heap[c]? = w.heap[c]?) (ht : ∀ c, lo ≤ c → c < hi → M c → SameM (w.heap[c]?) (w'.heap[c]?)) : SetAt M lo hi w' b rs := by
  obtain ⟨v, hv, h1, h2, hm, h3⟩ := h.set
  refine ⟨v, (World.cell?_of_block (a := ⟨b, 0, none⟩) (hs b h1 h2 hm)).trans hv, h1, h2, hm, h3.imp id ?_⟩
  rintro ⟨ab, cap, rfl, a1, a2, am, hc⟩
  refine ⟨ab, cap, rfl, a1, a2, am, fun i r hr => ?_⟩
  obtain ⟨pb, k0, k1, k2, k3, lo', hi', mb, l1, l2, l3, l4⟩ := hc i r hr
  have hc' : ∀ o, w'.cell? ⟨ab, o, none⟩ = w.cell? ⟨ab, o, none⟩ := fun o => World.cell?_of_block (a := ⟨ab, o, none⟩) (hs ab a1 a2 am)
  exact ⟨pb, (hc' _).trans k0, (hc' _).trans k1, (hc' _).trans k2, (hc' _).trans k3, lo', hi', mb, l1, l2, l3.kept (fun c c1 c2 => hs c (by omega) (by omega)) (fun c c1 c2 => ht c (by omega) (by omega)) (fun c c1 c2 hc => (l4 c c1 c2).1 hc), l4⟩
theorem SetAt.belX {M X : Nat → Prop} {lo hi b : Nat} {w w' : World} {rs : List Rl} (h : SetAt M lo hi w b rs) (hb : BelX M X w w') (hhi : hi ≤ w.heap.size) (hX : ∀ k, lo ≤ k → k < hi → ¬ X k) : SetAt M lo hi w' b rs :=
  h.kept (fun c c1 c2 hm => hb.block c (by omega) (hX c c1 c2) hm) (fun c _ c2 hm => hb.mach c (by omega) hm)
theorem owns_belX {M X : Nat → Prop} {w w' : World} {base : Nat} {e : TypeId} {size : Nat} {v : Value} {n : Nat} {xs : List Value} (h : w.ownsRow base e size v n xs) (hb : BelX M X w w') (hX : ∀ g, v.ownBlock = some g → ¬ X g ∧ ¬ M g) : w'.ownsRow base e size v n xs := by
  refine ⟨h.1, h.2.imp id ?_⟩
  rintro ⟨g, cap, cur, rfl, g2, g3, g4⟩
  obtain ⟨a1, a2⟩ := hX g rfl
  exact ⟨g, cap, cur, rfl, g2, (hb.block g (Array.getElem?_eq_some_iff.1 g3).1 a1 a2).trans g3, g4⟩
/-- rows of elements of two types lie in two blocks -/
theorem rows_two {w : World} {b1 b2 : Nat} {e1 e2 : TypeId} {s1 s2 n m : Nat} {v u : Value} {xs ys : List Value} (h1 : w.ownsRow b1 e1 s1 v n xs) (h2 : w.ownsRow b2 e2 s2 u m ys) (he : e1 ≠ e2) {g : Nat} (hg : v.ownBlock = some g) : u.ownBlock ≠ some g := by
  intro hu
  rcases h1.2 with ⟨rfl, _⟩ | ⟨g1, c1, u1, rfl, _, h3, _⟩
  · cases hg
  · cases hg
    exact not_row h2 h3 he hu.symm
theorem info56 : (Tryz.prog.info? 56).map (fun i => (i.zero, i.size, i.bytes)) = some (some (.agg #[.int .i64 0, .string ByteArray.empty]), 2, 24) := by kernel_rfl
theorem nil51' (w : World) : (binOp BinOp.eql 51 (.slice none 0 0) (.slice none 0 0)).run Tryz.prog w = .ok (.bool true) w := by kernel_rfl
theorem nil58' (w : World) : (binOp BinOp.eql 58 (.slice none 0 0) (.slice none 0 0)).run Tryz.prog w = .ok (.bool true) w := by kernel_rfl
theorem ne51 (w : World) (g n c : Nat) : (binOp BinOp.eql 51 (.slice (some ⟨g, 0, none⟩) n c) (.slice none 0 0)).run Tryz.prog w = .ok (.bool false) w := by kernel_rfl
theorem ne58 (w : World) (g n c : Nat) : (binOp BinOp.eql 58 (.slice (some ⟨g, 0, none⟩) n c) (.slice none 0 0)).run Tryz.prog w = .ok (.bool false) w := by kernel_rfl
set_option maxHeartbeats 8000000 in
set_option maxRecDepth 1000000 in
/-- slices.Clone of cases -/
theorem clone_cases {w : World} {base : Nat} {v : Value} {n : Nat} {xs : List Value} (h : w.ownsRow base 56 2 v n xs) (hn : n ≤ 1000000) (h1 : ∀ x ∈ xs, x.oneCell' = true) (hl : xs.length = n * 2) :
    Calls Tryz.prog 31 #[v] w fun e w' => ∃ v', e = .returned v' ∧ w'.ownsRow w.heap.size 56 2 v' n xs ∧ Below w.heap.size w w' := by
  obtain ⟨i0, hi0, hz0, hz1, hz2⟩ := info_parts info56
  rcases h.2 with ⟨rfl, rfl⟩ | ⟨g, cap, cur, rfl, _, hg, _⟩
  · have heq := nil51'
    go_enter Tryz.func31, Tryz.ntmps31
    go_wp2
    go_ret
    have : xs = [] := List.length_eq_zero_iff.1 (by simpa using hl)
    subst this
    exact ⟨_, rfl, World.ownsRow_nil _ _ _ _, Below.refl _ _⟩
  · have heq := ne51 w g n cap
    have hA : Below w.heap.size w (w.alloc (.cells #[] 56)) := (Below.refl _ _).alloc (Nat.le_refl _) _
    have hown : (w.alloc (.cells #[] 56)).ownsRow w.heap.size 56 2 (.slice (some ⟨w.heap.size, 0, none⟩) 0 0) 0 [] := World.ownsRow_lit w #[] 0 (Nat.le_refl _) (by unfold maxLen; omega) rfl
    have hnews : ∀ j u, xs[j]? = some u → (w.alloc (.cells #[] 56)).cell? ((⟨g, 0, none⟩ : Addr).add j) = some u := fun j u hu => by
      have := h.cells rfl j u hu
      rw [← this]
      exact World.cell?_of_block (Below.heap_alloc _ _ _ (by rw [show (Addr.add ⟨g, 0, none⟩ j).block = g by unfold Addr.add; split <;> rfl]; exact (Array.getElem?_eq_some_iff.1 hg).1))
    clear h hg
    go_enter Tryz.func31, Tryz.ntmps31
    go_wp2_with (at_builtin; refine wpList_append_own _ rfl _ _ 51 rfl w.heap.size 56 i0 _ 2 24 Tryz.underlying51 hi0 hz0 hz1 hz2 rfl (by decide) _ 0 [] rfl hown ⟨g, 0, none⟩ n cap xs rfl (by omega) hnews h1 (by unfold maxLen; omega) (by omega) (by simp) ?_; intro v' w2 hown2 hgrow _)
    go_ret
    refine ⟨_, rfl, by simpa using hown2, hA.grown hgrow (by simp) fun k hk => ?_⟩
    have e : w.heap.size = k := Option.some.inj hk
    omega
set_option maxHeartbeats 8000000 in
set_option maxRecDepth 1000000 in
/-- slices.Clone of names -/
theorem clone_names {w : World} {base : Nat} {v : Value} {n : Nat} {xs : List Value} (h : w.ownsRow base 9 1 v n xs) (hn : n ≤ 1000000) (h1 : ∀ x ∈ xs, x.oneCell' = true) (hl : xs.length = n) :
    Calls Tryz.prog 32 #[v] w fun e w' => ∃ v', e = .returned v' ∧ w'.ownsRow w.heap.size 9 1 v' n xs ∧ Below w.heap.size w w' := by
  obtain ⟨i0, hi0, hz0, hz1, hz2⟩ := info_parts info9
  rcases h.2 with ⟨rfl, rfl⟩ | ⟨g, cap, cur, rfl, _, hg, _⟩
  · have heq := nil58'
    go_enter Tryz.func32, Tryz.ntmps32
    go_wp2
    go_ret
    have : xs = [] := List.length_eq_zero_iff.1 hl
    subst this
    exact ⟨_, rfl, World.ownsRow_nil _ _ _ _, Below.refl _ _⟩
  · have heq := ne58 w g n cap
    have hA : Below w.heap.size w (w.alloc (.cells #[] 9)) := (Below.refl _ _).alloc (Nat.le_refl _) _
    have hown : (w.alloc (.cells #[] 9)).ownsRow w.heap.size 9 1 (.slice (some ⟨w.heap.size, 0, none⟩) 0 0) 0 [] := World.ownsRow_lit w #[] 0 (Nat.le_refl _) (by unfold maxLen; omega) rfl
    have hnews : ∀ j u, xs[j]? = some u → (w.alloc (.cells #[] 9)).cell? ((⟨g, 0, none⟩ : Addr).add j) = some u := fun j u hu => by
      have := h.cells rfl j u hu
      rw [← this]
      exact World.cell?_of_block (Below.heap_alloc _ _ _ (by rw [show (Addr.add ⟨g, 0, none⟩ j).block = g by unfold Addr.add; split <;> rfl]; exact (Array.getElem?_eq_some_iff.1 hg).1))
    clear h hg
    go_enter Tryz.func32, Tryz.ntmps32
    go_wp2_with (at_builtin; refine wpList_append_own _ rfl _ _ 58 rfl w.heap.size 9 i0 _ 1 16 Tryz.underlying58 hi0 hz0 hz1 hz2 rfl (by decide) _ 0 [] rfl hown ⟨g, 0, none⟩ n cap xs rfl (by omega) hnews h1 (by unfold maxLen; omega) (by omega) (by simp) ?_; intro v' w2 hown2 hgrow _)
    go_ret
    refine ⟨_, rfl, by simpa using hown2, hA.grown hgrow (by simp) fun k hk => ?_⟩
    have e : w.heap.size = k := Option.some.inj hk
    omega
theorem eql_map_nil (w : World) (b : Nat) : (binOp BinOp.eql 59 (.map (some b)) (.map none)).run Tryz.prog w = .ok (.bool false) w := by kernel_rfl
theorem run_maps_clone {r : Nat} {es : Array MapEntry} {clock : Nat} (t : TypeId) {w : World} (hb : w.heap[r]? = some (.map es clock)) :
    (Extern.MapsClone.clone #[.iface t (.map (some r))]).run Tryz.prog w = .ok (.iface t (.map (some w.heap.size))) (w.alloc (.map es clock)) := by
  have e : Extern.MapsClone.clone #[.iface t (.map (some r))] = (getObj r >>= fun o => match o with
      | .map entries clock => (newObj (.map entries clock) >>= fun n => pure (.iface t (.map (some n))))
      | _ => stuck "maps.clone: a map expected") := rfl
  rw [e]
  simp [MapKept.run_getObj_map hb, Result.andThen, go_sem]
theorem run_assert_map (t xT k e : TypeId) (v : Value) (w : World) (h : Tryz.prog.underlying t = some (.map k e)) : (Instr.typeAssert (.iface t v) xT t false).run Tryz.prog w = .ok v w := by
  simp [Instr.typeAssert, run_underlying h, go_sem, Result.andThen]
set_option maxHeartbeats 8000000 in
set_option maxRecDepth 1000000 in
/-- maps.Clone -/
theorem clone_map {w : World} {b : Nat} {es : Array MapEntry} {clock : Nat} (hb : w.heap[b]? = some (.map es clock)) :
    Calls Tryz.prog 33 #[.map (some b)] w fun e w' => e = .returned (.map (some w.heap.size)) ∧ w' = w.alloc (.map es clock) := by
  have heq := eql_map_nil w b
  go_enter Tryz.func33, Tryz.ntmps33
  go_wp2
  rw [run_callFunc_extern Tryz.func49 (by kernel_rfl) (by kernel_rfl) (by kernel_rfl) (e := Extern.MapsClone.clone) (by kernel_rfl), run_maps_clone 59 hb]
  simp only [Result.andThen]
  rw [Oper.upon_value]
  go_wp2
  rw [run_assert_map 59 20 _ _ _ _ Tryz.underlying59]
  simp only [Result.andThen]
  rw [Oper.upon_value]
  go_wp2
  go_ret
  exact ⟨rfl, rfl⟩
end Go.Proofs.YtopicmcaoeameaaGreatDoor
namespace Go.Proofs.YtopicmcaoeameaaGreatDoor
open Go Go.Ev Go.RowKit

theorem evalP_inv {k n at' : Nat} {pre : List Nat} {R : Int × Bool} (h : evalP k n at' pre = some R) : ∃ s v H m, (calOf (gloP k n at' pre)).fn 48 [.sl nR 0 (runsOf k).length (runsOf k).length 1, .sl nT 0 n n 1, .int .i64 at', .int .i64 2000] .nil n1 = .ok (.tup [.agg [.int .i64 s, .int .i64 R.1, v], .bool R.2, .int .i64 0]) H m ∧
    freeH H (nT :: nR :: (plan k).map (·.1)) = true ∧ isSl v = true ∧ (R.2 = true → s = at') := by
  unfold evalP at h
  split at h
  · rename_i s e v ok err H m h0
    split at h
    · rename_i hf hv he
      have he0 : err = 0 := by
        rw [ieq_eq] at he
        simpa using he
      subst he0
      split at h
      · split at h
        · rename_i hs
          cases h
          exact ⟨s, v, H, m, h0, hf, hv, fun _ => by rw [ieq_eq] at hs; simpa using hs⟩
        · cases h
      · cases h
        exact ⟨s, v, H, m, h0, hf, hv, fun h => by cases h⟩
    · cases h
  · cases h
theorem cells_rel {k at' : Nat} {pre : List Nat} {t : List Int} (hb : ∀ x ∈ t, 0 ≤ x ∧ x ≤ 255) (hp : InP k t at' pre) (ι : Emb) (hσ : ∀ i x, t[i]? = some x → ι.sym i = x) :
    ∀ (d i : Nat), i + d = t.length → V.rels ι (cellsP k at' pre d i) ((t.drop i).map (Value.int .i64))
  | 0, i, h => by
    rw [List.drop_eq_nil_of_le (by omega)]
    exact rels_nil
  | d + 1, i, h => by
    have hi : i < t.length := by omega
    rw [List.drop_eq_getElem_cons hi, List.map_cons]
    have hx := hσ i t[i] (List.getElem?_eq_getElem hi)
    have hbx := hb t[i] (List.getElem_mem hi)
    have hany : V.rel ι (.sym i .i64 0 255) (.int .i64 t[i]) := by
      simp only [V.rel, hx]
      exact ⟨trivial, hbx.1, hbx.2⟩
    refine rels_cons ?_ (cells_rel hb hp ι hσ d (i + 1) (by omega))
    cases hlt : Nat.blt i at' with
    | true => exact hany
    | false =>
      have hge : at' ≤ i := by
        have : ¬ i < at' := fun e => by rw [show Nat.blt i at' = true from by rw [Nat.blt_eq]; exact e] at hlt; cases hlt
        omega
      show V.rel ι (match pre[i - at']? with | some c => cellV i (clsAt k c) | none => .sym i .i64 0 255) _
      cases hpre : pre[i - at']? with
      | none => exact hany
      | some c =>
        obtain ⟨x, h1, h2, h3⟩ := hp _ _ hpre
        rw [Nat.add_sub_cancel' hge, List.getElem?_eq_getElem hi] at h1
        cases h1
        show V.rel ι (cellV i (clsAt k c)) _
        unfold cellV
        cases he : ieq (clsAt k c).1 (clsAt k c).2 with
        | true =>
          rw [ieq_eq] at he
          have he' : (clsAt k c).1 = (clsAt k c).2 := by simpa using he
          show _ = _
          congr 1
          omega
        | false =>
          simp only [V.rel, hx]
          exact ⟨trivial, h2, h3⟩
/-- the runs' values, where the plan lies -/
def RunsAt (k lo hi : Nat) (w : World) (b : Nat) (xs : List Value) : Prop :=
  ∃ ι : Emb, RoIs ι (plan k) w ∧ ι (root k) = some (b, 0) ∧ (∀ e ∈ plan k, ∀ c s, ι e.1 = some (c, s) → lo ≤ c ∧ c < hi) ∧ V.rels ι (runsOf k) xs
/-- the runs at one position of a text, where nothing but the plan, the runs and the text is read -/
theorem pos_ro {k n at' : Nat} (hk : k < 12) (hk3 : k ≠ 3) {pre : List Nat} {R : Int × Bool} (h : evalP k n at' pre = some R) {t : List Int} (hn : t.length = n) (hb : ∀ x ∈ t, 0 ≤ x ∧ x ≤ 255) (hp : InP k t at' pre)
    {lo hi b : Nat} {w : World} {xs : List Value} (hr : RunsAt k lo hi w b xs) {tb tc base base2 : Nat} (htb : tb < lo ∨ hi ≤ tb) (htx : w.ownsRow base 3 1 (.slice (some ⟨tb, 0, none⟩) n tc) n (t.map (Value.int .i64)))
    {g gc : Nat} (hg : g < lo ∨ hi ≤ g) (hgr : w.ownsRow base2 123 1 (.slice (some ⟨g, 0, none⟩) (runsOf k).length gc) (runsOf k).length xs) :
    Calls Tryz.prog 48 #[.slice (some ⟨g, 0, none⟩) (runsOf k).length gc, .slice (some ⟨tb, 0, none⟩) n tc, .int .i64 (at' : Int), .int .i64 2000] w fun e w1 => ∃ s e' ca cm cc, e = .returned (.tuple #[.agg #[.int .i64 s, .int .i64 e', .slice ca cm cc], .bool R.2, .int .i64 0]) ∧
      (R.2 = true → s = at' ∧ e' = R.1) ∧ Below w.heap.size w w1 := by
  obtain ⟨s, v, H, m, h0, hfree, hv, hs⟩ := evalP_inv h
  obtain ⟨ι, hro, hroot, hin, hxs⟩ := hr
  obtain ⟨⟨f1, f2⟩, f3, f4⟩ := pos_facts k hk hk3
  have hTR : nT ≠ nR := by decide +kernel
  have gtb : g ≠ tb := fun e => by
    subst e
    rcases htx.2 with ⟨e, _⟩ | ⟨g1, c1, u1, e, _, q1, _⟩
    · cases e
    · cases e
      rcases hgr.2 with ⟨e, _⟩ | ⟨g2, c2, u2, e, _, q2, _⟩
      · cases e
      · cases e
        rw [q1] at q2
        cases q2
  let ι' : Emb := ⟨fun p => if nT = p then some (tb, 0) else if nR = p then some (g, 0) else if nameOf (plan k) p = true then ι p else none, fun x => if x = tb then tc else if x = g then gc else ι.size x, fun i => (t[i]?).getD 0⟩
  have eT : ι' nT = some (tb, 0) := by show (if nT = nT then some (tb, 0) else if nR = nT then some (g, 0) else if nameOf (plan k) nT = true then ι nT else none) = _; rw [if_pos rfl]
  have eR : ι' nR = some (g, 0) := by show (if nT = nR then some (tb, 0) else if nR = nR then some (g, 0) else if nameOf (plan k) nR = true then ι nR else none) = _; rw [if_neg hTR, if_pos rfl]
  have eN : ∀ p, nameOf (plan k) p = true → ι' p = ι p := fun p hp => by
    have hne : nT ≠ p := fun e => by rw [e, hp] at f3; cases f3
    have hne2 : nR ≠ p := fun e => by rw [e, hp] at f4; cases f4
    show (if nT = p then some (tb, 0) else if nR = p then some (g, 0) else if nameOf (plan k) p = true then ι p else none) = _
    rw [if_neg hne, if_neg hne2, if_pos hp]
  have hmem : ∀ p, nameOf (plan k) p = true → ∀ c s, ι p = some (c, s) → c ≠ tb ∧ c ≠ g := fun p hp c s hc => by
    obtain ⟨x, hx, rfl⟩ := nameOf_iff.1 hp
    obtain ⟨l1, l2⟩ := hin x hx c s hc
    constructor
    · intro e; rw [e] at l1 l2; omega
    · intro e; rw [e] at l1 l2; omega
  have hmove : ∀ p b s, nameOf (plan k) p = true → ι p = some (b, s) → ι' p = some (b, s) ∧ ι'.size b = ι.size b := fun p x s hp hx =>
    ⟨(eN p hp).trans hx, by
      obtain ⟨m1, m2⟩ := hmem p hp x s hx
      show (if x = tb then tc else if x = g then gc else ι.size x) = _
      rw [if_neg m1, if_neg m2]⟩
  have htlt : tb < w.heap.size := (World.ownsRow.lt htx tb rfl).2
  have hglt : g < w.heap.size := (World.ownsRow.lt hgr g rfl).2
  have hlt : ∀ p b s, ι' p = some (b, s) → b < w.heap.size := fun p x s hx => by
    by_cases e : nT = p
    · subst e; rw [eT] at hx; cases hx; exact htlt
    · by_cases e2 : nR = p
      · subst e2; rw [eR] at hx; cases hx; exact hglt
      · by_cases hp : nameOf (plan k) p = true
        · rw [eN p hp] at hx
          obtain ⟨y, hy, rfl⟩ := nameOf_iff.1 hp
          obtain ⟨b', s', c', el', fr', q1, q2, _⟩ := hro y hy
          rw [hx] at q1
          cases q1
          exact (Array.getElem?_eq_some_iff.1 q2).1
        · have : ι' p = none := by show (if nT = p then some (tb, 0) else if nR = p then some (g, 0) else if nameOf (plan k) p = true then ι p else none) = _; rw [if_neg e, if_neg e2, if_neg hp]
          rw [this] at hx; cases hx
  have hlen : ∀ d i, (cellsP k at' pre d i).length = d := fun d => by
    induction d with
    | zero => intro i; rfl
    | succ d ih => intro i; show (cellsP k at' pre d (i + 1)).length + 1 = _; rw [ih]
  have st : ι'.size tb = tc := by show (if tb = tb then tc else if tb = g then gc else ι.size tb) = _; rw [if_pos rfl]
  have sg : ι'.size g = gc := by show (if g = tb then tc else if g = g then gc else ι.size g) = _; rw [if_neg gtb, if_pos rfl]
  refine (callRo (calOf_ok (gloP k n at' pre)) h0 hfree rfl (fun e he => by simp [gloP] at he) rfl (ι := ι') (fun e he => ?_) (fun p hp => ?_) hlt _ ?_).mono ?_
  · rcases List.mem_append.1 (show e ∈ plan k ++ [(nR, runsOf k), (nT, cellsP k at' pre n 0)] from he) with he | he
    · obtain ⟨b', s', c', el', fr', q1, q2, q3⟩ := hro e he
      have hn' : nameOf (plan k) e.1 = true := nameOf_iff.2 ⟨e, he, rfl⟩
      exact ⟨b', s', c', el', fr', (eN _ hn').trans q1, q2, V.rels.move hmove _ _ (closedRo_ok f2 e he) q3⟩
    · simp only [List.mem_cons, List.not_mem_nil, or_false] at he
      rcases he with rfl | rfl
      · rcases hgr.2 with ⟨e, _⟩ | ⟨g1, c1, u1, e, _, q1, q2, q3, q4, q5⟩
        · cases e
        · cases e
          refine ⟨g, 0, u1, 123, (0, 0), eR, q1, ?_⟩
          rw [List.drop_zero]
          rw [Nat.mul_one] at q5
          rw [q5]
          exact V.rels.move hmove _ _ f1 hxs
      · rcases htx.2 with ⟨e, _⟩ | ⟨g1, c1, u1, e, _, q1, q2, q3, q4, q5⟩
        · cases e
        · cases e
          refine ⟨tb, 0, u1, 3, (0, 0), eT, q1, ?_⟩
          rw [List.drop_zero, hlen]
          rw [Nat.mul_one] at q5
          rw [q5]
          have := cells_rel hb hp ι' (fun i x hi => by show (t[i]?).getD 0 = x; rw [hi]; rfl) n 0 (by omega)
          rw [List.drop_zero] at this
          exact this
  · by_cases e : nT = p
    · subst e; simp
    · by_cases e2 : nR = p
      · subst e2; simp
      · by_cases hn' : nameOf (plan k) p = true
        · obtain ⟨y, hy, rfl⟩ := nameOf_iff.1 hn'
          exact List.mem_cons_of_mem _ (List.mem_cons_of_mem _ (List.mem_map.2 ⟨y, hy, rfl⟩))
        · exact absurd (by show (if nT = p then some (tb, 0) else if nR = p then some (g, 0) else if nameOf (plan k) p = true then ι p else none) = _; rw [if_neg e, if_neg e2, if_neg hn']) hp
  · refine rels_cons ⟨g, 0, gc, eR, rfl, ?_, (fun h => absurd h (by decide)), (fun _ => by rw [sg]; omega)⟩ (rels_cons ⟨tb, 0, tc, eT, rfl, ?_, (fun h => absurd h (by decide)), (fun _ => by rw [st]; omega)⟩ (rels_cons rfl (rels_one rfl)))
    · rcases hgr.2 with ⟨e, _⟩ | ⟨g1, c1, u1, e, _, q1, q2, _⟩
      · cases e
      · cases e; exact q2
    · rcases htx.2 with ⟨e, _⟩ | ⟨g1, c1, u1, e, _, q1, q2, _⟩
      · cases e
      · cases e; exact q2
  · rintro e w1 ⟨y, ι2, rfl, hy, hbel⟩
    obtain ⟨ca, cm, cc, rfl⟩ := out_rel hv hy
    exact ⟨s, R.1, ca, cm, cc, rfl, fun hR => ⟨hs hR, rfl⟩, hbel⟩
end Go.Proofs.YtopicmcaoeameaaGreatDoor
namespace Go.Proofs.YtopicmcaoeameaaGreatDoor
open Go Go.Ev Go.RowKit

noncomputable def gloTE (n : Nat) : Glo := ⟨fun _ => [], [], [], [(nT, cellsP 0 n [] n 0)]⟩
noncomputable def chkTE (n f : Nat) : Bool := match (calOf (gloTE n)).fn 45 [.bool false, .sl nT 0 n n 1, .int .i64 f, .int .i64 2000] .nil n1 with
  | .ok (.int .i64 (.ofNat 0)) H _ => freeH H [nT]
  | _ => false
set_option maxRecDepth 1000000 in
theorem textE_all : ([1, 2, 3, 4, 5].all fun n => (List.range (n + 1)).all fun f => chkTE n f) = true := by decide +kernel
theorem textE_walk {n f : Nat} (h1 : 1 ≤ n) (h5 : n ≤ 5) (hf : f ≤ n) {t : List Int} (hn : t.length = n) (hb : ∀ x ∈ t, 0 ≤ x ∧ x ≤ 255) {w : World} {tb tc base : Nat} (htx : w.ownsRow base 3 1 (.slice (some ⟨tb, 0, none⟩) n tc) n (t.map (Value.int .i64))) :
    Calls Tryz.prog 45 #[.bool false, .slice (some ⟨tb, 0, none⟩) n tc, .int .i64 (f : Int), .int .i64 2000] w fun e w1 => e = .returned (.int .i64 0) ∧ Below w.heap.size w w1 := by
  have hc : chkTE n f = true := by
    have hm : n ∈ [1, 2, 3, 4, 5] := by
      match n, h1, h5 with
      | 1, _, _ => simp
      | 2, _, _ => simp
      | 3, _, _ => simp
      | 4, _, _ => simp
      | 5, _, _ => simp
      | k + 6, _, h => exact absurd h (by omega)
    have := List.all_eq_true.1 textE_all n hm
    exact List.all_eq_true.1 this f (List.mem_range.2 (by omega))
  unfold chkTE at hc
  split at hc
  · rename_i H m h0
    let ι' : Emb := ⟨fun p => if nT = p then some (tb, 0) else none, fun x => if x = tb then tc else 0, fun i => (t[i]?).getD 0⟩
    have eT : ι' nT = some (tb, 0) := by show (if nT = nT then some (tb, 0) else none) = _; rw [if_pos rfl]
    have st : ι'.size tb = tc := by show (if tb = tb then tc else 0) = _; rw [if_pos rfl]
    have htlt : tb < w.heap.size := (World.ownsRow.lt htx tb rfl).2
    have hlen : ∀ d i, (cellsP 0 n [] d i).length = d := fun d => by
      induction d with
      | zero => intro i; rfl
      | succ d ih => intro i; show (cellsP 0 n [] d (i + 1)).length + 1 = _; rw [ih]
    refine (callRo (calOf_ok (gloTE n)) h0 hc rfl (fun e he => by simp [gloTE] at he) rfl (ι := ι') (fun e he => ?_) (fun p hp => ?_) (fun p b s hp => ?_) _ ?_).mono ?_
    · simp only [gloTE, List.mem_singleton] at he
      subst he
      rcases htx.2 with ⟨e, _⟩ | ⟨g1, c1, u1, e, _, q1, q2, q3, q4, q5⟩
      · cases e
      · cases e
        refine ⟨tb, 0, u1, 3, (0, 0), eT, q1, ?_⟩
        rw [List.drop_zero, hlen]
        rw [Nat.mul_one] at q5
        rw [q5]
        have := cells_rel (k := 0) (at' := n) (pre := []) hb (fun i c hi => by simp at hi) ι' (fun i x hi => by show (t[i]?).getD 0 = x; rw [hi]; rfl) n 0 (by omega)
        rw [List.drop_zero] at this
        exact this
    · by_cases e : nT = p
      · subst e; simp
      · exact absurd (by show (if nT = p then some (tb, 0) else none) = _; rw [if_neg e]) hp
    · by_cases e : nT = p
      · subst e; rw [eT] at hp; cases hp; exact htlt
      · have : ι' p = none := by show (if nT = p then some (tb, 0) else none) = _; rw [if_neg e]
        rw [this] at hp; cases hp
    · refine rels_cons rfl (rels_cons ⟨tb, 0, tc, eT, rfl, ?_, (fun h => absurd h (by decide)), (fun _ => by rw [st]; omega)⟩ (rels_cons rfl (rels_one rfl)))
      rcases htx.2 with ⟨e, _⟩ | ⟨g1, c1, u1, e, _, q1, q2, _⟩
      · cases e
      · cases e; exact q2
    · rintro e w1 ⟨y, ι2, rfl, hy, hbel⟩
      exact ⟨congrArg Ending.returned (show y = .int .i64 0 from hy), hbel⟩
  · cases hc
end Go.Proofs.YtopicmcaoeameaaGreatDoor
namespace Go.Proofs.YtopicmcaoeameaaGreatDoor
open Go Go.Ev Go.RowKit

/-- the engines' name -/
def engN (k : Nat) : Pth := match k with
  | 0 => nm 227
  | 1 => nm 227
  | 2 => nm 347
  | 3 => nm 301
  | 4 => nm 272
  | 5 => nm 317
  | 6 => nm 304
  | 7 => nm 411
  | 8 => nm 308
  | 9 => nm 178
  | 10 => nm 251
  | _ => nm 308
/-- the parts' name -/
def partN (k : Nat) : Pth := match k with
  | 0 => nm 229
  | 1 => nm 229
  | 2 => nm 349
  | 3 => nm 303
  | 4 => nm 274
  | 5 => nm 319
  | 6 => nm 306
  | 7 => nm 413
  | 8 => nm 310
  | 9 => nm 180
  | 10 => nm 253
  | _ => nm 310
/-- the runs' name, as New leaves them -/
def runN (k : Nat) : Pth := match k with
  | 0 => nm 231
  | 1 => nm 231
  | 2 => nm 351
  | 3 => nm 305
  | 4 => nm 276
  | 5 => nm 321
  | 6 => nm 308
  | 7 => nm 415
  | 8 => nm 312
  | 9 => nm 182
  | 10 => nm 255
  | _ => nm 312
/-- the engines -/
def engs (k : Nat) : List Int := match k with
  | 0 => [3]
  | 1 => [3]
  | 2 => [3]
  | 3 => [0]
  | 4 => [3]
  | 5 => [2]
  | 6 => [5]
  | 7 => [3, 3]
  | 8 => [3]
  | 9 => [3]
  | 10 => [3]
  | _ => [3]
/-- the root's cells -/
def rootC (k : Nat) : List V := [.bool false, .sl (engN k) 0 (engs k).length (engs k).length 1, .sl (partN k) 0 (engs k).length (engs k).length 10, .sl (runN k) 0 (engs k).length (engs k).length 1]
theorem root_mem0 : (root 0, rootC 0) ∈ plan 0 ∧ (engN 0, (engs 0).map (V.int .i64)) ∈ plan 0 ∧ (runN 0, runsOf 0) ∈ plan 0 := by
  show (nm root0, rootC 0) ∈ plan0 ∧ (engN 0, (engs 0).map (V.int .i64)) ∈ plan0 ∧ (runN 0, runsOf 0) ∈ plan0
  unfold plan0 rootC engN partN runN engs runsOf root0
  simp
theorem root_mem1 : (root 1, rootC 1) ∈ plan 1 ∧ (engN 1, (engs 1).map (V.int .i64)) ∈ plan 1 ∧ (runN 1, runsOf 1) ∈ plan 1 := by
  show (nm root1, rootC 1) ∈ plan1 ∧ (engN 1, (engs 1).map (V.int .i64)) ∈ plan1 ∧ (runN 1, runsOf 1) ∈ plan1
  unfold plan1 rootC engN partN runN engs runsOf root1
  simp
theorem root_mem2 : (root 2, rootC 2) ∈ plan 2 ∧ (engN 2, (engs 2).map (V.int .i64)) ∈ plan 2 ∧ (runN 2, runsOf 2) ∈ plan 2 := by
  show (nm root2, rootC 2) ∈ plan2 ∧ (engN 2, (engs 2).map (V.int .i64)) ∈ plan2 ∧ (runN 2, runsOf 2) ∈ plan2
  unfold plan2 rootC engN partN runN engs runsOf root2
  simp
theorem root_mem3 : (root 3, rootC 3) ∈ plan 3 ∧ (engN 3, (engs 3).map (V.int .i64)) ∈ plan 3 ∧ (runN 3, runsOf 3) ∈ plan 3 := by
  show (nm root3, rootC 3) ∈ plan3 ∧ (engN 3, (engs 3).map (V.int .i64)) ∈ plan3 ∧ (runN 3, runsOf 3) ∈ plan3
  unfold plan3 rootC engN partN runN engs runsOf root3
  simp
theorem root_mem4 : (root 4, rootC 4) ∈ plan 4 ∧ (engN 4, (engs 4).map (V.int .i64)) ∈ plan 4 ∧ (runN 4, runsOf 4) ∈ plan 4 := by
  show (nm root4, rootC 4) ∈ plan4 ∧ (engN 4, (engs 4).map (V.int .i64)) ∈ plan4 ∧ (runN 4, runsOf 4) ∈ plan4
  unfold plan4 rootC engN partN runN engs runsOf root4
  simp
theorem root_mem5 : (root 5, rootC 5) ∈ plan 5 ∧ (engN 5, (engs 5).map (V.int .i64)) ∈ plan 5 ∧ (runN 5, runsOf 5) ∈ plan 5 := by
  show (nm root5, rootC 5) ∈ plan5 ∧ (engN 5, (engs 5).map (V.int .i64)) ∈ plan5 ∧ (runN 5, runsOf 5) ∈ plan5
  unfold plan5 rootC engN partN runN engs runsOf root5
  simp
theorem root_mem6 : (root 6, rootC 6) ∈ plan 6 ∧ (engN 6, (engs 6).map (V.int .i64)) ∈ plan 6 ∧ (runN 6, runsOf 6) ∈ plan 6 := by
  show (nm root6, rootC 6) ∈ plan6 ∧ (engN 6, (engs 6).map (V.int .i64)) ∈ plan6 ∧ (runN 6, runsOf 6) ∈ plan6
  unfold plan6 rootC engN partN runN engs runsOf root6
  simp
theorem root_mem7 : (root 7, rootC 7) ∈ plan 7 ∧ (engN 7, (engs 7).map (V.int .i64)) ∈ plan 7 ∧ (runN 7, runsOf 7) ∈ plan 7 := by
  show (nm root7, rootC 7) ∈ plan7 ∧ (engN 7, (engs 7).map (V.int .i64)) ∈ plan7 ∧ (runN 7, runsOf 7) ∈ plan7
  unfold plan7 rootC engN partN runN engs runsOf root7
  simp
theorem root_mem8 : (root 8, rootC 8) ∈ plan 8 ∧ (engN 8, (engs 8).map (V.int .i64)) ∈ plan 8 ∧ (runN 8, runsOf 8) ∈ plan 8 := by
  show (nm root8, rootC 8) ∈ plan8 ∧ (engN 8, (engs 8).map (V.int .i64)) ∈ plan8 ∧ (runN 8, runsOf 8) ∈ plan8
  unfold plan8 rootC engN partN runN engs runsOf root8
  simp
theorem root_mem9 : (root 9, rootC 9) ∈ plan 9 ∧ (engN 9, (engs 9).map (V.int .i64)) ∈ plan 9 ∧ (runN 9, runsOf 9) ∈ plan 9 := by
  show (nm root9, rootC 9) ∈ plan9 ∧ (engN 9, (engs 9).map (V.int .i64)) ∈ plan9 ∧ (runN 9, runsOf 9) ∈ plan9
  unfold plan9 rootC engN partN runN engs runsOf root9
  simp
theorem root_mem10 : (root 10, rootC 10) ∈ plan 10 ∧ (engN 10, (engs 10).map (V.int .i64)) ∈ plan 10 ∧ (runN 10, runsOf 10) ∈ plan 10 := by
  show (nm root10, rootC 10) ∈ plan10 ∧ (engN 10, (engs 10).map (V.int .i64)) ∈ plan10 ∧ (runN 10, runsOf 10) ∈ plan10
  unfold plan10 rootC engN partN runN engs runsOf root10
  simp
theorem root_mem11 : (root 11, rootC 11) ∈ plan 11 ∧ (engN 11, (engs 11).map (V.int .i64)) ∈ plan 11 ∧ (runN 11, runsOf 11) ∈ plan 11 := by
  show (nm root11, rootC 11) ∈ plan11 ∧ (engN 11, (engs 11).map (V.int .i64)) ∈ plan11 ∧ (runN 11, runsOf 11) ∈ plan11
  unfold plan11 rootC engN partN runN engs runsOf root11
  simp
theorem root_mem : ∀ k < 12, (root k, rootC k) ∈ plan k ∧ (engN k, (engs k).map (V.int .i64)) ∈ plan k ∧ (runN k, runsOf k) ∈ plan k
  | 0, _ => root_mem0
  | 1, _ => root_mem1
  | 2, _ => root_mem2
  | 3, _ => root_mem3
  | 4, _ => root_mem4
  | 5, _ => root_mem5
  | 6, _ => root_mem6
  | 7, _ => root_mem7
  | 8, _ => root_mem8
  | 9, _ => root_mem9
  | 10, _ => root_mem10
  | 11, _ => root_mem11
  | n + 12, h => absurd h (by omega)
theorem runs_len : ∀ k < 12, (runsOf k).length = (engs k).length ∧ 0 < (engs k).length ∧ (engs k).length ≤ 2 ∧ (k ≠ 6 → ∀ e ∈ engs k, e ≠ 5) := by decide
end Go.Proofs.YtopicmcaoeameaaGreatDoor
namespace Go.Proofs.YtopicmcaoeameaaGreatDoor
open Go Go.Ev Go.RowKit

theorem rels_nth {ι : Emb} : ∀ (l : List V) (xs : List Value) (i : Nat) (v : V), V.rels ι l xs → l[i]? = some v → ∃ x, xs[i]? = some x ∧ V.rel ι v x
  | [], _, _, _, _, h => by simp at h
  | a :: l, xs, i, v, h, hi => by
    obtain ⟨x, t, rfl, hx, ht⟩ := rels_cons_inv h
    cases i with
    | zero => simp at hi; subst hi; exact ⟨x, rfl, hx⟩
    | succ i => exact rels_nth l t i v ht (by simpa using hi)
theorem ro_cell {ι : Emb} {l : List (Pth × List V)} {w : World} (h : RoIs ι l w) {p : Pth} {cs : List V} (hm : (p, cs) ∈ l) : ∃ b s, ι p = some (b, s) ∧ b < w.heap.size ∧ V.rels ι cs (((w.heap[b]?.map fun o => match o with | .cells c _ _ => c.toList | _ => []).getD []).drop s |>.take cs.length) ∧
    ∀ (i : Nat) (v : V), cs[i]? = some v → ∃ x, w.cell? ⟨b, s + i, none⟩ = some x ∧ V.rel ι v x := by
  obtain ⟨b, s, c, el, fr, h1, h2, h3⟩ := h _ hm
  refine ⟨b, s, h1, (Array.getElem?_eq_some_iff.1 h2).1, by rw [h2]; exact h3, fun i v hv => ?_⟩
  obtain ⟨x, hx, hr⟩ := rels_nth _ _ i v h3 hv
  have hil : i < cs.length := (List.getElem?_eq_some_iff.1 hv).1
  rw [List.getElem?_take, if_pos hil, List.getElem?_drop, Array.getElem?_toList] at hx
  exact ⟨x, by simp only [World.cell?, h2]; exact hx, hr⟩
theorem owns_bel1 {M : Nat → Prop} {w w1 : World} {base : Nat} {e : TypeId} {size : Nat} {v : Value} {n : Nat} {xs : List Value} (h : w.ownsRow base e size v n xs) (hb : Bel M w.heap.size w w1) (hM : ∀ g, v.ownBlock = some g → ¬ M g) : w1.ownsRow base e size v n xs := by
  refine ⟨h.1, h.2.imp id ?_⟩
  rintro ⟨g, cap, cur, rfl, h2, h3, h4⟩
  exact ⟨g, cap, cur, rfl, h2, (hb.block g (Array.getElem?_eq_some_iff.1 h3).1 (hM g rfl)).trans h3, h4⟩
def isFn : V → Bool | .fn _ _ _ => true | _ => false
theorem runs_fn : ∀ k < 12, (runsOf k).all isFn = true := by decide
theorem fn_one {ι : Emb} : ∀ (l : List V) (xs : List Value), l.all isFn = true → V.rels ι l xs → ∀ x ∈ xs, x.oneCell' = true
  | [], xs, _, h => by rw [rels_nil_inv h]; simp
  | v :: l, xs, hf, h => by
    obtain ⟨x, t, rfl, hx, ht⟩ := rels_cons_inv h
    simp only [List.all_cons, Bool.and_eq_true] at hf
    intro y hy
    rcases List.mem_cons.1 hy with rfl | hy
    · cases v <;> simp only [isFn] at hf <;> try (exact absurd hf.1 (by decide))
      obtain ⟨a, c, rfl, _⟩ := hx
      rfl
    · exact fn_one l t hf.2 ht y hy
theorem first_ro {k n : Nat} (hk : k < 12) (h3 : k ≠ 3) (h6 : k ≠ 6) (htr : ∀ a ≤ n, tree k n a = true) (h1 : 1 ≤ n) (h5 : n ≤ 5) {t : List Int} (hn : t.length = n) (hb : ∀ x ∈ t, 0 ≤ x ∧ x ≤ 255) :
    ∃ R : Nat → Bool × Int, ∀ (M : Nat → Prop) (lo hi : Nat) (w : World) (pb tb tc base from' : Nat), (∀ c, M c → c < w.heap.size) → LaidM M k lo hi w pb → hi ≤ w.heap.size → (tb < lo ∨ hi ≤ tb) → ¬ M tb → w.ownsRow base 3 1 (.slice (some ⟨tb, 0, none⟩) n tc) n (t.map (Value.int .i64)) → from' ≤ n →
      Calls Tryz.prog 30 #[.pointer (some ⟨pb, 0, none⟩), .slice (some ⟨tb, 0, none⟩) n tc, .int .i64 (from' : Int), .int .i64 2000] w fun e w1 =>
        ∃ ca cm cc, e = .returned (.tuple #[.agg #[.int .i64 (goR R n from').s, .int .i64 (goR R n from').e, .slice ca cm cc], .bool (goR R n from').ok, .int .i64 (goR R n from').err]) ∧ Bel M w.heap.size w w1 := by
  have hex : ∀ a, ∃ r : Int × Bool, a ≤ n → ∃ pre, InP k t a pre ∧ evalP k n a pre = some r := fun a => by
    by_cases ha : a ≤ n
    · obtain ⟨pre, r, q1, q2⟩ := tree_ok (htr a ha) hk hb hn ha
      exact ⟨r, fun _ => ⟨pre, q1, q2⟩⟩
    · exact ⟨(0, false), fun h => absurd h ha⟩
  obtain ⟨f, hf⟩ := Classical.axiomOfChoice hex
  refine ⟨fun a => ((f a).2, (f a).1), fun M lo hi w pb tb tc base from' hMw hl hhi htb htm htx hfr => ?_⟩
  obtain ⟨lo', hi', mb, b1, b2, ⟨ι, hro, hroot, hin0, _⟩, hmb⟩ := hl
  rw [planU_ne h3] at hro hin0
  have hin : ∀ e ∈ plan k, ∀ c s, ι e.1 = some (c, s) → lo' ≤ c ∧ c < hi' := fun e he c s h => ⟨(hin0 e he c s h).1, (hin0 e he c s h).2.1⟩
  have htb' : tb < lo' ∨ hi' ≤ tb := htb.imp (fun h => Nat.lt_of_lt_of_le h b1) (fun h => Nat.le_trans b2 h)
  have hhi' : hi' ≤ w.heap.size := Nat.le_trans b2 hhi
  have hnm : ∀ c, lo' ≤ c → c < hi' → ¬ M c := fun c c1 c2 e => h3 ((hmb c c1 c2).1 e).1
  obtain ⟨m1, m2, m3⟩ := root_mem k hk
  obtain ⟨l1, l2, l3, l4⟩ := runs_len k hk
  obtain ⟨pb', s0, e1, e2, _, hc⟩ := ro_cell hro m1
  rw [hroot] at e1
  cases e1
  obtain ⟨x0, k0, rfl⟩ := hc 0 _ rfl
  obtain ⟨x1, k1, eb, es, c1, ee, rfl, _, _, _⟩ := hc 1 _ rfl
  obtain ⟨x3, k3, rb, rs, c3, re, rfl, _, _, _⟩ := hc 3 _ rfl
  obtain ⟨eb', es', ee', ebl, _, hec⟩ := ro_cell hro m2
  rw [ee] at ee'
  cases ee'
  obtain ⟨rb', rs', re', rbl, hrx, hrc⟩ := ro_cell hro m3
  rw [re] at re'
  cases re'
  obtain ⟨xs, hxs⟩ : ∃ xs, List.take (runsOf k).length (List.drop rs ((w.heap[rb]?.map fun o => match o with | .cells c _ _ => c.toList | _ => []).getD [])) = xs := ⟨_, rfl⟩
  rw [hxs] at hrx
  have hxl : xs.length = (runsOf k).length := rels_length hrx
  have hpin := hin _ m1 _ _ hroot
  have hein := hin _ m2 _ _ ee
  have hcx : ∀ (j : Nat) (x : Value), xs[j]? = some x → w.cell? ⟨rb, rs + j, none⟩ = some x := fun j x hx => by
    have hjl : j < (runsOf k).length := by rw [← hxl]; exact (List.getElem?_eq_some_iff.1 hx).1
    rw [← hxs, List.getElem?_take, if_pos hjl, List.getElem?_drop] at hx
    cases hw : w.heap[rb]? with
    | none => rw [hw] at hx; simp at hx
    | some o =>
      rw [hw] at hx
      cases o <;> simp at hx
      simp only [World.cell?, hw]
      exact hx
  have hone := fn_one _ _ (runs_fn k hk) hrx
  refine first_walk (M := M) (es := engs k) (g1 := eb) (g2 := es + 0) (c1 := c1) (rv0 := .slice (some ⟨rb, rs + 0, none⟩) (engs k).length c3) (c2 := 0) (c3 := 0) (m := 0) (pv := .nilFunc)
    (OK := fun w' rv => ∃ g gc, rv = .slice (some ⟨g, 0, none⟩) (runsOf k).length gc ∧ w'.ownsRow w.heap.size 123 1 rv (runsOf k).length xs) (R := fun a => ((f a).2, (f a).1)) hMw e2 (hnm _ hpin.1 hpin.2) ebl (hnm _ hein.1 hein.2) k0 k1 k3 (fun i e hi => ?_) (by omega) (fun w' hw' => ?_) (fun w' hw' => ?_) (fun w1 w2 rv h hb12 => ?_) (by omega) hfr (fun a ha w' rv hw' hok => ?_)
  · obtain ⟨x, hx, hr⟩ := hec i (.int .i64 e) (by rw [List.getElem?_map, hi]; rfl)
    refine ⟨l4 h6 e (List.mem_of_getElem? hi), ?_⟩
    rw [Nat.add_zero, hx]
    exact congrArg some hr
  · exact textE_walk h1 h5 hfr hn hb (owns_below htx hw')
  · rw [Nat.add_zero, ← l1]
    refine (clone_walk (xs := xs) hxl (by omega) (by omega) (fun j x hx => (hw'.cell (p := ⟨rb, rs + j, none⟩) rbl).trans (hcx j x hx)) hone (Nat.lt_of_lt_of_le rbl hw'.size)).mono ?_
    rintro e w1 ⟨v, rfl, hv, hb1⟩
    refine ⟨v, rfl, hb1, ?_⟩
    obtain ⟨a, c, rfl, ha⟩ := owns_shape hv
    obtain ⟨g, rfl⟩ := ha (by omega)
    exact ⟨g, c, rfl, owns_base hv hw'.size⟩
  · obtain ⟨g, gc, rfl, hg⟩ := h
    exact ⟨g, gc, rfl, owns_bel hg hb12 hMw⟩
  · obtain ⟨g, gc, rfl, hg⟩ := hok
    obtain ⟨pre, q1, q2⟩ := hf a ha
    have hgl := World.ownsRow.lt hg g rfl
    have hro' : RoIs ι (plan k) w' := hro.same fun e he b s hbs => hw'.block b (Nat.lt_of_lt_of_le (hin e he b s hbs).2 hhi') (hnm b (hin e he b s hbs).1 (hin e he b s hbs).2)
    refine (pos_ro hk h3 q2 hn hb q1 (lo := lo') (hi := hi') ⟨ι, hro', hroot, hin, hrx⟩ htb' (owns_bel1 htx hw' (fun g' hg' => by cases hg'; exact htm)) (.inr (Nat.le_trans hhi' hgl.1)) hg).mono ?_
    rintro e w1 ⟨s, e', ca, cm, cc, rfl, hval, hb1⟩
    exact ⟨s, e', ca, cm, cc, rfl, hval, .of hb1⟩
end Go.Proofs.YtopicmcaoeameaaGreatDoor
namespace Go.Proofs.YtopicmcaoeameaaGreatDoor
open Go Go.Ev Go.RowKit Go.Smap

/-- a case's cells -/
def caseC (c : Int × ByteArray) : List Value := [.int .i64 c.1, .string c.2]
/-- what was there is as it was, but for block cb and a row's block -/
structure KX (cb : Nat) (ob : Option Nat) (w w' : World) : Prop where
  os : w'.os = w.os
  tape : w'.tape = w.tape
  output : w'.output = w.output
  size : w.heap.size ≤ w'.heap.size
  block : ∀ k, k < w.heap.size → k ≠ cb → some k ≠ ob → w'.heap[k]? = w.heap[k]?
theorem KX.refl (cb : Nat) (ob : Option Nat) (w : World) : KX cb ob w w := ⟨rfl, rfl, rfl, Nat.le_refl _, fun _ _ _ _ => rfl⟩
theorem KX.drew {cb : Nat} {ob : Option Nat} {w w' : World} (h : KX cb ob w w') : KX cb ob w w'.drew := ⟨h.os, h.tape, h.output, h.size, h.block⟩
theorem KX.set {cb : Nat} {ob : Option Nat} {w w' : World} (h : KX cb ob w w') (o : Nat) (v : Value) : KX cb ob w (w'.setCell ⟨cb, o, none⟩ v) :=
  ⟨h.os, h.tape, h.output, by simp [World.setCell]; exact h.size, fun k hk hne ho => (Below.heap_setCell _ _ _ _ hne).trans (h.block k hk hne ho)⟩
theorem BelX.set {M X : Nat → Prop} {w w' : World} (h : BelX M X w w') (cb : Nat) (hx : X cb) (hm : ¬ M cb) (o : Nat) (v : Value) : BelX M X w (w'.setCell ⟨cb, o, none⟩ v) :=
  ⟨h.os, h.tape, h.output, by simp [World.setCell]; exact h.size, fun k hk h1 h2 => (Below.heap_setCell _ _ _ _ (show k ≠ cb from fun e => h1 (by rw [e]; exact hx))).trans (h.block k hk h1 h2),
    fun k hk hk2 => by rw [Below.heap_setCell _ _ _ _ (show k ≠ cb from fun e => hm (e ▸ hk2))]; exact h.mach k hk hk2⟩
theorem cases_len : ∀ cs : List (Int × ByteArray), (cs.flatMap caseC).length = cs.length * 2
  | [] => rfl
  | c :: t => by rw [List.flatMap_cons, List.length_append, cases_len t, List.length_cons, Nat.succ_mul, Nat.add_comm]; rfl
theorem cases_one (cs : List (Int × ByteArray)) : ∀ x ∈ cs.flatMap caseC, x.oneCell' = true := fun x hx => by
  obtain ⟨c, _, hc⟩ := List.mem_flatMap.1 hx
  simp only [caseC, List.mem_cons, List.not_mem_nil, or_false] at hc
  rcases hc with rfl | rfl <;> rfl
theorem owns_set_other {w : World} {base : Nat} {e : TypeId} {size : Nat} {v : Value} {n : Nat} {xs : List Value} (h : w.ownsRow base e size v n xs) {cb : Nat} (hne : some cb ≠ v.ownBlock) (o : Nat) (u : Value) : (w.setCell ⟨cb, o, none⟩ u).ownsRow base e size v n xs := by
  refine ⟨h.1, h.2.imp id ?_⟩
  rintro ⟨g, cap, cur, rfl, g2, g3, g4⟩
  exact ⟨g, cap, cur, rfl, g2, (Below.heap_setCell _ _ _ _ (fun e => hne (by have e' : g = cb := e; rw [e']; rfl))).trans g3, g4⟩
set_option maxHeartbeats 16000000 in
set_option maxRecDepth 1000000 in
theorem see_cmp {M : Nat → Prop} {cb base : Nat} {w : World} {C : Can} {cs : List (Int × ByteArray)} {D : List ByteArray} (hMw : ∀ k, M k → k < w.heap.size) (hcm : ¬ M cb) (hcasM : ∀ g, C.cases.ownBlock = some g → ¬ M g) (h : CanAt w cb C) (hbase : base ≤ w.heap.size)
    (hrow : w.ownsRow base 56 2 C.cases cs.length (cs.flatMap caseC)) (hv : verdict C.most C.enough C.compared C.unlike = 0) (h0 : 0 ≤ C.seen) (h1 : 1 ≤ C.every) (hs : C.seen ≤ 1000000) (h0c : 0 ≤ C.compared) (hsc : C.compared ≤ 1000000) (h0u : 0 ≤ C.unlike) (hsu : C.unlike ≤ 1000000) (hm : C.seen % C.every = 0)
    (hcs : cs.length ≤ 1000000) (hD : D.length ≤ 1000) (t : Value) (fuel : Int)
    (hcmp : ∀ w1, Below w.heap.size w w1 → Calls Tryz.prog 28 #[.pointer (some ⟨cb, 0, none⟩), t, .int .i64 fuel] w1 fun e w' => Bel M w1.heap.size w1 w' ∧ ∃ v, e = .returned (.tuple #[v, .int .i64 0]) ∧ w'.ownsRow w1.heap.size 9 1 v D.length (D.map Value.string)) :
    Calls Tryz.prog 12 #[.pointer (some ⟨cb, 0, none⟩), t, .int .i64 fuel] w fun ed w' => ∃ cv, ed = .returned (.tuple #[.bool true, .bool D.isEmpty, .int .i64 0]) ∧ BelX M (fun k => k = cb ∨ C.cases.ownBlock = some k) w w' ∧
      CanAt w' cb { C with seen := C.seen + 1, compared := C.compared + 1, unlike := if D.isEmpty = true then C.unlike else C.unlike + 1, cases := cv } ∧
      w'.ownsRow base 56 2 cv (cs.length + D.length) ((cs ++ D.map fun nm => (C.seen, nm)).flatMap caseC) ∧ (cv.ownBlock = C.cases.ownBlock ∨ ∃ g, cv.ownBlock = some g ∧ w.heap.size ≤ g) := by
  obtain ⟨b1, b2, every, most, enough, seen, compared, unlike, names, allowed, cases⟩ := C
  have hvw := verdict_walk (h.cell 3) (h.cell 4) (h.cell 6) (h.cell 7)
  simp only at hv h0 h1 hs h0c hsc h0u hsu hm hvw hrow hcasM ⊢
  rw [hv] at hvw
  clear hv
  have hz : every ≠ 0 := by omega
  have hm2 : (seen % every != 0) = false := by simpa using hm
  clear hm
  obtain ⟨i0, hi0, hz0, hz1, hz2⟩ := info_parts info56
  go_enter Tryz.func12, Tryz.ntmps12
  go_wp2_with (first
    | (go_at_call 19; refine hvw.mono ?_; rintro _ w1 ⟨rfl, hb1⟩; have hC := h.below hb1; have c5 : w1.cell? ⟨cb, 5, none⟩ = some (.int .i64 seen) := hC.cell 5; have c2 : w1.cell? ⟨cb, 2, none⟩ = some (.int .i64 every) := hC.cell 2)
    | go_in)
  go_region
  all_goals go_wp2_with (first
    | (go_at_call 28; refine (hcmp _ hb1.drew).mono ?_; rintro _ w2 ⟨hb2, v, rfl, hDrow⟩; obtain ⟨da, dc, rfl, hda⟩ := owns_shape hDrow; have hC2 := CanAt.bel (w := w1.drew) hC hcm hb2)
    | go_in)
  all_goals
    have hb02 : Bel M w.heap.size w w2 := (Bel.of hb1.drew).trans (hb2.mono hb1.size)
    have s1 := hb1.size
    have s2 := hb2.size
    have hsw : w.heap.size ≤ w2.heap.size := hb02.size
    have hrow2 : w2.ownsRow base 56 2 cases cs.length (cs.flatMap caseC) := owns_bel1 hrow hb02 hcasM
    clear hcmp hb1 hb2 hC c5 c2
    go_loopw [45] (fun i wr => ∃ (j : Nat) (cv : Value), j ≤ D.length ∧ i = .int .i64 j ∧ CanAt wr cb ⟨b1, b2, every, most, enough, seen, compared, unlike, names, allowed, cv⟩ ∧ wr.ownsRow base 56 2 cv (cs.length + j) ((cs ++ (D.take j).map fun nm => (seen, nm)).flatMap caseC) ∧
      KX cb cases.ownBlock w2 wr ∧ (cv.ownBlock = cases.ownBlock ∨ ∃ g, cv.ownBlock = some g ∧ w2.heap.size ≤ g)) (fun i _ => D.length - (intOf i).toNat)
    case atStart => exact ⟨0, cases, Nat.zero_le _, rfl, hC2, by simpa using hrow2, KX.refl _ _ _, .inl rfl⟩
    case round =>
      obtain ⟨j, cv, hj, rfl, hCr, hor, hkx, hob⟩ := hrel
      have hkxs := hkx.size
      have hltr := World.ownsRow.lt hor
      have hC10 : wr.cell? ⟨cb, 10, none⟩ = some cv := hCr.cell 10
      have hC5 : wr.cell? ⟨cb, 5, none⟩ = some (.int .i64 seen) := hCr.cell 5
      have hcbw : cb < wr.heap.size := hCr.lt
      have hcbo : some cb ≠ cv.ownBlock := not_row hor hCr (by decide)
      by_cases hjl : j < D.length
      · obtain ⟨dg, rfl⟩ := hda (by omega)
        have hdg := (World.ownsRow.lt hDrow dg rfl).2
        have cn2 : w2.cell? ⟨dg, j, none⟩ = some (.string D[j]) := by
          rw [hDrow.cellAt j (by omega), List.getElem?_map, List.getElem?_eq_getElem hjl]
          rfl
        have cn : wr.cell? ⟨dg, j, none⟩ = some (.string D[j]) := (World.cell?_of_block (a := ⟨dg, j, none⟩) (hkx.block dg hdg (fun e => not_row hDrow hC2 (by decide) (by rw [e]; rfl)) (fun e => rows_two hDrow hrow2 (by decide) (g := dg) rfl e.symm))).trans cn2
        have htk : Hid ((cs ++ (D.take (j + 1)).map fun nm => (seen, nm)).flatMap caseC = (cs ++ (D.take j).map fun nm => (seen, nm)).flatMap caseC ++ [.int .i64 seen, .string D[j]]) := by
          show _ = _
          rw [List.take_succ_eq_append_getElem hjl, List.map_append, ← List.append_assoc, List.flatMap_append]
          simp [caseC]
        obtain ⟨nm, hnm⟩ : ∃ s, D[j] = s := ⟨_, rfl⟩
        rw [hnm] at cn htk
        clear hnm cn2
        obtain ⟨xs, hxs⟩ : ∃ xs, (cs ++ (D.take j).map fun nm => (seen, nm)).flatMap caseC = xs := ⟨_, rfl⟩
        rw [hxs] at hor htk
        clear hxs
        have s10 : ∀ o, (wr.alloc o).cell? ⟨cb, 10, none⟩ = some cv := fun o => (World.cell?_of_block (a := ⟨cb, 10, none⟩) (Below.heap_alloc _ _ _ hcbw)).trans hC10
        have s5 : ∀ o, (wr.alloc o).cell? ⟨cb, 5, none⟩ = some (.int .i64 seen) := fun o => (World.cell?_of_block (a := ⟨cb, 5, none⟩) (Below.heap_alloc _ _ _ hcbw)).trans hC5
        have f10 : wr.frozen? ⟨cb, 10, none⟩ = false := hCr.frozen 10
        have hfz : ∀ o, (wr.alloc o).drew.frozen? ⟨cb, 10, none⟩ = false := fun o => (World.frozen?_of_block (a := ⟨cb, 10, none⟩) (w := wr) (w' := (wr.alloc o).drew) (Below.heap_alloc _ _ _ hcbw)).trans f10
        have hfz' : ∀ o, (wr.alloc o).frozen? ⟨cb, 10, none⟩ = false := hfz
        have hn1 : cs.length + j + 1 ≤ maxLen := by unfold maxLen; omega
        have hn2 : (cs.length + j + 1) * 24 ≤ 140737488355328 := by omega
        have hb3 : base ≤ wr.heap.size := by omega
        go_wp2_with fail
        go_region_law
          (refine step_append_lies _ (by rfl) _ _ _ (by rfl) base 56 i0 _ 2 24 Tryz.underlying51 hi0 hz0 hz1 hz2 rfl (by omega) cv (cs.length + j) xs (by rfl) ((hor.alloc _).drew)
            ⟨wr.heap.size, 0, none⟩ 1 1 [.int .i64 seen, .string nm] (by rfl) (by rfl) (World.news_of_block (cs := #[.int .i64 seen, .string nm]) (t := 56) (fr := (0, 0)) (heap_alloc_new wr _)) (by simp [Value.oneCell'])
            (by omega) hn1 hn2 (by simp; omega) (wr.heap.size + 1) (by simp) ?_; intro gg cap w4 hown1 hgrow hat hlt; have hfz4 := (hgrow.frozen_far ⟨cb, 10, none⟩ (by simp; omega) (fun e => hcbo e)).trans (hfz _); have hnz4 := hgrow.cell_far ⟨cb, 10, none⟩ (by simp; omega) (fun e => hcbo e))
        all_goals
          have g4 := hgrow.size
          have g0 : ∀ c, c < wr.heap.size → some c ≠ cv.ownBlock → w4.heap[c]? = wr.heap[c]? := fun c hc hne => (hgrow.block c (by simp; omega) hne).trans (Below.heap_alloc _ _ _ hc)
          have gC : CanAt w4 cb ⟨b1, b2, every, most, enough, seen, compared, unlike, names, allowed, cv⟩ := (g0 cb hcbw hcbo).trans hCr
          have gC2 := gC.set (C' := ⟨b1, b2, every, most, enough, seen, compared, unlike, names, allowed, .slice (some ⟨gg, 0, none⟩) (cs.length + j + 1) cap⟩) 10 (.slice (some ⟨gg, 0, none⟩) (cs.length + j + 1) cap) rfl
          have gR := owns_set_other hown1 (cb := cb) (not_row hown1 gC (by decide)) 10 (.slice (some ⟨gg, 0, none⟩) (cs.length + j + 1) cap)
          have gB : Below 0 wr w4 := (((Below.refl 0 wr).alloc (Nat.zero_le _) _).drew).grown hgrow (Nat.zero_le _) (fun _ _ => Nat.zero_le _)
          have gK : KX cb cases.ownBlock w2 w4 := ⟨gB.os.trans hkx.os, gB.tape.trans hkx.tape, gB.output.trans hkx.output, Nat.le_trans hkx.size gB.size, fun k hk h1 h2 => (g0 k (by omega) (fun e => by
            rcases hob with e2 | ⟨g', e2, e3⟩
            · exact h2 (e.trans e2)
            · rw [e2] at e
              cases e
              omega)).trans (hkx.block k hk h1 h2)⟩
          have gK2 := gK.set 10 (.slice (some ⟨gg, 0, none⟩) (cs.length + j + 1) cap)
          have gO : Value.ownBlock (.slice (some ⟨gg, 0, none⟩) (cs.length + j + 1) cap) = cases.ownBlock ∨ ∃ g, Value.ownBlock (.slice (some ⟨gg, 0, none⟩) (cs.length + j + 1) cap) = some g ∧ w2.heap.size ≤ g := by
            rcases hat with e | e
            · rcases hob with e2 | ⟨g', e2, e3⟩
              · exact .inl (e.symm.trans e2)
              · rw [e2] at e
                cases e
                exact .inr ⟨_, rfl, e3⟩
            · exact .inr ⟨gg, rfl, by omega⟩
          rw [← htk.out] at gR
          clear gK gB gC g0 hgrow hown1 hat htk hfz hfz' s10 s5 f10 hfz4 hnz4 cn
          go_wp2
          go_roundw
          case rel => exact ⟨j + 1, _, hjl, by go_num, gC2, gR, gK2, gO⟩
          case measure => simp [intOf]; omega
      · have hje : j = D.length := by omega
        subst hje
        rw [List.take_length] at hor
        have c5' : wr.cell? ⟨cb, 5, none⟩ = some (.int .i64 seen) := hCr.cell 5
        have c6' : wr.cell? ⟨cb, 6, none⟩ = some (.int .i64 compared) := hCr.cell 6
        have c7' : wr.cell? ⟨cb, 7, none⟩ = some (.int .i64 unlike) := hCr.cell 7
        have f5 := hCr.frozen 5
        have f6 := hCr.frozen 6
        have f7 := hCr.frozen 7
        have hBX : BelX M (fun k => k = cb ∨ cases.ownBlock = some k) w wr := ⟨hkx.os.trans hb02.os, hkx.tape.trans hb02.tape, hkx.output.trans hb02.output, Nat.le_trans hsw hkx.size,
          fun k hk h1 h2 => (hkx.block k (by omega) (fun e => h1 (.inl e)) (fun e => h1 (.inr e.symm))).trans (hb02.block k hk h2),
          fun k hk hm => by
            rw [hkx.block k (by omega) (fun e => hcm (e ▸ hm)) (fun e => hcasM k e.symm hm)]
            exact hb02.mach k hk hm⟩
        have hob2 : cv.ownBlock = cases.ownBlock ∨ ∃ g, cv.ownBlock = some g ∧ w.heap.size ≤ g := hob.imp id fun ⟨g, a1, a2⟩ => ⟨g, a1, by omega⟩
        by_cases hD0 : D.length = 0
        · have hE : D.isEmpty = true := by rw [List.length_eq_zero_iff.1 hD0]; rfl
          have hDe : D = [] := List.length_eq_zero_iff.1 hD0
          have gC := ((hCr.set (C' := ⟨b1, b2, every, most, enough, seen + 1, compared, unlike, names, allowed, cv⟩) 5 (.int .i64 (seen + 1)) rfl).set (C' := ⟨b1, b2, every, most, enough, seen + 1, compared + 1, unlike, names, allowed, cv⟩) 6 (.int .i64 (compared + 1)) rfl)
          have gR := owns_set_other (owns_set_other hor hcbo 5 (.int .i64 (seen + 1))) hcbo 6 (.int .i64 (compared + 1))
          have gX := (hBX.set cb (.inl rfl) hcm 5 (.int .i64 (seen + 1))).set cb (.inl rfl) hcm 6 (.int .i64 (compared + 1))
          go_wp2_with fail
          go_ret3
          exact ⟨rfl, gX, cv, gC, by simpa [hDe] using gR, hob2⟩
        · have hE : D.isEmpty = false := by
            cases D with
            | nil => exact absurd rfl hD0
            | cons a l => rfl
          have hD1 : (0 : Int) < (D.length : Int) := by omega
          have gC := (((hCr.set (C' := ⟨b1, b2, every, most, enough, seen + 1, compared, unlike, names, allowed, cv⟩) 5 (.int .i64 (seen + 1)) rfl).set (C' := ⟨b1, b2, every, most, enough, seen + 1, compared + 1, unlike, names, allowed, cv⟩) 6 (.int .i64 (compared + 1)) rfl).set (C' := ⟨b1, b2, every, most, enough, seen + 1, compared + 1, unlike + 1, names, allowed, cv⟩) 7 (.int .i64 (unlike + 1)) rfl)
          have gR := owns_set_other (owns_set_other (owns_set_other hor hcbo 5 (.int .i64 (seen + 1))) hcbo 6 (.int .i64 (compared + 1))) hcbo 7 (.int .i64 (unlike + 1))
          have gX := ((hBX.set cb (.inl rfl) hcm 5 (.int .i64 (seen + 1))).set cb (.inl rfl) hcm 6 (.int .i64 (compared + 1))).set cb (.inl rfl) hcm 7 (.int .i64 (unlike + 1))
          go_wp2_with fail
          all_goals go_ret3
          all_goals exact ⟨by simp [hD0], gX, cv, gC, by simpa using gR, hob2⟩
end Go.Proofs.YtopicmcaoeameaaGreatDoor
namespace Go.Proofs.YtopicmcaoeameaaGreatDoor
open Go Go.Ev Go.RowKit Go.Smap

/-- a canary's state -/
structure St where
  seen : Int
  compared : Int
  unlike : Int
  cases : List (Int × ByteArray)
/-- See, plainly: what it returns, and the state behind it; D: the names at which the sides differ -/
def stepC (ev mo en : Int) (D : List ByteArray) (s : St) : (Bool × Bool × Int) × St :=
  if verdict mo en s.compared s.unlike ≠ 0 then ((false, false, 20), s)
  else if s.seen % ev ≠ 0 then ((false, false, 0), ⟨s.seen + 1, s.compared, s.unlike, s.cases⟩)
  else ((true, D.isEmpty, 0), ⟨s.seen + 1, s.compared + 1, if D.isEmpty = true then s.unlike else s.unlike + 1, s.cases ++ D.map fun nm => (s.seen, nm)⟩)
/-- how far a state can be behind i texts -/
structure StB (s : St) (i : Nat) : Prop where
  se : 0 ≤ s.seen ∧ s.seen ≤ i
  co : 0 ≤ s.compared ∧ s.compared ≤ i
  un : 0 ≤ s.unlike ∧ s.unlike ≤ i
  ca : s.cases.length ≤ i * 1000
theorem StB.step {s : St} {i : Nat} (h : StB s i) (ev mo en : Int) {D : List ByteArray} (hD : D.length ≤ 1000) : StB (stepC ev mo en D s).2 (i + 1) := by
  obtain ⟨h1, h2, h3, h4⟩ := h
  have h4' : s.cases.length ≤ (i + 1) * 1000 := Nat.le_trans h4 (Nat.mul_le_mul_right 1000 (Nat.le_succ i))
  have h4'' : s.cases.length + D.length ≤ (i + 1) * 1000 := by rw [Nat.succ_mul]; exact Nat.add_le_add h4 hD
  unfold stepC
  split
  · exact ⟨⟨h1.1, by push_cast; omega⟩, ⟨h2.1, by push_cast; omega⟩, ⟨h3.1, by push_cast; omega⟩, h4'⟩
  · split
    · exact ⟨⟨by show 0 ≤ s.seen + 1; omega, by show s.seen + 1 ≤ _; push_cast; omega⟩, ⟨h2.1, by push_cast; omega⟩, ⟨h3.1, by push_cast; omega⟩, h4'⟩
    · refine ⟨⟨by show 0 ≤ s.seen + 1; omega, by show s.seen + 1 ≤ _; push_cast; omega⟩, ⟨by show 0 ≤ s.compared + 1; omega, by show s.compared + 1 ≤ _; push_cast; omega⟩, ?_, ?_⟩
      · show 0 ≤ (if D.isEmpty = true then s.unlike else s.unlike + 1) ∧ (if D.isEmpty = true then s.unlike else s.unlike + 1) ≤ _
        split <;> exact ⟨by omega, by push_cast; omega⟩
      · show (s.cases ++ D.map fun nm => (s.seen, nm)).length ≤ _
        rw [List.length_append, List.length_map]
        exact h4''
/-- block cb is a canary with the sets b1 and b2 in the state s -/
structure CanG (M : Nat → Prop) (w : World) (cb b1 b2 base : Nat) (ev mo en : Int) (ns : List ByteArray) (s : St) (C : Can) : Prop where
  at' : CanAt w cb C
  num : C.b1 = b1 ∧ C.b2 = b2 ∧ C.every = ev ∧ C.most = mo ∧ C.enough = en ∧ C.seen = s.seen ∧ C.compared = s.compared ∧ C.unlike = s.unlike
  cm : ¬ M cb
  all : ∃ bm, C.allowed = .map (some bm) ∧ ¬ M bm ∧ IsMap w bm 0 fun _ => none
  names : w.ownsRow base 9 1 C.names ns.length (ns.map Value.string)
  namesM : ∀ g, C.names.ownBlock = some g → ¬ M g
  cases : w.ownsRow base 56 2 C.cases s.cases.length (s.cases.flatMap caseC)
  casesM : ∀ g, C.cases.ownBlock = some g → ¬ M g
  low : base ≤ w.heap.size
theorem CanG.belX {M X : Nat → Prop} {w w' : World} {cb b1 b2 base : Nat} {ev mo en : Int} {ns : List ByteArray} {s : St} {C : Can} (h : CanG M w cb b1 b2 base ev mo en ns s C) (hb : BelX M X w w') (h1 : ¬ X cb) (h2 : ∀ g, C.names.ownBlock = some g → ¬ X g) (h3 : ∀ g, C.cases.ownBlock = some g → ¬ X g)
    (h4 : ∀ bm, C.allowed = .map (some bm) → ¬ X bm) : CanG M w' cb b1 b2 base ev mo en ns s C := by
  obtain ⟨bm, a1, a2, a3⟩ := h.all
  exact ⟨(hb.block cb h.at'.lt h1 h.cm).trans h.at', h.num, h.cm, ⟨bm, a1, a2, a3.same (hb.block bm a3.lt (h4 bm a1) a2)⟩, owns_belX h.names hb fun g hg => ⟨h2 g hg, h.namesM g hg⟩, h.namesM, owns_belX h.cases hb fun g hg => ⟨h3 g hg, h.casesM g hg⟩, h.casesM, Nat.le_trans h.low hb.size⟩
theorem CanG.bel {M : Nat → Prop} {w w' : World} {cb b1 b2 base : Nat} {ev mo en : Int} {ns : List ByteArray} {s : St} {C : Can} (h : CanG M w cb b1 b2 base ev mo en ns s C) (hb : Bel M w.heap.size w w') : CanG M w' cb b1 b2 base ev mo en ns s C :=
  h.belX (X := fun _ => False) (.of hb) (fun e => e) (fun _ _ e => e) (fun _ _ e => e) (fun _ _ e => e)
/-- a canary is no part of another one -/
theorem CanG.apart {M : Nat → Prop} {w : World} {cb b1 b2 base cb' b1' b2' base' : Nat} {ev mo en ev' mo' en' : Int} {ns ns' : List ByteArray} {s s' : St} {C C' : Can} (h : CanG M w cb b1 b2 base ev mo en ns s C) (h' : CanG M w cb' b1' b2' base' ev' mo' en' ns' s' C') (hne : cb ≠ cb')
    (hca : ∀ g, C.cases.ownBlock = some g → C'.cases.ownBlock ≠ some g) :
    ¬ (cb' = cb ∨ C.cases.ownBlock = some cb') ∧ (∀ g, C'.names.ownBlock = some g → ¬ (g = cb ∨ C.cases.ownBlock = some g)) ∧ (∀ g, C'.cases.ownBlock = some g → ¬ (g = cb ∨ C.cases.ownBlock = some g)) ∧ ∀ bm, C'.allowed = .map (some bm) → ¬ (bm = cb ∨ C.cases.ownBlock = some bm) := by
  refine ⟨?_, fun g hg => ?_, fun g hg => ?_, fun bm hbm => ?_⟩
  · rintro (e | e)
    · exact hne e.symm
    · exact not_row h.cases h'.at' (by decide) e.symm
  · rintro (e | e)
    · exact not_row h'.names h.at' (by decide) (by rw [hg, e])
    · exact rows_two h'.names h.cases (by decide) hg e
  · rintro (e | e)
    · exact not_row h'.cases h.at' (by decide) (by rw [hg, e])
    · exact hca g e hg
  · obtain ⟨bm', a1, _, ms, cl, a3, _⟩ := h'.all
    rw [hbm] at a1
    cases a1
    rintro (e | e)
    · have := h.at'
      unfold CanAt at this
      rw [e] at a3
      rw [a3] at this
      cases this
    · rcases h.cases.2 with ⟨e1, _⟩ | ⟨g, cap, cur, e1, _, g3, _⟩
      · rw [e1] at e; cases e
      · rw [e1] at e
        cases e
        rw [a3] at g3
        cases g3
/-- compare at a canary -/
theorem compare_gen {M : Nat → Prop} {lo1 hi1 lo2 hi2 b1 b2 cb base : Nat} {w : World} {ra rb : List Rl} {ev mo en : Int} {ns : List ByteArray} {s : St} {C : Can} (hMw : ∀ k, M k → k < w.heap.size) (hS1 : SetAt M lo1 hi1 w b1 ra) (hS2 : SetAt M lo2 hi2 w b2 rb) (hhi1 : hi1 ≤ w.heap.size) (hhi2 : hi2 ≤ w.heap.size)
    (hl1 : ra.length ≤ 100) (hl2 : rb.length ≤ 100) (hsz1 : ∀ r ∈ ra, r.name.size ≤ maxLen) (hsz2 : ∀ r ∈ rb, r.name.size ≤ maxLen) (hC : CanG M w cb b1 b2 base ev mo en ns s C) (hns : ns.length ≤ 200) (hnsz : ∀ s ∈ ns, s.size ≤ maxLen)
    {ta : Option Addr} {n tc : Nat} (hn : n ≤ 1000) {F : Nat → Nat → FR} {D1 D2 : List (Int × Int × Int)} (hD1 : fnd F n 0 ra = .ok D1) (hD2 : fnd F n 0 rb = .ok D2) (hF1 : FirstOf M lo1 hi1 w (.slice ta n tc) n 2000 F ra) (hF2 : FirstOf M lo2 hi2 w (.slice ta n tc) n 2000 F rb) :
    Calls Tryz.prog 28 #[.pointer (some ⟨cb, 0, none⟩), .slice ta n tc, .int .i64 2000] w fun e w' => Bel M w.heap.size w w' ∧ ∃ v, e = .returned (.tuple #[v, .int .i64 0]) ∧ w'.ownsRow w.heap.size 9 1 v (differ ra rb D1 D2 ns).length ((differ ra rb D1 D2 ns).map Value.string) := by
  obtain ⟨bm, h1, h2, h4⟩ := hC.all
  have k1 := hC.names
  obtain ⟨an, kn, ean, han⟩ := owns_shape k1
  have hcb := hC.at'.lt
  obtain ⟨ng, hng, hngm, hna, hcell⟩ : ∃ ng, ng < w.heap.size ∧ ¬ M ng ∧ (ns ≠ [] → an = some ⟨ng, 0, none⟩) ∧ ∀ (i : Nat) (s : ByteArray), ns[i]? = some s → s.size ≤ maxLen ∧ w.cell? ⟨ng, i, none⟩ = some (.string s) := by
    by_cases h0 : ns = []
    · exact ⟨cb, hcb, hC.cm, fun h => absurd h0 h, fun i s hi => by rw [h0] at hi; simp at hi⟩
    · obtain ⟨g, rfl⟩ := han (fun e => h0 (List.length_eq_zero_iff.1 e))
      have hgm := hC.namesM g (by rw [ean]; rfl)
      rw [ean] at k1
      have hl := World.ownsRow.lt k1 g rfl
      refine ⟨g, hl.2, hgm, fun _ => rfl, fun i s hi => ⟨hnsz s (List.mem_of_getElem? hi), ?_⟩⟩
      have hil := (List.getElem?_eq_some_iff.1 hi).1
      rw [k1.cellAt i (by omega), List.getElem?_map, hi]
      rfl
  obtain ⟨m1, m2, _⟩ := hC.num
  have hcw := compare_walk (na := an) (nc := kn) (names := ns) hMw hS1 hS2 hhi1 hhi2 hl1 hl2 hsz1 hsz2 hn hF1 hF2 hcb hC.cm h2 hngm
    (by rw [hC.at'.cell 0]; simp [Can.cells, m1]) (by rw [hC.at'.cell 1]; simp [Can.cells, m2]) (by rw [hC.at'.cell 8]; simp [Can.cells, ean]) (by rw [hC.at'.cell 9]; simp [Can.cells, h1]) h4 hna hng hcell (by omega)
  rw [hD1, hD2] at hcw
  exact hcw
theorem differ_len (ra rb : List Rl) (D1 D2 : List (Int × Int × Int)) (ns : List ByteArray) : (differ ra rb D1 D2 ns).length ≤ ns.length := List.length_filter_le _ _
/-- See at a canary, in general -/
theorem see_gen {M : Nat → Prop} {lo1 hi1 lo2 hi2 b1 b2 cb base i : Nat} {w : World} {ra rb : List Rl} {ev mo en : Int} {ns : List ByteArray} {s : St} {C : Can} (hMw : ∀ k, M k → k < w.heap.size) (hS1 : SetAt M lo1 hi1 w b1 ra) (hS2 : SetAt M lo2 hi2 w b2 rb) (hhi1 : hi1 ≤ w.heap.size) (hhi2 : hi2 ≤ w.heap.size)
    (hl1 : ra.length ≤ 100) (hl2 : rb.length ≤ 100) (hsz1 : ∀ r ∈ ra, r.name.size ≤ maxLen) (hsz2 : ∀ r ∈ rb, r.name.size ≤ maxLen) (hC : CanG M w cb b1 b2 base ev mo en ns s C) (hev : 1 ≤ ev) (hst : StB s i) (hi : i ≤ 100) (hns : ns.length ≤ 200) (hnsz : ∀ s ∈ ns, s.size ≤ maxLen)
    {ta : Option Addr} {n tc : Nat} (hn : n ≤ 1000) {F : Nat → Nat → FR} {D1 D2 : List (Int × Int × Int)} (hD1 : fnd F n 0 ra = .ok D1) (hD2 : fnd F n 0 rb = .ok D2) (hF1 : FirstOf M lo1 hi1 w (.slice ta n tc) n 2000 F ra) (hF2 : FirstOf M lo2 hi2 w (.slice ta n tc) n 2000 F rb) :
    Calls Tryz.prog 12 #[.pointer (some ⟨cb, 0, none⟩), .slice ta n tc, .int .i64 2000] w fun e w' => ∃ C' : Can, e = .returned (.tuple #[.bool (stepC ev mo en (differ ra rb D1 D2 ns) s).1.1, .bool (stepC ev mo en (differ ra rb D1 D2 ns) s).1.2.1, .int .i64 (stepC ev mo en (differ ra rb D1 D2 ns) s).1.2.2]) ∧
      BelX M (fun k => k = cb ∨ C.cases.ownBlock = some k) w w' ∧ CanG M w' cb b1 b2 base ev mo en ns (stepC ev mo en (differ ra rb D1 D2 ns) s).2 C' ∧ C'.names = C.names ∧ C'.allowed = C.allowed ∧ (C'.cases.ownBlock = C.cases.ownBlock ∨ ∃ g, C'.cases.ownBlock = some g ∧ w.heap.size ≤ g) := by
  obtain ⟨m1, m2, m3, m4, m5, m6, m7, m8⟩ := hC.num
  obtain ⟨⟨s1, s2⟩, ⟨s3, s4⟩, ⟨s5, s6⟩, s7⟩ := hst
  have hself := fun g (e : C.names.ownBlock = some g) => rows_two hC.names hC.cases (by decide) e
  have keep : ∀ (w' : World) (s' : St) (C' : Can), BelX M (fun k => k = cb ∨ C.cases.ownBlock = some k) w w' → CanAt w' cb C' → C'.names = C.names → C'.allowed = C.allowed → (C'.b1 = b1 ∧ C'.b2 = b2 ∧ C'.every = ev ∧ C'.most = mo ∧ C'.enough = en ∧ C'.seen = s'.seen ∧ C'.compared = s'.compared ∧ C'.unlike = s'.unlike) →
      w'.ownsRow base 56 2 C'.cases s'.cases.length (s'.cases.flatMap caseC) → (C'.cases.ownBlock = C.cases.ownBlock ∨ ∃ g, C'.cases.ownBlock = some g ∧ w.heap.size ≤ g) → CanG M w' cb b1 b2 base ev mo en ns s' C' := fun w' s' C' hb hA e1 e2 hnum hca hor => by
    obtain ⟨bm, a1, a2, a3⟩ := hC.all
    refine ⟨hA, hnum, hC.cm, ⟨bm, e2.trans a1, a2, a3.same (hb.block bm a3.lt ?_ a2)⟩, ?_, by rw [e1]; exact hC.namesM, hca, fun g hg => ?_, Nat.le_trans hC.low hb.size⟩
    · obtain ⟨ms, cl, a4, _⟩ := a3
      rintro (e | e)
      · have := hC.at'
        unfold CanAt at this
        rw [e] at a4
        rw [a4] at this
        cases this
      · rcases hC.cases.2 with ⟨f1, _⟩ | ⟨g, cap, cur, f1, _, g3, _⟩
        · rw [f1] at e; cases e
        · rw [f1] at e
          cases e
          rw [a4] at g3
          cases g3
    · rw [e1]
      refine owns_belX hC.names hb fun g hg => ⟨?_, hC.namesM g hg⟩
      rintro (e | e)
      · exact not_row hC.names hC.at' (by decide) (by rw [hg, e])
      · exact hself g hg e
    · rcases hor with e | ⟨g', e, hge⟩
      · exact hC.casesM g (e ▸ hg)
      · rw [e] at hg
        cases hg
        exact fun hm => by have := hMw _ hm; omega
  by_cases hv : verdict mo en s.compared s.unlike = 0
  · by_cases hm : s.seen % ev = 0
    · have hstep : stepC ev mo en (differ ra rb D1 D2 ns) s = ((true, (differ ra rb D1 D2 ns).isEmpty, 0), ⟨s.seen + 1, s.compared + 1, if (differ ra rb D1 D2 ns).isEmpty = true then s.unlike else s.unlike + 1, s.cases ++ (differ ra rb D1 D2 ns).map fun nm => (s.seen, nm)⟩) := by
        unfold stepC
        rw [if_neg (by simp [hv]), if_neg (by simp [hm])]
      have hdl := differ_len ra rb D1 D2 ns
      rw [hstep]
      refine (see_cmp (M := M) (D := differ ra rb D1 D2 ns) hMw hC.cm hC.casesM hC.at' hC.low hC.cases (by rw [m4, m5, m7, m8]; exact hv) (by omega) (by omega) (by omega) (by omega) (by omega) (by omega) (by omega) (by rw [m3, m6]; exact hm) (by omega) (by omega) (.slice ta n tc) 2000 (fun w1 hb => ?_)).mono ?_
      · exact compare_gen (fun k hk => Nat.lt_of_lt_of_le (hMw k hk) hb.size) (hS1.bel (Bel.of hb) hhi1) (hS2.bel (Bel.of hb) hhi2) (Nat.le_trans hhi1 hb.size) (Nat.le_trans hhi2 hb.size) hl1 hl2 hsz1 hsz2 (hC.bel (.of hb)) hns hnsz hn hD1 hD2 (hF1.later (.of hb)) (hF2.later (.of hb))
      · rintro e w' ⟨cv, rfl, hb, hA, hro, hor⟩
        refine ⟨_, rfl, hb, keep w' _ _ hb hA rfl rfl ⟨m1, m2, m3, m4, m5, by show C.seen + 1 = s.seen + 1; rw [m6], by show C.compared + 1 = s.compared + 1; rw [m7], by show (if _ then C.unlike else C.unlike + 1) = _; rw [m8]⟩ ?_ hor, rfl, rfl, hor⟩
        show w'.ownsRow base 56 2 cv (s.cases ++ (differ ra rb D1 D2 ns).map fun nm => (s.seen, nm)).length ((s.cases ++ (differ ra rb D1 D2 ns).map fun nm => (s.seen, nm)).flatMap caseC)
        rw [List.length_append, List.length_map, ← m6]
        exact hro
    · have hstep : stepC ev mo en (differ ra rb D1 D2 ns) s = ((false, false, 0), ⟨s.seen + 1, s.compared, s.unlike, s.cases⟩) := by
        unfold stepC
        rw [if_neg (by simp [hv]), if_pos (by simpa using hm)]
      rw [hstep]
      refine (see_skip hC.at' (by rw [m4, m5, m7, m8]; exact hv) (by omega) (by omega) (by omega) (by rw [m3, m6]; exact hm) (.slice ta n tc) 2000).mono ?_
      rintro e w' ⟨rfl, hb, hA⟩
      have hb' : BelX M (fun k => k = cb ∨ C.cases.ownBlock = some k) w w' := ⟨hb.os, hb.tape, hb.output, hb.size, fun k hk h1 _ => hb.block k hk (fun e => h1 (.inl e)), fun k hk hm => .inl (hb.block k hk fun e => hC.cm (e ▸ hm))⟩
      refine ⟨_, rfl, hb', keep w' _ _ hb' hA rfl rfl ⟨m1, m2, m3, m4, m5, by show C.seen + 1 = s.seen + 1; rw [m6], m7, m8⟩ ?_ (.inl rfl), rfl, rfl, .inl rfl⟩
      show w'.ownsRow base 56 2 C.cases s.cases.length (s.cases.flatMap caseC)
      refine ⟨hC.cases.1, hC.cases.2.imp id ?_⟩
      rintro ⟨g, cap, cur, e1, g2, g3, g4⟩
      exact ⟨g, cap, cur, e1, g2, (hb.block g (Array.getElem?_eq_some_iff.1 g3).1 (fun e => not_row hC.cases hC.at' (by decide) (by rw [e1, ← e]; rfl))).trans g3, g4⟩
  · have hstep : stepC ev mo en (differ ra rb D1 D2 ns) s = ((false, false, 20), s) := by
      unfold stepC
      rw [if_pos hv]
    rw [hstep]
    refine (see_shut (hC.at'.cell 3) (hC.at'.cell 4) (hC.at'.cell 6) (hC.at'.cell 7) (by rw [m4, m5, m7, m8]; exact hv) (.slice ta n tc) 2000).mono ?_
    rintro e w' ⟨rfl, hb⟩
    exact ⟨C, rfl, .of (.of hb), hC.bel (.of hb), rfl, rfl, .inl rfl⟩
end Go.Proofs.YtopicmcaoeameaaGreatDoor
namespace Go.Proofs.YtopicmcaoeameaaGreatDoor
open Go Go.Ev Go.RowKit Go.Smap

set_option maxHeartbeats 8000000 in
set_option maxRecDepth 1000000 in
theorem unlike_gen {w : World} {cb base n : Nat} {C : Can} {xs : List Value} (hC : CanAt w cb C) (h : w.ownsRow base 56 2 C.cases n xs) (hn : n ≤ 1000000) (h1 : ∀ x ∈ xs, x.oneCell' = true) (hl : xs.length = n * 2) :
    Calls Tryz.prog 20 #[.pointer (some ⟨cb, 0, none⟩)] w fun e w' => ∃ v', e = .returned v' ∧ w'.ownsRow w.heap.size 56 2 v' n xs ∧ Below w.heap.size w w' := by
  have k10 : w.cell? ⟨cb, 10, none⟩ = some C.cases := hC.cell 10
  have hcl := clone_cases h hn h1 hl
  obtain ⟨v, hv⟩ : ∃ v, C.cases = v := ⟨_, rfl⟩
  rw [hv] at k10 hcl
  clear h hC hv
  go_enter Tryz.func20, Tryz.ntmps20
  go_wp2_with (first
    | (go_at_call 31; refine hcl.mono ?_; clear hcl; rintro _ w1 ⟨v', rfl, hv', hb1⟩)
    | go_in)
  go_ret
  exact ⟨_, rfl, hv', hb1⟩
set_option maxHeartbeats 8000000 in
set_option maxRecDepth 1000000 in
theorem copy_walk {M : Nat → Prop} {w : World} {cb b1 b2 base : Nat} {ev mo en : Int} {ns : List ByteArray} {s : St} {C : Can} (hMw : ∀ k, M k → k < w.heap.size) (hC : CanG M w cb b1 b2 base ev mo en ns s C) (hns : ns.length ≤ 200) (hcs : s.cases.length ≤ 1000000) :
    Calls Tryz.prog 21 #[.pointer (some ⟨cb, 0, none⟩)] w fun e w' => ∃ (kb : Nat) (C' : Can), e = .returned (.pointer (some ⟨kb, 0, none⟩)) ∧ Below w.heap.size w w' ∧ w.heap.size ≤ kb ∧ CanG M w' kb b1 b2 w.heap.size ev mo en ns s C' ∧ ∀ g, C'.cases.ownBlock = some g → w.heap.size ≤ g := by
  obtain ⟨d1, d2, every, most, enough, seen, compared, unlike, names, allowed, cases⟩ := C
  obtain ⟨bm, a1, a2, a3⟩ := hC.all
  have a1' : allowed = .map (some bm) := a1
  subst a1'
  obtain ⟨es, cl, a4, a5⟩ := a3
  have hA := hC.at'
  have hcb := hA.lt
  have hnum := hC.num
  have hr8 : w.ownsRow base 9 1 names ns.length (ns.map Value.string) := hC.names
  have hr10 : w.ownsRow base 56 2 cases s.cases.length (s.cases.flatMap caseC) := hC.cases
  have hlow := hC.low
  obtain ⟨na, nc, en8, _⟩ := owns_shape hr8
  obtain ⟨ca, cc, en10, _⟩ := owns_shape hr10
  subst en8
  subst en10
  have k0 : w.cell? ⟨cb, 0, none⟩ = some (.pointer (some ⟨d1, 0, none⟩)) := hA.cell 0
  have k1 : w.cell? ⟨cb, 1, none⟩ = some (.pointer (some ⟨d2, 0, none⟩)) := hA.cell 1
  have k2 : w.cell? ⟨cb, 2, none⟩ = some (.int .i64 every) := hA.cell 2
  have k3 : w.cell? ⟨cb, 3, none⟩ = some (.int .i64 most) := hA.cell 3
  have k4 : w.cell? ⟨cb, 4, none⟩ = some (.int .i64 enough) := hA.cell 4
  have k5 : w.cell? ⟨cb, 5, none⟩ = some (.int .i64 seen) := hA.cell 5
  have k6 : w.cell? ⟨cb, 6, none⟩ = some (.int .i64 compared) := hA.cell 6
  have k7 : w.cell? ⟨cb, 7, none⟩ = some (.int .i64 unlike) := hA.cell 7
  have k8 : w.cell? ⟨cb, 8, none⟩ = some (.slice na ns.length nc) := hA.cell 8
  have k9 : w.cell? ⟨cb, 9, none⟩ = some (.map (some bm)) := hA.cell 9
  have k10 : w.cell? ⟨cb, 10, none⟩ = some (.slice ca s.cases.length cc) := hA.cell 10
  have k8' : ∀ o, (w.alloc o).cell? ⟨cb, 8, none⟩ = some (.slice na ns.length nc) := fun o => (World.cell?_of_block (a := ⟨cb, 8, none⟩) (Below.heap_alloc _ _ _ hcb)).trans k8
  have hn1 := fun (w' : World) (hb : Below w.heap.size w w') => clone_names (owns_below hr8 hb) (by omega) (fun x hx => by obtain ⟨s, _, rfl⟩ := List.mem_map.1 hx; rfl) (by simp)
  have hc1 := fun (w' : World) (h : w'.ownsRow base 56 2 (.slice ca s.cases.length cc) s.cases.length (s.cases.flatMap caseC)) => clone_cases h hcs (cases_one _) (cases_len _)
  have hA0 : ∀ o, Below w.heap.size w (w.alloc o) := fun o => (Below.refl _ _).alloc (Nat.le_refl _) o
  clear hC hA
  go_enter Tryz.func21, Tryz.ntmps21
  go_wp2_with (first
    | (go_at_call 32; refine (hn1 _ (hA0 _)).mono ?_; clear hn1; rintro _ w1 ⟨vn, rfl, hvn, hb1⟩; obtain ⟨va, vc, rfl, _⟩ := owns_shape hvn; have hN1 : CanAt w1 w.heap.size ⟨d1, d2, every, most, enough, seen, compared, unlike, .slice na ns.length nc, .map (some bm), .slice ca s.cases.length cc⟩ := (hb1.block _ (by simp)).trans (heap_alloc_new _ _); have hN2 := hN1.set (C' := ⟨d1, d2, every, most, enough, seen, compared, unlike, .slice va ns.length vc, .map (some bm), .slice ca s.cases.length cc⟩) 8 (.slice va ns.length vc) rfl; have n8 : w1.cell? ⟨w.heap.size, 8, none⟩ = some (.slice na ns.length nc) := hN1.cell 8; have f8 := hN1.frozen 8; have hBw : Below w.heap.size w (w1.setCell ⟨w.heap.size, 8, none⟩ (.slice va ns.length vc)) := ((hA0 _).trans (hb1.mono (by simp))).setCell (Nat.le_refl _) _; have k9' := (hBw.cell (p := ⟨cb, 9, none⟩) hcb).trans k9; have hcm := clone_map ((hBw.block bm (Array.getElem?_eq_some_iff.1 a4).1).trans a4); have hvn1 := owns_base (base' := w.heap.size) (owns_set_other hvn (not_row hvn hN1 (by decide)) 8 (.slice va ns.length vc)) (by simp); have hsz1 : w.heap.size + 1 ≤ (w1.setCell ⟨w.heap.size, 8, none⟩ (.slice va ns.length vc)).heap.size := by { have := hb1.size; simp at this; simp [World.setCell]; omega }; obtain ⟨W1, hW1⟩ : ∃ W, w1.setCell ⟨w.heap.size, 8, none⟩ (.slice va ns.length vc) = W := ⟨_, rfl⟩; rw [hW1] at hN2 hBw k9' hcm hvn1 hsz1)
    | (go_at_call 33; refine hcm.mono ?_; clear hcm; rintro _ w2 ⟨rfl, rfl⟩; have hN3 : CanAt (W1.alloc (.map es cl)) w.heap.size ⟨d1, d2, every, most, enough, seen, compared, unlike, .slice va ns.length vc, .map (some bm), .slice ca s.cases.length cc⟩ := (Below.heap_alloc _ _ _ (by omega)).trans hN2; have hN4 := hN3.set (C' := ⟨d1, d2, every, most, enough, seen, compared, unlike, .slice va ns.length vc, .map (some W1.heap.size), .slice ca s.cases.length cc⟩) 9 (.map (some W1.heap.size)) rfl; have n9 : (W1.alloc (.map es cl)).cell? ⟨w.heap.size, 9, none⟩ = some (.map (some bm)) := hN3.cell 9; have f9 := hN3.frozen 9; have hBw2 : Below w.heap.size w ((W1.alloc (.map es cl)).setCell ⟨w.heap.size, 9, none⟩ (.map (some W1.heap.size))) := (hBw.alloc (by omega) _).setCell (Nat.le_refl _) _; have k10' := (hBw2.cell (p := ⟨cb, 10, none⟩) hcb).trans k10; have hcc := hc1 _ (owns_below hr10 hBw2); have hvn2 := owns_set_other (hvn1.alloc (.map es cl)) (not_row (hvn1.alloc (.map es cl)) hN3 (by decide)) 9 (.map (some W1.heap.size)); have hm2 : ((W1.alloc (.map es cl)).setCell ⟨w.heap.size, 9, none⟩ (.map (some W1.heap.size))).heap[W1.heap.size]? = some (.map es cl) := (Below.heap_setCell _ _ _ _ (by show W1.heap.size ≠ w.heap.size; omega)).trans (heap_alloc_new _ _); have hsz2 : W1.heap.size + 1 ≤ ((W1.alloc (.map es cl)).setCell ⟨w.heap.size, 9, none⟩ (.map (some W1.heap.size))).heap.size := by { simp [World.setCell] }; obtain ⟨W2, hW2⟩ : ∃ W, (W1.alloc (.map es cl)).setCell ⟨w.heap.size, 9, none⟩ (.map (some W1.heap.size)) = W := ⟨_, rfl⟩; rw [hW2] at hN4 hBw2 k10' hcc hvn2 hm2 hsz2)
    | (go_at_call 31; refine hcc.mono ?_; clear hcc hc1; rintro _ w3 ⟨vk, rfl, hvk, hb3⟩; obtain ⟨ka, kc, rfl, _⟩ := owns_shape hvk; have hN5 : CanAt w3 w.heap.size ⟨d1, d2, every, most, enough, seen, compared, unlike, .slice va ns.length vc, .map (some W1.heap.size), .slice ca s.cases.length cc⟩ := (hb3.block _ (by omega)).trans hN4; have hN6 := hN5.set (C' := ⟨d1, d2, every, most, enough, seen, compared, unlike, .slice va ns.length vc, .map (some W1.heap.size), .slice ka s.cases.length kc⟩) 10 (.slice ka s.cases.length kc) rfl; have n10 : w3.cell? ⟨w.heap.size, 10, none⟩ = some (.slice ca s.cases.length cc) := hN5.cell 10; have f10 := hN5.frozen 10; have hvn3 := owns_set_other (owns_below hvn2 hb3) (not_row (owns_below hvn2 hb3) hN5 (by decide)) 10 (.slice ka s.cases.length kc); have hvk3 := owns_set_other hvk (not_row hvk hN5 (by decide)) 10 (.slice ka s.cases.length kc); have hm3 : (w3.setCell ⟨w.heap.size, 10, none⟩ (.slice ka s.cases.length kc)).heap[W1.heap.size]? = some (.map es cl) := (Below.heap_setCell _ _ _ _ (by show W1.heap.size ≠ w.heap.size; omega)).trans ((hb3.block _ (by omega)).trans hm2); have hBw3 : Below w.heap.size w (w3.setCell ⟨w.heap.size, 10, none⟩ (.slice ka s.cases.length kc)) := (hBw2.trans (hb3.mono (by omega))).setCell (Nat.le_refl _) _)
    | go_in)
  go_ret
  have hge : ∀ g, Value.ownBlock (.slice ka s.cases.length kc) = some g → W2.heap.size ≤ g := fun g hg => (World.ownsRow.lt hvk g hg).1
  refine ⟨w.heap.size, _, rfl, hBw3, Nat.le_refl _, ⟨hN6, hnum, fun hm => Nat.lt_irrefl _ (hMw _ hm), ⟨W1.heap.size, rfl, fun hm => by have := hMw _ hm; omega, es, cl, hm3, a5⟩, hvn3, fun g hg hm => ?_, owns_base hvk3 (by omega), fun g hg hm => ?_, hBw3.size⟩, fun g hg => ?_⟩
  · have := hMw _ hm
    have := (World.ownsRow.lt hvn3 g hg).1
    omega
  · have := hMw _ hm
    have := hge g hg
    omega
  · have := hge g hg
    omega
end Go.Proofs.YtopicmcaoeameaaGreatDoor
