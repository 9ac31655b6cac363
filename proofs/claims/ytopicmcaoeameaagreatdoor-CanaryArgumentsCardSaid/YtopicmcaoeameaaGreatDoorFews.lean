/-
  The rules that are made from numbers: Few and rules, walked.
-/
import Derived.Test.YtopicmcaoeameaaGreatDoorFew
import Derived.Test.YtopicmcaoeameaaGreatDoorOwn
import Derived.Test.YtopicmcaoeameaaGreatDoorCompare
namespace Go.Proofs.YtopicmcaoeameaaGreatDoor
open Go Go.Ev Go.RowKit Go.Smap

/-- Few's table of texts -/
def tbl : List ByteArray := [⟨#[97]⟩, ⟨#[98]⟩, ⟨#[97, 42, 98]⟩, ⟨#[40, 97, 41, 92, 49]⟩, ⟨#[91, 94, 99, 93]⟩, ⟨#[94, 97, 36]⟩, ⟨#[40, 63, 61, 97, 41, 97]⟩, ⟨#[97, 124, 97, 98]⟩]
def tblO : Obj := .cells #[.string ⟨#[97]⟩, .string ⟨#[98]⟩, .string ⟨#[97, 42, 98]⟩, .string ⟨#[40, 97, 41, 92, 49]⟩, .string ⟨#[91, 94, 99, 93]⟩, .string ⟨#[94, 97, 36]⟩, .string ⟨#[40, 63, 61, 97, 41, 97]⟩, .string ⟨#[97, 124, 97, 98]⟩] 9 (0, 0)
theorem tbl_at {w : World} {T q : Nat} (h : w.heap[T]? = some tblO) (hq : q < 8) : ∃ s, w.cell? ⟨T, q, none⟩ = some (.string s) ∧ Txt q s := by
  have hc : w.cell? ⟨T, q, none⟩ = (#[Value.string ⟨#[97]⟩, .string ⟨#[98]⟩, .string ⟨#[97, 42, 98]⟩, .string ⟨#[40, 97, 41, 92, 49]⟩, .string ⟨#[91, 94, 99, 93]⟩, .string ⟨#[94, 97, 36]⟩, .string ⟨#[40, 63, 61, 97, 41, 97]⟩, .string ⟨#[97, 124, 97, 98]⟩])[q]? := by
    simp [World.cell?, h, tblO]
  match q, hq with
  | 0, _ => exact ⟨_, hc, rfl⟩
  | 1, _ => exact ⟨_, hc, rfl⟩
  | 2, _ => exact ⟨_, hc, rfl⟩
  | 3, _ => exact ⟨_, hc, rfl⟩
  | 4, _ => exact ⟨_, hc, rfl⟩
  | 5, _ => exact ⟨_, hc, rfl⟩
  | 6, _ => exact ⟨_, hc, rfl⟩
  | 7, _ => exact ⟨_, hc, rfl⟩
  | n + 8, h => exact absurd h (by omega)
/-- the rule that Few makes at place i -/
def FewAt (i : Nat) (r : Rl) : Prop := r.k < 8 ∧ Txt r.k r.text ∧ ∃ p, p < 3 ∧ Bytes r.name [110, 48 + (3 * i + p)]
def fcell (f : Rl × Bool) : List Value := [.string f.1.name, .string f.1.text, .bool f.2]
theorem wrapS {x : Int} (h1 : -9223372036854775808 ≤ x) (h2 : x ≤ 9223372036854775807) : IntKind.i64.wrap x = x := by
  rw [IntKind.wrap_i64]
  omega
theorem info27 : (Tryz.prog.info? 27).map (fun i => (i.zero, i.size, i.bytes)) = some (some (.agg #[.string ByteArray.empty, .string ByteArray.empty, .bool false]), 3, 40) := by kernel_rfl
set_option maxHeartbeats 4000000 in
set_option maxRecDepth 1000000 in
theorem few_walk {w : World} {v : Value} {l : List Int} (h : SlArg w v l) (at' : Nat) (hat : at' ≤ 100) :
    Calls Tryz.prog 29 #[v, .int .i64 (at' : Int)] w fun e w' => ∃ (v' : Value) (fs : List (Rl × Bool)), e = .returned v' ∧ w'.ownsRow w.heap.size 27 3 v' fs.length (fs.flatMap fcell) ∧ fs.length ≤ 3 ∧ (∀ i f, fs[i]? = some f → FewAt i f.1) ∧ Below w.heap.size w w' := by
  obtain ⟨i0, hi0, hz0, hz1, hz2⟩ := info_parts info27
  obtain ⟨va, vc, rfl, _⟩ := h.val
  obtain ⟨b1, b2⟩ := pickZ_bd l at' (m := 4) (by omega)
  obtain ⟨N, hN⟩ : ∃ N : Nat, pickZ l at' 4 = N := Int.eq_ofNat_of_zero_le b1
  have hN3 : N ≤ 3 := by omega
  have hpick0 : ∀ w', Below w.heap.size w w' → Calls Tryz.prog 41 #[.slice va l.length vc, .int .i64 (at' : Int), .int .i64 4] w' fun e w1 => e = .returned (.int .i64 (N : Int)) ∧ Below w'.heap.size w' w1 := fun w' hw' => by
    have := pick_walk (h.below hw') at' 4 (by omega) (by omega) (by omega)
    rw [hN] at this
    simpa using this
  go_enter Tryz.func29, Tryz.ntmps29
  go_wp2
  go_loopw [5, 7] (fun v' i wr => ∃ (j : Nat) (fs : List (Rl × Bool)), j ≤ N ∧ fs.length = j ∧ i = .int .i64 j ∧ wr.ownsRow (w.heap.size + 1) 27 3 v' j (fs.flatMap fcell) ∧ wr.heap[w.heap.size]? = some tblO ∧ (∀ i f, fs[i]? = some f → FewAt i f.1) ∧ Below w.heap.size w wr ∧ w.heap.size + 1 ≤ wr.heap.size) (fun _ i _ => N - (intOf i).toNat)
  case atStart =>
    exact ⟨0, [], Nat.zero_le _, rfl, rfl, World.ownsRow_nil _ _ _ _, heap_alloc_new _ _, fun i f hi => by simp at hi, (Below.refl _ _).alloc (Nat.le_refl _) _, by simp⟩
  case round =>
    obtain ⟨j, fs, hj, hfs, rfl, hown, htab, hat0, hbel, hsz⟩ := hrel
    have hcall0 := hpick0 _ hbel
    by_cases hjl : j < N
    · obtain ⟨pa, pb⟩ := pickZ_bd l (at' + j + 1) (m := 3) (by omega)
      obtain ⟨p, hp⟩ : ∃ p : Nat, pickZ l (at' + j + 1) 3 = p := Int.eq_ofNat_of_zero_le pa
      obtain ⟨qa, qb⟩ := pickZ_bd l (at' + 2 * j + 2) (m := 8) (by omega)
      obtain ⟨q, hq⟩ : ∃ q : Nat, pickZ l (at' + 2 * j + 2) 8 = q := Int.eq_ofNat_of_zero_le qa
      obtain ⟨ra, rb⟩ := pickZ_bd l (at' + j + 3) (m := 5) (by omega)
      obtain ⟨r, hr⟩ : ∃ r : Nat, pickZ l (at' + j + 3) 5 = r := Int.eq_ofNat_of_zero_le ra
      have hp3 : p < 3 := by omega
      have hq8 : q < 8 := by omega
      have hltr := World.ownsRow.lt hown
      have eA : ((at' + j + 1 : Nat) : Int) = IntKind.i64.wrap (IntKind.i64.wrap ((at' : Int) + (j : Int)) + 1) := by rw [wrapS (x := (at' : Int) + (j : Int)) (by omega) (by omega), wrapS (by omega) (by omega)]; omega
      have eB : ((at' + 2 * j + 2 : Nat) : Int) = IntKind.i64.wrap (IntKind.i64.wrap ((at' : Int) + IntKind.i64.wrap (2 * (j : Int))) + 2) := by rw [wrapS (x := 2 * (j : Int)) (by omega) (by omega), wrapS (x := (at' : Int) + 2 * (j : Int)) (by omega) (by omega), wrapS (by omega) (by omega)]; omega
      have eC : ((at' + j + 3 : Nat) : Int) = IntKind.i64.wrap (IntKind.i64.wrap ((at' : Int) + (j : Int)) + 3) := by rw [wrapS (x := (at' : Int) + (j : Int)) (by omega) (by omega), wrapS (by omega) (by omega)]; omega
      have eD : ((3 * j + p : Nat) : Int) = IntKind.i64.wrap (IntKind.i64.wrap (3 * (j : Int)) + (p : Int)) := by rw [wrapS (x := 3 * (j : Int)) (by omega) (by omega), wrapS (by omega) (by omega)]; omega
      have hpA : ∀ w', Below wr.heap.size wr w' → Calls Tryz.prog 41 #[.slice va l.length vc, .int .i64 (IntKind.i64.wrap (IntKind.i64.wrap ((at' : Int) + (j : Int)) + 1)), .int .i64 3] w' fun e w2 => e = .returned (.int .i64 (p : Int)) ∧ Below wr.heap.size wr w2 := fun w' hw' => by
        have := pick_walk (h.below (hbel.trans (hw'.mono (by omega)))) (at' + j + 1) 3 (by omega) (by omega) (by omega)
        rw [hp, eA] at this
        refine Calls.mono this ?_
        rintro e w2 ⟨rfl, hb⟩
        exact ⟨rfl, hw'.trans (hb.mono hw'.size)⟩
      have hpB : ∀ w', Below wr.heap.size wr w' → Calls Tryz.prog 41 #[.slice va l.length vc, .int .i64 (IntKind.i64.wrap (IntKind.i64.wrap ((at' : Int) + IntKind.i64.wrap (2 * (j : Int))) + 2)), .int .i64 8] w' fun e w2 => e = .returned (.int .i64 (q : Int)) ∧ Below wr.heap.size wr w2 := fun w' hw' => by
        have := pick_walk (h.below (hbel.trans (hw'.mono (by omega)))) (at' + 2 * j + 2) 8 (by omega) (by omega) (by omega)
        rw [hq, eB] at this
        refine Calls.mono this ?_
        rintro e w2 ⟨rfl, hb⟩
        exact ⟨rfl, hw'.trans (hb.mono hw'.size)⟩
      have hpC : ∀ w', Below wr.heap.size wr w' → Calls Tryz.prog 41 #[.slice va l.length vc, .int .i64 (IntKind.i64.wrap (IntKind.i64.wrap ((at' : Int) + (j : Int)) + 3)), .int .i64 5] w' fun e w2 => e = .returned (.int .i64 (r : Int)) ∧ Below wr.heap.size wr w2 := fun w' hw' => by
        have := pick_walk (h.below (hbel.trans (hw'.mono (by omega)))) (at' + j + 3) 5 (by omega) (by omega) (by omega)
        rw [hr, eC] at this
        refine Calls.mono this ?_
        rintro e w2 ⟨rfl, hb⟩
        exact ⟨rfl, hw'.trans (hb.mono hw'.size)⟩
      have hpD : ∀ w', Below wr.heap.size wr w' → Calls Tryz.prog 44 #[.int .i64 (IntKind.i64.wrap (IntKind.i64.wrap (3 * (j : Int)) + (p : Int)))] w' fun e w2 => ∃ s, e = .returned (.string s) ∧ Bytes s [48 + (3 * j + p)] ∧ Below wr.heap.size wr w2 := fun w' hw' => by
        have := dec_walk (j := 3 * j + p) (by omega) w'
        rw [eD] at this
        refine Calls.mono this ?_
        rintro e w2 ⟨s, rfl, hs, hb⟩
        exact ⟨s, rfl, hs, hw'.trans (hb.mono hw'.size)⟩
      obtain ⟨tx, htx, htxt⟩ := tbl_at htab hq8
      have hcT : ∀ w', Below wr.heap.size wr w' → w'.cell? ⟨w.heap.size, q, none⟩ = some (.string tx) := fun w' hw' => (hw'.cell (p := ⟨w.heap.size, q, none⟩) (by show w.heap.size < wr.heap.size; omega)).trans htx
      have hW1 : ∀ w1, Below wr.heap.size wr w1 → Below wr.heap.size wr w1.drew := fun w1 hb => hb.drew
      have hbase5 : ∀ w5, Below wr.heap.size wr w5 → ∀ o, w.heap.size + 1 ≤ (World.alloc w5 o).heap.size := fun w5 h5 o => by have := h5.size; simp; omega
      have hn1 : j + 1 ≤ maxLen := by unfold maxLen; omega
      have hn2 : (j + 1) * 40 ≤ 140737488355328 := by omega
      have hq1 : (0 : Int) ≤ (q : Int) := Int.natCast_nonneg _
      have hq2 : (q : Int) < 8 := by omega
      have aT := fun e => Nat.not_le_of_lt (Nat.lt_succ_self w.heap.size) (hltr w.heap.size e).1
      have HP : Hid (pickZ l (at' + j + 1) 3 = p ∧ pickZ l (at' + 2 * j + 2) 8 = q ∧ pickZ l (at' + j + 3) 5 = r) := ⟨hp, hq, hr⟩
      clear eA eB eC eD hp hq hr pa pb qa qb ra rb htx hN b1 b2 hpick0
      go_wp2_with (first
        | (go_at_call 41; refine hcall0.mono ?_; rintro _ w1 ⟨rfl, hb1⟩; have hcw := hcT w1 hb1; have hbd := hb1.drew)
        | go_in)
      go_region_held3 (fun w' => w'.cell? ⟨w.heap.size, q, none⟩ = some (.string tx))
        (first
          | go_keep
          | assumption
          | exact hcT _ (by assumption)
          | exact hcT _ (Below.alloc (by assumption) (Below.size (by assumption)) _)
          | exact (hgrow.cell_far ⟨w.heap.size, q, none⟩ (hbase5 _ hb5 _) (fun e => aT e.symm)).trans (by assumption))
        (first
          | (refine step_append_lies _ (by rfl) _ _ _ (by rfl) (w.heap.size + 1) 27 i0 _ 3 40 Tryz.underlying23 hi0 hz0 hz1 hz2 rfl (by omega) _ j (fs.flatMap fcell) (by rfl) ((owns_below hown hb5).alloc _)
              ⟨w5.heap.size, 0, none⟩ 1 1 _ (by rfl) (by rfl) (World.news_of_block (heap_alloc_new w5 _)) (by simp [Value.oneCell'])
              (by omega) hn1 hn2 (hbase5 _ hb5 _) (w5.heap.size + 1) (by simp) ?_; intro gg cap w6 hown1 hgrow hat hlt)
          | (go_at_call 41; refine (hpA _ (by assumption)).mono ?_; clear hpA; rintro _ w2 ⟨rfl, hb2⟩)
          | (go_at_call 44; refine (hpD _ (by assumption)).mono ?_; clear hpD; rintro _ w3 ⟨nm, rfl, hnm, hb3⟩; have hns : nm.size = 1 := bytes_size hnm)
          | (go_at_call 41; refine (hpB _ (by assumption)).mono ?_; clear hpB; rintro _ w4 ⟨rfl, hb4⟩)
          | (go_at_call 41; refine (hpC _ (by assumption)).mono ?_; clear hpC; rintro _ w5 ⟨rfl, hb5⟩))
      have hb6 : Below w.heap.size w w6 := ((hbel.trans (hb5.mono (by omega))).alloc (by have := hb5.size; omega) _).grown hgrow (by have := hb5.size; simp; omega) fun x hx => by have := (hltr x hx).1; omega
      have hs6 := hgrow.size
      have hs5 := hb5.size
      simp at hs6
      have htab6 : w6.heap[w.heap.size]? = some tblO := (hgrow.block _ (by simp; omega) (fun e => aT e.symm)).trans ((Below.heap_alloc _ _ _ (by omega)).trans ((hb5.block _ (by omega)).trans htab))
      have hnew : FewAt j ⟨⟨#[110]⟩ ++ nm, tx, q⟩ := ⟨hq8, htxt, p, hp3, by
        have h0 : Bytes nm [48 + (3 * j + p)] := hnm
        unfold Bytes at h0 ⊢
        simp [ByteArray.data_append, h0]⟩
      clear hgrow hat hcT hcall0 hnm hlt
      go_wp2
      go_roundw
      case rel =>
        refine ⟨j + 1, fs ++ [(⟨⟨#[110]⟩ ++ nm, tx, q⟩, ((r : Int) == 0))], hjl, by simp [hfs], by go_num, ?_, htab6, fun i f hi => ?_, hb6, by omega⟩
        · rw [List.flatMap_append]
          simpa [fcell] using hown1
        · rcases Nat.lt_or_ge i fs.length with hil | hil
          · rw [List.getElem?_append_left hil] at hi
            exact hat0 i f hi
          · rw [List.getElem?_append_right hil] at hi
            have h0 : i - fs.length = 0 := by
              rcases Nat.eq_zero_or_pos (i - fs.length) with h | h
              · exact h
              · rw [List.getElem?_eq_none (by simp; omega)] at hi; cases hi
            rw [h0] at hi
            have hij : i = j := by omega
            subst hij
            simp at hi
            subst hi
            exact hnew
      case measure => simp [intOf]; omega
    · have hje : j = N := by omega
      subst hje
      go_wp2_with (first
        | (go_at_call 41; refine hcall0.mono ?_; rintro _ w1 ⟨rfl, hb1⟩)
        | go_in)
      go_ret
      exact ⟨_, fs, rfl, by rw [hfs]; exact owns_base (owns_below hown hb1) (by omega), by omega, hat0, hbel.trans (hb1.mono (by omega))⟩
end Go.Proofs.YtopicmcaoeameaaGreatDoor
