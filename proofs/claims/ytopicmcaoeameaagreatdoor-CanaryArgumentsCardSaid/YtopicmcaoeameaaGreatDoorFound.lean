/-
  (*Set).Found, walked: what First says of each rule, one match after the other.
-/
import Derived.Test.YtopicmcaoeameaaGreatDoorRules
namespace Go.Proofs.YtopicmcaoeameaaGreatDoor
open Go Go.Ev Go.RowKit

/-- what First gives -/
structure FR where
  s : Int
  e : Int
  ok : Bool
  err : Int
def pre {α : Type} (A : List α) : Except Int (List α) → Except Int (List α)
  | .error e => .error e
  | .ok l => .ok (A ++ l)
theorem pre_nil {α : Type} (x : Except Int (List α)) : pre [] x = x := by cases x <;> rfl
theorem pre_pre {α : Type} (A B : List α) (x : Except Int (List α)) : pre A (pre B x) = pre (A ++ B) x := by cases x <;> simp [pre]
/-- the matches of one rule from a position on -/
def ms (F : Nat → FR) (n from' : Nat) : Except Int (List (Int × Int)) :=
  if from' ≤ n then
    if (F from').err ≠ 0 then .error (F from').err
    else if (F from').ok = true then pre [((F from').s, (F from').e)] (ms F n (max (from' + 1) ((F from').s.toNat + 1))) else .ok []
  else .ok []
termination_by n + 1 - from'
def tag (i : Nat) (p : Int × Int) : Int × Int × Int := ((i : Int), p.1, p.2)
/-- the matches of the rules, the first one's number being i -/
def fnd (F : Nat → Nat → FR) (n : Nat) : Nat → List Rl → Except Int (List (Int × Int × Int))
  | _, [] => .ok []
  | i, r :: t => match ms (F r.k) n 0 with
    | .error e => .error e
    | .ok l => pre (l.map (tag i)) (fnd F n (i + 1) t)
def fcells (p : Int × Int × Int) : List Value := [.int .i64 p.1, .int .i64 p.2.1, .int .i64 p.2.2]
theorem owns_below {w w1 : World} {base : Nat} {e : TypeId} {size : Nat} {v : Value} {n : Nat} {xs : List Value} (h : w.ownsRow base e size v n xs) (hb : Below w.heap.size w w1) : w1.ownsRow base e size v n xs := by
  refine ⟨h.1, h.2.imp id ?_⟩
  rintro ⟨g, cap, cur, h1, h2, h3, h4⟩
  exact ⟨g, cap, cur, h1, h2, (hb.block g (Array.getElem?_eq_some_iff.1 h3).1).trans h3, h4⟩
theorem not_row {w : World} {base : Nat} {e : TypeId} {size : Nat} {v : Value} {n : Nat} {xs : List Value} (h : w.ownsRow base e size v n xs) {B : Nat} {cs : Array Value} {t : TypeId} {fr : Nat × Nat} (hB : w.heap[B]? = some (.cells cs t fr)) (ht : t ≠ e) : some B ≠ v.ownBlock := by
  rcases h.2 with ⟨rfl, _⟩ | ⟨g, cap, cur, rfl, _, h3, _⟩
  · intro h; cases h
  · intro hg
    cases hg
    rw [hB] at h3
    cases h3
    exact ht rfl
/-- what First is known to do, in every later world -/
def FirstOf (M : Nat → Prop) (lo hi : Nat) (w : World) (t : Value) (n : Nat) (fuel : Int) (F : Nat → Nat → FR) (rs : List Rl) : Prop :=
  ∀ w1, Bel M w.heap.size w w1 → ∀ r ∈ rs, ∀ pb, LaidM M r.k lo hi w1 pb → ∀ from' : Nat, from' ≤ n → ((F r.k from').err = 0 → (F r.k from').ok = true → (from' : Int) ≤ (F r.k from').s ∧ (F r.k from').s ≤ n) ∧
    Calls Tryz.prog 30 #[.pointer (some ⟨pb, 0, none⟩), t, .int .i64 from', .int .i64 fuel] w1 fun e w2 =>
      ∃ ca cm cc, e = .returned (.tuple #[.agg #[.int .i64 (F r.k from').s, .int .i64 (F r.k from').e, .slice ca cm cc], .bool (F r.k from').ok, .int .i64 (F r.k from').err]) ∧ Bel M w1.heap.size w1 w2
theorem FirstOf.later {M : Nat → Prop} {lo hi : Nat} {w w1 : World} {t : Value} {n : Nat} {fuel : Int} {F : Nat → Nat → FR} {rs : List Rl} (h : FirstOf M lo hi w t n fuel F rs) (hb : Bel M w.heap.size w w1) : FirstOf M lo hi w1 t n fuel F rs :=
  fun w2 hw2 => h w2 (hb.trans (hw2.mono hb.size))
theorem info88 : (Tryz.prog.info? 88).map (fun i => (i.zero, i.size, i.bytes)) = some (some (.agg #[.int .i64 0, .int .i64 0, .int .i64 0]), 3, 24) := by kernel_rfl
theorem fnd_next {F : Nat → Nat → FR} {n k : Nat} {rs : List Rl} {D : List (Int × Int × Int)} {A : List (Int × Int)} {X : Except Int (List (Int × Int × Int))} (hkl : k < rs.length) (h : X = pre D (fnd F n k (rs.drop k)))
    (hm : ms (F rs[k].k) n 0 = .ok A) : X = pre (D ++ A.map (tag k)) (fnd F n (k + 1) (rs.drop (k + 1))) := by
  rw [h, List.drop_eq_getElem_cons hkl]
  show pre D (match ms (F rs[k].k) n 0 with | .error e => .error e | .ok l => pre (l.map (tag k)) (fnd F n (k + 1) (rs.drop (k + 1)))) = _
  rw [hm]
  exact pre_pre _ _ _
theorem ms_end {F : Nat → FR} {n f : Nat} {A : List (Int × Int)} (h : ms F n 0 = pre A (ms F n f)) (hf : ¬ f ≤ n) : ms F n 0 = .ok A := by
  rw [h, ms, if_neg hf]; simp [pre]
theorem ms_stop {F : Nat → FR} {n f : Nat} {A : List (Int × Int)} (h : ms F n 0 = pre A (ms F n f)) (hf : f ≤ n) (h1 : (F f).err = 0) (h2 : (F f).ok = false) : ms F n 0 = .ok A := by
  rw [h, ms, if_pos hf, if_neg (by simp [h1]), if_neg (by simp [h2])]; simp [pre]
theorem ms_more {F : Nat → FR} {n f m : Nat} {e : Int} {A : List (Int × Int)} (h : ms F n 0 = pre A (ms F n f)) (hf : f ≤ n) (h1 : F f = ⟨(m : Int), e, true, 0⟩) (hm : f ≤ m) : ms F n 0 = pre (A ++ [((m : Int), e)]) (ms F n (m + 1)) := by
  rw [h, ms, if_pos hf, if_neg (by simp [h1]), if_pos (by simp [h1]), pre_pre, h1]
  have : max (f + 1) ((m : Int).toNat + 1) = m + 1 := by simp; omega
  rw [this]
theorem ms_fail {F : Nat → FR} {n f : Nat} {A : List (Int × Int)} (h : ms F n 0 = pre A (ms F n f)) (hf : f ≤ n) (h1 : (F f).err ≠ 0) : ms F n 0 = .error (F f).err := by
  rw [h, ms, if_pos hf, if_pos h1]; rfl
/-- what Found leaves: an error, or the matches in new memory -/
def foundPost (w w' : World) (e : Ending) : Except Int (List (Int × Int × Int)) → Prop
  | .error er => e = .returned (.tuple #[.slice none 0 0, .int .i64 er])
  | .ok l => ∃ v, e = .returned (.tuple #[v, .int .i64 0]) ∧ w'.ownsRow w.heap.size 88 3 v l.length (l.flatMap fcells)
set_option maxRecDepth 1000000 in
theorem found_walk {M : Nat → Prop} {lo hi b : Nat} {w : World} {rs : List Rl} (hMw : ∀ k, M k → k < w.heap.size) (hs : SetAt M lo hi w b rs) (hhi : hi ≤ w.heap.size) (hn : rs.length ≤ 100) {ta : Option Addr} {n tc : Nat} (hn2 : n ≤ 1000) {fuel : Int} {F : Nat → Nat → FR}
    (hF : FirstOf M lo hi w (.slice ta n tc) n fuel F rs) :
    Calls Tryz.prog 16 #[.pointer (some ⟨b, 0, none⟩), .slice ta n tc, .int .i64 fuel] w fun e w' => Bel M w.heap.size w w' ∧ foundPost w w' e (fnd F n 0 rs) := by
  obtain ⟨X, hX⟩ : ∃ X, fnd F n 0 rs = X := ⟨_, rfl⟩
  rw [hX]
  have hX' : Hid (fnd F n 0 rs = X) := hX
  clear hX
  obtain ⟨v, hv, hb1, hb2, hbm, hrest⟩ := hs.set
  obtain ⟨i0, hinf, hz0, hz1, hz2⟩ := info_parts info88
  rcases hrest with ⟨rfl, rfl⟩ | ⟨ab, cap, rfl, ha1, ha2, ham, hc⟩
  · go_enter Tryz.func16, Tryz.ntmps16
    go_wp2
    refine wp_loop_rounds 1 ?_
    rw [rounds_succ]
    go_wp2
    go_ret2
    have hx : X = .ok [] := hX'.out.symm.trans rfl
    rw [hx]
    exact ⟨Bel.refl _ _ _, _, rfl, World.ownsRow_nil _ _ _ _⟩
  · go_enter Tryz.func16, Tryz.ntmps16
    go_wp2
    go_loopw [8, 20] (fun v i wr => ∃ (k : Nat) (D : List (Int × Int × Int)), k ≤ rs.length ∧ i = .int .i64 k ∧ wr.ownsRow w.heap.size 88 3 v D.length (D.flatMap fcells) ∧ Bel M w.heap.size w wr ∧ D.length ≤ k * (n + 1) ∧ Hid (X = pre D (fnd F n k (rs.drop k)))) (fun _ i _ => rs.length - (intOf i).toNat)
    case atStart => exact ⟨0, [], Nat.zero_le _, rfl, World.ownsRow_nil _ _ _ _, Bel.refl _ _ _, by simp, by rw [pre_nil]; exact hX'.out.symm⟩
    case round =>
      obtain ⟨k, D, hk, rfl, hown, hbel, hD, hfnd⟩ := hrel
      rename World => wo
      by_cases hkl : k < rs.length
      · obtain ⟨pb, c0, c1, c2, c3, hlaid⟩ := hc k rs[k] (List.getElem?_eq_getElem hkl)
        have hab : ab < w.heap.size := by omega
        have c0' := (hbel.cell (p := ⟨ab, k * 4, none⟩) hab ham).trans c0
        have c1' := (hbel.cell (p := ⟨ab, k * 4 + 1, none⟩) hab ham).trans c1
        have c2' := (hbel.cell (p := ⟨ab, k * 4 + 2, none⟩) hab ham).trans c2
        have c3' := (hbel.cell (p := ⟨ab, k * 4 + 3, none⟩) hab ham).trans c3
        go_wp2_with fail
        go_loopw [8, 11] (fun v i wi => ∃ (f : Nat) (A : List (Int × Int)), f ≤ n + 1 ∧ i = .int .i64 f ∧ wi.ownsRow w.heap.size 88 3 v (D.length + A.length) ((D ++ A.map (tag k)).flatMap fcells) ∧ Bel M w.heap.size w wi ∧
          wi.heap[wo.heap.size]? = some (.cells #[.string rs[k].name, .string rs[k].text, .bool false, .pointer (some ⟨pb, 0, none⟩)] 81 (0, 0)) ∧ A.length ≤ f ∧ Hid (ms (F rs[k].k) n 0 = pre A (ms (F rs[k].k) n f))) (fun _ i _ => n + 1 - (intOf i).toNat)
        case atStart => exact ⟨0, [], by omega, rfl, by simpa using hown.alloc _, hbel.alloc hbel.size _, heap_alloc_new _ _, by simp, by rw [pre_nil]; rfl⟩
        case round =>
          obtain ⟨f, A, hfn, rfl, hown', hbel', hblk, hA, hms⟩ := hrel
          have q3 : wr.cell? ⟨wo.heap.size, 3, none⟩ = some (.pointer (some ⟨pb, 0, none⟩)) := by simp [World.cell?, hblk]
          by_cases hfl : f ≤ n
          · have hr := hF wr hbel' rs[k] (List.getElem_mem hkl) pb (hlaid.bel hbel' hhi) f hfl
            obtain ⟨R, hR⟩ : ∃ R, F rs[k].k f = R := ⟨_, rfl⟩
            rw [hR] at hr
            obtain ⟨hbd, hcall⟩ := hr
            obtain ⟨s, e, ok, er⟩ := R
            simp only at hbd hcall
            by_cases her : er = 0
            · subst her
              cases ok with
              | false =>
                have hm2 : Hid (ms (F rs[k].k) n 0 = .ok A) := ms_stop hms.out hfl (by rw [hR]) (by rw [hR])
                clear hR hbd
                go_wp2_with (first | (go_at_call 30; refine hcall.mono ?_; rintro _ w1 ⟨ca, cm, cc, rfl, hb1⟩) | go_in)
                go_roundw
                case rel =>
                  refine ⟨k + 1, D ++ A.map (tag k), hkl, by go_num, by simpa using (owns_bel hown' hb1 hMw).alloc _, hbel'.trans ((hb1.mono hbel'.size).alloc (Nat.le_trans hbel'.size hb1.size) _), ?_, fnd_next hkl hfnd.out hm2.out⟩
                  simp only [List.length_append, List.length_map, Nat.succ_mul, Nat.add_mul] at *
                  omega
                case measure => simp [intOf]; omega
              | true =>
                obtain ⟨m, rfl⟩ : ∃ m : Nat, s = m := Int.eq_ofNat_of_zero_le (by have := (hbd rfl rfl).1; omega)
                have hm1 : f ≤ m := by have := (hbd rfl rfl).1; omega
                have hm3 : m ≤ n := by have := (hbd rfl rfl).2; omega
                have hm2 : Hid (ms (F rs[k].k) n 0 = pre (A ++ [((m : Int), e)]) (ms (F rs[k].k) n (m + 1))) := ms_more hms.out hfl hR hm1
                clear hR hbd
                have hDA : D.length + A.length ≤ 102 * 1001 := by
                  have : k * (n + 1) ≤ 100 * 1001 := Nat.mul_le_mul (by omega) (by omega)
                  omega
                go_wp2_with (first
                  | (go_at_call 30; refine hcall.mono ?_; rintro _ w1 ⟨ca, cm, cc, rfl, hb1⟩)
                  | (at_builtin; refine wpList_append_own _ rfl _ _ 43 rfl w.heap.size 88 i0 _ 3 24 Tryz.underlying43 hinf hz0 hz1 hz2 rfl (by decide) _ _ _ rfl (((owns_bel hown' hb1 hMw).alloc _).alloc _) ⟨w1.heap.size + 1, 0, none⟩ 1 1 [.int .i64 k, .int .i64 m, .int .i64 e] rfl rfl ?c1 ?c2 ?c3 ?c4 ?c5 ?_)
                  | go_in)
                case c1 =>
                  intro j u hj
                  exact new_cells (w1.alloc _) _ 88 rfl (by simp) hj
                case c2 => intro u hu; simp at hu; rcases hu with rfl | rfl | rfl <;> rfl
                case c3 => unfold maxLen; omega
                case c4 => omega
                case c5 => have := hbel'.size; have := hb1.size; simp; omega
                · intro v' w2 hown2 hgrow _
                  have hlt8 := World.ownsRow.lt hown'
                  have hsz1 := hb1.size
                  have hM : w2.heap[w1.heap.size]? = some (.cells #[.int .i64 m, .int .i64 e, .slice ca cm cc] 84 (0, 0)) :=
                    (hgrow.block _ (by simp; omega) (fun e' => by have := (hlt8 _ e'.symm).2; omega)).trans ((heap_alloc_old _ _ (by simp)).trans (heap_alloc_new _ _))
                  have hwo : wo.heap.size < wr.heap.size := (Array.getElem?_eq_some_iff.1 hblk).1
                  have hblk2 : w2.heap[wo.heap.size]? = some (.cells #[.string rs[k].name, .string rs[k].text, .bool false, .pointer (some ⟨pb, 0, none⟩)] 81 (0, 0)) :=
                    (hgrow.block _ (by simp; omega) (not_row hown' hblk (by decide))).trans ((heap_alloc_old _ _ (by simp; omega)).trans ((heap_alloc_old _ _ (by omega)).trans ((hb1.block _ hwo (fun e => by have := hMw _ e; have := hbel.size; omega)).trans hblk)))
                  have q4 : w2.cell? ⟨w1.heap.size, 0, none⟩ = some (.int .i64 m) := by simp [World.cell?, hM]
                  have hbel2 : Bel M w.heap.size w w2 :=
                    ((((hbel'.trans (hb1.mono hbel'.size)).alloc (Nat.le_trans hbel'.size hb1.size) _).alloc (by simp; exact Nat.le_succ_of_le (Nat.le_trans hbel'.size hb1.size)) _)).grown hgrow (by simp; have := hbel'.size; omega) (fun g hg => (hlt8 g hg).1)
                  have e1 : D.length + (A ++ [((m : Int), e)]).length = D.length + A.length + 1 := by simp; omega
                  have e2 : (D ++ (A ++ [((m : Int), e)]).map (tag k)).flatMap fcells = D.flatMap fcells ++ ((A.map (tag k)).flatMap fcells ++ [.int .i64 k, .int .i64 m, .int .i64 e]) := by simp [tag, fcells]
                  rw [← e1, ← e2] at hown2
                  clear hgrow hM e1 e2 hown' hlt8
                  go_wp2
                  go_roundw
                  case rel => exact ⟨m + 1, A ++ [((m : Int), e)], by omega, by go_num, hown2, hbel2, hblk2, by simp; omega, hm2⟩
                  case measure => simp [intOf]; omega
            · have hm2 : Hid (ms (F rs[k].k) n 0 = .error er) := by have := ms_fail hms.out hfl (by rw [hR]; exact her); rw [hR] at this; exact this
              clear hR hbd
              go_wp2_with (first | (go_at_call 30; refine hcall.mono ?_; rintro _ w1 ⟨ca, cm, cc, rfl, hb1⟩) | go_in)
              go_ret2
              have hx : X = .error er := by
                rw [hfnd.out, List.drop_eq_getElem_cons hkl]
                show pre D (match ms (F rs[k].k) n 0 with | .error e => .error e | .ok l => pre (l.map (tag k)) (fnd F n (k + 1) (rs.drop (k + 1)))) = _
                rw [hm2.out]
                rfl
              rw [hx]
              exact ⟨hbel'.trans ((hb1.mono hbel'.size).alloc (Nat.le_trans hbel'.size hb1.size) _), rfl⟩
          · have hm2 : Hid (ms (F rs[k].k) n 0 = .ok A) := ms_end hms.out hfl
            go_wp2_with fail
            go_roundw
            case rel =>
              refine ⟨k + 1, D ++ A.map (tag k), hkl, by go_num, by simpa using hown', hbel', ?_, fnd_next hkl hfnd.out hm2.out⟩
              simp only [List.length_append, List.length_map, Nat.succ_mul, Nat.add_mul] at *
              omega
            case measure => simp [intOf]; omega
      · have hke : k = rs.length := by omega
        subst hke
        go_wp2
        go_ret2
        have hx : X = .ok D := by rw [hfnd.out]; simp [fnd, pre]
        rw [hx]
        exact ⟨hbel, _, rfl, hown⟩
end Go.Proofs.YtopicmcaoeameaaGreatDoor
