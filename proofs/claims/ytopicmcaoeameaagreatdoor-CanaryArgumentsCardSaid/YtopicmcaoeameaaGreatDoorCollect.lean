/-
  The canary's collect, walked: the matches of a set in a text, by the rules' names.
-/
import Derived.Test.YtopicmcaoeameaaGreatDoorFound
import Derived.Test.YtopicmcaoeameaaGreatDoorSmap
import Derived.Maps.AppendAt
namespace Go.Proofs.YtopicmcaoeameaaGreatDoor
open Go Go.Ev Go.RowKit Go.Smap

theorem ms_len (F : Nat → FR) (n : Nat) : ∀ (d f : Nat), n + 1 - f ≤ d → ∀ l, ms F n f = .ok l → l.length ≤ d
  | d, f, hd, l, h => by
    rw [ms] at h
    split at h
    · rename_i hf
      split at h
      · cases h
      · split at h
        · cases d with
          | zero => omega
          | succ d =>
            cases hm : ms F n (max (f + 1) ((F f).s.toNat + 1)) with
            | error e => rw [hm] at h; cases h
            | ok l' =>
              rw [hm] at h
              cases h
              have := ms_len F n d _ (by omega) l' hm
              simpa using this
        · cases h; simp
    · cases h; simp
theorem fnd_facts (F : Nat → Nat → FR) (n : Nat) : ∀ (rs : List Rl) (i : Nat) (D : List (Int × Int × Int)), fnd F n i rs = .ok D → D.length ≤ rs.length * (n + 1) ∧ ∀ p ∈ D, ∃ j : Nat, p.1 = ((i + j : Nat) : Int) ∧ j < rs.length
  | [], i, D, h => by cases h; simp
  | r :: t, i, D, h => by
    have h' : (match ms (F r.k) n 0 with | .error e => .error e | .ok l => pre (l.map (tag i)) (fnd F n (i + 1) t)) = Except.ok D := h
    cases hm : ms (F r.k) n 0 with
    | error e => rw [hm] at h'; cases h'
    | ok l =>
      rw [hm] at h'
      cases ht : fnd F n (i + 1) t with
      | error e => rw [ht] at h'; cases h'
      | ok D' =>
        rw [ht] at h'
        cases h'
        obtain ⟨h1, h2⟩ := fnd_facts F n t (i + 1) D' ht
        have h3 := ms_len (F r.k) n (n + 1) 0 (by omega) l hm
        refine ⟨by simp only [List.length_append, List.length_map, List.length_cons, Nat.succ_mul]; omega, fun p hp => ?_⟩
        rcases List.mem_append.1 hp with hp | hp
        · obtain ⟨q, _, rfl⟩ := List.mem_map.1 hp
          exact ⟨0, by simp [tag], by simp⟩
        · obtain ⟨j, hj, hjl⟩ := h2 p hp
          exact ⟨j + 1, by rw [hj]; congr 1; omega, by simp; omega⟩
theorem ms_err (F : Nat → FR) (n : Nat) : ∀ (d f : Nat), n + 1 - f ≤ d → ∀ er, ms F n f = .error er → er ≠ 0
  | d, f, hd, er, h => by
    rw [ms] at h
    split at h
    · rename_i hf
      split at h
      · rename_i h0; cases h; exact h0
      · split at h
        · cases d with
          | zero => omega
          | succ d =>
            cases hm : ms F n (max (f + 1) ((F f).s.toNat + 1)) with
            | error e =>
              rw [hm] at h; cases h
              exact ms_err F n d _ (by omega) _ hm
            | ok l' => rw [hm] at h; cases h
        · cases h
    · cases h
theorem fnd_err (F : Nat → Nat → FR) (n : Nat) : ∀ (rs : List Rl) (i : Nat) (er : Int), fnd F n i rs = .error er → er ≠ 0
  | [], i, er, h => by cases h
  | r :: t, i, er, h => by
    have h' : (match ms (F r.k) n 0 with | .error e => .error e | .ok l => pre (l.map (tag i)) (fnd F n (i + 1) t)) = Except.error er := h
    cases hm : ms (F r.k) n 0 with
    | error e => rw [hm] at h'; cases h'; exact ms_err _ n (n + 1) 0 (by omega) _ hm
    | ok l =>
      rw [hm] at h'
      cases ht : fnd F n (i + 1) t with
      | error e => rw [ht] at h'; cases h'; exact fnd_err F n t (i + 1) _ ht
      | ok D' => rw [ht] at h'; cases h'
theorem SetAt.bel {M : Nat → Prop} {B lo hi b : Nat} {w w' : World} {rs : List Rl} (h : SetAt M lo hi w b rs) (hb : Bel M B w w') (hB : hi ≤ B) : SetAt M lo hi w' b rs := by
  obtain ⟨v, hv, h1, h2, hm, h3⟩ := h.set
  refine ⟨v, (hb.cell (p := ⟨b, 0, none⟩) (by show b < B; omega) hm).trans hv, h1, h2, hm, h3.imp id ?_⟩
  rintro ⟨ab, cap, rfl, a1, a2, am, hc⟩
  refine ⟨ab, cap, rfl, a1, a2, am, fun i r hr => ?_⟩
  obtain ⟨pb, k0, k1, k2, k3, hl⟩ := hc i r hr
  have hc' : ∀ o, w'.cell? ⟨ab, o, none⟩ = w.cell? ⟨ab, o, none⟩ := fun o => hb.cell (p := ⟨ab, o, none⟩) (by show ab < B; omega) am
  exact ⟨pb, (hc' _).trans k0, (hc' _).trans k1, (hc' _).trans k2, (hc' _).trans k3, hl.bel hb hB⟩
/-- the name of the rule i -/
def nameAt (rs : List Rl) (i : Int) : ByteArray := (rs[i.toNat]?.map Rl.name).getD ByteArray.empty
/-- what was found for a name -/
def grp (rs : List Rl) (D : List (Int × Int × Int)) (s : ByteArray) : List (Int × Int) := (D.filter fun p => decide (nameAt rs p.1 = s)).map (·.2)
def pcells (p : Int × Int) : List Value := [.int .i64 p.1, .int .i64 p.2]
abbrev nilS : Value := .slice none 0 0
/-- block B is a map that holds for each name a slice of its own of what was found for it -/
structure Groups (w : World) (B base n : Nat) (f : ByteArray → Option Value) (g : ByteArray → List (Int × Int)) : Prop where
  map : IsMap w B n f
  row : ∀ s, w.ownsRow base 112 2 ((f s).getD nilS) (g s).length ((g s).flatMap pcells)
  apart : ∀ s t, s ≠ t → ∀ q, ((f s).getD nilS).ownBlock = some q → ((f t).getD nilS).ownBlock ≠ some q
theorem groups_made (w : World) : Groups (w.alloc (.map #[] 0)) w.heap.size (w.heap.size + 1) 0 (fun _ => none) (fun _ => []) :=
  ⟨isMap_made w, fun _ => World.ownsRow_nil _ _ _ _, fun _ _ _ _ h => by cases h⟩
theorem Groups.alloc {w : World} {B base n : Nat} {f : ByteArray → Option Value} {g : ByteArray → List (Int × Int)} (h : Groups w B base n f g) (o : Obj) : Groups (w.alloc o) B base n f g :=
  ⟨h.map.alloc o, fun s => (h.row s).alloc o, h.apart⟩
theorem setBlock_other {w : World} {B : Nat} {o : Obj} {c : Nat} (h : c ≠ B) : (ChangeMaps.setBlock w B o).heap[c]? = w.heap[c]? := by
  simp only [ChangeMaps.setBlock, Array.getElem?_setIfInBounds]
  rw [if_neg (fun e => h e.symm)]
theorem owns_setBlock {w : World} {base : Nat} {e : TypeId} {size : Nat} {v : Value} {n : Nat} {xs : List Value} (h : w.ownsRow base e size v n xs) {B : Nat} (hne : v.ownBlock ≠ some B) (o : Obj) : (ChangeMaps.setBlock w B o).ownsRow base e size v n xs := by
  refine ⟨h.1, h.2.imp id ?_⟩
  rintro ⟨q, cap, cur, rfl, h2, h3, h4⟩
  exact ⟨q, cap, cur, rfl, h2, (setBlock_other (fun e' => hne (by rw [← e']; rfl))).trans h3, h4⟩
theorem below_setBlock {B c : Nat} {a w : World} (h : Below B a w) (hc : B ≤ c) (o : Obj) : Below B a (ChangeMaps.setBlock w c o) :=
  h.trans ⟨rfl, rfl, rfl, by simp [ChangeMaps.setBlock], fun k hk => setBlock_other (by omega)⟩
/-- one more match at a name: its slice appended to, and stored -/
theorem Groups.step {w w2 : World} {B base n : Nat} {f : ByteArray → Option Value} {g : ByteArray → List (Int × Int)} (h : Groups w B base n f g) (hB : B < base) {s : ByteArray} {v' : Value} {p : Int × Int} (hn : n < maxLen) (hs : s.size ≤ maxLen)
    (hown : w2.ownsRow base 112 2 v' ((g s).length + 1) ((g s).flatMap pcells ++ pcells p)) (hg : w.grownBy w2 ((f s).getD nilS).ownBlock) (hloc : v'.ownBlock = ((f s).getD nilS).ownBlock ∨ ∃ q, v'.ownBlock = some q ∧ w.heap.size ≤ q)
    {T K E : TypeId} {P : Program} (ht : P.underlying T = some (.map K E)) (hk : P.underlying K = some .string) :
    ∃ o, (Instr.mapUpdate T (.map (some B)) (.string s) v').run P w2 = .ok () (ChangeMaps.setBlock w2 B o) ∧
      Groups (ChangeMaps.setBlock w2 B o) B base (n + 1) (fun u => if u = s then some v' else f u) (fun u => if u = s then g s ++ [p] else g u) := by
  have hrowB : ∀ u q, ((f u).getD nilS).ownBlock = some q → base ≤ q ∧ q < w.heap.size := fun u q hq => World.ownsRow.lt (h.row u) q hq
  have hm2 : IsMap w2 B n f := h.map.same (hg.block B h.map.lt (fun e => by have := (hrowB s B e.symm).1; omega))
  obtain ⟨o, hrun, hmap⟩ := hm2.update hn ht hk hs v'
  have hvB : v'.ownBlock ≠ some B := fun e => by have := (World.ownsRow.lt hown B e).1; omega
  refine ⟨o, hrun, hmap, fun u => ?_, fun u t hut q hq hq' => ?_⟩
  · by_cases e : u = s
    · simp only [if_pos e, Option.getD_some, List.length_append, List.length_singleton, List.flatMap_append, List.flatMap_singleton]
      exact owns_setBlock hown hvB o
    · simp only [if_neg e]
      have hne : ((f u).getD nilS).ownBlock = none ∨ ((f u).getD nilS).ownBlock ≠ ((f s).getD nilS).ownBlock := by
        cases hq : ((f u).getD nilS).ownBlock with
        | none => exact .inl rfl
        | some q => exact .inr (fun e' => h.apart u s e q hq e'.symm)
      exact owns_setBlock ((h.row u).kept hg hne) (fun e' => by have := (hrowB u B e').1; omega) o
  · by_cases e : u = s
    · have et : t ≠ s := fun e' => hut (e.trans e'.symm)
      simp only [if_pos e, if_neg et, Option.getD_some] at hq hq'
      rcases hloc with hl | ⟨q', hl, hge⟩
      · exact h.apart s t (fun e' => et e'.symm) q (hl.symm.trans hq) hq'
      · rw [hl] at hq
        cases hq
        have := (hrowB t _ hq').2
        omega
    · by_cases et : t = s
      · simp only [if_neg e, if_pos et, Option.getD_some] at hq hq'
        rcases hloc with hl | ⟨q', hl, hge⟩
        · exact h.apart u s e q hq (hl.symm.trans hq')
        · rw [hl] at hq'
          cases hq'
          have := (hrowB u _ hq).2
          omega
      · simp only [if_neg e, if_neg et] at hq hq'
        exact h.apart u t hut q hq hq'
theorem flat_at {α : Type} (c : α → List Value) (m : Nat) (hm : ∀ a, (c a).length = m) : ∀ (D : List α) (j : Nat) (h : j < D.length) (i : Nat), i < m → (D.flatMap c)[j * m + i]? = (c D[j])[i]?
  | a :: t, 0, _, i, hi => by
    rw [List.flatMap_cons, List.getElem?_append_left (by rw [hm]; omega)]
    simp
  | a :: t, j + 1, h, i, hi => by
    have e : (j + 1) * m + i = (c a).length + (j * m + i) := by rw [hm, Nat.succ_mul]; omega
    rw [List.flatMap_cons, e, List.getElem?_append_right (by omega), Nat.add_sub_cancel_left]
    exact flat_at c m hm t j (by simpa using h) i hi
theorem grp_step (rs : List Rl) (D : List (Int × Int × Int)) {j q : Nat} (hj : j < D.length) {a b : Int} (hp : D[j] = ((q : Int), a, b)) (hq : q < rs.length) :
    grp rs (D.take (j + 1)) = fun u => if u = rs[q].name then grp rs (D.take j) rs[q].name ++ [(a, b)] else grp rs (D.take j) u := by
  funext u
  have hn : nameAt rs (q : Int) = rs[q].name := by simp [nameAt, hq]
  simp only [grp, List.take_succ_eq_append_getElem hj, List.filter_append, List.map_append, hp]
  by_cases e : u = rs[q].name
  · subst e; simp [hn]
  · rw [if_neg e]
    have : ¬ rs[q].name = u := fun e' => e e'.symm
    simp [hn, this]
theorem info112 : (Tryz.prog.info? 112).map (fun i => (i.zero, i.size, i.bytes)) = some (some (.agg #[.int .i64 0, .int .i64 0]), 2, 16) := by kernel_rfl
theorem zero82 (w : World) : (zeroValue 82).run Tryz.prog w = .ok (.slice none 0 0) w := by kernel_rfl
/-- what collect leaves -/
def collectPost (w w' : World) (e : Ending) (rs : List Rl) : Except Int (List (Int × Int × Int)) → Prop
  | .error er => e = .returned (.tuple #[.map none, .int .i64 er])
  | .ok D => ∃ B f, e = .returned (.tuple #[.map (some B), .int .i64 0]) ∧ w.heap.size ≤ B ∧ Groups w' B (B + 1) D.length f (grp rs D)
theorem owns_shape {w : World} {base : Nat} {e : TypeId} {size : Nat} {v : Value} {n : Nat} {xs : List Value} (h : w.ownsRow base e size v n xs) : ∃ a c, v = .slice a n c ∧ (n ≠ 0 → ∃ g, a = some ⟨g, 0, none⟩) := by
  rcases h.2 with ⟨rfl, rfl⟩ | ⟨g, cap, cur, rfl, _⟩
  · exact ⟨none, 0, rfl, fun h => absurd rfl h⟩
  · exact ⟨_, _, rfl, fun _ => ⟨g, rfl⟩⟩
set_option maxRecDepth 1000000 in
theorem collect_walk {M : Nat → Prop} {lo hi b bt bf : Nat} {w : World} {rs : List Rl} (hMw : ∀ k, M k → k < w.heap.size) (hs : SetAt M lo hi w b rs) (hhi : hi ≤ w.heap.size) (hn : rs.length ≤ 100) (hnm : ∀ r ∈ rs, r.name.size ≤ maxLen) {ta : Option Addr} {n tc : Nat} (hn2 : n ≤ 1000) {fuel : Int} {F : Nat → Nat → FR}
    (hF : FirstOf M lo hi w (.slice ta n tc) n fuel F rs) (ht : w.cell? ⟨bt, 0, none⟩ = some (.slice ta n tc)) (hf : w.cell? ⟨bf, 0, none⟩ = some (.int .i64 fuel)) :
    Calls Tryz.prog 42 #[.pointer (some ⟨b, 0, none⟩), .pointer (some ⟨bt, 0, none⟩), .pointer (some ⟨bf, 0, none⟩)] w fun e w' => Bel M w.heap.size w w' ∧ collectPost w w' e rs (fnd F n 0 rs) := by
  have hmm := @run_makeMap Tryz.prog
  obtain ⟨X, hX⟩ : ∃ X, fnd F n 0 rs = X := ⟨_, rfl⟩
  have hfw := found_walk hMw hs hhi hn hn2 hF
  rw [hX] at hfw ⊢
  have hX' : Hid (fnd F n 0 rs = X) := hX
  clear hX
  go_enter Tryz.func42, Tryz.ntmps42
  cases X with
  | error er =>
    have her : er ≠ 0 := fnd_err _ _ _ _ _ hX'.out
    go_wp2_with (first
      | (go_at_call 16; refine hfw.mono ?_; rintro _ w1 ⟨hb1, rfl⟩)
      | go_in)
    go_ret2
    exact ⟨hb1, rfl⟩
  | ok D =>
    go_wp2_with (first
      | (go_at_call 16; refine hfw.mono ?_; rintro _ w1 ⟨hb1, v, rfl, hown⟩; obtain ⟨fa, fc, rfl, hfa⟩ := owns_shape hown; have hs1 : SetAt M lo hi w1 b rs := hs.bel hb1 hhi)
      | (go_at_call 23; refine (rules_walk hs1 (Nat.le_trans hhi hb1.size) hn).mono ?_; rintro _ w2 ⟨u, rfl, hownr, hb2⟩; obtain ⟨ra, rc, rfl, hra⟩ := owns_shape hownr)
      | go_in)
    obtain ⟨hDl, hDm⟩ := fnd_facts F n rs 0 D hX'.out
    have hDb : D.length ≤ 100 * 1001 := Nat.le_trans hDl (Nat.mul_le_mul hn (by omega))
    obtain ⟨i0, hinf, hz0, hz1, hz2⟩ := info_parts info112
    have hsz1 := hb1.size
    have hsz2 := hb2.size
    have hlt1 := World.ownsRow.lt hown
    have hlt2 := World.ownsRow.lt hownr
    go_loopw [28] (fun i wr => ∃ (j : Nat) (f : ByteArray → Option Value), j ≤ D.length ∧ i = .int .i64 j ∧ Groups wr w2.heap.size (w2.heap.size + 1) j f (grp rs (D.take j)) ∧ wr.ownsRow w.heap.size 88 3 (.slice fa D.length fc) D.length (D.flatMap fcells) ∧
      wr.ownsRow w1.heap.size 62 3 (.slice ra rs.length rc) rs.length (rs.flatMap Rl.cells) ∧ Below w2.heap.size w2 wr ∧ w2.heap.size + 1 ≤ wr.heap.size) (fun i _ => D.length - (intOf i).toNat)
    case atStart => exact ⟨0, fun _ => none, Nat.zero_le _, rfl, groups_made w2, (owns_below hown hb2).alloc _, hownr.alloc _, (Below.refl _ _).alloc (Nat.le_refl _) _, by simp⟩
    case round =>
      obtain ⟨j, f, hj, rfl, hG, ho1, ho2, hbel, hws⟩ := hrel
      by_cases hjl : j < D.length
      · obtain ⟨q, hpq, hq⟩ := hDm _ (List.getElem_mem hjl)
        obtain ⟨g, rfl⟩ := hfa (by omega)
        obtain ⟨g', rfl⟩ := hra (by omega)
        obtain ⟨ps, pe, hp⟩ : ∃ ps pe, D[j] = ((q : Int), ps, pe) := ⟨D[j].2.1, D[j].2.2, by rw [← (show D[j].1 = (q : Int) by simpa using hpq)]⟩
        clear hpq
        have hcell : ∀ i, i < 3 → wr.cell? ⟨g, j * 3 + i, none⟩ = (fcells D[j])[i]? := fun i hi => by
          rw [ho1.cellAt _ (by have := Nat.mul_le_mul_right 3 (Nat.succ_le_of_lt hjl); omega), flat_at fcells 3 (fun _ => rfl) D j hjl i hi]
        have c0 : wr.cell? ⟨g, j * 3, none⟩ = some (.int .i64 q) := by have := hcell 0 (by omega); rw [hp] at this; exact this
        have c1 : wr.cell? ⟨g, j * 3 + 1, none⟩ = some (.int .i64 ps) := by have := hcell 1 (by omega); rw [hp] at this; exact this
        have c2 : wr.cell? ⟨g, j * 3 + 2, none⟩ = some (.int .i64 pe) := by have := hcell 2 (by omega); rw [hp] at this; exact this
        clear hcell
        have hgs := grp_step rs D hjl hp hq
        have HP : Hid (D[j] = ((q : Int), ps, pe)) := hp
        clear hp
        have d0 : wr.cell? ⟨g', q * 3, none⟩ = some (.string rs[q].name) := by
          rw [ho2.cellAt _ (by have := Nat.mul_le_mul_right 3 (Nat.succ_le_of_lt hq); omega)]
          have := flat_at Rl.cells 3 (fun _ => rfl) rs q hq 0 (by omega)
          simpa [Rl.cells] using this
        have hnml := hnm rs[q] (List.getElem_mem hq)
        obtain ⟨nm, hnme⟩ : ∃ s, rs[q].name = s := ⟨_, rfl⟩
        rw [hnme] at d0 hgs hnml
        have HN : Hid (rs[q].name = nm) := hnme
        clear hnme
        have HGS : Hid (grp rs (D.take (j + 1)) = fun u => if u = nm then grp rs (D.take j) nm ++ [(ps, pe)] else grp rs (D.take j) u) := hgs
        clear hgs
        have d1 : ∀ o, (wr.alloc o).cell? ⟨g', q * 3, none⟩ = some (.string nm) := fun o => (World.cell?_alloc_lt wr o ⟨g', q * 3, none⟩ (World.ownsRow.lt ho2 g' rfl).2).trans d0
        obtain ⟨v0, hv0⟩ : ∃ v0, (f nm).getD nilS = v0 := ⟨_, rfl⟩
        have hlk : ∀ o, (Instr.lookup 111 (.map (some w2.heap.size)) (.string nm) false).run Tryz.prog (wr.alloc o) = .ok v0 (wr.alloc o) := fun o => by
          rw [(hG.map.alloc o).lookup Tryz.underlying111 Tryz.underlying9 (zero82 _) hnml, hv0]
        have hrow : wr.ownsRow (w2.heap.size + 1) 112 2 v0 (grp rs (D.take j) nm).length ((grp rs (D.take j) nm).flatMap pcells) := by rw [← hv0]; exact hG.row nm
        have hgl : (grp rs (D.take j) nm).length ≤ j := by
          refine Nat.le_trans (Nat.le_of_eq (List.length_map ..)) (Nat.le_trans (List.length_filter_le _ _) ?_)
          rw [List.length_take]; omega
        obtain ⟨va, vc, rfl, _⟩ := owns_shape hrow
        have HV : Hid ((f nm).getD nilS = .slice va (grp rs (D.take j) nm).length vc) := hv0
        clear hv0
        go_wp2_with (first
          | (at_builtin; refine wpList_append_own_at _ rfl _ _ 82 rfl (w2.heap.size + 1) 112 i0 _ 2 16 Tryz.underlying82 hinf hz0 hz1 hz2 rfl (by decide) _ _ _ rfl ((hrow.alloc _).alloc _) ⟨wr.heap.size + 1, 0, none⟩ 1 1 [.int .i64 ps, .int .i64 pe] rfl rfl ?c1 ?c2 ?c3 ?c4 ?c5 ?_)
          | go_in)
        case c1 =>
          intro l u hl
          exact new_cells (wr.alloc _) _ 112 rfl (by simp) hl
        case c2 => intro u hu; simp at hu; rcases hu with rfl | rfl <;> rfl
        case c3 => unfold maxLen; omega
        case c4 => omega
        case c5 => simp; omega
        · intro v' w3 hown3 hgrow _ hloc
          have hb3 := World.ownsRow.lt hrow
          obtain ⟨o, hrun, hG'⟩ := Groups.step (p := (ps, pe)) ((hG.alloc _).alloc _) (by omega) (by unfold maxLen; omega) hnml hown3 (by rw [HV.out]; exact hgrow) (by rw [HV.out]; exact hloc.imp id fun h => ⟨_, h, by simp⟩) Tryz.underlying111 Tryz.underlying9
          rw [← HGS.out] at hG'
          have hg1 := (hlt1 g rfl).2
          have hg2 := (hlt2 g' rfl).2
          have k1 := owns_setBlock (((ho1.alloc _).alloc _).kept hgrow (.inr (fun e => by have := (hb3 g e.symm).1; omega))) (B := w2.heap.size) (fun e => by have e' : g = w2.heap.size := Option.some.inj e; omega) o
          have k2 := owns_setBlock (((ho2.alloc _).alloc _).kept hgrow (.inr (fun e => by have := (hb3 g' e.symm).1; omega))) (B := w2.heap.size) (fun e => by have e' : g' = w2.heap.size := Option.some.inj e; omega) o
          have k3 : Below w2.heap.size w2 (ChangeMaps.setBlock w3 w2.heap.size o) :=
            below_setBlock ((((hbel.alloc (by omega) _).alloc (by simp; omega) _)).grown hgrow (by simp; omega) (fun x hx => by have := (hb3 x hx).1; omega)) (Nat.le_refl _) o
          have k4 : w2.heap.size + 1 ≤ (ChangeMaps.setBlock w3 w2.heap.size o).heap.size := by
            have := hgrow.size
            simp [ChangeMaps.setBlock] at this ⊢
            omega
          clear hgrow hown3 hloc hG hrow ho1 ho2
          go_wp2
          go_roundw
          case rel => exact ⟨j + 1, _, hjl, by go_num, hG', k1, k2, k3, k4⟩
          case measure => simp [intOf]; omega
      · have hje : j = D.length := by omega
        subst hje
        go_wp2_with fail
        go_ret2
        refine ⟨hb1.trans (.of ((hb2.mono hsz1).trans (hbel.mono (by omega)))), w2.heap.size, f, rfl, by omega, ?_⟩
        simpa using hG
end Go.Proofs.YtopicmcaoeameaaGreatDoor
