/-
  own and Compile, walked: the set of rules whose texts are of the list.
-/
import Derived.Test.YtopicmcaoeameaaGreatDoorNew
import Derived.Test.YtopicmcaoeameaaGreatDoorWords
import Derived.Deep.RegionHeld3
import Derived.Deep.AppendLies
import Derived.Deep.RegionLaw
namespace Go.Proofs.YtopicmcaoeameaaGreatDoor
open Go Go.Ev Go.RowKit Go.Smap

/-- rules that compile -/
structure Good (rs : List Rl) : Prop where
  len : rs.length ≤ 100
  nodup : (rs.map Rl.name).Nodup
  each : ∀ r ∈ rs, r.k < 12 ∧ Txt r.k r.text ∧ IsName r.name ∧ r.name.size ≤ maxLen
/-- a compiled rule: where its plan is, and the blocks that it lies in -/
structure It where
  r : Rl
  pb : Nat
  lo : Nat
  hi : Nat
  mb : Nat
def It.cells (t : It) : List Value := [.string t.r.name, .string t.r.text, .bool false, .pointer (some ⟨t.pb, 0, none⟩)]
/-- Compile's state ahead of round j -/
structure CInv (w wr : World) (rs : List Rl) (j : Nat) (sv : Value) (its : List It) (f : ByteArray → Option Value) : Prop where
  map : IsMap wr w.heap.size j f
  keys : ∀ r ∈ rs.drop j, f r.name = none
  set : wr.heap[w.heap.size + 1]? = some (.cells #[sv] 78 (0, 0))
  row : wr.ownsRow (w.heap.size + 2) 81 4 sv j (its.flatMap It.cells)
  rules : its.map It.r = rs.take j
  laid : ∀ t ∈ its, w.heap.size + 2 ≤ t.lo ∧ t.hi ≤ wr.heap.size ∧ (∀ g, sv.ownBlock = some g → g < t.lo ∨ t.hi ≤ g) ∧ Laid1 t.r.k t.lo t.hi wr t.pb t.mb
  apart : its.Pairwise fun a b => a.hi ≤ b.lo
  bel : Below w.heap.size w wr
  size : w.heap.size + 2 ≤ wr.heap.size
theorem setCell_cell_far (w : World) (a p : Addr) {u : Value} (h : p.block ≠ a.block) : (w.setCell a u).cell? p = w.cell? p := World.cell?_of_block (w := w) (Below.heap_setCell _ _ _ _ h)
theorem set_one {w : World} {b : Nat} {sv : Value} {t : TypeId} {fr : Nat × Nat} (h : w.heap[b]? = some (.cells #[sv] t fr)) (v : Value) : (w.setCell ⟨b, 0, none⟩ v).heap[b]? = some (.cells #[v] t fr) := by
  show (w.heap.modify b _)[b]? = _
  rw [Array.getElem?_modify, if_pos rfl, h]
  rfl
theorem owns_setCell {w : World} {base : Nat} {e : TypeId} {size : Nat} {v : Value} {n : Nat} {xs : List Value} (h : w.ownsRow base e size v n xs) {a : Addr} (ha : a.block < base) (u : Value) : (w.setCell a u).ownsRow base e size v n xs := by
  refine ⟨h.1, h.2.imp id ?_⟩
  rintro ⟨g, cap, cur, h1, h2, h3, h4⟩
  exact ⟨g, cap, cur, h1, h2, (Below.heap_setCell _ _ _ _ (by omega)).trans h3, h4⟩
theorem info81 : (Tryz.prog.info? 81).map (fun i => (i.zero, i.size, i.bytes)) = some (some (.agg #[.string ByteArray.empty, .string ByteArray.empty, .bool false, .pointer none]), 4, 48) := by kernel_rfl
theorem rl_cells {w : World} {base g cap : Nat} {e : TypeId} {rs : List Rl} (hown : w.ownsRow base e 3 (.slice (some ⟨g, 0, none⟩) rs.length cap) rs.length (rs.flatMap Rl.cells)) {j : Nat} (hj : j < rs.length) :
    w.cell? ⟨g, j * 3, none⟩ = some (.string rs[j].name) ∧ w.cell? ⟨g, j * 3 + 1, none⟩ = some (.string rs[j].text) ∧ w.cell? ⟨g, j * 3 + 2, none⟩ = some (.bool false) := by
  have hcell : ∀ i, i < 3 → w.cell? ⟨g, j * 3 + i, none⟩ = (Rl.cells rs[j])[i]? := fun i hi => by
    rw [hown.cellAt _ (by have := Nat.mul_le_mul_right 3 (Nat.succ_le_of_lt hj); omega), flat_at Rl.cells 3 (fun _ => rfl) rs j hj i hi]
  exact ⟨hcell 0 (by omega), hcell 1 (by omega), hcell 2 (by omega)⟩
theorem SetAt.wide {M : Nat → Prop} {lo hi lo' hi' b : Nat} {w : World} {rs : List Rl} (h : SetAt M lo hi w b rs) (h1 : lo' ≤ lo) (h2 : hi ≤ hi') : SetAt M lo' hi' w b rs := by
  obtain ⟨v, hv, hb1, hb2, hbm, h3⟩ := h.set
  refine ⟨v, hv, by omega, by omega, hbm, h3.imp id ?_⟩
  rintro ⟨ab, cap, rfl, a1, a2, am, hc⟩
  refine ⟨ab, cap, rfl, by omega, by omega, am, fun i r hr => ?_⟩
  obtain ⟨pb, k0, k1, k2, k3, hl⟩ := hc i r hr
  exact ⟨pb, k0, k1, k2, k3, hl.wide h1 h2⟩
theorem apart_mem : ∀ {its : List It}, its.Pairwise (fun a b => a.hi ≤ b.lo) → ∀ a ∈ its, ∀ b ∈ its, a = b ∨ a.hi ≤ b.lo ∨ b.hi ≤ a.lo
  | [], _, a, ha, _, _ => by simp at ha
  | t :: its, h, a, ha, b, hb => by
    obtain ⟨h1, h2⟩ := List.pairwise_cons.1 h
    rcases List.mem_cons.1 ha with ea | ha'
    · rcases List.mem_cons.1 hb with eb | hb'
      · exact .inl (ea.trans eb.symm)
      · exact .inr (.inl (by rw [ea]; exact h1 b hb'))
    · rcases List.mem_cons.1 hb with eb | hb'
      · exact .inr (.inr (by rw [eb]; exact h1 a ha'))
      · exact apart_mem h2 a ha' b hb'
/-- what the set's state is behind the last round -/
theorem CInv.done {w wr : World} {rs : List Rl} {sv : Value} {its : List It} {f : ByteArray → Option Value} (h : CInv w wr rs rs.length sv its f) :
    ∃ M : Nat → Prop, (∀ k, M k → w.heap.size ≤ k ∧ k < wr.heap.size) ∧ SetAt M w.heap.size wr.heap.size wr (w.heap.size + 1) rs := by
  have hr := h.rules
  rw [List.take_length] at hr
  have hsz := h.size
  have hM : ∀ t ∈ its, t.r.k = 3 → t.lo ≤ t.mb ∧ t.mb < t.hi := fun t ht h3 => by
    have := (h.laid t ht).2.2.2
    rw [h3] at this
    exact this.mb
  refine ⟨fun c => ∃ t ∈ its, t.r.k = 3 ∧ c = t.mb, fun k hk => ?_, sv, by simp [World.cell?, h.set], by omega, by omega, fun hk => ?_, ?_⟩
  · obtain ⟨t, ht, h3, rfl⟩ := hk
    have h1 := hM t ht h3
    have h2 := h.laid t ht
    omega
  · obtain ⟨t, ht, h3, e⟩ := hk
    have h1 := hM t ht h3
    have h2 := h.laid t ht
    omega
  rcases h.row.2 with ⟨rfl, h0⟩ | ⟨g, cap, cur, rfl, hb, _⟩
  · left
    exact ⟨List.length_eq_zero_iff.1 h0, rfl⟩
  · right
    have hlt := (World.ownsRow.lt h.row g rfl)
    refine ⟨g, cap, rfl, by omega, by omega, fun hk => ?_, fun i r hi => ?_⟩
    · obtain ⟨t, ht, h3, e⟩ := hk
      have h1 := hM t ht h3
      have h2 := (h.laid t ht).2.2.1 g rfl
      omega
    have hil : i < its.length := by
      have : i < rs.length := (List.getElem?_eq_some_iff.1 hi).1
      rw [← hr] at this
      simpa using this
    have hri : its[i].r = r := by
      rw [← hr, List.getElem?_map, List.getElem?_eq_getElem hil] at hi
      simpa using hi
    have hn : i < rs.length := (List.getElem?_eq_some_iff.1 hi).1
    have hcell : ∀ o, o < 4 → wr.cell? ⟨g, i * 4 + o, none⟩ = (It.cells its[i])[o]? := fun o ho => by
      rw [h.row.cellAt _ (by have := Nat.mul_le_mul_right 4 (Nat.succ_le_of_lt hn); omega), flat_at It.cells 4 (fun _ => rfl) its i hil o ho]
    obtain ⟨l1, l2, _, l4⟩ := h.laid its[i] (List.getElem_mem hil)
    subst hri
    refine ⟨its[i].pb, hcell 0 (by omega), hcell 1 (by omega), hcell 2 (by omega), hcell 3 (by omega), its[i].lo, its[i].hi, its[i].mb, by omega, l2, l4, fun c c1 c2 => ⟨?_, fun hc => ⟨its[i], List.getElem_mem hil, hc.1, hc.2⟩⟩⟩
    rintro ⟨t, ht, h3, rfl⟩
    have h1 := hM t ht h3
    rcases apart_mem h.apart t ht its[i] (List.getElem_mem hil) with rfl | h2 | h2
    · exact ⟨h3, rfl⟩
    · omega
    · omega
/-- a round's step -/
theorem CInv.step {w wr wF : World} {rs : List Rl} {j : Nat} {sv sv' : Value} {its : List It} {f : ByteArray → Option Value} (h : CInv w wr rs j sv its f) (hnd : (rs.map Rl.name).Nodup) (hj : j < rs.length) {b lo hi mb : Nat}
    (hmap : IsMap wF w.heap.size (j + 1) (fun u => if u = rs[j].name then some (.bool true) else f u)) (hset : wF.heap[w.heap.size + 1]? = some (.cells #[sv'] 78 (0, 0)))
    (hrow : wF.ownsRow (w.heap.size + 2) 81 4 sv' (j + 1) (its.flatMap It.cells ++ [.string rs[j].name, .string rs[j].text, .bool false, .pointer (some ⟨b, 0, none⟩)]))
    (hlo : wr.heap.size ≤ lo) (hhi : hi ≤ wF.heap.size) (hown : sv'.ownBlock = sv.ownBlock ∨ ∃ g, sv'.ownBlock = some g ∧ hi ≤ g) (hlaid : Laid1 rs[j].k lo hi wF b mb)
    (hbel : Below w.heap.size w wF) (hsz : wr.heap.size ≤ wF.heap.size) (hlohi : lo ≤ hi)
    (hkeep : ∀ c, c < wr.heap.size → c ≠ w.heap.size → c ≠ w.heap.size + 1 → some c ≠ sv.ownBlock → wF.heap[c]? = wr.heap[c]?) :
    CInv w wF rs (j + 1) sv' (its ++ [⟨rs[j], b, lo, hi, mb⟩]) (fun u => if u = rs[j].name then some (.bool true) else f u) := by
  have hs := h.size
  have hd : rs.drop j = rs[j] :: rs.drop (j + 1) := List.drop_eq_getElem_cons hj
  refine ⟨hmap, fun r hr => ?_, hset, by simpa [It.cells] using hrow, ?_, fun t ht => ?_, ?_, hbel, by omega⟩
  · have hne : r.name ≠ rs[j].name := fun e => by
      have h2 : ((rs.drop j).map Rl.name).Nodup := by rw [List.map_drop]; exact hnd.sublist (List.drop_sublist _ _)
      rw [hd, List.map_cons] at h2
      exact (List.nodup_cons.1 h2).1 (List.mem_map.2 ⟨r, hr, e⟩)
    show (if r.name = rs[j].name then _ else _) = _
    rw [if_neg hne]
    exact h.keys r (by rw [hd]; exact List.mem_cons_of_mem _ hr)
  · rw [List.map_append, h.rules, List.take_succ_eq_append_getElem hj]
    rfl
  · rcases List.mem_append.1 ht with ht | ht
    · obtain ⟨l1, l2, l3, l4⟩ := h.laid t ht
      refine ⟨l1, by omega, fun g hg => ?_, l4.same fun c c1 c2 => hkeep c (by omega) (by omega) (by omega) fun e => ?_⟩
      · rcases hown with e | ⟨g', e, hg'⟩
        · exact l3 g (by rw [← e]; exact hg)
        · rw [e] at hg; cases hg; right; omega
      · rcases l3 c e.symm with h3 | h3 <;> omega
    · simp only [List.mem_singleton] at ht
      subst ht
      refine ⟨by show w.heap.size + 2 ≤ lo; omega, hhi, fun g hg => ?_, hlaid⟩
      show g < lo ∨ hi ≤ g
      rcases hown with e | ⟨g', e, hg'⟩
      · left
        rw [e] at hg
        have := (World.ownsRow.lt h.row g hg).2
        omega
      · rw [e] at hg; cases hg; right; exact hg'
  · refine List.pairwise_append.2 ⟨h.apart, List.pairwise_singleton _ _, fun a ha b hb => ?_⟩
    simp only [List.mem_singleton] at hb
    subst hb
    have := (h.laid a ha).2.1
    show a.hi ≤ lo
    omega
set_option maxHeartbeats 16000000 in
set_option maxRecDepth 1000000 in
theorem compile_walk {w : World} {base : Nat} {v : Value} {rs : List Rl} (hown0 : w.ownsRow base 62 3 v rs.length (rs.flatMap Rl.cells)) (hG : Good rs) :
    Calls Tryz.prog 26 #[v] w fun e w' => ∃ (b : Nat) (M : Nat → Prop), e = .returned (.tuple #[.pointer (some ⟨b, 0, none⟩), .int .i64 0, .int .i64 0]) ∧ Below w.heap.size w w' ∧ (∀ k, M k → w.heap.size ≤ k ∧ k < w'.heap.size) ∧ SetAt M w.heap.size w'.heap.size w' b rs := by
  have hmm := @run_makeMap Tryz.prog
  have hlen := hG.len
  obtain ⟨i0, hi0, hz0, hz1, hz2⟩ := info_parts info81
  obtain ⟨va, vc, rfl, hva⟩ := owns_shape hown0
  have hlt0 := World.ownsRow.lt hown0
  go_enter Tryz.func26, Tryz.ntmps26
  go_wp2
  go_loopw [22] (fun i wr => ∃ (j : Nat) (sv : Value) (its : List It) (f : ByteArray → Option Value), j ≤ rs.length ∧ i = .int .i64 j ∧ CInv w wr rs j sv its f) (fun i _ => rs.length - (intOf i).toNat)
  case atStart =>
    refine ⟨0, .slice none 0 0, [], fun _ => none, Nat.zero_le _, rfl, (isMap_made w).alloc _, fun _ _ => rfl, ?_, World.ownsRow_nil _ _ _ _, rfl, fun t ht => by simp at ht, List.Pairwise.nil, ((Below.refl _ _).alloc (Nat.le_refl _) _).alloc (by simp) _, by simp⟩
    have := heap_alloc_new (w.alloc (.map #[] 0)) (.cells #[.slice none 0 0] 78 (0, 0))
    simpa using this
  case round =>
    obtain ⟨j, sv, its, f, hj, rfl, hI⟩ := hrel
    by_cases hjl : j < rs.length
    · obtain ⟨g, rfl⟩ := hva (by omega)
      obtain ⟨c0, c1, c2⟩ := rl_cells hown0 hjl
      have hg := (hlt0 g rfl).2
      have c0' := (hI.bel.cell (p := ⟨g, j * 3, none⟩) hg).trans c0
      have c1' := (hI.bel.cell (p := ⟨g, j * 3 + 1, none⟩) hg).trans c1
      have c2' := (hI.bel.cell (p := ⟨g, j * 3 + 2, none⟩) hg).trans c2
      have hsz := hI.size
      have hltr := World.ownsRow.lt hI.row
      obtain ⟨hk, htxt, hname, hnsz⟩ := hG.each rs[j] (List.getElem_mem hjl)
      have hnd := hG.nodup
      have hadd := fun o => add_walk (hI.map.alloc o) (by omega) hnsz hname (hI.keys rs[j] (by rw [List.drop_eq_getElem_cons hjl]; exact List.mem_cons_self ..))
      have hpn := fun w' => parse_new hk htxt w'
      have hstep := fun (wF : World) (sv' : Value) (b lo hi mb : Nat) => CInv.step (wF := wF) (sv' := sv') (b := b) (lo := lo) (hi := hi) (mb := mb) hI hnd hjl
      have hset := hI.set
      have hrow := hI.row
      have hbel := hI.bel
      have hn1 : j + 1 ≤ maxLen := by unfold maxLen; omega
      have hn2 : (j + 1) * 48 ≤ 140737488355328 := by omega
      obtain ⟨r, hr⟩ : ∃ r, rs[j] = r := ⟨_, rfl⟩
      rw [hr] at c0 c1 c0' c1' hk htxt hname hnsz hadd hpn
      have hstep' : Hid (∀ (wF : World) (sv' : Value) (b lo hi mb : Nat), IsMap wF w.heap.size (j + 1) (fun u => if u = r.name then some (.bool true) else f u) → wF.heap[w.heap.size + 1]? = some (.cells #[sv'] 78 (0, 0)) →
          wF.ownsRow (w.heap.size + 2) 81 4 sv' (j + 1) (its.flatMap It.cells ++ [.string r.name, .string r.text, .bool false, .pointer (some ⟨b, 0, none⟩)]) →
          wr.heap.size ≤ lo → hi ≤ wF.heap.size → (sv'.ownBlock = sv.ownBlock ∨ ∃ g, sv'.ownBlock = some g ∧ hi ≤ g) → Laid1 r.k lo hi wF b mb → Below w.heap.size w wF → wr.heap.size ≤ wF.heap.size → lo ≤ hi →
          (∀ c, c < wr.heap.size → c ≠ w.heap.size → c ≠ w.heap.size + 1 → some c ≠ sv.ownBlock → wF.heap[c]? = wr.heap[c]?) → CInv w wF rs (j + 1) sv' (its ++ [⟨r, b, lo, hi, mb⟩]) (fun u => if u = r.name then some (.bool true) else f u)) := by
        rw [hr] at hstep
        exact hstep
      clear hstep hr hI hG c0 c1 c2
      obtain ⟨nm, hnm⟩ : ∃ s, r.name = s := ⟨_, rfl⟩
      obtain ⟨tx, htx⟩ : ∃ s, r.text = s := ⟨_, rfl⟩
      rw [hnm] at c0' hadd hstep'
      rw [htx] at c1' hpn hstep'
      clear hnm htx
      go_wp2_with (first
        | (go_at_call 38; refine (hadd _).mono ?_; rintro _ w1 ⟨rfl, hbut, hmap1⟩; have hR : w1.heap[wr.heap.size]? = some (.cells #[.string nm, .string tx, .bool false] 62 (0, 0)) := (hbut.block wr.heap.size (by simp) (by omega)).trans (heap_alloc_new _ _); have q1 : w1.cell? ⟨wr.heap.size, 1, none⟩ = some (.string tx) := by { simp [World.cell?, hR] }; have q2 : w1.cell? ⟨wr.heap.size, 2, none⟩ = some (.bool false) := by { simp [World.cell?, hR] })
        | (go_at_call 39; refine (hpn _).mono ?_; rintro _ w2 ⟨x, y, rfl, hb2, ⟨p0, p1, p2, p3, p4, p5, p6, p7, p8, p9, p10, p11, p12, p13, rfl⟩, hnew⟩)
        | (go_at_call 40; refine (hnew _ (by simp) (fun b hb => Below.heap_alloc _ _ _ hb)).mono ?_; rintro _ w3 ⟨b, mb, rfl, hb3, hlaid⟩; have hs3 := hb3.size; have hs2 := hb2.size; have hs1 := hbut.size; simp at hs1 hs3; have hR3 : w3.heap[wr.heap.size]? = some (.cells #[.string nm, .string tx, .bool false] 62 (0, 0)) := (hb3.block _ (by omega)).trans ((Below.heap_alloc _ _ _ (by omega)).trans ((hb2.block _ (by omega)).trans hR)); have hS3 : w3.heap[w.heap.size + 1]? = some (.cells #[sv] 78 (0, 0)) := (hb3.block _ (by omega)).trans ((Below.heap_alloc _ _ _ (by omega)).trans ((hb2.block _ (by omega)).trans ((hbut.block _ (by simp; omega) (by omega)).trans ((Below.heap_alloc _ _ _ (by omega)).trans hset)))); have r0 : w3.cell? ⟨wr.heap.size, 0, none⟩ = some (.string nm) := by { simp [World.cell?, hR3] }; have r1 : w3.cell? ⟨wr.heap.size, 1, none⟩ = some (.string tx) := by { simp [World.cell?, hR3] }; have r2 : w3.cell? ⟨wr.heap.size, 2, none⟩ = some (.bool false) := by { simp [World.cell?, hR3] }; have s0 : w3.cell? ⟨w.heap.size + 1, 0, none⟩ = some sv := by { simp [World.cell?, hS3] })
        | go_in)
      clear hadd hpn hnew q1 q2
      have hkeep : ∀ c, c < wr.heap.size → c ≠ w.heap.size → w3.heap[c]? = wr.heap[c]? := fun c hc hne => (hb3.block c (by omega)).trans ((Below.heap_alloc _ _ _ (by omega)).trans ((hb2.block c (by omega)).trans ((hbut.block c (by simp; omega) hne).trans (Below.heap_alloc _ _ _ hc))))
      have hrow3 : w3.ownsRow (w.heap.size + 2) 81 4 sv j (its.flatMap It.cells) := by
        refine ⟨hrow.1, hrow.2.imp id ?_⟩
        rintro ⟨gg, cap, cur, rfl, h2, h3, h4⟩
        have := (World.ownsRow.lt hrow gg rfl).2
        exact ⟨gg, cap, cur, rfl, h2, (hkeep gg this (by omega)).trans h3, h4⟩
      have hS3f : w3.frozen? ⟨w.heap.size + 1, 0, none⟩ = false := by simp [World.frozen?, hS3]
      have hfz : ∀ o, (w3.alloc o).drew.frozen? ⟨w.heap.size + 1, 0, none⟩ = false := fun o => ((((Below.refl (w.heap.size + 2) w3).alloc (by omega) o).drew).frozen (p := ⟨w.heap.size + 1, 0, none⟩) (by simp)).trans hS3f
      have aS := fun e => Nat.not_le_of_lt (Nat.lt_succ_self (w.heap.size + 1)) (hltr (w.heap.size + 1) e).1
      have aR := fun e => Nat.lt_irrefl _ (hltr wr.heap.size e).2
      have s1 : ∀ o, (w3.alloc o).cell? ⟨w.heap.size + 1, 0, none⟩ = some sv := fun o => (((Below.refl (w.heap.size + 2) w3).alloc (by omega) o).cell (p := ⟨w.heap.size + 1, 0, none⟩) (by simp)).trans s0
      have hfz' : ∀ o, (w3.alloc o).frozen? ⟨w.heap.size + 1, 0, none⟩ = false := hfz
      go_region_law
        (refine step_append_lies _ (by rfl) _ _ _ (by rfl) (w.heap.size + 2) 81 i0 _ 4 48 Tryz.underlying76 hi0 hz0 hz1 hz2 rfl (by omega) sv j (its.flatMap It.cells) (by rfl) ((hrow3.alloc _).drew)
            ⟨w3.heap.size, 0, none⟩ 1 1 [.string nm, .string tx, .bool false, .pointer (some ⟨b, 0, none⟩)] (by rfl) (by rfl) (World.news_of_block (cs := #[.string nm, .string tx, .bool false, .pointer (some ⟨b, 0, none⟩)]) (t := 81) (fr := (0, 0)) (heap_alloc_new w3 _)) (by simp [Value.oneCell'])
            (by omega) hn1 hn2 (by simp; omega) (w3.heap.size + 1) (by simp) ?_; intro gg cap w4 hown1 hgrow hat hlt; have hfz4 := (hgrow.frozen_far ⟨w.heap.size + 1, 0, none⟩ (by simp; omega) (fun e => aS e.symm)).trans (hfz _); have hnz4 := hgrow.cell_far ⟨w.heap.size + 1, 0, none⟩ (by simp; omega) (fun e => aS e.symm))
      all_goals
        have g0 : ∀ c, c < w3.heap.size → some c ≠ sv.ownBlock → w4.heap[c]? = w3.heap[c]? := fun c hc hne => (hgrow.block c (by simp; omega) hne).trans (Below.heap_alloc _ _ _ hc)
        have g4 := hgrow.size
        have gS : w4.heap[w.heap.size + 1]? = some (.cells #[sv] 78 (0, 0)) := (g0 _ (by omega) (fun e => aS e.symm)).trans hS3
        have gM := hmap1.same (w' := w4) ((g0 w.heap.size (by omega) (fun e => by have := (hltr _ e.symm).1; omega)).trans ((hb3.block _ (by omega)).trans ((Below.heap_alloc _ _ _ (by omega)).trans (hb2.block _ (by omega)))))
        have gL := hlaid.same (w' := w4) (fun c c1 c2 => g0 c c2 (fun e => by have := (hltr _ e.symm).2; omega))
        have gB : Below w.heap.size w w4 := by
          have k1 : Below w.heap.size w w1 := ⟨hbut.os.trans hbel.os, hbut.tape.trans hbel.tape, hbut.output.trans hbel.output, by have := hbel.size; omega, fun k hk => (hbut.block k (by simp; omega) (by omega)).trans ((Below.heap_alloc _ _ _ (by omega)).trans (hbel.block k hk))⟩
          exact (((((k1.trans (hb2.mono (by omega))).alloc (by omega) _).trans (hb3.mono (by omega))).alloc (by omega) _).drew).grown hgrow (by simp; omega) fun x hx => by have := (hltr x hx).1; omega
        have gK : ∀ c, c < wr.heap.size → c ≠ w.heap.size → some c ≠ sv.ownBlock → w4.heap[c]? = wr.heap[c]? := fun c hc h1 h2 => (g0 c (by omega) h2).trans (hkeep c hc h1)
        have gO : Value.ownBlock (.slice (some ⟨gg, 0, none⟩) (j + 1) cap) = sv.ownBlock ∨ ∃ g, Value.ownBlock (.slice (some ⟨gg, 0, none⟩) (j + 1) cap) = some g ∧ w3.heap.size ≤ g := hat.imp (fun e => e.symm) fun e => ⟨gg, rfl, by omega⟩
        simp at g4
        have hI2 := hstep'.out (w4.setCell ⟨w.heap.size + 1, 0, none⟩ (.slice (some ⟨gg, 0, none⟩) (j + 1) cap)) (.slice (some ⟨gg, 0, none⟩) (j + 1) cap) b w1.heap.size w3.heap.size mb
          (gM.same (Below.heap_setCell _ _ _ _ (by show w.heap.size ≠ w.heap.size + 1; omega))) (set_one gS _) (owns_setCell hown1 (by show w.heap.size + 1 < _; omega) _) (by omega) (by simp [World.setCell]; omega) gO
          (gL.same fun c c1 c2 => Below.heap_setCell _ _ _ _ (by show c ≠ w.heap.size + 1; omega)) (gB.setCell (by show w.heap.size ≤ w.heap.size + 1; omega) _) (by simp [World.setCell]; omega) (by omega)
          (fun c h1 h2 h3 h4 => (Below.heap_setCell _ _ _ _ h3).trans (gK c h1 h2 h4))
        have HI2 : Hid (CInv w (w4.setCell ⟨w.heap.size + 1, 0, none⟩ (.slice (some ⟨gg, 0, none⟩) (j + 1) cap)) rs (j + 1) (.slice (some ⟨gg, 0, none⟩) (j + 1) cap) (its ++ [⟨r, b, w1.heap.size, w3.heap.size, mb⟩]) (fun u => if u = nm then some (.bool true) else f u)) := hI2
        clear hI2 gO gK gB gL gM gS g0 hgrow hown1 hat
        go_wp2
        go_roundw
        case rel => exact ⟨j + 1, _, _, _, hjl, by go_num, HI2.out⟩
        case measure => simp [intOf]; omega
    · have hje : j = rs.length := by omega
      subst hje
      go_wp2_with fail
      go_ret3
      obtain ⟨M, hM, hS⟩ := hI.done
      exact ⟨w.heap.size + 1, M, rfl, hI.bel, hM, hS⟩
set_option maxHeartbeats 4000000 in
set_option maxRecDepth 1000000 in
theorem own_walk {w : World} {base : Nat} {v : Value} {rs : List Rl} (hown0 : w.ownsRow base 27 3 v rs.length (rs.flatMap Rl.cells)) (hG : Good rs) :
    Calls Tryz.prog 10 #[v] w fun e w' => ∃ (b : Nat) (M : Nat → Prop), e = .returned (.pointer (some ⟨b, 0, none⟩)) ∧ Below w.heap.size w w' ∧ (∀ k, M k → w.heap.size ≤ k ∧ k < w'.heap.size) ∧ SetAt M w.heap.size w'.heap.size w' b rs := by
  have hlen := hG.len
  have hC0 := fun (wr : World) (v' : Value) (h : wr.ownsRow w.heap.size 62 3 v' rs.length (rs.flatMap Rl.cells)) => compile_walk h hG
  clear hG
  obtain ⟨i0, hi0, hz0, hz1, hz2⟩ := info_parts info62
  obtain ⟨va, vc, rfl, hva⟩ := owns_shape hown0
  have hlt0 := World.ownsRow.lt hown0
  go_enter Tryz.func10, Tryz.ntmps10
  go_wp2
  go_loopw [3, 4] (fun v i wr => ∃ k : Nat, k ≤ rs.length ∧ i = .int .i64 k ∧ wr.ownsRow w.heap.size 62 3 v k ((rs.take k).flatMap Rl.cells) ∧ Below w.heap.size w wr) (fun _ i _ => rs.length - (intOf i).toNat)
  case atStart => exact ⟨0, Nat.zero_le _, rfl, World.ownsRow_nil _ _ _ _, Below.refl _ _⟩
  case round =>
    obtain ⟨k, hk, rfl, hown, hbel⟩ := hrel
    by_cases hkl : k < rs.length
    · obtain ⟨g, rfl⟩ := hva (by omega)
      obtain ⟨c0, c1, c2⟩ := rl_cells hown0 hkl
      have hg := (hlt0 g rfl).2
      have c0' := (hbel.cell (p := ⟨g, k * 3, none⟩) hg).trans c0
      have c1' := (hbel.cell (p := ⟨g, k * 3 + 1, none⟩) hg).trans c1
      have c2' := (hbel.cell (p := ⟨g, k * 3 + 2, none⟩) hg).trans c2
      have hsz := hbel.size
      have hltr := World.ownsRow.lt hown
      have hn1 : k + 1 ≤ maxLen := by unfold maxLen; omega
      have hn2 : (k + 1) * 40 ≤ 140737488355328 := by omega
      have hi1 : (0 : Int) ≤ (k : Int) := Int.natCast_nonneg _
      have hi2 : (k : Int) < (rs.length : Int) := by omega
      have ag := fun e => Nat.not_le_of_lt hg (hltr g e).1
      have htk : Hid ((rs.take (k + 1)).flatMap Rl.cells = (rs.take k).flatMap Rl.cells ++ [.string rs[k].name, .string rs[k].text, .bool false]) := by
        show _ = _
        rw [List.take_succ_eq_append_getElem hkl, List.flatMap_append]
        simp [Rl.cells]
      obtain ⟨nm, hnm⟩ : ∃ s, rs[k].name = s := ⟨_, rfl⟩
      obtain ⟨tx, htx⟩ : ∃ s, rs[k].text = s := ⟨_, rfl⟩
      rw [hnm] at c0 c0' htk
      rw [htx] at c1 c1' htk
      clear hnm htx c0 c1 c2
      go_wp2_with fail
      go_region_held3 (fun w' => w'.cell? ⟨g, k * 3, none⟩ = some (.string nm) ∧ w'.cell? ⟨g, k * 3 + 1, none⟩ = some (.string tx) ∧ w'.cell? ⟨g, k * 3 + 2, none⟩ = some (.bool false))
        (first
          | go_keep
          | (go_split_ands
             refine ⟨?_, ?_, ?_⟩
             · (rw [hgrow.cell_far _ (by simp; omega) (fun e => ag e.symm)]; assumption)
             · (rw [hgrow.cell_far _ (by simp; omega) (fun e => ag e.symm)]; assumption)
             · (rw [hgrow.cell_far _ (by simp; omega) (fun e => ag e.symm)]; assumption)))
        ((refine step_append_lies _ (by rfl) _ _ _ (by rfl) w.heap.size 62 i0 _ 3 40 Tryz.underlying60 hi0 hz0 hz1 hz2 rfl (by omega) _ k ((rs.take k).flatMap Rl.cells) (by rfl) ((hown.alloc _).drew)
            ⟨wr.heap.size, 0, none⟩ 1 1 [.string nm, .string tx, .bool false] (by rfl) (by rfl) (World.news_of_block (cs := #[.string nm, .string tx, .bool false]) (t := 62) (fr := (0, 0)) (heap_alloc_new wr _)) (by simp [Value.oneCell'])
            (by omega) hn1 hn2 (by simp; omega) (wr.heap.size + 1) (by simp) ?_; intro gg cap w1 hown1 hgrow hat hlt))
      go_wp2
      go_roundw
      case rel =>
        refine ⟨k + 1, hkl, by go_num, by rw [htk.out]; exact hown1, ((hbel.alloc hsz _).drew).grown hgrow (by simp; omega) fun x hx => (hltr x hx).1⟩
      case measure => simp [intOf]; omega
    · have hke : k = rs.length := by omega
      subst hke
      rw [List.take_length] at hown
      have hC := hC0 _ _ hown
      have hsz := hbel.size
      go_wp2_with (first
        | (go_at_call 26; refine hC.mono ?_; rintro _ w1 ⟨b, M, rfl, hb1, hM, hset⟩)
        | go_in)
      go_ret
      exact ⟨b, M, rfl, hbel.trans (hb1.mono hsz), fun k hk => ⟨Nat.le_trans hsz (hM k hk).1, (hM k hk).2⟩, hset.wide hsz (Nat.le_refl _)⟩
end Go.Proofs.YtopicmcaoeameaaGreatDoor
