/-
  add and wellFormed, walked at any names.
  Encode, walked at any rules.
  The reference's Same, Named and Formed, walked.
  The reference's Formed, walked.
  real and plain, walked: rules of the package and of the reference.
  Encodings of lists that are not well-formed are read by nobody.
  append of what a slice reads as, inside a region that draws its order.
-/
import Derived.Test.YtdacamjpcdbphaaGreatDoorBytG0b
import Derived.Deep.RegionHeld3
import Derived.Deep.AppendLies
import Derived.Test.YtdacamjpcdbphaaGreatDoorBytG0a
namespace Go.Proofs.YtdacamjpcdbphaaGreatDoor
open Go Go.RowKit Go.Smap

set_option maxHeartbeats 4000000 in
set_option maxRecDepth 1000000 in
theorem add_walk {w : World} {B n : Nat} {f : ByteArray → Option Value} (h : IsMap w B n f) (hn : n ≤ 1000) {s : ByteArray} (hs : s.size ≤ 100000000) (hf : ∀ v, f s = some v → v = .bool true) :
    Calls Tryz.prog 44 #[.map (some B), .string s] w fun e w' => (e = .returned (.int .i64 (if named (toB s) = false then 6 else if (f s).isSome then 8 else 0)) ∧ Chg (Only B) w w' ∧
      (named (toB s) = true → f s = none → IsMap w' B (n + 1) (fun u => if u = s then some (.bool true) else f u))) := by
  have hnm := isName_walk s hs w
  have hsl : s.size ≤ maxLen := by unfold maxLen; omega
  have hlk := h.lookup Tryz.underlying98 Tryz.underlying9 (zeroBool w) hsl
  obtain ⟨o, hrun, hmap⟩ := h.update (by unfold maxLen; omega) Tryz.underlying98 Tryz.underlying9 hsl (.bool true)
  cases hN : named (toB s) with
  | false =>
    rw [hN] at hnm
    clear hlk hrun hmap
    go_enter Tryz.func44, Tryz.ntmps44
    go_wp2_with (first
      | (go_at_call 65; refine hnm.mono ?_; rintro _ w1 ⟨rfl, rfl⟩)
      | go_in)
    go_ret
    first | exact ⟨rfl, Chg.refl _ _⟩ | exact ⟨rfl, Chg.refl _ _, fun h => by cases h⟩
  | true =>
    rw [hN] at hnm
    cases hfs : f s with
    | none =>
      rw [hfs] at hlk
      have hlk' : (Instr.lookup 98 (.map (some B)) (.string s) false).run Tryz.prog w = .ok (.bool false) w := hlk
      clear hlk
      go_enter Tryz.func44, Tryz.ntmps44
      go_wp2_with (first
        | (go_at_call 65; refine hnm.mono ?_; rintro _ w1 ⟨rfl, rfl⟩)
        | go_in)
      go_ret
      first | exact ⟨rfl, ⟨rfl, rfl, rfl, by simp [ChangeMaps.setBlock], fun k hk hne => setBlock_other hne⟩, hmap⟩ | exact ⟨rfl, ⟨rfl, rfl, rfl, by simp [ChangeMaps.setBlock], fun k hk hne => setBlock_other hne⟩, fun _ _ => hmap⟩
    | some v =>
      obtain rfl := hf v hfs
      rw [hfs] at hlk
      have hlk' : (Instr.lookup 98 (.map (some B)) (.string s) false).run Tryz.prog w = .ok (.bool true) w := hlk
      clear hlk
      go_enter Tryz.func44, Tryz.ntmps44
      go_wp2_with (first
        | (go_at_call 65; refine hnm.mono ?_; rintro _ w1 ⟨rfl, rfl⟩)
        | go_in)
      go_ret
      first | exact ⟨rfl, Chg.refl _ _⟩ | exact ⟨rfl, Chg.refl _ _, fun _ h => by cases h⟩
/-- the map of the names seen ahead of round j -/
structure Seen (w : World) (B j : Nat) (rs : List Ru) (f : ByteArray → Option Value) : Prop where
  map : IsMap w B j f
  says : ∀ s, f s = if toB s ∈ (rs.take j).map Ru.name then some (.bool true) else none
theorem Seen.made (w : World) (rs : List Ru) : Seen (w.alloc (.map #[] 0)) w.heap.size 0 rs fun _ => none := ⟨isMap_made w, fun s => by simp⟩
theorem Seen.same {w w' : World} {B j : Nat} {rs : List Ru} {f : ByteArray → Option Value} (h : Seen w B j rs f) (hb : w'.heap[B]? = w.heap[B]?) : Seen w' B j rs f := ⟨h.map.same hb, h.says⟩
theorem Seen.step {w w' : World} {B j : Nat} {rs : List Ru} {f : ByteArray → Option Value} (h : Seen w B j rs f) (hj : j < rs.length)
    (hm : IsMap w' B (j + 1) (fun u => if u = ofB rs[j].name then some (.bool true) else f u)) : Seen w' B (j + 1) rs (fun u => if u = ofB rs[j].name then some (.bool true) else f u) := by
  refine ⟨hm, fun s => ?_⟩
  rw [List.take_succ_eq_append_getElem hj, List.map_append, List.map_singleton]
  by_cases e : s = ofB rs[j].name
  · subst e
    simp [toB_ofB]
  · have e2 : toB s ≠ rs[j].name := fun h => e (by rw [← h, ofB_toB])
    show (if s = ofB rs[j].name then _ else f s) = _
    rw [if_neg e, h.says s]
    simp [e2]
theorem formed_at {rs : List Ru} {j : Nat} (hj : j < rs.length) : formedFrom ((rs.take j).map Ru.name) (rs.drop j) =
    (named rs[j].name && !(decide (rs[j].name ∈ (rs.take j).map Ru.name)) && decide (rs[j].text.length ≤ 2048) && formedFrom ((rs.take (j + 1)).map Ru.name) (rs.drop (j + 1))) := by
  rw [List.drop_eq_getElem_cons hj, List.take_succ_eq_append_getElem hj, List.map_append, List.map_singleton]
  rfl
set_option maxHeartbeats 8000000 in
set_option maxRecDepth 1000000 in
theorem well_walk {w : World} {v : Value} {rs : List Ru} (h0 : SeesR w v rs) (hl : rs.length ≤ 600) (hnb : ∀ r ∈ rs, r.name.length ≤ 100000000) (htb : ∀ r ∈ rs, r.text.length ≤ 100000000) :
    Calls Tryz.prog 22 #[v] w fun e w' => e = .returned (.bool (formed rs)) ∧ Below w.heap.size w w' := by
  have hmm := @run_makeMap Tryz.prog
  obtain ⟨A, vc, rfl, hcap, hva⟩ := h0.shape
  by_cases h500 : 500 < rs.length
  · have hx : (500 : Int) < (rs.length : Int) := by omega
    have hF : formed rs = false := by unfold formed; rw [show decide (rs.length ≤ 500) = false by simp; omega]; rfl
    rw [hF]
    clear hF
    go_enter Tryz.func22, Tryz.ntmps22
    go_wp2
    go_ret
    exact ⟨rfl, Below.refl _ _⟩
  have hx : ¬ (500 : Int) < (rs.length : Int) := by omega
  obtain ⟨F, hF⟩ : ∃ F, formed rs = F := ⟨_, rfl⟩
  have hF0 : Hid (formedFrom ((rs.take 0).map Ru.name) (rs.drop 0) = F) := by
    show _ = _
    rw [← hF]
    unfold formed
    rw [show decide (rs.length ≤ 500) = true by simp; omega]
    rfl
  rw [hF]
  clear hF
  go_enter Tryz.func22, Tryz.ntmps22
  go_wp2
  go_loopw [12] (fun i wr => ∃ (j : Nat) (f : ByteArray → Option Value), j ≤ rs.length ∧ i = .int .i64 j ∧ Seen wr w.heap.size j rs f ∧ Below w.heap.size w wr ∧ w.heap.size + 1 ≤ wr.heap.size ∧ Hid (formedFrom ((rs.take j).map Ru.name) (rs.drop j) = F)) (fun i _ => rs.length - (intOf i).toNat)
  case atStart => exact ⟨0, fun _ => none, Nat.zero_le _, rfl, Seen.made w rs, (Below.refl _ _).alloc (Nat.le_refl _) _, by simp, hF0⟩
  case round =>
    obtain ⟨j, f, hj, rfl, hN, hbel, hsz, hFj⟩ := hrel
    by_cases hjl : j < rs.length
    · obtain ⟨b, so, rfl, hg, hcells⟩ := hva (by omega)
      obtain ⟨c0, c1, c2⟩ := hcells j hjl
      have c0' := (hbel.cell (p := ⟨b, so + j * 3, none⟩) hg).trans c0
      have c1' := (hbel.cell (p := ⟨b, so + j * 3 + 1, none⟩) hg).trans c1
      have c2' := (hbel.cell (p := ⟨b, so + j * 3 + 2, none⟩) hg).trans c2
      have hmem := List.getElem_mem hjl
      have hn1 := hnb _ hmem
      have ht1 := htb _ hmem
      have hst := Lib.hid (fun (w' : World) => hN.step (w' := w') hjl)
      have hat := hFj.out.symm.trans (formed_at hjl)
      have hsay := hN.says (ofB rs[j].name)
      rw [toB_ofB] at hsay
      have hadd := fun o => add_walk (hN.map.alloc o) (by omega) (s := ofB rs[j].name) (by rw [ofB_size]; exact hn1) (fun v hv => by rw [hsay] at hv; split at hv <;> cases hv; rfl)
      rw [toB_ofB] at hadd
      have hT := ofB_size rs[j].text
      have hnm : ∃ s, ofB rs[j].name = s := ⟨_, rfl⟩
      have htx : ∃ s, ofB rs[j].text = s := ⟨_, rfl⟩
      obtain ⟨ru, hru⟩ : ∃ s, rs[j].runes = s := ⟨_, rfl⟩
      obtain ⟨R, hR⟩ : ∃ R, formedFrom ((rs.take (j + 1)).map Ru.name) (rs.drop (j + 1)) = R := ⟨_, rfl⟩
      rw [hru] at c2'
      rw [hR] at hat
      have HR := Lib.hid hR
      clear hru hR c0 c1 c2 hcells hFj
      cases hnd : named rs[j].name with
      | false =>
        rw [hnd] at hat hadd
        have hat' := Lib.hid (show F = false by simpa using hat)
        obtain ⟨nm, hnm⟩ := hnm
        obtain ⟨tx, htx⟩ := htx
        rw [hnm] at c0' hadd
        rw [htx] at c1'
        clear hat hst hnm htx hT hsay hN HR hnd hva
        go_wp2_with (first
          | (go_at_call 44; refine (hadd _).mono ?_; rintro _ w1 ⟨rfl, hchg, _⟩)
          | go_in)
        rw [hat'.out]
        go_ret
        exact ⟨rfl, below_chg (hbel.alloc (by omega) _) hchg (Nat.le_refl _) (by simp; omega)⟩
      | true =>
        rw [hnd] at hat hadd
        by_cases hin : rs[j].name ∈ (rs.take j).map Ru.name
        · rw [if_pos hin] at hsay
          rw [hsay] at hadd
          rw [decide_eq_true hin] at hat
          have hat' := Lib.hid (show F = false by simpa using hat)
          obtain ⟨nm, hnm⟩ := hnm
          obtain ⟨tx, htx⟩ := htx
          rw [hnm] at c0' hadd
          rw [htx] at c1'
          clear hat hst hnm htx hT hsay hN HR hnd hva hin
          go_wp2_with (first
            | (go_at_call 44; refine (hadd _).mono ?_; rintro _ w1 ⟨rfl, hchg, _⟩)
            | go_in)
          rw [hat'.out]
          go_ret
          exact ⟨rfl, below_chg (hbel.alloc (by omega) _) hchg (Nat.le_refl _) (by simp; omega)⟩
        · rw [if_neg hin] at hsay
          rw [decide_eq_false hin] at hat
          rw [hsay] at hadd
          obtain ⟨nm, hnm⟩ := hnm
          obtain ⟨tx, htx⟩ := htx
          rw [hnm] at c0' hadd hst
          rw [htx] at c1' hT
          by_cases hlong : 2048 < tx.size
          · have hl' : (2048 : Int) < (tx.size : Int) := by omega
            have hat' := Lib.hid (show F = false by rw [decide_eq_false (show ¬ rs[j].text.length ≤ 2048 by omega)] at hat; simpa using hat)
            clear hat hst hnm htx hsay hN HR hnd hva hin
            go_wp2_with (first
              | (go_at_call 44; refine (hadd _).mono ?_; rintro _ w1 ⟨rfl, hchg, _⟩; have hRb : w1.heap[wr.heap.size]? = some (.cells #[.string nm, .string tx, .bool ru] 65 (0, 0)) := (hchg.block wr.heap.size (by simp) (fun e => by have e' : wr.heap.size = w.heap.size := e; omega)).trans (heap_alloc_new _ _); have q1 : w1.cell? ⟨wr.heap.size, 1, none⟩ = some (.string tx) := by { simp [World.cell?, hRb] })
              | go_in)
            rw [hat'.out]
            go_ret
            exact ⟨rfl, below_chg (hbel.alloc (by omega) _) hchg (Nat.le_refl _) (by simp; omega)⟩
          · have hl' : ¬ (2048 : Int) < (tx.size : Int) := by omega
            have hat' := Lib.hid (show F = R by rw [decide_eq_true (show rs[j].text.length ≤ 2048 by omega)] at hat; simpa using hat)
            clear hat hnm htx hsay hN hnd hva hin
            go_wp2_with (first
              | (go_at_call 44; refine (hadd _).mono ?_; rintro _ w1 ⟨rfl, hchg, hmap1⟩; have hRb : w1.heap[wr.heap.size]? = some (.cells #[.string nm, .string tx, .bool ru] 65 (0, 0)) := (hchg.block wr.heap.size (by simp) (fun e => by have e' : wr.heap.size = w.heap.size := e; omega)).trans (heap_alloc_new _ _); have q1 : w1.cell? ⟨wr.heap.size, 1, none⟩ = some (.string tx) := by { simp [World.cell?, hRb] })
              | go_in)
            go_roundw
            case rel =>
              have hs1 := hchg.size
              exact ⟨j + 1, _, hjl, by go_num, hst.out w1 (by first | exact hmap1 | exact hmap1 trivial | exact hmap1 trivial trivial | exact hmap1 rfl rfl), below_chg (hbel.alloc (by omega) _) hchg (Nat.le_refl _) (by simp; omega), by simp at hs1; omega, Lib.hid (HR.out.trans hat'.out.symm)⟩
            case measure => simp [intOf]; omega
    · have hje : j = rs.length := by omega
      subst hje
      have hfin : F = true := by have := hFj.out; rw [List.drop_length] at this; exact this.symm
      subst hfin
      go_wp2_with fail
      go_ret
      exact ⟨rfl, hbel⟩
end Go.Proofs.YtdacamjpcdbphaaGreatDoor
namespace Go.Proofs.YtdacamjpcdbphaaGreatDoor
open Go Go.RowKit Go.Smap

section
variable {w w1 : World} {B p : Nat} {v v1 : Value} {l l1 : List UInt8}
theorem Wrote.blk (h : Wrote w B p v w1 v1 l1) (h0 : WrAt w B p v l) {g : Nat} {t : TypeId} {cs : Array Value} (hb : Blk w g t cs) (hg : g ≠ p) (ht : 5 ≠ t) : Blk w1 g t cs :=
  hb.chg h.chg fun hf => by
    rcases hf with rfl | hf
    · exact hg rfl
    · exact row_blk h0.row hb ht hf
theorem Wrote.sees (h : Wrote w B p v w1 v1 l1) (h0 : WrAt w B p v l) {size : Nat} {u : Value} {xs : List Value} (hs : Sees w size u xs) (hb : ∀ g, Value.leads u = some g → g ≠ p ∧ v.ownBlock ≠ some g) : Sees w1 size u xs :=
  hs.chg h.chg fun g hg hf => by
    rcases hf with rfl | hf
    · exact (hb _ hg).1 rfl
    · exact (hb _ hg).2 hf
theorem WrAt.bel (h : WrAt w B p v l) (hb : Below w.heap.size w w1) : WrAt w1 B p v l :=
  ⟨h.blk.bel hb h.blk.lt, row_chg h.row (Chg.of_below (F := fun _ => False) hb) fun _ _ h => h⟩
theorem Wrote.below (h : Wrote w B p v w1 v1 l1) (h0 : WrAt w B p v l) (hB : B ≤ w.heap.size) (hp : B ≤ p) : Below B w w1 :=
  h.chg.to_below hB fun i hi hf => by
    rcases hf with rfl | hf
    · exact hp
    · exact (World.ownsRow.lt h0.row i hf).1
end
/-- the writer's block S has the bytes l; below S nothing changed, nor did blocks of other types -/
structure Went (S : Nat) (w w' : World) (v' : Value) (l' : List UInt8) : Prop where
  wr : WrAt w' S S v' l'
  bel : Below S w w'
  size : w.heap.size ≤ w'.heap.size
  keep : ∀ (g : Nat) (t : TypeId) (cs : Array Value), Blk w g t cs → g ≠ S → 5 ≠ t → Blk w' g t cs
theorem Wrote.went {S : Nat} {w w' : World} {v v' : Value} {l l' : List UInt8} (h : Wrote w S S v w' v' l') (h0 : WrAt w S S v l) (hS : S ≤ w.heap.size) : Went S w w' v' l' :=
  ⟨h.wr, h.below h0 hS (Nat.le_refl _), h.chg.size, fun _ _ _ hb hg ht => h.blk h0 hb hg ht⟩
theorem raw_str {S : Nat} {w : World} {v : Value} {l : List UInt8} (h : WrAt w S S v l) (hS : S ≤ w.heap.size) (hl : l.length ≤ 100000000) (x : List UInt8) (hx : x.length ≤ 1000000) {c : Nat} (hc : x.length ≤ c) :
    Calls Tryz.prog 24 #[.pointer (some ⟨S, 0, none⟩), .slice (some ⟨w.heap.size, 0, none⟩) x.length c] (Lib.bytesWorld w 5 (ofB x)) fun e w' => e = .returned (.tuple #[]) ∧ ∃ v', Went S w w' v' (l ++ encR x) := by
  have hb := below_bytes (n := w.heap.size) w 5 (ofB x) (Nat.le_refl _)
  have hsz := Lib.bytesWorld_size w 5 (ofB x)
  have h1 := h.bel hb
  have hlt := h.blk.lt
  have hsee : Sees (Lib.bytesWorld w 5 (ofB x)) 1 (.slice (some ⟨w.heap.size, 0, none⟩) x.length c) (bv x) := by
    refine ⟨_, _, _, rfl, by rw [bv_len]; omega, hc, fun _ => ⟨w.heap.size, 0, rfl, by omega, fun i u hu => ?_⟩⟩
    exact bytes_cell w 5 (ofB x) i u (by rw [toB_ofB]; exact hu)
  refine (raw_walk h1 (by omega) (by omega) (by omega) hsee fun g hg hf => ?_).mono ?_
  · have hg' : g = w.heap.size := by
      cases hx0 : x.length with
      | zero => rw [hx0] at hg; cases hg
      | succ n => rw [hx0] at hg; cases hg; rfl
    rcases hf with hf | hf
    · omega
    · have := (World.ownsRow.lt h.row g hf).2
      omega
  · rintro e w' ⟨rfl, v', hW⟩
    have hw := hW.went h1 (by omega)
    exact ⟨rfl, v', hw.wr, (hb.mono hS).trans hw.bel, by have := hw.size; omega, fun g t cs hbk hg ht => hw.keep g t cs (hbk.bel hb hbk.lt) hg ht⟩
theorem Went.trans {S : Nat} {a b c : World} {v v' : Value} {l l' : List UInt8} (h : Went S a b v l) (k : Went S b c v' l') : Went S a c v' l' :=
  ⟨k.wr, h.bel.trans k.bel, Nat.le_trans h.size k.size, fun g t cs hb hg ht => k.keep g t cs (h.keep g t cs hb hg ht) hg ht⟩
set_option maxRecDepth 1000000 in
theorem encode_bad {w : World} {v : Value} {rs : List Ru} (h0 : SeesR w v rs) (hG : Fits rs) (hF : formed rs = false) :
    Calls Tryz.prog 7 #[v] w fun e w' => e = .returned (.tuple #[.slice none 0 0, .int .i64 1]) ∧ Below w.heap.size w w' := by
  have hwell := well_walk h0 hG.len (fun r hr => Nat.le_trans (hG.each r hr).1 (by omega)) (fun r hr => Nat.le_trans (hG.each r hr).2 (by omega))
  rw [hF] at hwell
  obtain ⟨A, vc, rfl, hcap, hva⟩ := h0.shape
  go_enter Tryz.func7, Tryz.ntmps7
  go_wp2_with fail
  go_at_call 22
  refine hwell.mono ?_
  rintro _ w1 ⟨rfl, hB1⟩
  go_wp2
  go_ret2
  exact ⟨rfl, hB1⟩
set_option maxHeartbeats 8000000 in
set_option maxRecDepth 1000000 in
theorem encode_good {w : World} {v : Value} {rs : List Ru} (h0 : SeesR w v rs) (hG : Fits rs) (hF : formed rs = true) :
    Calls Tryz.prog 7 #[v] w fun e w' => ∃ u, e = .returned (.tuple #[u, .int .i64 0]) ∧ w'.ownsRow w.heap.size 5 1 u (encL rs).length (bv (encL rs)) ∧ Below w.heap.size w w' := by
  have hlen := hG.len
  have hwell := well_walk h0 hG.len (fun r hr => Nat.le_trans (hG.each r hr).1 (by omega)) (fun r hr => Nat.le_trans (hG.each r hr).2 (by omega))
  rw [hF] at hwell
  have hconv := conv_bytes
  have hEl := hG.encLen
  have hin : In64 (rs.length : Int) := ⟨by omega, by omega⟩
  have hI1 : (encI (rs.length : Int)).length ≤ 10 := uv_ten (zz_lt hin)
  obtain ⟨L, hL⟩ : ∃ L, encL rs = L := ⟨_, rfl⟩
  have hL' := Lib.hid (show encI (rs.length : Int) ++ encMany rs = L from hL)
  rw [hL] at hEl ⊢
  clear hL
  obtain ⟨A, vc, rfl, hcap, hva⟩ := h0.shape
  go_enter Tryz.func7, Tryz.ntmps7
  go_wp2_with fail
  go_at_call 22
  refine hwell.mono ?_
  clear hwell
  rintro _ w1 ⟨rfl, hB1⟩
  have s1 := hB1.size
  obtain ⟨S, hS⟩ : ∃ S, w1.heap.size = S := ⟨_, rfl⟩
  have ha1 : WrAt (w1.alloc (.cells #[.slice none 0 0] 63)) S S (.slice none 0 0) [] := ⟨hS ▸ Blk.made w1 63 #[.slice none 0 0], World.ownsRow_nil _ _ _ _⟩
  have hz : (w1.alloc (.cells #[.slice none 0 0] 63)).heap.size = S + 1 := by rw [World.size_alloc, hS]
  have hi := int_walk ha1 (by omega) (by simp) hin
  go_wp2_with fail
  go_at_call 23
  refine hi.mono ?_
  clear hi
  rintro _ w2 ⟨rfl, v2, hW2⟩
  have hw2 := hW2.went ha1 (by omega)
  have hB2 : Below S w1 w2 := ((Below.refl S w1).alloc (by omega) _).trans hw2.bel
  have s2 := hw2.size
  have hwr2 := hw2.wr
  rw [List.nil_append] at hwr2
  clear hW2 hw2 ha1
  go_wp2
  go_loopw [15] (fun i wr => ∃ (j : Nat) (v' : Value), j ≤ rs.length ∧ i = .int .i64 j ∧ WrAt wr S S v' (encI (rs.length : Int) ++ encMany (rs.take j)) ∧ Below S w1 wr ∧ S + 1 ≤ wr.heap.size) (fun i _ => rs.length - (intOf i).toNat)
  case atStart => exact ⟨0, v2, Nat.zero_le _, rfl, by simpa [encMany] using hwr2, hB2, by omega⟩
  case round =>
    obtain ⟨j, v', hj, rfl, hwr, hbel, hsz⟩ := hrel
    by_cases hjl : j < rs.length
    · obtain ⟨g, so, rfl, hg, hcells⟩ := hva (by omega)
      obtain ⟨c0, c1, c2⟩ := hcells j hjl
      have hbel0 : Below w.heap.size w wr := hB1.trans (hbel.mono (by omega))
      have c0' := (hbel0.cell (p := ⟨g, so + j * 3, none⟩) hg).trans c0
      have c1' := (hbel0.cell (p := ⟨g, so + j * 3 + 1, none⟩) hg).trans c1
      have c2' := (hbel0.cell (p := ⟨g, so + j * 3 + 2, none⟩) hg).trans c2
      have htk := hG.take j
      have htk1 := hG.take (j + 1)
      have hsn := encMany_snoc rs hjl
      obtain ⟨hn2, hn6⟩ := hG.at hjl
      obtain ⟨nm, hnm⟩ : ∃ s, rs[j].name = s := ⟨_, rfl⟩
      obtain ⟨tx, htx⟩ : ∃ s, rs[j].text = s := ⟨_, rfl⟩
      obtain ⟨ru, hru⟩ : ∃ s, rs[j].runes = s := ⟨_, rfl⟩
      rw [hnm] at c0' hsn hn2
      rw [htx] at c1' hsn hn6
      rw [hru] at c2' hsn
      have hNR : (encR nm).length ≤ 110 := by have := encR_len (l := nm) (by omega); omega
      have hTR : (encR tx).length ≤ 10010 := by have := encR_len (l := tx) (by omega); omega
      obtain ⟨P, hP⟩ : ∃ P, encI (rs.length : Int) ++ encMany (rs.take j) = P := ⟨_, rfl⟩
      have hPl : P.length ≤ 7000000 := by rw [← hP, List.length_append]; omega
      have hfin : encI (rs.length : Int) ++ encMany (rs.take (j + 1)) = P ++ encR nm ++ encR tx ++ encB ru := by rw [← hP, hsn]; simp
      rw [hP] at hwr
      have hR0 : Blk (wr.alloc (.cells #[.string (ofB nm), .string (ofB tx), .bool ru] 65)) wr.heap.size 65 #[.string (ofB nm), .string (ofB tx), .bool ru] := Blk.made _ _ _
      have hwrA := hwr.alloc (.cells #[.string (ofB nm), .string (ofB tx), .bool ru] 65)
      have hBA : Below S w1 (wr.alloc (.cells #[.string (ofB nm), .string (ofB tx), .bool ru] 65)) := hbel.alloc (by omega) _
      have hzA : (wr.alloc (.cells #[.string (ofB nm), .string (ofB tx), .bool ru] 65)).heap.size = wr.heap.size + 1 := World.size_alloc ..
      obtain ⟨WA, hWA⟩ : ∃ WA, wr.alloc (.cells #[.string (ofB nm), .string (ofB tx), .bool ru] 65) = WA := ⟨_, rfl⟩
      obtain ⟨R, hR⟩ : ∃ R, wr.heap.size = R := ⟨_, rfl⟩
      rw [hWA] at hR0 hwrA hBA hzA
      rw [hR] at hR0 hzA hsz
      have r0 := hR0.at' 0
      have hH := Lib.hid hfin
      simp only [List.getElem?_toArray, List.getElem?_cons_zero] at r0
      clear hnm htx hru hG c0 c1 c2 h0 hsn hP hfin htk htk1 hwr hbel0 hcells hva
      have hNS : (ofB nm).size = nm.length := ofB_size nm
      have hTS : (ofB tx).size = tx.length := ofB_size tx
      have hcap1 := cap_le WA (ofB nm)
      have hr1 := fun (c : Nat) (hc : nm.length ≤ c) => raw_str hwrA (by omega) (by omega) nm (by omega) hc
      rw [hNS] at hcap1
      rw [hzA] at hr1
      have hSR : S ≠ R := by omega
      have HZ := Lib.hid hzA
      go_wp2_with fail
      go_at_call 24
      refine (hr1 _ hcap1).mono ?_
      clear hr1 hcap1
      rintro _ w3 ⟨rfl, v3, hw3⟩
      have hR3 := hw3.keep R _ _ hR0 (fun e => hSR e.symm) (by decide)
      have hB3 := hBA.trans hw3.bel
      have s3 := hw3.size
      have hwr3 := hw3.wr
      have r1 := hR3.at' 1
      simp only [List.getElem?_toArray, List.getElem?_cons_succ, List.getElem?_cons_zero] at r1
      have hl3 : (P ++ encR nm).length ≤ 8000000 := by rw [List.length_append]; omega
      have hcap2 := cap_le w3 (ofB tx)
      rw [hTS] at hcap2
      have hr2 := fun (c : Nat) (hc : tx.length ≤ c) => raw_str hwr3 (by omega) (by omega) tx (by omega) hc
      have s3' : R + 1 ≤ w3.heap.size := by omega
      clear hw3 hwrA hBA r0 hzA s3 hwr3 hR0
      obtain ⟨Z3, hZ3⟩ : ∃ Z, w3.heap.size = Z := ⟨_, rfl⟩
      rw [hZ3] at hr2 s3'
      go_wp2_with fail
      go_at_call 24
      refine (hr2 _ hcap2).mono ?_
      clear hr2 hcap2
      rintro _ w4 ⟨rfl, v4, hw4⟩
      have hR4 := hw4.keep R _ _ hR3 (fun e => hSR e.symm) (by decide)
      have hB4 := hB3.trans hw4.bel
      have s4 := hw4.size
      have hwr4 := hw4.wr
      have r2 := hR4.at' 2
      simp only [List.getElem?_toArray, List.getElem?_cons_succ, List.getElem?_cons_zero] at r2
      have hl4 : (P ++ encR nm ++ encR tx).length ≤ 9000000 := by rw [List.length_append]; omega
      have hb := bool_walk hwr4 (by omega) (by omega) ru
      have s4' : Z3 ≤ w4.heap.size := by omega
      clear hw4 r1 hR3 s4 hZ3
      go_wp2_with fail
      go_at_call 25
      refine hb.mono ?_
      clear hb
      rintro _ w5 ⟨rfl, v5, hW5⟩
      have hw5 := hW5.went hwr4 (by omega)
      have hB5 := hB4.trans hw5.bel
      have s5 := hw5.size
      have hwr5 := hw5.wr
      rw [← hH.out] at hwr5
      clear hw5 hW5 hwr4 hR4 r2 hl3 hl4
      go_wp2
      go_roundw
      case rel => exact ⟨j + 1, v5, hjl, by go_num, hwr5, hB5, by omega⟩
      case measure => simp [intOf]; omega
    · have hje : j = rs.length := by omega
      subst hje
      rw [List.take_length, hL'.out] at hwr
      have hd := done_walk hwr (by omega)
      go_wp2_with fail
      go_at_call 26
      refine hd.mono ?_
      rintro _ w9 ⟨u, rfl, hrow9, hB9⟩
      go_wp2
      go_ret2
      exact ⟨u, rfl, row_base hrow9 (by omega), (hB1.trans (hbel.mono (by omega))).trans (hB9.mono (by omega))⟩
end Go.Proofs.YtdacamjpcdbphaaGreatDoor
namespace Go.Proofs.YtdacamjpcdbphaaGreatDoor
open Go Go.RowKit Go.Smap

theorem refEq (nm tx : ByteArray) (ru : Bool) (w : World) : (binOp .neq 59 (.agg #[.string nm, .string tx, .bool ru]) (.agg #[.string nm, .string tx, .bool ru])).run Tryz.prog w = .ok (.bool false) w := by
  go_simp
set_option maxHeartbeats 4000000 in
set_option maxRecDepth 1000000 in
theorem same29_walk {w : World} {v1 v2 : Value} {rs : List Ru} (h1 : SeesR w v1 rs) (h2 : SeesR w v2 rs) (hlen : rs.length ≤ 1000) :
    Calls Tryz.prog 14 #[v1, v2] w fun e w' => e = .returned (.bool true) ∧ Below w.heap.size w w' := by
  obtain ⟨va, vc, rfl, -, hva⟩ := h1.shape
  obtain ⟨ua, uc, rfl, -, hua⟩ := h2.shape
  go_enter Tryz.func14, Tryz.ntmps14
  go_wp2
  go_loopw [5] (fun i wr => ∃ j : Nat, j ≤ rs.length ∧ i = .int .i64 j ∧ Below w.heap.size w wr) (fun i _ => rs.length - (intOf i).toNat)
  case atStart => exact ⟨0, Nat.zero_le _, rfl, Below.refl _ _⟩
  case round =>
    obtain ⟨j, hj, rfl, hbel⟩ := hrel
    by_cases hjl : j < rs.length
    · obtain ⟨g, s, rfl, hg, hc⟩ := hva (by omega)
      obtain ⟨g', s', rfl, hg', hd⟩ := hua (by omega)
      obtain ⟨c0, c1, c2⟩ := hc j hjl
      obtain ⟨d0, d1, d2⟩ := hd j hjl
      have c0' := (hbel.cell (p := ⟨g, s + j * 3, none⟩) hg).trans c0
      have c1' := (hbel.cell (p := ⟨g, s + j * 3 + 1, none⟩) hg).trans c1
      have c2' := (hbel.cell (p := ⟨g, s + j * 3 + 2, none⟩) hg).trans c2
      have d0' := (hbel.cell (p := ⟨g', s' + j * 3, none⟩) hg').trans d0
      have d1' := (hbel.cell (p := ⟨g', s' + j * 3 + 1, none⟩) hg').trans d1
      have d2' := (hbel.cell (p := ⟨g', s' + j * 3 + 2, none⟩) hg').trans d2
      obtain ⟨nm, hnm⟩ : ∃ s, ofB rs[j].name = s := ⟨_, rfl⟩
      obtain ⟨tx, htx⟩ : ∃ s, ofB rs[j].text = s := ⟨_, rfl⟩
      obtain ⟨ru, hru⟩ : ∃ s, rs[j].runes = s := ⟨_, rfl⟩
      rw [hnm] at c0' d0'
      rw [htx] at c1' d1'
      rw [hru] at c2' d2'
      have hj1 : (0 : Int) ≤ (j : Int) := Int.natCast_nonneg _
      have hj2 : (j : Int) < (rs.length : Int) := by omega
      have heq := refEq nm tx ru
      clear hnm htx hru c0 c1 c2 d0 d1 d2 hc hd hva hua
      go_wp2_with fail
      refine wp_region_quiet_lit (by kernel_rfl) (by kernel_rfl) ?_
      repeat (with_reducible refine wpQuiet_step (fun K hK => ?_); go_simp; with_reducible refine hK _ ?_; clear hK K)
      with_reducible refine wpQuiet_nil ?_
      rintro _ ⟨nq, rfl⟩
      go_wp2
      go_roundw
      case rel => exact ⟨j + 1, hjl, by go_num, hbel.drewN _⟩
      case measure => simp [intOf]; omega
    · have hje : j = rs.length := by omega
      subst hje
      go_wp2_with fail
      go_ret
      exact ⟨rfl, hbel⟩
set_option maxHeartbeats 8000000 in
set_option maxRecDepth 1000000 in
theorem named_walk (s : ByteArray) (hs : s.size ≤ 100000000) (w : World) :
    Calls Tryz.prog 27 #[.string s] w fun e w' => e = .returned (.bool (named (toB s))) ∧ w' = w := by
  obtain ⟨l, hl⟩ : ∃ l, toB s = l := ⟨_, rfl⟩
  have hsz : s.size = l.length := by rw [← hl, toB_len]
  rw [hl]
  by_cases h1 : s.size < 1
  · have hx : (s.size : Int) < 1 := by omega
    have hn : named l = false := by unfold named; rw [show decide (1 ≤ l.length) = false from decide_eq_false (by omega)]; rfl
    rw [hn]
    clear hn hl hsz
    go_enter Tryz.func27, Tryz.ntmps27
    go_wp2
    go_ret
    exact ⟨rfl, rfl⟩
  by_cases h2 : 16 < s.size
  · have hx : ¬ (s.size : Int) < 1 := by omega
    have hy : (16 : Int) < (s.size : Int) := by omega
    have hn : named l = false := by unfold named; rw [show decide (l.length ≤ 16) = false from decide_eq_false (by omega)]; simp
    rw [hn]
    clear hn hl hsz
    go_enter Tryz.func27, Tryz.ntmps27
    go_wp2
    go_ret
    exact ⟨rfl, rfl⟩
  have hx : ¬ (s.size : Int) < 1 := by omega
  have hy : ¬ (16 : Int) < (s.size : Int) := by omega
  have hn : named l = nameFrom 0 l := by
    unfold named
    rw [show decide (1 ≤ l.length) = true from decide_eq_true (by omega), show decide (l.length ≤ 16) = true from decide_eq_true (by omega)]
    rfl
  rw [hn]
  clear hn
  have hixs := fun (j : Nat) (hj : j < l.length) (w' : World) => str_at hl hj w' 9 Tryz.underlying9
  have hszH := Lib.hid hsz
  obtain ⟨N, hN⟩ : ∃ N, nameFrom 0 l = N := ⟨_, rfl⟩
  have hN0 := Lib.hid (show nameFrom 0 (l.drop 0) = N from hN)
  rw [hN]
  clear hN hl hsz hs h1 h2
  go_enter Tryz.func27, Tryz.ntmps27
  go_wp2
  go_loopw [3] (fun iv wr => ∃ j : Nat, j ≤ l.length ∧ iv = .int .i64 j ∧ wr = w ∧ Hid (nameFrom j (l.drop j) = N)) (fun iv _ => l.length - (intOf iv).toNat)
  case atStart => exact ⟨0, Nat.zero_le _, rfl, rfl, hN0⟩
  case round =>
    obtain ⟨j, hj, rfl, rfl, hM⟩ := hrel
    by_cases hjl : j < l.length
    · have hix := hixs j hjl wr
      have hf := nameFrom_at hjl
      have hb := l[j].toNat_lt
      have hlo : lower l[j] = (decide (97 ≤ l[j].toNat) && decide (l[j].toNat ≤ 122)) := rfl
      have hot : other l[j] = (decide (48 ≤ l[j].toNat) && decide (l[j].toNat ≤ 57) || l[j].toNat == 45) := rfl
      rw [hlo, hot] at hf
      obtain ⟨m, hm⟩ : ∃ m, l[j].toNat = m := ⟨_, rfl⟩
      obtain ⟨X, hX⟩ : ∃ X, nameFrom (j + 1) (l.drop (j + 1)) = X := ⟨_, rfl⟩
      rw [hm, hX] at hf
      rw [hm] at hix hb
      have hfN := hf.symm.trans hM.out
      have HX := Lib.hid hX
      have hjs : (j : Int) < (s.size : Int) := by have := hszH.out; omega
      clear hf hM hlo hot hm hX hixs
      have hcase : (m < 45) ∨ (m = 45) ∨ (45 < m ∧ m < 48) ∨ (48 ≤ m ∧ m ≤ 57) ∨ (57 < m ∧ m < 97) ∨ (97 ≤ m ∧ m ≤ 122) ∨ (122 < m) := by omega
      rcases hcase with hr | hr | hr | hr | hr | hr | hr
      · have t1 : ¬ (97 : Int) ≤ (m : Int) := by omega
        have t2 : (m : Int) ≤ 122 := by omega
        have t3 : ¬ (48 : Int) ≤ (m : Int) := by omega
        have t4 : (m : Int) ≤ 57 := by omega
        have t5 : ((m : Int) == 45) = false := by simp; omega
        have n1 : decide (97 ≤ m) = false := by simp; omega
        have n2 : decide (m ≤ 122) = true := by simp; omega
        have n3 : decide (48 ≤ m) = false := by simp; omega
        have n4 : decide (m ≤ 57) = true := by simp; omega
        have n5 : (m == 45) = false := by simp; omega
        rw [n1, n2, n3, n4, n5] at hfN
        clear n1 n2 n3 n4 n5 hr
        have hfN' := Lib.hid (show N = false by simpa using hfN.symm)
        clear hfN
        by_cases hj0 : j = 0
        · have hj0' : ((j : Int) == 0) = true := by simp; exact hj0
          clear hj0
          go_wp2_with fail
          rw [hfN'.out]
          go_ret
          exact ⟨rfl, rfl⟩
        · have hj0' : ((j : Int) == 0) = false := by simp; omega
          go_wp2_with fail
          rw [hfN'.out]
          go_ret
          exact ⟨rfl, rfl⟩
      · have t1 : ¬ (97 : Int) ≤ (m : Int) := by omega
        have t2 : (m : Int) ≤ 122 := by omega
        have t3 : ¬ (48 : Int) ≤ (m : Int) := by omega
        have t4 : (m : Int) ≤ 57 := by omega
        have t5 : ((m : Int) == 45) = true := by simp; omega
        have n1 : decide (97 ≤ m) = false := by simp; omega
        have n2 : decide (m ≤ 122) = true := by simp; omega
        have n3 : decide (48 ≤ m) = false := by simp; omega
        have n4 : decide (m ≤ 57) = true := by simp; omega
        have n5 : (m == 45) = true := by simp; omega
        rw [n1, n2, n3, n4, n5] at hfN
        clear n1 n2 n3 n4 n5 hr
        by_cases hj0 : j = 0
        · have hj0' : ((j : Int) == 0) = true := by simp; exact hj0
          have hjb : (j != 0) = false := by simp; exact hj0
          rw [hjb] at hfN
          have hfN' := Lib.hid (show N = false by simpa using hfN.symm)
          clear hfN hjb hj0
          go_wp2_with fail
          rw [hfN'.out]
          go_ret
          exact ⟨rfl, rfl⟩
        · have hj0' : ((j : Int) == 0) = false := by simp; omega
          have hjb : (j != 0) = true := by simp; omega
          rw [hjb] at hfN
          have hfN' := Lib.hid (show X = N by simpa using hfN)
          clear hfN hjb
          go_wp2_with fail
          go_roundw
          case rel => exact ⟨j + 1, hjl, by go_num, by trivial, Lib.hid (HX.out.trans hfN'.out)⟩
          case measure => simp [intOf]; omega
      · have t1 : ¬ (97 : Int) ≤ (m : Int) := by omega
        have t2 : (m : Int) ≤ 122 := by omega
        have t3 : ¬ (48 : Int) ≤ (m : Int) := by omega
        have t4 : (m : Int) ≤ 57 := by omega
        have t5 : ((m : Int) == 45) = false := by simp; omega
        have n1 : decide (97 ≤ m) = false := by simp; omega
        have n2 : decide (m ≤ 122) = true := by simp; omega
        have n3 : decide (48 ≤ m) = false := by simp; omega
        have n4 : decide (m ≤ 57) = true := by simp; omega
        have n5 : (m == 45) = false := by simp; omega
        rw [n1, n2, n3, n4, n5] at hfN
        clear n1 n2 n3 n4 n5 hr
        have hfN' := Lib.hid (show N = false by simpa using hfN.symm)
        clear hfN
        by_cases hj0 : j = 0
        · have hj0' : ((j : Int) == 0) = true := by simp; exact hj0
          clear hj0
          go_wp2_with fail
          rw [hfN'.out]
          go_ret
          exact ⟨rfl, rfl⟩
        · have hj0' : ((j : Int) == 0) = false := by simp; omega
          go_wp2_with fail
          rw [hfN'.out]
          go_ret
          exact ⟨rfl, rfl⟩
      · have t1 : ¬ (97 : Int) ≤ (m : Int) := by omega
        have t2 : (m : Int) ≤ 122 := by omega
        have t3 : (48 : Int) ≤ (m : Int) := by omega
        have t4 : (m : Int) ≤ 57 := by omega
        have t5 : ((m : Int) == 45) = false := by simp; omega
        have n1 : decide (97 ≤ m) = false := by simp; omega
        have n2 : decide (m ≤ 122) = true := by simp; omega
        have n3 : decide (48 ≤ m) = true := by simp; omega
        have n4 : decide (m ≤ 57) = true := by simp; omega
        have n5 : (m == 45) = false := by simp; omega
        rw [n1, n2, n3, n4, n5] at hfN
        clear n1 n2 n3 n4 n5 hr
        by_cases hj0 : j = 0
        · have hj0' : ((j : Int) == 0) = true := by simp; exact hj0
          have hjb : (j != 0) = false := by simp; exact hj0
          rw [hjb] at hfN
          have hfN' := Lib.hid (show N = false by simpa using hfN.symm)
          clear hfN hjb hj0
          go_wp2_with fail
          rw [hfN'.out]
          go_ret
          exact ⟨rfl, rfl⟩
        · have hj0' : ((j : Int) == 0) = false := by simp; omega
          have hjb : (j != 0) = true := by simp; omega
          rw [hjb] at hfN
          have hfN' := Lib.hid (show X = N by simpa using hfN)
          clear hfN hjb
          go_wp2_with fail
          go_roundw
          case rel => exact ⟨j + 1, hjl, by go_num, by trivial, Lib.hid (HX.out.trans hfN'.out)⟩
          case measure => simp [intOf]; omega
      · have t1 : ¬ (97 : Int) ≤ (m : Int) := by omega
        have t2 : (m : Int) ≤ 122 := by omega
        have t3 : (48 : Int) ≤ (m : Int) := by omega
        have t4 : ¬ (m : Int) ≤ 57 := by omega
        have t5 : ((m : Int) == 45) = false := by simp; omega
        have n1 : decide (97 ≤ m) = false := by simp; omega
        have n2 : decide (m ≤ 122) = true := by simp; omega
        have n3 : decide (48 ≤ m) = true := by simp; omega
        have n4 : decide (m ≤ 57) = false := by simp; omega
        have n5 : (m == 45) = false := by simp; omega
        rw [n1, n2, n3, n4, n5] at hfN
        clear n1 n2 n3 n4 n5 hr
        have hfN' := Lib.hid (show N = false by simpa using hfN.symm)
        clear hfN
        by_cases hj0 : j = 0
        · have hj0' : ((j : Int) == 0) = true := by simp; exact hj0
          clear hj0
          go_wp2_with fail
          rw [hfN'.out]
          go_ret
          exact ⟨rfl, rfl⟩
        · have hj0' : ((j : Int) == 0) = false := by simp; omega
          go_wp2_with fail
          rw [hfN'.out]
          go_ret
          exact ⟨rfl, rfl⟩
      · have t1 : (97 : Int) ≤ (m : Int) := by omega
        have t2 : (m : Int) ≤ 122 := by omega
        have t3 : (48 : Int) ≤ (m : Int) := by omega
        have t4 : ¬ (m : Int) ≤ 57 := by omega
        have t5 : ((m : Int) == 45) = false := by simp; omega
        have n1 : decide (97 ≤ m) = true := by simp; omega
        have n2 : decide (m ≤ 122) = true := by simp; omega
        have n3 : decide (48 ≤ m) = true := by simp; omega
        have n4 : decide (m ≤ 57) = false := by simp; omega
        have n5 : (m == 45) = false := by simp; omega
        rw [n1, n2, n3, n4, n5] at hfN
        clear n1 n2 n3 n4 n5 hr
        have hfN' := Lib.hid (show X = N by simpa using hfN)
        clear hfN
        by_cases hj0 : j = 0
        · have hj0' : ((j : Int) == 0) = true := by simp; exact hj0
          clear hj0
          go_wp2_with fail
          go_roundw
          case rel => exact ⟨j + 1, hjl, by go_num, by trivial, Lib.hid (HX.out.trans hfN'.out)⟩
          case measure => simp [intOf]; omega
        · have hj0' : ((j : Int) == 0) = false := by simp; omega
          go_wp2_with fail
          go_roundw
          case rel => exact ⟨j + 1, hjl, by go_num, by trivial, Lib.hid (HX.out.trans hfN'.out)⟩
          case measure => simp [intOf]; omega
      · have t1 : (97 : Int) ≤ (m : Int) := by omega
        have t2 : ¬ (m : Int) ≤ 122 := by omega
        have t3 : (48 : Int) ≤ (m : Int) := by omega
        have t4 : ¬ (m : Int) ≤ 57 := by omega
        have t5 : ((m : Int) == 45) = false := by simp; omega
        have n1 : decide (97 ≤ m) = true := by simp; omega
        have n2 : decide (m ≤ 122) = false := by simp; omega
        have n3 : decide (48 ≤ m) = true := by simp; omega
        have n4 : decide (m ≤ 57) = false := by simp; omega
        have n5 : (m == 45) = false := by simp; omega
        rw [n1, n2, n3, n4, n5] at hfN
        clear n1 n2 n3 n4 n5 hr
        have hfN' := Lib.hid (show N = false by simpa using hfN.symm)
        clear hfN
        by_cases hj0 : j = 0
        · have hj0' : ((j : Int) == 0) = true := by simp; exact hj0
          clear hj0
          go_wp2_with fail
          rw [hfN'.out]
          go_ret
          exact ⟨rfl, rfl⟩
        · have hj0' : ((j : Int) == 0) = false := by simp; omega
          go_wp2_with fail
          rw [hfN'.out]
          go_ret
          exact ⟨rfl, rfl⟩
    · have hje : j = l.length := by omega
      subst hje
      have hfin : N = true := by have := hM.out; rw [List.drop_length] at this; exact this.symm
      subst hfin
      have hjs : ¬ (l.length : Int) < (s.size : Int) := by have := hszH.out; omega
      clear hM hixs
      go_wp2
      go_ret
      exact ⟨rfl, rfl⟩
end Go.Proofs.YtdacamjpcdbphaaGreatDoor
namespace Go.Proofs.YtdacamjpcdbphaaGreatDoor
open Go Go.RowKit Go.Smap

set_option maxHeartbeats 8000000 in
set_option maxRecDepth 1000000 in
theorem formed_walk {w : World} {v : Value} {rs : List Ru} (h0 : SeesR w v rs) (hlen : rs.length ≤ 1000) (hnb : ∀ r ∈ rs, r.name.length ≤ 1000000) :
    Calls Tryz.prog 9 #[v] w fun e w' => e = .returned (.bool (formed rs)) ∧ Below w.heap.size w w' := by
  obtain ⟨va, vc, rfl, -, hva⟩ := h0.shape
  by_cases hbig : 500 < rs.length
  · have hb : (500 : Int) < (rs.length : Int) := by omega
    have hf : formed rs = false := by unfold formed; rw [show decide (rs.length ≤ 500) = false from decide_eq_false (by omega)]; rfl
    rw [hf]
    go_enter Tryz.func9, Tryz.ntmps9
    go_wp2_with fail
    go_ret
    exact ⟨rfl, Below.refl _ _⟩
  have hb : ¬ (500 : Int) < (rs.length : Int) := by omega
  have hf : formed rs = formedFrom [] rs := by unfold formed; rw [show decide (rs.length ≤ 500) = true from decide_eq_true (by omega)]; rfl
  rw [hf]
  clear hf
  obtain ⟨N, hN⟩ : ∃ N, formedFrom [] rs = N := ⟨_, rfl⟩
  have hN0 := Lib.hid (show formedFrom ((rs.take 0).map Ru.name) (rs.drop 0) = N from hN)
  rw [hN]
  clear hN
  go_enter Tryz.func9, Tryz.ntmps9
  go_wp2
  go_loopw [3] (fun iv wr => ∃ j : Nat, j ≤ rs.length ∧ iv = .int .i64 j ∧ Below w.heap.size w wr ∧ Hid (formedFrom ((rs.take j).map Ru.name) (rs.drop j) = N)) (fun iv _ => rs.length - (intOf iv).toNat)
  case atStart => exact ⟨0, Nat.zero_le _, rfl, Below.refl _ _, hN0⟩
  case round =>
    obtain ⟨j, hj, rfl, hbel, hM⟩ := hrel
    by_cases hjl : j < rs.length
    · obtain ⟨g, s, rfl, hg, hc⟩ := hva (by omega)
      have hcc := fun (w' : World) (hb' : Below w.heap.size w w') (q : Nat) (hq : q < rs.length) => (hb'.cell (p := ⟨g, s + q * 3, none⟩) hg).trans (hc q hq).1
      have HCC := Lib.hid hcc
      obtain ⟨c0, c1, c2⟩ := hc j hjl
      have c0' := (hbel.cell (p := ⟨g, s + j * 3, none⟩) hg).trans c0
      have c1' := (hbel.cell (p := ⟨g, s + j * 3 + 1, none⟩) hg).trans c1
      have hst := Lib.hid ((formed_at hjl).symm.trans hM.out)
      have hnm1 := named_walk (ofB rs[j].name) (by rw [ofB_size]; have := hnb _ (List.getElem_mem hjl); omega) wr
      rw [toB_ofB] at hnm1
      have hst' := hst.out
      obtain ⟨nm, hnm⟩ : ∃ s, ofB rs[j].name = s := ⟨_, rfl⟩
      obtain ⟨tx, htx⟩ : ∃ s, ofB rs[j].text = s := ⟨_, rfl⟩
      rw [hnm] at c0' hnm1
      rw [htx] at c1'
      have htl : tx.size = rs[j].text.length := by rw [← htx, ofB_size]
      obtain ⟨jn, hjn⟩ : ∃ x, rs[j].name = x := ⟨_, rfl⟩
      obtain ⟨jt, hjt⟩ : ∃ x, rs[j].text = x := ⟨_, rfl⟩
      rw [hjn] at hst' hnm hnm1
      rw [hjt] at hst' htx htl
      clear hst
      have hst := Lib.hid hst'
      clear hst'
      obtain ⟨nb, hnb'⟩ : ∃ b, named jn = b := ⟨_, rfl⟩
      rw [hnb'] at hnm1
      have hi1 : (0 : Int) ≤ (j : Int) := Int.natCast_nonneg _
      have hi2 : (j : Int) < (rs.length : Int) := by omega
      have HB := Lib.hid hnb'
      have HT := Lib.hid htl
      have HN := Lib.hid hnm
      have HJ := Lib.hid hjn
      clear hcc hM hnm htx htl hnb' c0 c1 c2 hva hc hjn hjt
      go_wp2_with fail
      refine hnm1.mono ?_
      clear hnm1
      rintro _ w1 ⟨rfl, rfl⟩
      cases nb with
      | false =>
        have hfin : N = false := by have := hst.out; rw [HB.out] at this; simpa using this.symm
        go_wp2_with fail
        rw [hfin]
        go_ret
        exact ⟨rfl, hbel⟩
      | true =>
        by_cases htb : 2048 < tx.size
        · have htb' : (2048 : Int) < (tx.size : Int) := by omega
          have hfin : N = false := by
            have := hst.out
            rw [show decide (jt.length ≤ 2048) = false from decide_eq_false (by have := HT.out; omega)] at this
            simpa using this.symm
          go_wp2_with fail
          rw [hfin]
          go_ret
          exact ⟨rfl, hbel⟩
        · have htb' : ¬ (2048 : Int) < (tx.size : Int) := by omega
          go_wp2_with fail
          go_loopw [4] (fun kv wr => ∃ q : Nat, q ≤ j ∧ kv = .int .i64 q ∧ Below w.heap.size w wr ∧ Hid (∀ p, p < q → (rs.map Ru.name)[p]? ≠ some jn)) (fun kv _ => j - (intOf kv).toNat)
          case atStart => exact ⟨0, Nat.zero_le _, rfl, hbel, Lib.hid (fun p hp => absurd hp (by omega))⟩
          case round =>
            obtain ⟨q, hq, rfl, hbel2, hQ⟩ := hrel
            have e0 := HCC.out wr hbel2 j hjl
            by_cases hqj : q < j
            · have hqr : q < rs.length := by omega
              have e1 := HCC.out wr hbel2 q hqr
              have hqI : (q : Int) < (j : Int) := by omega
              have hqI2 : (q : Int) < (rs.length : Int) := by omega
              have hq0 : (0 : Int) ≤ (q : Int) := Int.natCast_nonneg _
              have hqn : (rs.map Ru.name)[q]? = some rs[q].name := by rw [List.getElem?_map, List.getElem?_eq_getElem hqr]; rfl
              obtain ⟨qn, hqn'⟩ : ∃ x, rs[q].name = x := ⟨_, rfl⟩
              have hj' := HJ.out
              have hn' := HN.out
              rw [hqn'] at e1 hqn
              rw [hj', hn'] at e0
              have HQN := Lib.hid hqn
              clear hqn' hqn hj' hn'
              by_cases hsame : qn = jn
              · subst hsame
                rw [HN.out] at e1
                go_wp2_with fail
                refine wp_region_quiet_lit (by kernel_rfl) (by kernel_rfl) ?_
                repeat (with_reducible refine wpQuiet_step (fun K hK => ?_); go_simp; with_reducible refine hK _ ?_; clear hK K)
                with_reducible refine wpQuiet_nil ?_
                rintro _ ⟨nq, rfl⟩
                have hmem : qn ∈ (rs.take j).map Ru.name := by
                  have h1 := HQN.out
                  rw [List.map_take]
                  exact List.mem_of_getElem? (by rw [List.getElem?_take]; rw [if_pos hqj]; exact h1)
                have hfin : N = false := by
                  have := hst.out
                  rw [show decide (qn ∈ (rs.take j).map Ru.name) = true from decide_eq_true hmem] at this
                  simpa using this.symm
                clear hmem
                go_wp2_with fail
                rw [hfin]
                go_ret
                exact ⟨rfl, hbel2.drewN _⟩
              · obtain ⟨qs, hqs⟩ : ∃ x, ofB qn = x := ⟨_, rfl⟩
                rw [hqs] at e1
                have hne : (qs.toList == nm.toList) = false := by
                  rw [beq_eq_false_iff_ne]
                  intro e
                  rw [ByteArray.toList_eq, ByteArray.toList_eq] at e
                  exact hsame (ofB_inj (by rw [hqs, HN.out]; exact ByteArray.ext (Array.toList_inj.1 e)))
                have hsm := Lib.hid hsame
                clear hqs hsame
                go_wp2_with fail
                refine wp_region_quiet_lit (by kernel_rfl) (by kernel_rfl) ?_
                repeat (with_reducible refine wpQuiet_step (fun K hK => ?_); go_simp; with_reducible refine hK _ ?_; clear hK K)
                with_reducible refine wpQuiet_nil ?_
                rintro _ ⟨nq, rfl⟩
                go_wp2_with fail
                go_roundw
                case rel =>
                  refine ⟨q + 1, hqj, by go_num, hbel2.drewN _, Lib.hid (fun p hp => ?_)⟩
                  by_cases hpq : p < q
                  · exact hQ.out p hpq
                  · have : p = q := by omega
                    subst this
                    rw [HQN.out]
                    intro e
                    exact hsm.out (Option.some.inj e)
                case measure => simp [intOf]; omega
            · have hqe : q = j := by omega
              subst hqe
              have hnm2 : jn ∉ (rs.take q).map Ru.name := by
                intro h
                rw [List.map_take] at h
                obtain ⟨p, hp, e⟩ := List.getElem_of_mem h
                have hp' : p < q := by rw [List.length_take] at hp; omega
                exact hQ.out p hp' (by rw [← e, List.getElem_take, List.getElem?_eq_getElem])
              have hnext : Hid (formedFrom ((rs.take (q + 1)).map Ru.name) (rs.drop (q + 1)) = N) := by
                show _ = _
                have := hst.out
                rw [HB.out, show decide (jn ∈ (rs.take q).map Ru.name) = false from decide_eq_false hnm2, show decide (jt.length ≤ 2048) = true from decide_eq_true (by have := HT.out; omega)] at this
                simpa using this
              clear hnm2
              go_wp2_with fail
              go_roundw
              case rel => exact ⟨q + 1, hjl, by go_num, hbel2, hnext⟩
              case measure => simp [intOf]; omega
    · have hje : j = rs.length := by omega
      subst hje
      have hfin : N = true := by have := hM.out; rw [List.drop_length] at this; exact this.symm
      clear hM
      subst hfin
      go_wp2_with fail
      go_ret
      exact ⟨rfl, hbel⟩
end Go.Proofs.YtdacamjpcdbphaaGreatDoor
namespace Go.Proofs.YtdacamjpcdbphaaGreatDoor
open Go Go.RowKit Go.Smap

set_option maxHeartbeats 4000000 in
set_option maxRecDepth 1000000 in
theorem real_walk {w : World} {v : Value} {rs : List Ru} (h0 : SeesR w v rs) (hlen : rs.length ≤ 1000) :
    Calls Tryz.prog 8 #[v] w fun e w' => ∃ v', e = .returned v' ∧ w'.ownsRow w.heap.size 65 3 v' rs.length (rs.flatMap Ru.cells) ∧ Below w.heap.size w w' := by
  obtain ⟨i0, hi0, hz0, hz1, hz2⟩ := info_parts' infoRule
  obtain ⟨va, vc, rfl, -, hva⟩ := h0.shape
  go_enter Tryz.func8, Tryz.ntmps8
  go_wp2
  go_loopw [3, 4] (fun v i wr => ∃ k : Nat, k ≤ rs.length ∧ i = .int .i64 k ∧ wr.ownsRow w.heap.size 65 3 v k ((rs.take k).flatMap Ru.cells) ∧ Below w.heap.size w wr) (fun _ i _ => rs.length - (intOf i).toNat)
  case atStart => exact ⟨0, Nat.zero_le _, rfl, World.ownsRow_nil _ _ _ _, Below.refl _ _⟩
  case round =>
    obtain ⟨k, hk, rfl, hown, hbel⟩ := hrel
    by_cases hkl : k < rs.length
    · obtain ⟨g, s, rfl, hg, hc⟩ := hva (by omega)
      obtain ⟨c0, c1, c2⟩ := hc k hkl
      have c0' := (hbel.cell (p := ⟨g, s + k * 3, none⟩) hg).trans c0
      have c1' := (hbel.cell (p := ⟨g, s + k * 3 + 1, none⟩) hg).trans c1
      have c2' := (hbel.cell (p := ⟨g, s + k * 3 + 2, none⟩) hg).trans c2
      have hsz := hbel.size
      have hltr := World.ownsRow.lt hown
      have hn1 : k + 1 ≤ maxLen := by unfold maxLen; omega
      have hn2 : (k + 1) * 40 ≤ 140737488355328 := by omega
      have hi1 : (0 : Int) ≤ (k : Int) := Int.natCast_nonneg _
      have hi2 : (k : Int) < (rs.length : Int) := by omega
      have ag := fun e => Nat.not_le_of_lt hg (hltr g e).1
      have htk : Hid ((rs.take (k + 1)).flatMap Ru.cells = (rs.take k).flatMap Ru.cells ++ [.string (ofB rs[k].name), .string (ofB rs[k].text), .bool rs[k].runes]) := by
        show _ = _
        rw [List.take_succ_eq_append_getElem hkl, List.flatMap_append]
        simp [Ru.cells]
      obtain ⟨nm, hnm⟩ : ∃ s, ofB rs[k].name = s := ⟨_, rfl⟩
      obtain ⟨tx, htx⟩ : ∃ s, ofB rs[k].text = s := ⟨_, rfl⟩
      obtain ⟨ru, hru⟩ : ∃ s, rs[k].runes = s := ⟨_, rfl⟩
      rw [hnm] at c0 c0' htk
      rw [htx] at c1 c1' htk
      rw [hru] at c2 c2' htk
      clear hnm htx hru c0 c1 c2 hc hva
      go_wp2_with fail
      go_region_held3 (fun w' => w'.cell? ⟨g, s + k * 3, none⟩ = some (.string nm) ∧ w'.cell? ⟨g, s + k * 3 + 1, none⟩ = some (.string tx) ∧ w'.cell? ⟨g, s + k * 3 + 2, none⟩ = some (.bool ru))
        (first
          | go_keep
          | (go_split_ands
             refine ⟨?_, ?_, ?_⟩
             · (rw [hgrow.cell_far _ (by simp; omega) (fun e => ag e.symm)]; assumption)
             · (rw [hgrow.cell_far _ (by simp; omega) (fun e => ag e.symm)]; assumption)
             · (rw [hgrow.cell_far _ (by simp; omega) (fun e => ag e.symm)]; assumption)))
        ((refine step_append_lies _ (by rfl) _ _ _ (by rfl) w.heap.size 65 i0 _ 3 40 Tryz.underlying32 hi0 hz0 hz1 hz2 rfl (by omega) _ k ((rs.take k).flatMap Ru.cells) (by rfl) ((hown.alloc _).drew)
            ⟨wr.heap.size, 0, none⟩ 1 1 [.string nm, .string tx, .bool ru] (by rfl) (by rfl) (World.news_of_block (cs := #[.string nm, .string tx, .bool ru]) (t := 65) (fr := (0, 0)) (heap_alloc_new wr _)) (by simp [Value.oneCell'])
            (by omega) hn1 hn2 (by simp; omega) (wr.heap.size + 1) (by simp) ?_; intro gg cap w1 hown1 hgrow hat hlt))
      go_wp2
      go_roundw
      case rel =>
        refine ⟨k + 1, hkl, by go_num, by rw [htk.out]; exact hown1, ((hbel.alloc hsz _).drew).grown hgrow (by simp; omega) fun x hx => (hltr x hx).1⟩
      case measure => simp [intOf]; omega
    · have hke : k = rs.length := by omega
      subst hke
      rw [List.take_length] at hown
      go_wp2_with fail
      go_ret
      exact ⟨_, rfl, hown, hbel⟩
set_option maxHeartbeats 4000000 in
set_option maxRecDepth 1000000 in
theorem plain_walk {w : World} {v : Value} {rs : List Ru} (h0 : SeesR w v rs) (hlen : rs.length ≤ 1000) :
    Calls Tryz.prog 15 #[v] w fun e w' => ∃ v', e = .returned v' ∧ w'.ownsRow w.heap.size 59 3 v' rs.length (rs.flatMap Ru.cells) ∧ Below w.heap.size w w' := by
  obtain ⟨i0, hi0, hz0, hz1, hz2⟩ := info_parts' infoRef
  obtain ⟨va, vc, rfl, -, hva⟩ := h0.shape
  go_enter Tryz.func15, Tryz.ntmps15
  go_wp2
  go_loopw [3, 4] (fun v i wr => ∃ k : Nat, k ≤ rs.length ∧ i = .int .i64 k ∧ wr.ownsRow w.heap.size 59 3 v k ((rs.take k).flatMap Ru.cells) ∧ Below w.heap.size w wr) (fun _ i _ => rs.length - (intOf i).toNat)
  case atStart => exact ⟨0, Nat.zero_le _, rfl, World.ownsRow_nil _ _ _ _, Below.refl _ _⟩
  case round =>
    obtain ⟨k, hk, rfl, hown, hbel⟩ := hrel
    by_cases hkl : k < rs.length
    · obtain ⟨g, s, rfl, hg, hc⟩ := hva (by omega)
      obtain ⟨c0, c1, c2⟩ := hc k hkl
      have c0' := (hbel.cell (p := ⟨g, s + k * 3, none⟩) hg).trans c0
      have c1' := (hbel.cell (p := ⟨g, s + k * 3 + 1, none⟩) hg).trans c1
      have c2' := (hbel.cell (p := ⟨g, s + k * 3 + 2, none⟩) hg).trans c2
      have hsz := hbel.size
      have hltr := World.ownsRow.lt hown
      have hn1 : k + 1 ≤ maxLen := by unfold maxLen; omega
      have hn2 : (k + 1) * 40 ≤ 140737488355328 := by omega
      have hi1 : (0 : Int) ≤ (k : Int) := Int.natCast_nonneg _
      have hi2 : (k : Int) < (rs.length : Int) := by omega
      have ag := fun e => Nat.not_le_of_lt hg (hltr g e).1
      have htk : Hid ((rs.take (k + 1)).flatMap Ru.cells = (rs.take k).flatMap Ru.cells ++ [.string (ofB rs[k].name), .string (ofB rs[k].text), .bool rs[k].runes]) := by
        show _ = _
        rw [List.take_succ_eq_append_getElem hkl, List.flatMap_append]
        simp [Ru.cells]
      obtain ⟨nm, hnm⟩ : ∃ s, ofB rs[k].name = s := ⟨_, rfl⟩
      obtain ⟨tx, htx⟩ : ∃ s, ofB rs[k].text = s := ⟨_, rfl⟩
      obtain ⟨ru, hru⟩ : ∃ s, rs[k].runes = s := ⟨_, rfl⟩
      rw [hnm] at c0 c0' htk
      rw [htx] at c1 c1' htk
      rw [hru] at c2 c2' htk
      clear hnm htx hru c0 c1 c2 hc hva
      go_wp2_with fail
      go_region_held3 (fun w' => w'.cell? ⟨g, s + k * 3, none⟩ = some (.string nm) ∧ w'.cell? ⟨g, s + k * 3 + 1, none⟩ = some (.string tx) ∧ w'.cell? ⟨g, s + k * 3 + 2, none⟩ = some (.bool ru))
        (first
          | go_keep
          | (go_split_ands
             refine ⟨?_, ?_, ?_⟩
             · (rw [hgrow.cell_far _ (by simp; omega) (fun e => ag e.symm)]; assumption)
             · (rw [hgrow.cell_far _ (by simp; omega) (fun e => ag e.symm)]; assumption)
             · (rw [hgrow.cell_far _ (by simp; omega) (fun e => ag e.symm)]; assumption)))
        ((refine step_append_lies _ (by rfl) _ _ _ (by rfl) w.heap.size 59 i0 _ 3 40 Tryz.underlying24 hi0 hz0 hz1 hz2 rfl (by omega) _ k ((rs.take k).flatMap Ru.cells) (by rfl) ((hown.alloc _).drew)
            ⟨wr.heap.size, 0, none⟩ 1 1 [.string nm, .string tx, .bool ru] (by rfl) (by rfl) (World.news_of_block (cs := #[.string nm, .string tx, .bool ru]) (t := 59) (fr := (0, 0)) (heap_alloc_new wr _)) (by simp [Value.oneCell'])
            (by omega) hn1 hn2 (by simp; omega) (wr.heap.size + 1) (by simp) ?_; intro gg cap w1 hown1 hgrow hat hlt))
      go_wp2
      go_roundw
      case rel =>
        refine ⟨k + 1, hkl, by go_num, by rw [htk.out]; exact hown1, ((hbel.alloc hsz _).drew).grown hgrow (by simp; omega) fun x hx => (hltr x hx).1⟩
      case measure => simp [intOf]; omega
    · have hke : k = rs.length := by omega
      subst hke
      rw [List.take_length] at hown
      go_wp2_with fail
      go_ret
      exact ⟨_, rfl, hown, hbel⟩
end Go.Proofs.YtdacamjpcdbphaaGreatDoor
namespace Go.Proofs.YtdacamjpcdbphaaGreatDoor
open Go Go.RowKit

theorem dOne_encF {r : Ru} (h : r.name.length ≤ 100 ∧ r.text.length ≤ 10000) (t : List UInt8) : dOne (encOne r ++ t) = some (r, t) := by
  unfold dOne encOne
  rw [List.append_assoc, List.append_assoc, dR_enc (by omega)]
  simp only
  rw [dR_enc (by omega)]
  simp only
  rw [dB_enc]
theorem dMany_encF : ∀ (l : List Ru) (t : List UInt8), (∀ r ∈ l, r.name.length ≤ 100 ∧ r.text.length ≤ 10000) → dMany l.length (encMany l ++ t) = some (l, t)
  | [], t, _ => rfl
  | r :: l, t, h => by
    show dMany (l.length + 1) ((encOne r ++ encMany l) ++ t) = _
    rw [dMany, List.append_assoc, dOne_encF (h r (List.mem_cons_self ..))]
    simp only
    rw [dMany_encF l t fun x hx => h x (List.mem_cons_of_mem _ hx)]
theorem decL_unformed {l : List Ru} (hF : Fits l) (h : formed l = false) : decL (encL l) = none := by
  have hl := hF.len
  unfold decL encL
  rw [dI_enc ⟨by omega, by omega⟩]
  simp only
  split
  · rfl
  · have e : (l.length : Int).toNat = l.length := by omega
    have := dMany_encF l [] hF.each
    rw [List.append_nil] at this
    rw [e, this]
    simp [h]
theorem formed_fits {l : List Ru} (h : formed l = true) : Fits l := by
  have h' := h
  unfold formed at h'
  simp only [Bool.and_eq_true, decide_eq_true_eq] at h'
  refine ⟨by omega, fun r hr => ?_⟩
  have := formedFrom_len h'.2 r hr
  omega
end Go.Proofs.YtdacamjpcdbphaaGreatDoor
namespace Go.Proofs.YtdacamjpcdbphaaGreatDoor
open Go Go.RowKit

section
variable {P : Program} {w : World} {base size : Nat} {e : TypeId}
theorem step_append_sees {ops : Array Oper} {o : Oper} {a : Act} {K : Act → World → Prop} {Q : Exit → Act → World → Prop} {E : Prop} (hgd : o.guard = none) (s x : Operand) (t : TypeId)
    (ho : o.op = .call { callee := .builtin .append, args := #[s, x], argTypes := #[t, t] })
    (i : TypeInfo) (z : Value) (bytes : Nat) (ht : P.underlying t = some (.slice e)) (hi : P.info? e = some i) (hz : i.zero = some z)
    (hsize : i.size = size) (hby : i.bytes = bytes) (hzs : z.cells.size = size) (hsz : 0 < size)
    (v : Value) (n : Nat) (xs : List Value) (hs : a.eval s = v) (hown : w.ownsRow base e size v n xs)
    (u : Value) (m : Nat) (news : List Value) (hx : a.eval x = u) (hrow : Sees w size u news) (hm : news.length = m * size) (h1 : ∀ u ∈ news, u.oneCell' = true)
    (h63 : n + m ≤ maxLen) (hbytes : (n + m) * bytes ≤ 140737488355328) (hbase : base ≤ w.heap.size)
    (h : ∀ v' w', w'.ownsRow base e size v' (n + m) (xs ++ news) → w.grownBy w' v.ownBlock → (v'.ownBlock = v.ownBlock ∨ ∃ g, v'.ownBlock = some g ∧ w.heap.size ≤ g) → K (a.put o.dst v') w') :
    if Region.wanted o (yielded ops a.tmps) = true then Oper.wp P o a w K Q else E := by
  have hw : Region.wanted o (yielded ops a.tmps) = true := by simp [Region.wanted, hgd]
  rw [if_pos hw]
  have key : ∃ v' w', (Builtin.append_ #[t, t] o.type #[v, u]).run P w = .ok v' w' ∧ w'.ownsRow base e size v' (n + m) (xs ++ news) ∧ w.grownBy w' v.ownBlock ∧ (v'.ownBlock = v.ownBlock ∨ ∃ g, v'.ownBlock = some g ∧ w.heap.size ≤ g) := by
    obtain ⟨A, m', c, rfl, k1, k2, k3⟩ := hrow
    have hmm : m' = m := Nat.eq_of_mul_eq_mul_right hsz (k1.symm.trans hm)
    subst hmm
    cases A with
    | none =>
      have hm0 : m' = 0 := by
        rcases Nat.eq_zero_or_pos m' with h0 | h0
        · exact h0
        · obtain ⟨b, s, hb, _⟩ := k3 (by omega)
          cases hb
      subst hm0
      have hn : news = [] := List.length_eq_zero_iff.1 (by simpa using k1)
      subst hn
      refine ⟨v, w, ?_, by simpa using hown, grown_refl _ _, .inl rfl⟩
      rcases hown.2 with ⟨rfl, rfl⟩ | ⟨g, cap, cur, rfl, _, _, hnc, _⟩
      · simp [Builtin.append_, run_underlying ht, sizeOf, typeInfo, hi, Builtin.lenOf, Builtin.firstCells]
      · simp [Builtin.append_, run_underlying ht, sizeOf, typeInfo, hi, Builtin.lenOf, Builtin.firstCells, hnc, storeCells]
    | some ad =>
      have hcells : ∀ j u, news[j]? = some u → w.cell? (ad.add j) = some u := by
        intro j u hj
        have hlen := (List.getElem?_eq_some_iff.1 hj).1
        obtain ⟨b, s, hb, _, hc⟩ := k3 (fun e => by subst e; rw [Nat.zero_mul] at k1; omega)
        cases hb
        rw [add_flat]
        exact hc j u hj
      obtain ⟨v', w', h2, h3, h4, _, h5⟩ := run_append_own_at w base t o.type e i z size bytes ht hi hz hsize hby hzs hsz v n xs hown ad m' c news k1 hcells h1 h63 hbytes hbase
      exact ⟨v', w', h2, h3, h4, h5.imp id fun h => ⟨_, h, Nat.le_refl _⟩⟩
  obtain ⟨v', w', hr, h3, h4, h5⟩ := key
  unfold Oper.wp execOp
  simp only [ho, resolve, invoke, builtin, Sem.run_bind, Sem.run_pure, Result.andThen_ok, List.map_toArray, List.map_cons, List.map_nil, hs, hx, hr]
  exact h v' w' h3 h4 h5
end
end Go.Proofs.YtdacamjpcdbphaaGreatDoor
