/-
  The store: how it lies; has, Len, Active, Load and the copy of rules, walked.
  Save, walked on a calm disk.
  Use, walked on a calm disk.
  replay, walked at records that can be replayed.
  Open, walked on a calm disk whose file holds records that can be replayed.
  A disk with stores on it: what their operations keep.
  Diff at the documented example: the contract.
  New disks and opened stores.
  The documented example, walked.
  Few, walked: the rules that are made from numbers.
  own and same, walked: rules of the package and of the reference.
  What the law keeps beside the stores: the rules that were given to each.
-/
import Derived.Test.YtkndgmjlphppdaaGreatDoorDurG1a
import Derived.Test.YtkndgmjlphppdaaGreatDoorDecoW
import Derived.Test.YtkndgmjlphppdaaGreatDoorDurG0d
import Derived.Deep.RegionLaw
import Derived.Test.YtkndgmjlphppdaaGreatDoorDiffKW
import Derived.Lib.Hide
import Derived.Deep.AppendLies
import Derived.Deep.RegionHeld3
namespace Go.Proofs.YtkndgmjlphppdaaGreatDoor
open Go Go.RowKit Go.Imap

/-- a store on the disk db, in the file k, with n records -/
structure StAt (w : World) (B sb lg db k n : Nat) (vv : Value) (its : List (Value × List Ru)) (act : Int) : Prop where
  st : Blk w sb 69 #[.pointer (some ⟨lg, 0, none⟩), vv, .int .i64 act]
  log : Blk w lg 103 #[.pointer (some ⟨db, 0, none⟩), .int .i64 (k : Int), .int .i64 (n : Int), .bool false]
  row : w.ownsRow B 37 1 vv its.length (its.map Prod.fst)
  each : ∀ x ∈ its, w.ownsRow B 86 3 x.1 x.2.length (x.2.flatMap Ru.cells)
  lo : B ≤ sb ∧ B ≤ lg
/-- the blocks of F are of none of the types ts -/
def Apartly (w : World) (F : Nat → Prop) (ts : List TypeId) : Prop := ∀ g, F g → ∀ (t : TypeId) (cs : Array Value) (fr : Nat × Nat), w.heap[g]? = some (.cells cs t fr) → t ∉ ts
section
variable {w w' : World} {B sb lg db k n mb : Nat} {vv : Value} {its : List (Value × List Ru)} {act : Int} {F : Nat → Prop} {ts : List TypeId}
theorem Apartly.blk (h : Apartly w F ts) {g : Nat} {t : TypeId} {cs : Array Value} (hb : Blk w g t cs) (ht : t ∈ ts) : ¬ F g := fun hF => h g hF t cs _ hb ht
theorem Apartly.row (h : Apartly w F ts) {b : Nat} {e : TypeId} {size m : Nat} {v : Value} {xs : List Value} (hr : w.ownsRow b e size v m xs) (ht : e ∈ ts) : ∀ g, v.ownBlock = some g → ¬ F g := fun g hg hF => by
  rcases hr.2 with ⟨rfl, _⟩ | ⟨g', cap, cur, rfl, _, h3, _⟩
  · cases hg
  · cases hg
    exact h _ hF _ _ _ h3 ht
theorem Apartly.sub {G : Nat → Prop} (h : Apartly w F ts) (hG : ∀ g, G g → F g) : Apartly w G ts := fun g hg => h g (hG g hg)
theorem StAt.chg (h : StAt w B sb lg db k n vv its act) (hc : Chg F w w') (ha : Apartly w F [69, 103, 37, 86]) : StAt w' B sb lg db k n vv its act :=
  ⟨h.st.chg hc (ha.blk h.st (by simp)), h.log.chg hc (ha.blk h.log (by simp)), row_chg h.row hc (ha.row h.row (by simp)), fun x hx => row_chg (h.each x hx) hc (ha.row (h.each x hx) (by simp)), h.lo⟩
theorem StAt.bel (h : StAt w B sb lg db k n vv its act) (hb : Below w.heap.size w w') : StAt w' B sb lg db k n vv its act := h.chg (F := fun _ => False) (Chg.of_below hb) fun _ hf => hf.elim
theorem StAt.alloc (h : StAt w B sb lg db k n vv its act) (o : Obj) : StAt (w.alloc o) B sb lg db k n vv its act := h.bel ((Below.refl _ _).alloc (Nat.le_refl _) _)
theorem StAt.drew (h : StAt w B sb lg db k n vv its act) : StAt w.drew B sb lg db k n vv its act := h.bel (Below.refl _ _).drew
/-- the disk's blocks are the disk's, a map and bytes -/
theorem DkAt.apartly {rv : Nat → Value} {d : Dk} (h : DkAt w B db mb rv d) (h1 : 62 ∉ ts) (h2 : 5 ∉ ts) : Apartly w (DF db mb rv d) ts := fun g hg t cs fr hc ht => by
  rcases hg with rfl | rfl | ⟨i, hi, e⟩
  · have e := hc.symm.trans h.blk
    cases e
    exact h1 ht
  · obtain ⟨ms, cl, hm, _⟩ := h.map
    have e := hc.symm.trans hm
    cases e
  · obtain ⟨f, hf⟩ := Option.isSome_iff_exists.1 hi
    have hr := h.row i f hf
    rcases hr.2 with ⟨e0, _⟩ | ⟨g', cap, cur, e0, _, h3, _⟩
    · rw [e0] at e; cases e
    · rw [e0] at e
      cases e
      have e := hc.symm.trans h3
      cases e
      exact h2 ht
end
set_option maxRecDepth 1000000 in
theorem has_walk {w : World} {B sb lg db k n : Nat} {vv : Value} {its : List (Value × List Ru)} {act : Int} (h : StAt w B sb lg db k n vv its act) {i : Nat} (hi : i < its.length) (_hm : its.length ≤ 1000000) :
    Calls Tryz.prog 39 #[.pointer (some ⟨sb, 0, none⟩), .int .i64 (i : Int)] w fun e w' => e = .returned (.bool true) ∧ w' = w := by
  obtain ⟨A, c, rfl, _⟩ := row_form h.row
  have c1 := h.st.at' 1
  have hlt := h.st.lt
  simp at c1
  have h0 : (0 : Int) ≤ (i : Int) := Int.natCast_nonneg _
  have h1 : (i : Int) < (its.length : Int) := by omega
  go_enter Tryz.func39, Tryz.ntmps39
  go_wp2
  go_ret
  first | exact ⟨rfl, rfl⟩ | (refine ⟨?_, rfl⟩; simp [h0, h1])
set_option maxRecDepth 1000000 in
theorem len_walk {w : World} {B sb lg db k n : Nat} {vv : Value} {its : List (Value × List Ru)} {act : Int} (h : StAt w B sb lg db k n vv its act) :
    Calls Tryz.prog 12 #[.pointer (some ⟨sb, 0, none⟩)] w fun e w' => e = .returned (.int .i64 (its.length : Int)) ∧ w' = w := by
  obtain ⟨A, c, rfl, _⟩ := row_form h.row
  have c1 := h.st.at' 1
  have hlt := h.st.lt
  simp at c1
  go_enter Tryz.func12, Tryz.ntmps12
  go_wp2
  go_ret
  exact ⟨rfl, rfl⟩
set_option maxRecDepth 1000000 in
theorem active_walk {w : World} {B sb lg db k n : Nat} {vv : Value} {its : List (Value × List Ru)} {act : Int} (h : StAt w B sb lg db k n vv its act) :
    Calls Tryz.prog 13 #[.pointer (some ⟨sb, 0, none⟩)] w fun e w' => e = .returned (.int .i64 act) ∧ w' = w := by
  have c1 := h.st.at' 2
  have hlt := h.st.lt
  simp at c1
  go_enter Tryz.func13, Tryz.ntmps13
  go_wp2
  go_ret
  exact ⟨rfl, rfl⟩
theorem rules_one (rs : List Ru) : ∀ u ∈ rs.flatMap Ru.cells, u.oneCell' = true := fun u hu => by
  obtain ⟨r, _, hr⟩ := List.mem_flatMap.1 hu
  simp only [Ru.cells, List.mem_cons, List.not_mem_nil, or_false] at hr
  rcases hr with rfl | rfl | rfl <;> rfl
theorem rules_len (rs : List Ru) : (rs.flatMap Ru.cells).length = rs.length * 3 := by
  induction rs with
  | nil => rfl
  | cons r t ih => rw [List.flatMap_cons, List.length_append, ih, List.length_cons]; simp [Ru.cells]; omega
set_option maxRecDepth 1000000 in
theorem cloner_walk {w : World} {v : Value} {rs : List Ru} {B : Nat} (hv : w.ownsRow B 86 3 v rs.length (rs.flatMap Ru.cells)) (hx : rs.length ≤ 1000) :
    Calls Tryz.prog 38 #[v] w fun e w' => ∃ u, e = .returned u ∧ w'.ownsRow w.heap.size 86 3 u rs.length (rs.flatMap Ru.cells) ∧ Below w.heap.size w w' := by
  obtain ⟨i0, hi0, hz0, hz1, hz2⟩ := info_parts infoRule
  rcases hv.2 with ⟨rfl, h0⟩ | ⟨g, cap, cur, rfl, h2, h3, h4, _⟩
  · have hx0 : rs = [] := List.length_eq_zero_iff.1 h0
    subst hx0
    have heq : (binOp BinOp.eql 37 (.slice none 0 0) (.slice none 0 0)).run Tryz.prog w = .ok (.bool true) w := by kernel_rfl
    go_enter Tryz.func38, Tryz.ntmps38
    go_wp2
    go_ret
    exact ⟨_, rfl, World.ownsRow_nil _ _ _ _, Below.refl _ _⟩
  · have h63 : 0 + rs.length ≤ maxLen := by unfold maxLen; omega
    have hby : (0 + rs.length) * 40 ≤ 140737488355328 := by omega
    have hs1 := (Sees.row hv).alloc (.cells #[] 86)
    have hmade := World.ownsRow_made (e := 86) (size := 3) (base := w.heap.size) w #[] 0 (Nat.le_refl _) (Nat.zero_le _) rfl
    have hxl := rules_len rs
    have heq : (binOp BinOp.eql 37 (.slice (some ⟨g, 0, none⟩) rs.length cap) (.slice none 0 0)).run Tryz.prog w = .ok (.bool false) w := by kernel_rfl
    go_enter Tryz.func38, Tryz.ntmps38
    go_wp2_with (first
      | (at_builtin; refine wpList_append_sees rfl _ _ 37 rfl i0 _ 40 Tryz.underlying37 hi0 hz0 hz1 hz2 rfl (by decide) _ 0 [] rfl hmade _ rs.length _ rfl hs1 hxl (rules_one rs) h63 hby (by simp) ?_; intro v2 w2 hrow2 hgrow2 hown2; obtain ⟨A2, k2, rfl, _⟩ := row_form hrow2; rw [Nat.zero_add] at hrow2)
      | go_in)
    go_ret
    have hb2 : Below w.heap.size w w2 := ((Below.refl _ _).alloc (Nat.le_refl _) _).grown hgrow2 (by simp) fun k hk => by cases hk; exact Nat.le_refl _
    rw [List.nil_append] at hrow2
    exact ⟨_, rfl, by simpa using hrow2, hb2⟩
set_option maxRecDepth 1000000 in
theorem load_walk {w : World} {B sb lg db k n : Nat} {vv : Value} {its : List (Value × List Ru)} {act : Int} (h : StAt w B sb lg db k n vv its act) {i : Nat} (hi : i < its.length) (hm : its.length ≤ 1000000) (h8 : (its[i].2).length ≤ 1000) :
    Calls Tryz.prog 14 #[.pointer (some ⟨sb, 0, none⟩), .int .i64 (i : Int)] w fun e w' => ∃ u, e = .returned (.tuple #[u, .int .i64 0]) ∧ w'.ownsRow w.heap.size 86 3 u (its[i].2).length ((its[i].2).flatMap Ru.cells) ∧ Below w.heap.size w w' := by
  have hh := has_walk h hi hm
  have hcl := cloner_walk (h.each its[i] (List.getElem_mem hi)) h8
  obtain ⟨g, c, hvv, hglt, hcell⟩ := row_at h.row hi
  subst hvv
  have c1 := h.st.at' 1
  have hlt := h.st.lt
  simp at c1
  have hcell' : w.cell? ⟨g, i, none⟩ = some its[i].1 := by rw [hcell, List.getElem?_map, List.getElem?_eq_getElem hi]; rfl
  have h0 : (0 : Int) ≤ (i : Int) := Int.natCast_nonneg _
  have h1 : (i : Int) < (its.length : Int) := by omega
  obtain ⟨u, hu⟩ : ∃ u, its[i] = u := ⟨_, rfl⟩
  rw [hu] at hcl hcell' ⊢
  clear hu hcell h8
  go_enter Tryz.func14, Tryz.ntmps14
  go_wp2_with (first
    | (go_at_call 39; refine hh.mono ?_; rintro _ w1 ⟨rfl, rfl⟩)
    | (go_at_call 38; refine hcl.mono ?_; rintro _ w2 ⟨u, rfl, hrow2, hB2⟩)
    | go_in)
  go_ret2
  exact ⟨u, rfl, hrow2, hB2⟩
end Go.Proofs.YtkndgmjlphppdaaGreatDoor
namespace Go.Proofs.YtkndgmjlphppdaaGreatDoor
open Go Go.RowKit Go.Imap

/-- the disk behind one more record in the file k -/
def Dk.add (d : Dk) (k n : Nat) (r : Rec) : Dk := (d.put k ⟨(d.fi k).bytes ++ frame frameH n r.enc, (d.fi k).dur⟩).harden
/-- what an operation of a store may change -/
def SF (db mb : Nat) (rv : Nat → Value) (d : Dk) (sb lg : Nat) (vv : Value) (g : Nat) : Prop := DF db mb rv d g ∨ g = lg ∨ g = sb ∨ vv.ownBlock = some g
theorem StAt.push {w w1 : World} {B sb lg db k n : Nat} {vv vv' u : Value} {its : List (Value × List Ru)} {act : Int} {rs : List Ru} (h : StAt w B sb lg db k n vv its act)
    (hrow : w1.ownsRow B 37 1 vv' (its.length + 1) (its.map Prod.fst ++ [u])) (hg : w.grownBy w1 vv.ownBlock) (hu : w.ownsRow B 86 3 u rs.length (rs.flatMap Ru.cells)) :
    StAt (w1.setCell ⟨sb, 1, none⟩ vv') B sb lg db k n vv' (its ++ [(u, rs)]) act := by
  have hc : Chg (fun g => vv.ownBlock = some g) w w1 := ⟨hg.os, hg.tape, hg.output, hg.size, fun k hk hf => hg.block k hk fun e => hf e.symm⟩
  have hb : ∀ {g : Nat} {t : TypeId} {cs : Array Value}, Blk w g t cs → 37 ≠ t → Blk w1 g t cs := fun hk ht => hk.chg hc (fun e => row_blk h.row hk ht e)
  have hst1 := hb h.st (by decide)
  have hlg1 := hb h.log (by decide)
  have hne : sb ≠ lg := Blk.two h.st h.log (by decide)
  have hkeep : ∀ {v : Value} {m : Nat} {xs : List Value}, w.ownsRow B 86 3 v m xs → (w1.setCell ⟨sb, 1, none⟩ vv').ownsRow B 86 3 v m xs := fun hr => by
    refine row_set (row_chg hr hc fun g hgo e => ?_) (p := ⟨sb, 1, none⟩) (row_blk (row_chg hr hc fun g hgo e => ?_) hst1 (by decide)) _ <;>
    · rcases hr.2 with ⟨rfl, _⟩ | ⟨g', cap, cur, rfl, _, h3, _⟩
      · cases hgo
      · cases hgo
        rcases h.row.2 with ⟨e0, _⟩ | ⟨g2, cap2, cur2, e0, _, h4, _⟩
        · rw [e0] at e; cases e
        · rw [e0] at e
          cases e
          have e := h3.symm.trans h4
          exact absurd (by injection e with e; injection e : (86 : TypeId) = 37) (by decide)
  refine ⟨?_, hlg1.away (p := ⟨sb, 1, none⟩) (fun e => hne e.symm) _, ?_, fun x hx => ?_, h.lo⟩
  · have := hst1.put 1 vv'
    simpa using this
  · rw [List.length_append, List.length_singleton, List.map_append]
    exact row_set hrow (p := ⟨sb, 1, none⟩) (row_blk hrow hst1 (by decide)) _
  · rcases List.mem_append.1 hx with hx | hx
    · exact hkeep (h.each x hx)
    · simp only [List.mem_singleton] at hx
      subst hx
      exact hkeep hu
theorem StAt.relog {w w' : World} {B sb lg db k n mb : Nat} {rv : Nat → Value} {d : Dk} {vv : Value} {its : List (Value × List Ru)} {act : Int} (h : StAt w B sb lg db k n vv its act) (hd : DkAt w B db mb rv d)
    (hc : Chg (fun g => DF db mb rv d g ∨ g = lg) w w') {n' : Nat} (hl : Blk w' lg 103 #[.pointer (some ⟨db, 0, none⟩), .int .i64 (k : Int), .int .i64 (n' : Int), .bool false]) : StAt w' B sb lg db k n' vv its act := by
  have ha : Apartly w (fun g => DF db mb rv d g ∨ g = lg) [69, 37, 86] := fun g hg => by
    rcases hg with hg | rfl
    · exact hd.apartly (by decide) (by decide) g hg
    · intro t cs fr hh ht
      have e := hh.symm.trans h.log
      cases e
      exact absurd ht (by decide)
  exact ⟨h.st.chg hc (ha.blk h.st (by simp)), hl, row_chg h.row hc (ha.row h.row (by simp)), fun x hx => row_chg (h.each x hx) hc (ha.row (h.each x hx) (by simp)), h.lo⟩
theorem rule_row_keep {w w' : World} {B sb lg db k n mb : Nat} {rv : Nat → Value} {d : Dk} {vv : Value} {its : List (Value × List Ru)} {act : Int} (h : StAt w B sb lg db k n vv its act) (hd : DkAt w B db mb rv d)
    (hc : Chg (fun g => DF db mb rv d g ∨ g = lg) w w') {base : Nat} {v : Value} {m : Nat} {xs : List Value} (hv : w.ownsRow base 86 3 v m xs) : w'.ownsRow base 86 3 v m xs := by
  refine row_chg hv hc fun g hg hf => ?_
  rcases hf with hf | rfl
  · exact (hd.apartly (ts := [86]) (by decide) (by decide)).row hv (by simp) g hg hf
  · exact row_blk hv h.log (by decide) hg
theorem WrAt.drew {w : World} {B p : Nat} {v : Value} {l : List UInt8} (h : WrAt w B p v l) : WrAt w.drew B p v l := h.bel (Below.refl _ _).drew
theorem infoRules : (Tryz.prog.info? 37).map (fun i => (i.zero, i.size, i.bytes)) = some (some (.slice none 0 0), 1, 24) := by kernel_rfl
set_option maxHeartbeats 8000000 in
set_option maxRecDepth 1000000 in
theorem save_walk {w : World} {B db mb sb lg k n : Nat} {rv : Nat → Value} {d : Dk} {vv v : Value} {its : List (Value × List Ru)} {act : Int} {base : Nat} {rs : List Ru} (h : DkAt w B db mb rv d) (hB : B ≤ w.heap.size) (hS : StAt w B sb lg db k n vv its act)
    (hk : k < 64) (hoff : d.off = false) (harm : d.armed = false) (hn : n < 1000) (hits : its.length < 1000) (hv : w.ownsRow base 86 3 v rs.length (rs.flatMap Ru.cells)) (hG : Good rs)
    (hroom : 200 ≤ d.room - d.used) (hlen : d.len k + 200 ≤ 16777216) :
    Calls Tryz.prog 9 #[.pointer (some ⟨sb, 0, none⟩), v] w fun e w' => ∃ (rv' : Nat → Value) (vv' u : Value), e = .returned (.tuple #[.int .i64 (its.length : Int), .int .i64 0]) ∧ DkAt w' B db mb rv' (d.add k n (.save rs)) ∧
      StAt w' B sb lg db k (n + 1) vv' (its ++ [(u, rs)]) act ∧ Chg (SF db mb rv d sb lg vv) w w' ∧ (∀ g, DF db mb rv' (d.add k n (.save rs)) g → DF db mb rv d g ∨ w.heap.size ≤ g) ∧ (∀ g, vv'.ownBlock = some g → vv.ownBlock = some g ∨ w.heap.size ≤ g) := by
  have hgl := hG.len
  have hEl := hG.encL_len
  have hRl := enc_save_len hG
  have hco := compile_walk hv hG
  obtain ⟨i0, hi0, hz0, hz1, hz2⟩ := info_parts' infoRules
  obtain ⟨va, vc, rfl, hva⟩ := owns_shape hv
  obtain ⟨A, c, rfl, _⟩ := row_form hS.row
  have hits2 : ¬ (1024 : Int) ≤ (its.length : Int) := by omega
  have hslt := hS.st.lt
  go_enter Tryz.func9, Tryz.ntmps9
  go_wp2_with fail
  go_at_call 32
  refine hco.mono ?_
  clear hco
  rintro _ w1 ⟨pp, rfl, hB1⟩
  have s1 := hB1.size
  have hS1 := hS.bel hB1
  have c1 := hS1.st.at' 1
  have hslt1 := hS1.st.lt
  simp at c1
  have hen := encode_walk (owns_bel hv hB1) hG
  go_wp2_with fail
  go_at_call 33
  refine hen.mono ?_
  clear hen c1
  rintro _ w2 ⟨ue, rfl, hue, hB2⟩
  have s2 := hB2.size
  obtain ⟨Au, cu, rfl, _⟩ := row_form hue
  obtain ⟨S, hSz⟩ : ∃ S, w2.heap.size = S := ⟨_, rfl⟩
  have hue3 := owns_bel hue ((Below.refl _ _).alloc (Nat.le_refl _) (.cells #[.slice none 0 0] 81))
  have ha1 : WrAt (w2.alloc (.cells #[.slice none 0 0] 81)) S S (.slice none 0 0) [] := ⟨hSz ▸ Blk.made w2 81 #[.slice none 0 0], World.ownsRow_nil _ _ _ _⟩
  have hz : (w2.alloc (.cells #[.slice none 0 0] 81)).heap.size = S + 1 := by rw [World.size_alloc, hSz]
  have hi := int_walk ha1 (by omega) (by simp) (z := 0) (by constructor <;> omega)
  go_wp2_with fail
  go_at_call 34
  refine hi.mono ?_
  clear hi
  rintro _ w3 ⟨rfl, v3, hW3⟩
  have s3 := hW3.chg.size
  have hw3 := hW3.went ha1 (by omega)
  have hus := fun g hg => (World.ownsRow.lt hue g hg).2
  have hl0 : ([] ++ encI 0 : List UInt8).length ≤ 10 := by rw [List.nil_append]; exact uv_ten (zz_lt (by constructor <;> omega))
  have hlead : ∀ g, Value.leads (.slice Au (encL rs).length cu) = some g → g < S := fun g hg => by
    have := (Sees.row hue).leads_lt hg
    omega
  have hsee3 := hW3.sees ha1 (Sees.row hue3) (fun g hg => ⟨by have := hlead g hg; omega, by simp [Value.ownBlock]⟩)
  have hr := raw_walk hW3.wr (by omega) (by omega) (by omega) hsee3 (fun g hg => hW3.wr.not (Nat.le_refl _) (hlead g hg))
  go_wp2_with fail
  go_at_call 35
  refine hr.mono ?_
  clear hr
  rintro _ w4 ⟨rfl, v4, hW4⟩
  have hw4 := hw3.trans (hW4.went hW3.wr (by omega))
  have s4 := hw4.size
  have hbw : Below w.heap.size w w4 := ((hB1.trans (hB2.mono (by omega))).alloc (by omega) _).trans (hw4.bel.mono (by omega))
  have hwr4 := hw4.wr
  have hxe : [] ++ encI 0 ++ encR (encL rs) = Rec.enc (.save rs) := rfl
  rw [hxe] at hwr4
  have hS4 := hS.bel hbw
  have h4 := h.bel hbw
  have hv4 := owns_bel hv hbw
  have hws := hbw.size
  have hxl : (frame frameH n (Rec.enc (.save rs))).length ≤ 150 := by have := frame_len frameH frameH_lt n (Rec.enc (.save rs)) (by omega) (by omega); omega
  have hdn := done_walk hwr4.drew (by omega)
  have hjw := fun (w5 : World) (u : Value) (hb5 : Below w4.drew.heap.size w4.drew w5) (hs : Sees w5 1 u (bv (Rec.enc (.save rs)))) => jappend_calm (h4.drew.bel hb5) (by have := hb5.size; have : w4.drew.heap.size = w4.heap.size := rfl; omega) hk hoff harm (hS4.drew.bel hb5).log (by omega) hs (by omega) (by omega) (by omega) (by omega)
  have c0 := hS4.st.at' 0
  simp at c0
  clear hw3 hw4 hW3 hW4 hue3 hsee3 ha1 hue hwr4 hS1
  go_wp2_with fail
  go_region_held3 (fun w' => w'.cell? ⟨sb, 0, none⟩ = some (.pointer (some ⟨lg, 0, none⟩)))
    (first
      | go_keep)
    (first
      | (go_at_call 37; refine hdn.mono ?_; clear hdn; rintro _ w5 ⟨u5, rfl, hr5, hB5⟩; have hcc := (hB5.cell (p := ⟨sb, 0, none⟩) (by { show sb < w4.heap.size; omega })).trans c0)
      | (go_at_call 36; refine (hjw _ _ hB5 (Sees.row hr5)).mono ?_; clear hjw; rintro _ w6 ⟨rv6, rfl, hd6, hl6, hC6, hn6⟩; have hcc6 : w6.cell? ⟨sb, 0, none⟩ = some (.pointer (some ⟨lg, 0, none⟩)) := (by { have h5 := hS4.drew.bel hB5; have h6 := h5.relog (h4.drew.bel hB5) hC6 hl6; have := h6.st.at' 0; simpa using this })))
  have hd5 := h4.drew.bel hB5
  have hS5 := hS4.drew.bel hB5
  have hS6 := hS5.relog hd5 hC6 hl6
  have hv6 := rule_row_keep hS5 hd5 hC6 (owns_bel hv4 ((Below.refl _ _).drew.trans hB5))
  have s5 := hB5.size
  have s5' : w4.drew.heap.size = w4.heap.size := rfl
  have s6 := hC6.size
  have hC : Chg (fun g => DF db mb rv d g ∨ g = lg) w w6 := ((Chg.of_below (hbw.trans (((Below.refl w4.heap.size w4).drew.trans hB5).mono (by omega)))).trans hC6 fun _ _ h => h)
  have hd6' : DkAt w6 B db mb rv6 (d.add k n (.save rs)) := hd6
  have hn6' : ∀ g, DF db mb rv6 (d.add k n (.save rs)) g → DF db mb rv d g ∨ w.heap.size ≤ g := fun g hg => (hn6 g (DF.harden hg)).imp id fun e => by omega
  have HD := Lib.hid hd6'
  have HN := Lib.hid hn6'
  have HC := Lib.hid hC
  have c61 := hS6.st.at' 1
  have f61 := hS6.st.thaw 1
  simp at c61
  have hslt6 := hS6.st.lt
  have hcl := cloner_walk (w := w6.drew) (owns_bel hv6 (Below.refl _ _).drew) (by omega)
  have hn1 : its.length + 1 ≤ maxLen := by unfold maxLen; omega
  have hn2 : (its.length + 1) * 24 ≤ 140737488355328 := by omega
  clear hd6 hn6 hC hd6' hn6' hd5 hS5 hr5 hB5 hcc hcc6 hC6 hS4 hv4 h4 c0 hl6
  go_wp2_with fail
  go_region_law
    (first
      | (go_simp; go_at_call 38; refine hcl.mono ?_; clear hcl; rintro _ w7 ⟨u7, rfl, hr7, hB7⟩; obtain ⟨A7, c7, rfl, _⟩ := row_form hr7; have hS7 := hS6.drew.bel hB7; have e7 : w7.cell? ⟨sb, 1, none⟩ = some (.slice A its.length c) := (by { have := hS7.st.at' 1; simpa using this }); have e7' : ∀ o, (w7.alloc o).cell? ⟨sb, 1, none⟩ = some (.slice A its.length c) := (fun o => by { have := (hS7.alloc o).st.at' 1; simpa using this }); have hs7 := hB7.size; have hs7' : w6.drew.heap.size = w6.heap.size := rfl)
      | (refine step_append_lies _ (by rfl) _ _ _ (by rfl) B 37 i0 _ 1 24 Tryz.underlying67 hi0 hz0 hz1 hz2 rfl (by omega) _ its.length (its.map Prod.fst) (by rfl) (hS7.row.alloc _)
          ⟨w7.heap.size, 0, none⟩ 1 1 [.slice A7 rs.length c7] (by rfl) (by rfl) (World.news_of_block (cs := #[.slice A7 rs.length c7]) (t := 37) (fr := (0, 0)) (heap_alloc_new w7 _)) (by simp [Value.oneCell'])
          (by omega) hn1 hn2 (by simp; omega) (w7.heap.size + 1) (by simp) ?_; intro gg cap w8 hown1 hgrow hat hlt; have hst8 : Blk w8 sb 69 #[.pointer (some ⟨lg, 0, none⟩), .slice A its.length c, .int .i64 act] := (hS7.alloc _).st.grown hgrow (fun e => row_blk hS7.row hS7.st (by decide) e.symm); have q1 : w8.cell? ⟨sb, 1, none⟩ = some (.slice A its.length c) := (by { have := hst8.at' 1; simpa using this }); have q2 := hst8.thaw 1))
  all_goals
    have hgs := hgrow.size
    simp only [World.size_alloc] at hgs
    have hBx : Below w6.heap.size w6 (w7.alloc (.cells #[.slice A7 rs.length c7] 37)) := ((Below.refl _ w6).drew.trans hB7).alloc (by omega) _
    have hcg : Chg (fun g => Value.ownBlock (.slice A its.length c) = some g) w6 w8 := ((Chg.of_below hBx)).trans ⟨hgrow.os, hgrow.tape, hgrow.output, hgrow.size, fun k hk hf => hgrow.block k hk fun e => hf e.symm⟩ fun _ _ h => h
    have hcs : Chg (fun g => g = sb ∨ Value.ownBlock (.slice A its.length c) = some g) w6 (w8.setCell ⟨sb, 1, none⟩ (.slice (some ⟨gg, 0, none⟩) (its.length + 1) cap)) := (hcg.more fun _ _ h => .inr h).setCell (p := ⟨sb, 1, none⟩) (.inr (.inl rfl)) _
    have hS8 := StAt.push (u := .slice A7 rs.length c7) (rs := rs) (hS7.alloc (.cells #[.slice A7 rs.length c7] 37)) hown1 hgrow (row_base (owns_bel hr7 ((Below.refl _ _).alloc (Nat.le_refl _) _)) (by omega))
    have hdk : DkAt (w8.setCell ⟨sb, 1, none⟩ (.slice (some ⟨gg, 0, none⟩) (its.length + 1) cap)) B db mb rv6 (d.add k n (.save rs)) := HD.out.chg hcs fun g hg e => by
      rcases e with rfl | e
      · exact (HD.out.apartly (ts := [69]) (by decide) (by decide)).blk hS6.st (by simp) hg
      · exact (HD.out.apartly (ts := [37]) (by decide) (by decide)).row hS6.row (by simp) g e hg
    have hC2 : Chg (SF db mb rv d sb lg (.slice A its.length c)) w (w8.setCell ⟨sb, 1, none⟩ (.slice (some ⟨gg, 0, none⟩) (its.length + 1) cap)) :=
      (HC.out.more fun g _ h => h.imp id fun h => .inl h).trans hcs fun g _ h => .inr (.inr h)
    have hown : ∀ g, Value.ownBlock (.slice (some ⟨gg, 0, none⟩) (its.length + 1) cap) = some g → Value.ownBlock (.slice A its.length c) = some g ∨ w.heap.size ≤ g := fun g hg => by
      cases hg
      exact hat.imp id fun e => by show w.heap.size ≤ gg; omega
    have c8 := hS8.st.at' 1
    have hsl8 := hS8.st.lt
    simp at c8
    have HS8 := Lib.hid hS8
    have HDK := Lib.hid hdk
    have HC2 := Lib.hid hC2
    have HOWN := Lib.hid hown
    have hwr1 : wrap64 ((its.length : Int) + 1 - 1) = (its.length : Int) := by unfold wrap64; omega
    clear hS8 hdk hC2 hown hcs hcg hBx hown1 hgrow hat hS7 hr7 hB7 hS6 hst8 q1 q2 e7 e7' hlt
    go_wp2
    go_ret2
    exact ⟨rv6, _, _, rfl, HDK.out, HS8.out, HC2.out, HN.out, HOWN.out⟩
end Go.Proofs.YtkndgmjlphppdaaGreatDoor
namespace Go.Proofs.YtkndgmjlphppdaaGreatDoor
open Go Go.RowKit Go.Imap

theorem StAt.setAct {w : World} {B sb lg db k n : Nat} {vv : Value} {its : List (Value × List Ru)} {act : Int} (h : StAt w B sb lg db k n vv its act) (z : Int) :
    StAt (w.setCell ⟨sb, 2, none⟩ (.int .i64 z)) B sb lg db k n vv its z := by
  have hne : sb ≠ lg := Blk.two h.st h.log (by decide)
  refine ⟨?_, h.log.away (p := ⟨sb, 2, none⟩) (fun e => hne e.symm) _, row_set h.row (p := ⟨sb, 2, none⟩) (row_blk h.row h.st (by decide)) _, fun x hx => row_set (h.each x hx) (p := ⟨sb, 2, none⟩) (row_blk (h.each x hx) h.st (by decide)) _, h.lo⟩
  have := h.st.put 2 (.int .i64 z)
  simpa using this
set_option maxHeartbeats 8000000 in
set_option maxRecDepth 1000000 in
theorem use_walk {w : World} {B db mb sb lg k n : Nat} {rv : Nat → Value} {d : Dk} {vv : Value} {its : List (Value × List Ru)} {act : Int} {i : Nat} (h : DkAt w B db mb rv d) (hB : B ≤ w.heap.size) (hS : StAt w B sb lg db k n vv its act)
    (hk : k < 64) (hoff : d.off = false) (harm : d.armed = false) (hn : n < 1000) (hits : its.length ≤ 1000) (hi : i < its.length) (hroom : 200 ≤ d.room - d.used) (hlen : d.len k + 200 ≤ 16777216) :
    Calls Tryz.prog 11 #[.pointer (some ⟨sb, 0, none⟩), .int .i64 (i : Int)] w fun e w' => ∃ (rv' : Nat → Value), e = .returned (.int .i64 0) ∧ DkAt w' B db mb rv' (d.add k n (.use i)) ∧
      StAt w' B sb lg db k (n + 1) vv its (i : Int) ∧ Chg (SF db mb rv d sb lg vv) w w' ∧ (∀ g, DF db mb rv' (d.add k n (.use i)) g → DF db mb rv d g ∨ w.heap.size ≤ g) := by
  have hRl := enc_use_len (n := i) (by omega)
  have hh := has_walk hS hi (by omega)
  have hslt := hS.st.lt
  obtain ⟨S, hSz⟩ : ∃ S, w.heap.size = S := ⟨_, rfl⟩
  have ha1 : WrAt (w.alloc (.cells #[.slice none 0 0] 81)) S S (.slice none 0 0) [] := ⟨hSz ▸ Blk.made w 81 #[.slice none 0 0], World.ownsRow_nil _ _ _ _⟩
  have hz : (w.alloc (.cells #[.slice none 0 0] 81)).heap.size = S + 1 := by rw [World.size_alloc, hSz]
  have hi1 := int_walk ha1 (by omega) (by simp) (z := 1) (by constructor <;> omega)
  go_enter Tryz.func11, Tryz.ntmps11
  go_wp2_with fail
  go_at_call 39
  refine hh.mono ?_
  clear hh
  rintro _ wh ⟨rfl, hwh⟩
  rw [hwh]
  clear hwh wh
  go_wp2_with fail
  go_at_call 34
  refine hi1.mono ?_
  clear hi1
  rintro _ w3 ⟨rfl, v3, hW3⟩
  have s3 := hW3.chg.size
  have hw3 := hW3.went ha1 (by omega)
  have hl0 : ([] ++ encI 1 : List UInt8).length ≤ 10 := by rw [List.nil_append]; exact uv_ten (zz_lt (by constructor <;> omega))
  have hi2 := int_walk hW3.wr (by omega) (by omega) (z := (i : Int)) (by constructor <;> omega)
  go_wp2_with fail
  go_at_call 34
  refine hi2.mono ?_
  clear hi2
  rintro _ w4 ⟨rfl, v4, hW4⟩
  have hw4 := hw3.trans (hW4.went hW3.wr (by omega))
  have s4 := hw4.size
  have hbw : Below w.heap.size w w4 := ((Below.refl _ _).alloc (Nat.le_refl _) _).trans (hw4.bel.mono (by omega))
  have hwr4 := hw4.wr
  have hxe : [] ++ encI 1 ++ encI (i : Int) = Rec.enc (.use i) := rfl
  rw [hxe] at hwr4
  have hS4 := hS.bel hbw
  have h4 := h.bel hbw
  have hws := hbw.size
  have hxl : (frame frameH n (Rec.enc (.use i))).length ≤ 150 := by have := frame_len frameH frameH_lt n (Rec.enc (.use i)) (by omega) (by omega); omega
  have hdn := done_walk hwr4.drew (by omega)
  have hjw := fun (w5 : World) (u : Value) (hb5 : Below w4.drew.heap.size w4.drew w5) (hs : Sees w5 1 u (bv (Rec.enc (.use i)))) => jappend_calm (h4.drew.bel hb5) (by have := hb5.size; have : w4.drew.heap.size = w4.heap.size := rfl; omega) hk hoff harm (hS4.drew.bel hb5).log (by omega) hs (by omega) (by omega) (by omega) (by omega)
  have c0 := hS4.st.at' 0
  simp at c0
  clear hw3 hw4 hW3 hW4 ha1 hwr4
  go_wp2_with fail
  go_region_held3 (fun w' => w'.cell? ⟨sb, 0, none⟩ = some (.pointer (some ⟨lg, 0, none⟩)))
    (first
      | go_keep)
    (first
      | (go_at_call 37; refine hdn.mono ?_; clear hdn; rintro _ w5 ⟨u5, rfl, hr5, hB5⟩; have hcc := (hB5.cell (p := ⟨sb, 0, none⟩) (by { show sb < w4.heap.size; omega })).trans c0)
      | (go_at_call 36; refine (hjw _ _ hB5 (Sees.row hr5)).mono ?_; clear hjw; rintro _ w6 ⟨rv6, rfl, hd6, hl6, hC6, hn6⟩; have hcc6 : w6.cell? ⟨sb, 0, none⟩ = some (.pointer (some ⟨lg, 0, none⟩)) := (by { have h5 := hS4.drew.bel hB5; have h6 := h5.relog (h4.drew.bel hB5) hC6 hl6; have := h6.st.at' 0; simpa using this })))
  have hd5 := h4.drew.bel hB5
  have hS5 := hS4.drew.bel hB5
  have hS6 := hS5.relog hd5 hC6 hl6
  have s5 := hB5.size
  have s5' : w4.drew.heap.size = w4.heap.size := rfl
  have s6 := hC6.size
  have hC : Chg (fun g => DF db mb rv d g ∨ g = lg) w w6 := ((Chg.of_below (hbw.trans (((Below.refl w4.heap.size w4).drew.trans hB5).mono (by omega)))).trans hC6 fun _ _ h => h)
  have hd6' : DkAt w6 B db mb rv6 (d.add k n (.use i)) := hd6
  have hn6' : ∀ g, DF db mb rv6 (d.add k n (.use i)) g → DF db mb rv d g ∨ w.heap.size ≤ g := fun g hg => (hn6 g (DF.harden hg)).imp id fun e => by omega
  have HD := Lib.hid hd6'
  have HN := Lib.hid hn6'
  have HC := Lib.hid hC
  have HS := Lib.hid hS6
  have f62 := hS6.st.thaw 2
  have c62 := hS6.st.at' 2
  simp at c62
  have hslt6 := hS6.st.lt
  clear hd6 hn6 hC hd6' hn6' hd5 hS5 hr5 hB5 hcc hcc6 hC6 hS4 h4 c0 hl6 hS6
  go_wp2
  go_ret
  refine ⟨rv6, rfl, ?_, HS.out.setAct (i : Int), ?_, HN.out⟩
  · exact HD.out.chg ((Chg.refl (fun g => g = sb) w6).setCell (p := ⟨sb, 2, none⟩) (.inr rfl) _) fun g hg e => by
      subst e
      exact (HD.out.apartly (ts := [69]) (by decide) (by decide)).blk HS.out.st (by simp) hg
  · exact (HC.out.more fun g _ h => h.imp id fun h => .inl h).setCell (p := ⟨sb, 2, none⟩) (.inr (.inr (.inr (.inl rfl)))) _
end Go.Proofs.YtkndgmjlphppdaaGreatDoor
namespace Go.Proofs.YtkndgmjlphppdaaGreatDoor
open Go Go.RowKit Go.Imap

/-- what a store's replay may change -/
def RF (sb : Nat) (vv : Value) (g : Nat) : Prop := g = sb ∨ vv.ownBlock = some g
theorem StAt.setAct' {w : World} {B sb lg db k n : Nat} {vv : Value} {its : List (Value × List Ru)} {act : Int} (h : StAt w B sb lg db k n vv its act) (z : Int) :
    StAt (w.setCell ⟨sb, 2, none⟩ (.int .i64 z)) B sb lg db k n vv its z := by
  have hne : sb ≠ lg := Blk.two h.st h.log (by decide)
  refine ⟨?_, h.log.away (p := ⟨sb, 2, none⟩) (fun e => hne e.symm) _, row_set h.row (p := ⟨sb, 2, none⟩) (row_blk h.row h.st (by decide)) _, fun x hx => row_set (h.each x hx) (p := ⟨sb, 2, none⟩) (row_blk (h.each x hx) h.st (by decide)) _, h.lo⟩
  have := h.st.put 2 (.int .i64 z)
  simpa using this
theorem sees_rules (wr : World) (x : Value) : Sees (wr.alloc (.cells #[x] 37)) 1 (.slice (some ⟨wr.heap.size, 0, none⟩) 1 1) [x] := by
  have hb := Blk.made wr 37 #[x]
  refine ⟨_, _, _, rfl, rfl, Nat.le_refl _, fun _ => ⟨wr.heap.size, 0, rfl, hb.lt, fun i u hi => ?_⟩⟩
  have := hb.at' i
  rw [Nat.zero_add, this]
  simpa using hi
set_option maxHeartbeats 8000000 in
set_option maxRecDepth 1000000 in
theorem replay_use {w : World} {B db sb lg k n : Nat} {vv b : Value} {its : List (Value × List Ru)} {act : Int} {i : Nat} (hS : StAt w B sb lg db k n vv its act) (hits : its.length ≤ 1000) (hi : i < its.length) (hb : Sees w 1 b (bv (Rec.enc (.use i)))) :
    Calls Tryz.prog 29 #[.pointer (some ⟨sb, 0, none⟩), b] w fun e w' => e = .returned (.bool true) ∧ StAt w' B sb lg db k n vv its (i : Int) ∧ Chg (RF sb vv) w w' := by
  have hRl := enc_use_len (n := i) (by omega)
  have hrd := read_walk hb (by omega)
  obtain ⟨A0, m0, c0, rfl, _⟩ := id hb
  have hin : In64 (i : Int) := ⟨by omega, by omega⟩
  have hin1 : In64 1 := by constructor <;> omega
  go_enter Tryz.func29, Tryz.ntmps29
  go_wp2_with fail
  go_at_call 56
  refine hrd.mono ?_
  clear hrd hb
  rintro _ w1 ⟨p, v, rfl, hp, hR1, hB1⟩
  have s1 := hB1.size
  have hi1 := rint_walk hR1
  have e1 : Rec.enc (.use i) = encI 1 ++ encI (i : Int) := rfl
  have e2 : encI (i : Int) = encI (i : Int) ++ [] := (List.append_nil _).symm
  rw [e1, (iN_enc hin1 _).1, (iN_enc hin1 _).2] at hi1
  go_wp2_with fail
  go_at_call 57
  refine hi1.mono ?_
  clear hi1
  rintro _ w2 ⟨rfl, hR2, hC2⟩
  have s2 := hC2.size
  have hi2 := rint_walk hR2
  rw [e2, (iN_enc hin _).1, (iN_enc hin _).2] at hi2
  go_wp2_with fail
  go_at_call 57
  refine hi2.mono ?_
  clear hi2
  rintro _ w3 ⟨rfl, hR3, hC3⟩
  have s3 := hC3.size
  have he := rend_walk hR3
  go_wp2_with fail
  go_at_call 59
  refine he.mono ?_
  clear he
  rintro _ w4 ⟨c, rfl, hc, hB4⟩
  have hc0 : c = 0 := hc.2 rfl
  subst hc0
  have s4 := hB4.size
  have hBa : Below w.heap.size w w4 := (below_chg (below_chg hB1 hC2 hp s1) hC3 hp (by omega)).trans (hB4.mono (by omega))
  have hS4 := hS.bel hBa
  have hh := has_walk hS4 hi (by omega)
  go_wp2_with fail
  go_at_call 39
  refine hh.mono ?_
  clear hh
  rintro _ wh ⟨rfl, hwh⟩
  rw [hwh]
  clear hwh wh
  have f62 := hS4.st.thaw 2
  have c62 := hS4.st.at' 2
  simp at c62
  have hslt := hS4.st.lt
  have HS := Lib.hid (hS4.setAct' (i : Int))
  have HB := Lib.hid hBa
  clear hS4 hBa hB4 hC3 hR3 hC2 hR2 hB1 hR1
  go_wp2
  go_ret
  exact ⟨rfl, HS.out, (Chg.of_below HB.out).setCell (p := ⟨sb, 2, none⟩) (.inr (.inl rfl)) _⟩
set_option maxHeartbeats 8000000 in
set_option maxRecDepth 1000000 in
theorem replay_save {w : World} {B db sb lg k n : Nat} {vv b : Value} {its : List (Value × List Ru)} {act : Int} {rs : List Ru} (hBw : B ≤ w.heap.size) (hS : StAt w B sb lg db k n vv its act) (hits : its.length < 1000) (hG : Good rs) (hb : Sees w 1 b (bv (Rec.enc (.save rs)))) :
    Calls Tryz.prog 29 #[.pointer (some ⟨sb, 0, none⟩), b] w fun e w' => ∃ vv' u, e = .returned (.bool true) ∧ StAt w' B sb lg db k n vv' (its ++ [(u, rs)]) act ∧ Chg (RF sb vv) w w' ∧ (∀ g, vv'.ownBlock = some g → vv.ownBlock = some g ∨ w.heap.size ≤ g) := by
  have hRl := enc_save_len hG
  have hEl := hG.encL_len
  have hrd := read_walk hb (by omega)
  obtain ⟨i0, hi0, hz0, hz1, hz2⟩ := info_parts' infoRules
  obtain ⟨A0, m0, c0, rfl, _⟩ := id hb
  obtain ⟨A, c, rfl, _⟩ := row_form hS.row
  have hin0 : In64 0 := by constructor <;> omega
  have hits2 : ¬ (its.length : Int) = 1024 := by omega
  have hn1 : its.length + 1 ≤ maxLen := by unfold maxLen; omega
  have hn2 : (its.length + 1) * 24 ≤ 140737488355328 := by omega
  go_enter Tryz.func29, Tryz.ntmps29
  go_wp2_with fail
  go_at_call 56
  refine hrd.mono ?_
  clear hrd hb
  rintro _ w1 ⟨p, v, rfl, hp, hR1, hB1⟩
  have s1 := hB1.size
  have hi1 := rint_walk hR1
  have e1 : Rec.enc (.save rs) = encI 0 ++ (encR (encL rs) ++ []) := by rw [List.append_nil]; rfl
  rw [e1, (iN_enc hin0 _).1, (iN_enc hin0 _).2] at hi1
  go_wp2_with fail
  go_at_call 57
  refine hi1.mono ?_
  clear hi1
  rintro _ w2 ⟨rfl, hR2, hC2⟩
  have s2 := hC2.size
  have hi2 := rraw_walk hR2
  rw [(rN_enc (by omega)).1, (rN_enc (by omega)).2] at hi2
  go_wp2_with fail
  go_at_call 58
  refine hi2.mono ?_
  clear hi2
  rintro _ w3 ⟨u3, rfl, hr3, hR3, hC3⟩
  have s3 := hC3.size
  obtain ⟨A3, c3, rfl, _⟩ := row_form hr3
  have he := rend_walk hR3
  go_wp2_with fail
  go_at_call 59
  refine he.mono ?_
  clear he
  rintro _ w4 ⟨c, rfl, hc, hB4⟩
  have hc0 : c = 0 := hc.2 rfl
  subst hc0
  have s4 := hB4.size
  have hBa : Below w.heap.size w w4 := (below_chg (below_chg hB1 hC2 hp s1) hC3 hp (by omega)).trans (hB4.mono (by omega))
  have hS4 := hS.bel hBa
  have c41 := hS4.st.at' 1
  simp at c41
  have hslt4 := hS4.st.lt
  have hde := decode_walk (Sees.row (owns_bel hr3 hB4)) hG
  go_wp2_with fail
  go_at_call 60
  refine hde.mono ?_
  clear hde c41
  rintro _ w5 ⟨u5, rfl, hr5, hB5⟩
  obtain ⟨A5, c5, rfl, _⟩ := row_form hr5
  have s5 := hB5.size
  have hS5 := hS4.bel hB5
  have c51 := hS5.st.at' 1
  simp at c51
  have hslt5 := hS5.st.lt
  have e5 : ∀ o, (w5.alloc o).cell? ⟨sb, 1, none⟩ = some (.slice A its.length _) := fun o => by have := (hS5.alloc o).st.at' 1; simpa using this
  have hBb := hBa.trans (hB5.mono (by omega))
  have HB := Lib.hid hBb
  clear hS4 hBa hB4 hC3 hR3 hC2 hR2 hB1 hR1 hr3 hB5 hBb
  have hsee := sees_rules w5 (.slice A5 rs.length c5)
  go_wp2_with (first
    | (at_builtin; refine wpList_append_sees rfl _ _ 67 rfl i0 _ 24 Tryz.underlying67 hi0 hz0 hz1 hz2 rfl (by decide) (.slice A its.length c) its.length (its.map Prod.fst) rfl (hS5.row.alloc _) _ 1 _ rfl hsee rfl (by intro u hu; simp at hu; subst hu; rfl) hn1 hn2 (by simp; omega) ?_; intro v8 w8 hown1 hgrow hat; obtain ⟨A8, k8, rfl, _⟩ := row_form hown1; have hst8 := (hS5.alloc (.cells #[.slice A5 rs.length c5] 37)).st.grown hgrow (fun e => row_blk hS5.row hS5.st (by decide) e.symm); have q1 := hst8.at' 1; simp at q1; have q2 := hst8.thaw 1; have hsl8 := hst8.lt)
    | go_in)
  go_ret
  have hgs := hgrow.size
  simp only [World.size_alloc] at hgs
  have hcs : Chg (RF sb (.slice A its.length c)) w (w8.setCell ⟨sb, 1, none⟩ (.slice A8 (its.length + 1) k8)) :=
    (((Chg.of_below HB.out).alloc _).trans ⟨hgrow.os, hgrow.tape, hgrow.output, hgrow.size, fun k hk hf => hgrow.block k hk fun e => hf (.inr e.symm)⟩ fun _ _ h => h).setCell (p := ⟨sb, 1, none⟩) (.inr (.inl rfl)) _
  refine ⟨_, _, rfl, StAt.push (u := .slice A5 rs.length c5) (rs := rs) (hS5.alloc (.cells #[.slice A5 rs.length c5] 37)) hown1 hgrow (row_base (owns_bel hr5 ((Below.refl _ _).alloc (Nat.le_refl _) _)) (by omega)), hcs, fun g hg => ?_⟩
  rcases hat with e | ⟨g', e, hg'⟩
  · exact .inl (e.symm.trans hg)
  · rw [e] at hg
    cases hg
    simp only [World.size_alloc] at hg'
    right
    have hs0 := HB.out.size
    show w.heap.size ≤ _
    omega
end Go.Proofs.YtkndgmjlphppdaaGreatDoor
namespace Go.Proofs.YtkndgmjlphppdaaGreatDoor
open Go Go.RowKit Go.Imap

theorem rep_walk {w w1 : World} {B db sb lg k n : Nat} {vv b : Value} {its : List (Value × List Ru)} {l : List Rec} {j : Nat} (hl : RecsOk l) (hj : j < l.length) (hB : B ≤ w1.heap.size) (hS : StAt w B sb lg db k n vv its (actOf (l.take j))) (hits : its.map Prod.snd = versOf (l.take j)) (hb : Sees w 1 b (bv l[j].enc))
    (hbel : Below w1.heap.size w1 w) (hsb : w1.heap.size ≤ sb) (hvv : ∀ g, vv.ownBlock = some g → w1.heap.size ≤ g) :
    Calls Tryz.prog 29 #[.pointer (some ⟨sb, 0, none⟩), b] w fun e w' => e = .returned (.bool true) ∧ ∃ vv' its', StAt w' B sb lg db k n vv' its' (actOf (l.take (j + 1))) ∧ its'.map Prod.snd = versOf (l.take (j + 1)) ∧ Below w1.heap.size w1 w' ∧ ∀ g, vv'.ownBlock = some g → w1.heap.size ≤ g := by
  have hlen : its.length = (versOf (l.take j)).length := by rw [← hits, List.length_map]
  have h1 := versOf_len (l.take j)
  have h2 := hl.len
  rw [List.length_take] at h1
  have hs := hbel.size
  have hr := hl.each j hj
  have htk := List.take_succ_eq_append_getElem hj
  have hrf : ∀ g, RF sb vv g → w1.heap.size ≤ g := fun g hg => by
    rcases hg with rfl | hg
    · exact hsb
    · exact hvv g hg
  cases hc : l[j] with
  | save rs =>
    rw [hc] at hr hb htk
    have hr' : Good rs := hr
    refine (replay_save (by omega) hS (by omega) hr' hb).mono ?_
    rintro e w' ⟨vv', u, rfl, hS', hC, hv⟩
    refine ⟨rfl, vv', its ++ [(u, rs)], by rw [htk, actOf_save]; exact hS', by rw [htk, versOf_save, List.map_append, hits]; rfl, hbel.trans (hC.to_below (by omega) fun g _ hg => hrf g hg), fun g hg => ?_⟩
    rcases hv g hg with h | h
    · exact hvv g h
    · omega
  | use i =>
    rw [hc] at hr hb htk
    have hr' : i < (versOf (l.take j)).length := hr
    refine (replay_use hS (by omega) (by omega) hb).mono ?_
    rintro e w' ⟨rfl, hS', hC⟩
    exact ⟨rfl, vv, its, by rw [htk, actOf_use]; exact hS', by rw [htk, versOf_use]; exact hits, hbel.trans (hC.to_below (by omega) fun g _ hg => hrf g hg), hvv⟩
set_option maxHeartbeats 8000000 in
set_option maxRecDepth 1000000 in
theorem open_walk {w : World} {B db mb k : Nat} {rv : Nat → Value} {d : Dk} {l : List Rec} (h : DkAt w B db mb rv d) (hk : k < 64) (hoff : d.off = false) (harm : d.armed = false) (hused : (d.len k : Int) ≤ d.used) (hl : RecsOk l)
    (hsc : scan frameH (d.len k + 1) (d.fi k).bytes 0 = l.map Rec.enc) (hle : (fileOf l).length ≤ d.len k) :
    Calls Tryz.prog 7 #[.pointer (some ⟨db, 0, none⟩), .int .i64 (k : Int)] w fun e w' => ∃ (sb lg : Nat) (vv : Value) (its : List (Value × List Ru)) (rv' : Nat → Value), e = .returned (.tuple #[.pointer (some ⟨sb, 0, none⟩), .int .i64 0]) ∧
      DkAt w' B db mb rv' (d.opened k (fileOf l).length) ∧ StAt w' w.heap.size sb lg db k l.length vv its (actOf l) ∧ its.map Prod.snd = versOf l ∧ Chg (fun g => g = db ∨ g = mb) w w' ∧ (∀ i, rv' i = rv i ∨ (rv' i).ownBlock = (rv i).ownBlock ∨ (rv' i).ownBlock = none) := by
  have hjo := jopen_walk h hk hoff harm hused hsc hle
  obtain ⟨R, hR⟩ : ∃ R, l.map Rec.enc = R := ⟨_, rfl⟩
  rw [hR] at hjo
  have hRl : R.length = l.length := by rw [← hR, List.length_map]
  go_enter Tryz.func7, Tryz.ntmps7
  go_wp2_with fail
  go_at_call 28
  refine hjo.mono ?_
  clear hjo
  rintro _ w1 ⟨lg, u, xs, rv1, rfl, hlg, hl1, hu1, ht1, hd1, hr1, hC1⟩
  have hfe : (framesFrom frameH 0 R).length = (fileOf l).length := by rw [← hR]; rfl
  rw [hfe] at hd1
  rw [hRl] at hl1
  have s1 := hC1.size
  have hxl : xs.length = l.length := ht1.1.trans hRl
  obtain ⟨ua, uc, rfl, hua⟩ := owns_shape hu1
  have hrec := hl.len
  have hst1 : StAt (w1.alloc (.cells #[.pointer (some ⟨lg, 0, none⟩), .slice none 0 0, .int .i64 (-1)] 69)) w.heap.size w1.heap.size lg db k l.length (.slice none 0 0) [] (actOf (l.take 0)) :=
    ⟨Blk.made w1 69 #[.pointer (some ⟨lg, 0, none⟩), .slice none 0 0, .int .i64 (-1)], hl1.alloc _, World.ownsRow_nil _ _ _ _, fun x hx => by simp at hx, by omega, hlg⟩
  have HD := Lib.hid hd1
  have HR := Lib.hid hr1
  have HC := Lib.hid hC1
  clear hd1 hr1 hC1 hl1
  go_wp2
  go_loopw [27] (fun i wr => ∃ (j : Nat) (vv : Value) (its : List (Value × List Ru)), j ≤ l.length ∧ i = .int .i64 j ∧ StAt wr w.heap.size w1.heap.size lg db k l.length vv its (actOf (l.take j)) ∧ its.map Prod.snd = versOf (l.take j) ∧ Below w1.heap.size w1 wr ∧ ∀ g, vv.ownBlock = some g → w1.heap.size ≤ g) (fun i _ => l.length - (intOf i).toNat)
  case atStart => exact ⟨0, _, [], Nat.zero_le _, rfl, hst1, by simp [versOf], (Below.refl _ _).alloc (Nat.le_refl _) _, fun g hg => by cases hg⟩
  case round =>
    obtain ⟨j, vv, its, hj, rfl, hS, hits, hbel, hvv⟩ := hrel
    by_cases hjl : j < l.length
    · obtain ⟨g, c, hge, hglt, hcell⟩ := row_at hu1 (i := j) (by omega)
      cases hge
      obtain ⟨x, hx1, hx2, _⟩ := ht1.2 j (by omega)
      have hxe : R[j]'(by omega) = l[j].enc := by simp [← hR]
      rw [hxe] at hx2
      have hcj : w1.cell? ⟨g, j, none⟩ = some (.slice x.A x.n x.c) := by
        rw [hcell, List.getElem?_map, hx1]; rfl
      have hcj' := (hbel.cell (p := ⟨g, j, none⟩) hglt).trans hcj
      have hrep := rep_walk hl hjl s1 hS hits ((SeesB.sees hx2).bel hbel) hbel (Nat.le_refl _) hvv
      have hrep' : Calls Tryz.prog 29 #[.pointer (some ⟨w1.heap.size, 0, none⟩), .slice x.A x.n x.c] wr _ := hrep
      have hj0 : (0 : Int) ≤ (j : Int) := Int.natCast_nonneg _
      have hj1 : (j : Int) < (xs.length : Int) := by omega
      clear hrep hcj hcell hx1 hx2 hxe hS
      go_wp2_with fail
      go_at_call 29
      refine hrep'.mono ?_
      clear hrep'
      rintro _ w5 ⟨rfl, vv', its', hS', hits', hbel', hvv'⟩
      go_wp2
      go_roundw
      case rel => exact ⟨j + 1, vv', its', hjl, by go_num, hS', hits', hbel', hvv'⟩
      case measure => simp [intOf]; omega
    · have hje : j = l.length := by omega
      subst hje
      rw [List.take_length] at hS hits
      have hjx : ¬ (l.length : Int) < (xs.length : Int) := by omega
      go_wp2_with fail
      go_ret2
      exact ⟨w1.heap.size, rfl, lg, vv, its, ⟨rv1, HD.out.bel hbel, hS, hits, HC.out.trans (Chg.of_below hbel) fun _ _ h => h, HR.out⟩⟩
end Go.Proofs.YtkndgmjlphppdaaGreatDoor
namespace Go.Proofs.YtkndgmjlphppdaaGreatDoor
open Go Go.RowKit Go.Imap

theorem Dk.harden_bytes (d : Dk) (j : Nat) : (d.harden.fi j).bytes = (d.fi j).bytes := by
  unfold Dk.fi Dk.harden
  simp only
  cases d.fs j <;> rfl
theorem Dk.add_bytes (d : Dk) (k n : Nat) (r : Rec) : ((d.add k n r).fi k).bytes = (d.fi k).bytes ++ frame frameH n r.enc := by
  unfold Dk.add
  rw [Dk.harden_bytes]
  have hp := frame_pos frameH n r.enc
  unfold Dk.fi Dk.put
  simp only [if_pos]
  rw [if_neg (by rw [List.length_append]; omega)]
  rfl
theorem Dk.add_other (d : Dk) {k j : Nat} (n : Nat) (r : Rec) (h : j ≠ k) : ((d.add k n r).fi j).bytes = (d.fi j).bytes := by
  unfold Dk.add
  rw [Dk.harden_bytes]
  unfold Dk.fi Dk.put
  simp only [if_neg h]
theorem Dk.add_used (d : Dk) (k n : Nat) (r : Rec) : (d.add k n r).used = d.used + (frame frameH n r.enc).length := by
  unfold Dk.add Dk.harden Dk.put
  simp only [List.length_append]
  unfold Dk.len
  omega
/-- the disk is on, not armed, and has room -/
structure Env (w : World) (B db mb : Nat) (rv : Nat → Value) (d : Dk) (room U : Nat) : Prop where
  dk : DkAt w B db mb rv d
  hB : B ≤ w.heap.size
  lo : B ≤ db ∧ B ≤ mb
  off : d.off = false
  armed : d.armed = false
  room : d.room = room
  used : d.used ≤ U
  lens : ∀ j, (d.len j : Int) ≤ d.used
/-- a store on it, with the records l -/
structure Sto (w : World) (B db : Nat) (d : Dk) (sb lg k : Nat) (vv : Value) (its : List (Value × List Ru)) (l : List Rec) : Prop where
  st : StAt w B sb lg db k l.length vv its (actOf l)
  its : its.map Prod.snd = versOf l
  ok : RecsOk l
  bytes : (d.fi k).bytes = fileOf l
  k64 : k < 64
/-- only blocks of a disk and its stores, or maps -/
def FT (w : World) (F : Nat → Prop) : Prop := ∀ g, F g → ∀ (t : TypeId) (cs : Array Value) (fr : Nat × Nat), w.heap[g]? = some (.cells cs t fr) → t = 62 ∨ t = 5 ∨ t = 103 ∨ t = 69 ∨ t = 37
/-- two stores that have nothing in common -/
structure Two (sb lg k : Nat) (vv : Value) (sb2 lg2 k2 : Nat) (vv2 : Value) : Prop where
  sb : sb2 ≠ sb
  lg : lg2 ≠ lg
  k : k2 ≠ k
  vv : ∀ g, vv.ownBlock = some g → vv2.ownBlock ≠ some g
theorem Two.symm {sb lg k : Nat} {vv : Value} {sb2 lg2 k2 : Nat} {vv2 : Value} (h : Two sb lg k vv sb2 lg2 k2 vv2) : Two sb2 lg2 k2 vv2 sb lg k vv :=
  ⟨fun e => h.sb e.symm, fun e => h.lg e.symm, fun e => h.k e.symm, fun g h1 h2 => h.vv g h2 h1⟩
section
variable {w w' : World} {B db mb : Nat} {rv : Nat → Value} {d : Dk} {room U : Nat}
theorem Env.bel (h : Env w B db mb rv d room U) (hb : Below w.heap.size w w') : Env w' B db mb rv d room U := ⟨h.dk.bel hb, Nat.le_trans h.hB hb.size, h.lo, h.off, h.armed, h.room, h.used, h.lens⟩
theorem Sto.bel {sb lg k : Nat} {vv : Value} {its : List (Value × List Ru)} {l : List Rec} (h : Sto w B db d sb lg k vv its l) (hb : Below w.heap.size w w') : Sto w' B db d sb lg k vv its l := ⟨h.st.bel hb, h.its, h.ok, h.bytes, h.k64⟩
theorem Sto.ilen {sb lg k : Nat} {vv : Value} {its : List (Value × List Ru)} {l : List Rec} (h : Sto w B db d sb lg k vv its l) : its.length = (versOf l).length := by rw [← h.its, List.length_map]
theorem Sto.len {sb lg k : Nat} {vv : Value} {its : List (Value × List Ru)} {l : List Rec} (h : Sto w B db d sb lg k vv its l) : d.len k ≤ 150000 := by
  have h1 := fileOf_len h.ok
  have h2 := h.ok.len
  have : d.len k = (fileOf l).length := by unfold Dk.len; rw [h.bytes]
  omega
theorem FT.sf (h : DkAt w B db mb rv d) {sb lg k n : Nat} {vv : Value} {its : List (Value × List Ru)} {act : Int} (hS : StAt w B sb lg db k n vv its act) : FT w (SF db mb rv d sb lg vv) := fun g hg t cs fr hc => by
  rcases hg with hg | rfl | rfl | hg
  · rcases hg with rfl | rfl | ⟨i, hi, e⟩
    · have e := hc.symm.trans h.blk
      cases e
      exact .inl rfl
    · obtain ⟨ms, cl, hm, _⟩ := h.map
      have e := hc.symm.trans hm
      cases e
    · obtain ⟨f, hf⟩ := Option.isSome_iff_exists.1 hi
      have hr := h.row i f hf
      rcases hr.2 with ⟨e0, _⟩ | ⟨g', cap, cur, e0, _, h3, _⟩
      · rw [e0] at e; cases e
      · rw [e0] at e
        cases e
        have e := hc.symm.trans h3
        cases e
        exact .inr (.inl rfl)
  · have e := hc.symm.trans hS.log
    cases e
    exact .inr (.inr (.inl rfl))
  · have e := hc.symm.trans hS.st
    cases e
    exact .inr (.inr (.inr (.inl rfl)))
  · rcases hS.row.2 with ⟨e0, _⟩ | ⟨g', cap, cur, e0, _, h3, _⟩
    · rw [e0] at hg; cases hg
    · rw [e0] at hg
      cases hg
      have e := hc.symm.trans h3
      cases e
      exact .inr (.inr (.inr (.inr rfl)))
theorem FT.apartly {F : Nat → Prop} {ts : List TypeId} (h : FT w F) (h1 : 62 ∉ ts) (h2 : 5 ∉ ts) (h3 : 103 ∉ ts) (h4 : 69 ∉ ts) (h5 : 37 ∉ ts) : Apartly w F ts := fun g hg t cs fr hc ht => by
  rcases h g hg t cs fr hc with rfl | rfl | rfl | rfl | rfl
  · exact h1 ht
  · exact h2 ht
  · exact h3 ht
  · exact h4 ht
  · exact h5 ht
/-- another store is as it was -/
theorem StAt.other (h : DkAt w B db mb rv d) {sb lg k n : Nat} {vv : Value} {its : List (Value × List Ru)} {act : Int} (hS : StAt w B sb lg db k n vv its act) {sb2 lg2 k2 n2 : Nat} {vv2 : Value} {its2 : List (Value × List Ru)} {act2 : Int} (hS2 : StAt w B sb2 lg2 db k2 n2 vv2 its2 act2)
    (hT : Two sb lg k vv sb2 lg2 k2 vv2) (hc : Chg (SF db mb rv d sb lg vv) w w') : StAt w' B sb2 lg2 db k2 n2 vv2 its2 act2 := by
  have hD := h.apartly (ts := [69, 103, 37, 86]) (by decide) (by decide)
  have rowIs : ∀ {g : Nat} {t : TypeId} {cs : Array Value}, Blk w g t cs → 37 ≠ t → vv.ownBlock ≠ some g := fun hb ht => row_blk hS.row hb ht
  refine ⟨hS2.st.chg hc ?_, hS2.log.chg hc ?_, row_chg hS2.row hc fun g hg hf => ?_, fun x hx => row_chg (hS2.each x hx) hc fun g hg hf => ?_, hS2.lo⟩
  · rintro (hf | hf | hf | hf)
    · exact hD.blk hS2.st (by simp) hf
    · exact Blk.two hS2.st hS.log (by decide) hf
    · exact hT.sb hf
    · exact rowIs hS2.st (by decide) hf
  · rintro (hf | hf | hf | hf)
    · exact hD.blk hS2.log (by simp) hf
    · exact hT.lg hf
    · exact Blk.two hS2.log hS.st (by decide) hf
    · exact rowIs hS2.log (by decide) hf
  · rcases hf with hf | hf | hf | hf
    · exact hD.row hS2.row (by simp) g hg hf
    · subst hf; exact row_blk hS2.row hS.log (by decide) hg
    · subst hf; exact row_blk hS2.row hS.st (by decide) hg
    · exact hT.vv g hf hg
  · rcases hf with hf | hf | hf | hf
    · exact hD.row (hS2.each x hx) (by simp) g hg hf
    · subst hf; exact row_blk (hS2.each x hx) hS.log (by decide) hg
    · subst hf; exact row_blk (hS2.each x hx) hS.st (by decide) hg
    · rcases hS.row.2 with ⟨e0, _⟩ | ⟨g', cap, cur, e0, _, h3, _⟩
      · rw [e0] at hf; cases hf
      · rw [e0] at hf
        cases hf
        rcases (hS2.each x hx).2 with ⟨e1, _⟩ | ⟨g2, cap2, cur2, e1, _, h4, _⟩
        · rw [e1] at hg; cases hg
        · rw [e1] at hg
          cases hg
          have e := h3.symm.trans h4
          exact absurd (by injection e with e; injection e : (37 : TypeId) = 86) (by decide)
/-- what an operation of a store leaves: w' behind w, the store's records l' and its row vv', the disk d' -/
structure After (w w' : World) (B db mb : Nat) (rv : Nat → Value) (d : Dk) (room U : Nat) (sb lg k : Nat) (vv : Value) (d' : Dk) (vv' : Value) (its' : List (Value × List Ru)) (l' : List Rec) : Prop where
  env : ∃ rv', Env w' B db mb rv' d' room U
  sto : Sto w' B db d' sb lg k vv' its' l'
  bel : Below B w w'
  chg : ∃ F, Chg F w w' ∧ FT w F
  other : ∀ {sb2 lg2 k2 : Nat} {vv2 : Value} {its2 : List (Value × List Ru)} {l2 : List Rec}, Sto w B db d sb2 lg2 k2 vv2 its2 l2 → Two sb lg k vv sb2 lg2 k2 vv2 → Sto w' B db d' sb2 lg2 k2 vv2 its2 l2 ∧ Two sb lg k vv' sb2 lg2 k2 vv2
  sf : Chg (SF db mb rv d sb lg vv) w w'
theorem sf_lo (h : Env w B db mb rv d room U) {sb lg k n : Nat} {vv : Value} {its : List (Value × List Ru)} {act : Int} (hS : StAt w B sb lg db k n vv its act) {g : Nat} (hg : SF db mb rv d sb lg vv g) : B ≤ g := by
  rcases hg with hg | rfl | rfl | hg
  · rcases hg with rfl | rfl | ⟨i, hi, e⟩
    · exact h.lo.1
    · exact h.lo.2
    · obtain ⟨f, hf⟩ := Option.isSome_iff_exists.1 hi
      exact (World.ownsRow.lt (h.dk.row i f hf) g e).1
  · exact hS.lo.2
  · exact hS.lo.1
  · exact (World.ownsRow.lt hS.row g hg).1
theorem after_of (h : Env w B db mb rv d room U) {sb lg k : Nat} {vv vv' : Value} {its its' : List (Value × List Ru)} {l : List Rec} {r : Rec} (hS : Sto w B db d sb lg k vv its l) (hl : l.length < 1000) (hr : RecOk l r) {rv' : Nat → Value}
    (hd : DkAt w' B db mb rv' (d.add k l.length r)) (hs : StAt w' B sb lg db k (l.length + 1) vv' its' (actOf (l ++ [r]))) (hi : its'.map Prod.snd = versOf (l ++ [r])) (hc : Chg (SF db mb rv d sb lg vv) w w') (hv : ∀ g, vv'.ownBlock = some g → vv.ownBlock = some g ∨ w.heap.size ≤ g) :
    After w w' B db mb rv d room (U + 150) sb lg k vv (d.add k l.length r) vv' its' (l ++ [r]) := by
  have hrl := hr.len (by have := hS.ok.len; omega)
  have hfl := frame_len frameH frameH_lt l.length r.enc (by omega) (by omega)
  have hu := Dk.add_used d k l.length r
  refine ⟨⟨rv', hd, Nat.le_trans h.hB hc.size, h.lo, h.off, h.armed, h.room, ?_, fun j => ?_⟩, ⟨by rw [List.length_append]; exact hs, hi, hS.ok.snoc hl hr, by rw [Dk.add_bytes, hS.bytes, fileOf_snoc], hS.k64⟩, hc.to_below h.hB fun g _ hg => sf_lo h hS.st hg, ⟨_, hc, FT.sf h.dk hS.st⟩, fun hS2 hT => ⟨⟨hS.st.other h.dk hS2.st hT hc, hS2.its, hS2.ok, by rw [Dk.add_other d _ _ hT.k]; exact hS2.bytes, hS2.k64⟩, ⟨hT.sb, hT.lg, hT.k, fun g hg hg2 => ?_⟩⟩, hc⟩
  · have := h.used; omega
  · have := h.lens j
    by_cases hj : j = k
    · subst hj
      have e : (d.add j l.length r).len j = d.len j + (frame frameH l.length r.enc).length := by unfold Dk.len; rw [Dk.add_bytes, List.length_append]
      omega
    · have e : (d.add k l.length r).len j = d.len j := by unfold Dk.len; rw [Dk.add_other d _ _ hj]
      omega
  · rcases hv g hg with h1 | h1
    · exact hT.vv g h1 hg2
    · have := (World.ownsRow.lt hS2.st.row g hg2).2
      omega
/-- Save -/
theorem save_step (h : Env w B db mb rv d room U) {sb lg k : Nat} {vv v : Value} {its : List (Value × List Ru)} {l : List Rec} {base : Nat} {rs : List Ru} (hS : Sto w B db d sb lg k vv its l) (hl : l.length < 1000) (hU : U + 200 ≤ room) (hv : w.ownsRow base 86 3 v rs.length (rs.flatMap Ru.cells)) (hG : Good rs) :
    Calls Tryz.prog 9 #[.pointer (some ⟨sb, 0, none⟩), v] w fun e w' => ∃ vv' its', e = .returned (.tuple #[.int .i64 ((versOf l).length : Int), .int .i64 0]) ∧ After w w' B db mb rv d room (U + 150) sb lg k vv (d.add k l.length (.save rs)) vv' its' (l ++ [.save rs]) := by
  have hv2 := versOf_len l
  have hil := hS.ilen
  refine (save_walk h.dk h.hB hS.st hS.k64 h.off h.armed hl (by omega) hv hG (by have := h.used; have := h.room; omega) (by have := hS.len; omega)).mono ?_
  rintro e w' ⟨rv', vv', u, rfl, hd, hs, hc, _, ho⟩
  exact ⟨vv', _, by rw [hil], after_of h hS hl hG hd (by rw [actOf_save]; exact hs) (by rw [versOf_save, List.map_append, hS.its]; rfl) hc ho⟩
/-- Use -/
theorem use_step (h : Env w B db mb rv d room U) {sb lg k : Nat} {vv : Value} {its : List (Value × List Ru)} {l : List Rec} {i : Nat} (hS : Sto w B db d sb lg k vv its l) (hl : l.length < 1000) (hU : U + 200 ≤ room) (hi : i < (versOf l).length) :
    Calls Tryz.prog 11 #[.pointer (some ⟨sb, 0, none⟩), .int .i64 (i : Int)] w fun e w' => e = .returned (.int .i64 0) ∧ After w w' B db mb rv d room (U + 150) sb lg k vv (d.add k l.length (.use i)) vv its (l ++ [.use i]) := by
  have hv2 := versOf_len l
  have hil := hS.ilen
  refine (use_walk h.dk h.hB hS.st hS.k64 h.off h.armed hl (by omega) (by omega) (by have := h.used; have := h.room; omega) (by have := hS.len; omega)).mono ?_
  rintro e w' ⟨rv', rfl, hd, hs, hc, _⟩
  exact ⟨rfl, after_of h hS hl hi hd (by rw [actOf_use]; exact hs) (by rw [versOf_use]; exact hS.its) hc fun g hg => .inl hg⟩
end
end Go.Proofs.YtkndgmjlphppdaaGreatDoor
namespace Go.Proofs.YtkndgmjlphppdaaGreatDoor
open Go Go.Ev Go.RowKit

/-- a call that only reads, and what it leaves -/
theorem callRoH {P : Program} {Γ : Glo} {cal : Cal} (k : CalOK P Γ cal) {f : Nat} {args : List V} {v : V} {H : Heap} {n m : Pth} {ps : List Pth} (h : cal.fn f args .nil m = .ok v H n) (hfree : freeH H ps = true) {ι : Emb} {w : World} (hv : Γ.val = fun _ => []) (ht : Γ.tab = []) (hl : Γ.lds = [])
    (hro : RoIs ι Γ.ro w) (hdom : ∀ p, ι p ≠ none → p ∈ ps) (hlt : ∀ p b s, ι p = some (b, s) → b < w.heap.size) (xs : Array Value) (hxs : V.rels ι args xs.toList) :
    Calls P f xs w fun e w1 => ∃ x ι', e = .returned x ∧ V.rel ι' v x ∧ HOK P ι' H w1 ∧ Below w.heap.size w w1 := by
  obtain ⟨_, _, hk⟩ := k.fn _ _ _ _ _ _ _ h
  have noLive : ∀ p, ¬ Live (.nil : Heap) p := fun p hl => by obtain ⟨o, h1, _⟩ := hl; rw [Tr.get_nil] at h1; cases h1
  refine (hk ι w xs ⟨fun p o h => (by rw [Tr.get_nil] at h; cases h), fun p q b s s' h => absurd h (noLive p), hlt⟩ ⟨fun g i v h => ?_, fun g h => ?_, fun e he => (by rw [ht] at he; simp at he), fun e he => (by rw [ht] at he; simp at he), fun e he => (by rw [hl] at he; simp at he), fun e he => ?_⟩ (fun p _ h2 => ?_) hxs).mono fun e w1 he => ?_
  · rw [hv] at h; simp at h
  · rw [hv] at h; exact absurd rfl h
  · obtain ⟨b, s, c, el, fr, h1, h2, h3⟩ := hro e he
    exact ⟨b, s, c, el, fr, h1, h2, h3, fun q t hl => absurd hl (noLive q)⟩
  · cases hp : ι p with
    | none => rfl
    | some z => exact absurd (freeH_ok hfree p (hdom p (by rw [hp]; simp))) h2
  · obtain ⟨x, rfl, ι', hv', hs⟩ := he
    exact ⟨x, ι', rfl, hv', hs.hok, ⟨hs.os, hs.tape, hs.out, hs.size, fun b hb => hs.kept b hb fun p s hl => absurd hl (noLive p)⟩⟩
theorem diff_inv : ∃ p c e H n, calD.fn 40 [.ptr (nm 11) 0, .int .i64 0, .int .i64 1] .nil (nm 100) = .ok (.tup [.sl p 0 1 c e, .int .i64 0]) H n ∧ (∃ l, H.get p = some (.cells (.str [121] :: l))) ∧ freeH H (dRo.map (·.1)) = true := by
  have h := diff_ok
  unfold chkDiff at h
  split at h
  · rename_i p o m c e H n h1
    split at h
    · rename_i hm
      split at h
      · rename_i ho
        split at h
        · rename_i l hl
          split at h
          · rename_i s t
            split at h
            · rename_i hs
              have hm' : m = 1 := Nat.eq_of_beq_eq_true hm
              have ho' : o = 0 := Nat.eq_of_beq_eq_true ho
              have hs' : s = [121] := of_decide_eq_true hs
              subst hm'; subst ho'; subst hs'
              exact ⟨p, c, e, H, n, h1, ⟨_, hl⟩, h⟩
            · cases h
          · cases h
        · cases h
      · cases h
    · cases h
  · cases h
def ru (n t : UInt8) : Ru := ⟨[n], [t], false⟩
/-- the size of a block -/
def bsz (w : World) (b : Nat) : Nat := match w.heap[b]? with | some (.cells c _ _) => c.size | _ => 0
theorem row_sl {w : World} {base : Nat} {e : TypeId} {size : Nat} {v : Value} {n : Nat} {xs : List Value} (h : w.ownsRow base e size v n xs) (hn : 0 < n) :
    ∃ g c cur, v = .slice (some ⟨g, 0, none⟩) n c ∧ g < w.heap.size ∧ w.heap[g]? = some (.cells cur e (0, 0)) ∧ n ≤ c ∧ c * size = bsz w g ∧ cur.toList.take xs.length = xs := by
  rcases h.2 with ⟨_, rfl⟩ | ⟨g, cap, cur, rfl, _, h3, h4, _, h5, h6⟩
  · omega
  · refine ⟨g, cap, cur, rfl, (Array.getElem?_eq_some_iff.1 h3).1, h3, h4, ?_, ?_⟩
    · unfold bsz; rw [h3]; exact h5.symm
    · rw [h.1]; exact h6
set_option maxRecDepth 100000 in
theorem diff_walk {w : World} {B sb lg db k n : Nat} {vv : Value} {its : List (Value × List Ru)} (hS : StAt w B sb lg db k n vv its 1) (hits : its.map Prod.snd = [[ru 120 97, ru 121 98], [ru 120 97, ru 121 99]]) :
    Calls Tryz.prog 40 #[.pointer (some ⟨sb, 0, none⟩), .int .i64 0, .int .i64 1] w fun e w' => ∃ g c, e = .returned (.tuple #[.slice (some ⟨g, 0, none⟩) 1 c, .int .i64 0]) ∧ w'.cell? ⟨g, 0, none⟩ = some (.string ⟨#[121]⟩) ∧ Below w.heap.size w w' := by
  obtain ⟨p, cc, ee, H, nn, h1, ⟨l, hl⟩, hfree⟩ := diff_inv
  match its, hits with
  | [(v0, r0), (v1, r1)], hits =>
    simp only [List.map_cons, List.map_nil, List.cons.injEq, and_true] at hits
    obtain ⟨rfl, rfl⟩ := hits
    obtain ⟨gv, cv, curv, rfl, lv, bv', kv, zv, tv⟩ := row_sl hS.row (by simp)
    obtain ⟨g0, c0, cur0, e0, l0, b0, k0, z0, t0⟩ := row_sl (hS.each (v0, [ru 120 97, ru 121 98]) (by simp)) (Nat.succ_pos 1)
    obtain ⟨g1, c1, cur1, e1, l1, b1, k1, z1, t1⟩ := row_sl (hS.each (v1, [ru 120 97, ru 121 99]) (by simp)) (Nat.succ_pos 1)
    simp only at e0 e1
    subst e0; subst e1
    have hst := hS.st
    have hslt := hst.lt
    let ι : Emb := ⟨fun q => if nm 11 = q then some (sb, 0) else if nm 12 = q then some (gv, 0) else if nm 13 = q then some (g0, 0) else if nm 14 = q then some (g1, 0) else none, bsz w, fun _ => 0⟩
    have i11 : ι (nm 11) = some (sb, 0) := by
      show (if nm 11 = nm 11 then some (sb, 0) else if nm 12 = nm 11 then some (gv, 0) else if nm 13 = nm 11 then some (g0, 0) else if nm 14 = nm 11 then some (g1, 0) else none) = some (sb, 0)
      rw [if_pos rfl]
    have i12 : ι (nm 12) = some (gv, 0) := by
      show (if nm 11 = nm 12 then some (sb, 0) else if nm 12 = nm 12 then some (gv, 0) else if nm 13 = nm 12 then some (g0, 0) else if nm 14 = nm 12 then some (g1, 0) else none) = some (gv, 0)
      rw [if_neg (by decide), if_pos rfl]
    have i13 : ι (nm 13) = some (g0, 0) := by
      show (if nm 11 = nm 13 then some (sb, 0) else if nm 12 = nm 13 then some (gv, 0) else if nm 13 = nm 13 then some (g0, 0) else if nm 14 = nm 13 then some (g1, 0) else none) = some (g0, 0)
      rw [if_neg (by decide), if_neg (by decide), if_pos rfl]
    have i14 : ι (nm 14) = some (g1, 0) := by
      show (if nm 11 = nm 14 then some (sb, 0) else if nm 12 = nm 14 then some (gv, 0) else if nm 13 = nm 14 then some (g0, 0) else if nm 14 = nm 14 then some (g1, 0) else none) = some (g1, 0)
      rw [if_neg (by decide), if_neg (by decide), if_neg (by decide), if_pos rfl]
    have iAll : ∀ q z, ι q = some z → (nm 11 = q ∧ z = (sb, 0)) ∨ (nm 12 = q ∧ z = (gv, 0)) ∨ (nm 13 = q ∧ z = (g0, 0)) ∨ (nm 14 = q ∧ z = (g1, 0)) := fun q z hq => by
      have hq' : (if nm 11 = q then some (sb, 0) else if nm 12 = q then some (gv, 0) else if nm 13 = q then some (g0, 0) else if nm 14 = q then some (g1, 0) else none) = some z := hq
      repeat' split at hq'
      all_goals first
        | (cases hq'; done)
        | (rename_i h; cases hq'; subst h; simp)
    refine (callRoH calD_ok h1 hfree rfl rfl rfl (ι := ι) (fun e he => ?_) (fun q hq => ?_) (fun q b s hq => ?_) _ ?_).mono ?_
    · have e : e = dRo[0] ∨ e = dRo[1] ∨ e = dRo[2] ∨ e = dRo[3] := by
        have he' : e ∈ dRo := he
        simpa [dRo] using he'
      rcases e with rfl | rfl | rfl | rfl
      · refine ⟨sb, 0, _, _, _, i11, hst, ?_⟩
        exact rels_cons trivial (rels_cons ⟨gv, 0, cv, i12, rfl, kv, fun h => absurd h (by decide), fun _ => by show 0 + 0 + cv * 1 = bsz w gv; omega⟩ (rels_one rfl))
      · refine ⟨gv, 0, curv, _, _, i12, bv', ?_⟩
        have tv' : (curv.toList.drop 0).take 2 = [.slice (some ⟨g0, 0, none⟩) 2 c0, .slice (some ⟨g1, 0, none⟩) 2 c1] := tv
        show V.rels ι [.sl (nm 13) 0 2 2 3, .sl (nm 14) 0 2 2 3] ((curv.toList.drop 0).take 2)
        rw [tv']
        exact rels_cons ⟨g0, 0, c0, i13, rfl, k0, fun h => absurd h (by decide), fun _ => by show 0 + 0 + c0 * 3 = bsz w g0; omega⟩ (rels_one ⟨g1, 0, c1, i14, rfl, k1, fun h => absurd h (by decide), fun _ => by show 0 + 0 + c1 * 3 = bsz w g1; omega⟩)
      · refine ⟨g0, 0, cur0, _, _, i13, b0, ?_⟩
        have t0' : (cur0.toList.drop 0).take 6 = [ru 120 97, ru 121 98].flatMap Ru.cells := t0
        show V.rels ι [.str [120], .str [97], .bool false, .str [121], .str [98], .bool false] ((cur0.toList.drop 0).take 6)
        rw [t0']
        exact rels_cons ⟨_, rfl, rfl⟩ (rels_cons ⟨_, rfl, rfl⟩ (rels_cons rfl (rels_cons ⟨_, rfl, rfl⟩ (rels_cons ⟨_, rfl, rfl⟩ (rels_one rfl)))))
      · refine ⟨g1, 0, cur1, _, _, i14, b1, ?_⟩
        have t1' : (cur1.toList.drop 0).take 6 = [ru 120 97, ru 121 99].flatMap Ru.cells := t1
        show V.rels ι [.str [120], .str [97], .bool false, .str [121], .str [99], .bool false] ((cur1.toList.drop 0).take 6)
        rw [t1']
        exact rels_cons ⟨_, rfl, rfl⟩ (rels_cons ⟨_, rfl, rfl⟩ (rels_cons rfl (rels_cons ⟨_, rfl, rfl⟩ (rels_cons ⟨_, rfl, rfl⟩ (rels_one rfl)))))
    · cases hz : ι q with
      | none => exact absurd hz hq
      | some z =>
        rcases iAll q z hz with ⟨h, _⟩ | ⟨h, _⟩ | ⟨h, _⟩ | ⟨h, _⟩ <;> (subst h; simp [dRo])
    · rcases iAll q _ hq with ⟨_, h⟩ | ⟨_, h⟩ | ⟨_, h⟩ | ⟨_, h⟩ <;> (cases h; assumption)
    · exact rels_cons ⟨sb, 0, i11, rfl⟩ (rels_cons rfl (rels_one rfl))
    · rintro e w' ⟨x, ι', rfl, hx, hok, hb⟩
      obtain ⟨cs, rfl, hcs⟩ := hx
      obtain ⟨x1, u1, e1, hx1, hcs⟩ := rels_cons_inv hcs
      obtain ⟨x2, u2, e2, hx2, hcs⟩ := rels_cons_inv hcs
      have e4 := rels_nil_inv hcs
      subst e4; subst e2
      have hx2' : x2 = .int .i64 0 := hx2
      subst hx2'
      obtain ⟨b, s, c', hp, rfl, _⟩ := hx1
      obtain ⟨b', s', c, el, fr, hp', hh, _, hr, _, hs0⟩ := hok.obj _ _ hl
      rw [hp] at hp'
      cases hp'
      subst hs0
      have ec : cs = #[.slice (some ⟨b, 0 + 0, none⟩) 1 c', .int .i64 0] := Array.toList_inj.1 e1
      subst ec
      refine ⟨b, c', rfl, ?_, hb⟩
      obtain ⟨y, t, ey, hy, _⟩ := rels_cons_inv hr
      obtain ⟨bs, rfl, hbs⟩ := hy
      have h0 : c.toList[0]? = some (.string bs) := by
        have := congrArg (fun z : List Value => z[0]?) ey
        simpa using this
      have hbs' : bs = ⟨#[121]⟩ := bytes_inj (l := [121]) hbs rfl
      rw [hbs'] at h0
      simp only [World.cell?, hh]
      simpa using h0
end Go.Proofs.YtkndgmjlphppdaaGreatDoor
namespace Go.Proofs.YtkndgmjlphppdaaGreatDoor
open Go Go.RowKit Go.Imap

theorem StAt.base {w : World} {B B' sb lg db k n : Nat} {vv : Value} {its : List (Value × List Ru)} {act : Int} (h : StAt w B' sb lg db k n vv its act) (hB : B ≤ B') : StAt w B sb lg db k n vv its act :=
  ⟨h.st, h.log, row_base h.row hB, fun x hx => row_base (h.each x hx) hB, by have := h.lo; omega⟩
theorem Dk.opened_full {d : Dk} {k : Nat} {l : List Rec} (hb : (d.fi k).bytes = fileOf l) : d.opened k (fileOf l).length = d.harden := by
  unfold Dk.opened
  rw [if_neg (by unfold Dk.len; rw [hb]; omega)]
theorem Dk.harden_len (d : Dk) (j : Nat) : d.harden.len j = d.len j := by unfold Dk.len; rw [Dk.harden_bytes]
/-- a store that has just been opened -/
structure Opened (w w' : World) (B db mb : Nat) (d : Dk) (room U : Nat) (sb lg k : Nat) (vv : Value) (its : List (Value × List Ru)) (l : List Rec) : Prop where
  env : ∃ rv', Env w' B db mb rv' d.harden room U
  sto : Sto w' B db d.harden sb lg k vv its l
  bel : Below B w w'
  chg : ∃ F, Chg F w w' ∧ FT w F
  new : w.heap.size ≤ sb ∧ w.heap.size ≤ lg ∧ ∀ g, vv.ownBlock = some g → w.heap.size ≤ g
  other : ∀ {sb2 lg2 k2 : Nat} {vv2 : Value} {its2 : List (Value × List Ru)} {l2 : List Rec}, Sto w B db d sb2 lg2 k2 vv2 its2 l2 → Sto w' B db d.harden sb2 lg2 k2 vv2 its2 l2 ∧ (k2 ≠ k → Two sb lg k vv sb2 lg2 k2 vv2)
theorem open_step {w : World} {B db mb : Nat} {rv : Nat → Value} {d : Dk} {room U : Nat} (h : Env w B db mb rv d room U) {k : Nat} {l : List Rec} (hk : k < 64) (hl : RecsOk l) (hb : (d.fi k).bytes = fileOf l) :
    Calls Tryz.prog 7 #[.pointer (some ⟨db, 0, none⟩), .int .i64 (k : Int)] w fun e w' => ∃ sb lg vv its, e = .returned (.tuple #[.pointer (some ⟨sb, 0, none⟩), .int .i64 0]) ∧ Opened w w' B db mb d room U sb lg k vv its l := by
  have hlen : d.len k = (fileOf l).length := by unfold Dk.len; rw [hb]
  refine (open_walk h.dk hk h.off h.armed (h.lens k) hl (by rw [hlen, hb]; exact scan_file hl) (by omega)).mono ?_
  rintro e w' ⟨sb, lg, vv, its, rv', rfl, hd, hs, hi, hc, hr⟩
  rw [Dk.opened_full hb] at hd
  have hft : FT w (fun g => g = db ∨ g = mb) := fun g hg t cs fr hh => by
    rcases hg with rfl | rfl
    · have e := hh.symm.trans h.dk.blk
      cases e
      exact .inl rfl
    · obtain ⟨ms, cl, hm, _⟩ := h.dk.map
      have e := hh.symm.trans hm
      cases e
  have hap : Apartly w (fun g => g = db ∨ g = mb) [69, 103, 37, 86] := fun g hg t cs fr hh ht => by
    rcases hg with rfl | rfl
    · have e := hh.symm.trans h.dk.blk
      cases e
      exact absurd ht (by decide)
    · obtain ⟨ms, cl, hm, _⟩ := h.dk.map
      have e := hh.symm.trans hm
      cases e
  refine ⟨sb, lg, vv, its, rfl, ⟨rv', hd, Nat.le_trans h.hB hc.size, h.lo, h.off, h.armed, h.room, h.used, fun j => by rw [Dk.harden_len]; exact h.lens j⟩, ⟨hs.base h.hB, hi, hl, by rw [Dk.harden_bytes]; exact hb, hk⟩,
    hc.to_below h.hB fun g _ hg => by rcases hg with rfl | rfl; exact h.lo.1; exact h.lo.2, ⟨_, hc, hft⟩, ⟨hs.lo.1, hs.lo.2, fun g hg => (World.ownsRow.lt hs.row g hg).1⟩, fun hS2 => ⟨⟨hS2.st.chg hc hap, hS2.its, hS2.ok, by rw [Dk.harden_bytes]; exact hS2.bytes, hS2.k64⟩, fun hk2 => ⟨fun e => ?_, fun e => ?_, hk2, fun g h1 h2 => ?_⟩⟩⟩
  · have := hS2.st.st.lt; have := hs.lo.1; omega
  · have := hS2.st.log.lt; have := hs.lo.2; omega
  · have := (World.ownsRow.lt hs.row g h1).1
    have := (World.ownsRow.lt hS2.st.row g h2).2
    omega
theorem Dk.new_fi (room k : Nat) : ((Dk.new room).fi k).bytes = fileOf [] := rfl
theorem new_step {room : Nat} (hr : room ≤ 16777216) (w : World) :
    Calls Tryz.prog 6 #[.int .i64 (room : Int)] w fun e w' => ∃ db mb rv, e = .returned (.tuple #[.pointer (some ⟨db, 0, none⟩), .int .i64 0]) ∧ Env w' w.heap.size db mb rv (Dk.new room) room 0 ∧ Below w.heap.size w w' := by
  refine (dnew_walk hr w).mono ?_
  rintro e w' ⟨db, mb, rfl, h1, h2, hd, hb⟩
  exact ⟨db, mb, fun _ => .slice none 0 0, rfl, ⟨hd _, hb.size, ⟨h1, h2⟩, rfl, rfl, rfl, by show (0 : Int) ≤ 0; omega, fun j => by show ((Dk.new room).len j : Int) ≤ 0; simp [Dk.len, Dk.fi, Dk.new]⟩, hb⟩
/-- the rules of the documented example -/
theorem good_ex1 : Good [ru 120 97, ru 121 98] := ⟨by decide, by decide, fun r hr => by
  simp only [List.mem_cons, List.not_mem_nil, or_false] at hr
  rcases hr with rfl | rfl
  · exact ⟨⟨0, by decide, rfl⟩, 9, by decide, rfl⟩
  · exact ⟨⟨1, by decide, rfl⟩, 10, by decide, rfl⟩⟩
theorem good_ex2 : Good [ru 120 97, ru 121 99] := ⟨by decide, by decide, fun r hr => by
  simp only [List.mem_cons, List.not_mem_nil, or_false] at hr
  rcases hr with rfl | rfl
  · exact ⟨⟨0, by decide, rfl⟩, 9, by decide, rfl⟩
  · exact ⟨⟨8, by decide, rfl⟩, 10, by decide, rfl⟩⟩
end Go.Proofs.YtkndgmjlphppdaaGreatDoor
namespace Go.Proofs.YtkndgmjlphppdaaGreatDoor
open Go Go.RowKit Go.Imap

set_option maxHeartbeats 8000000 in
set_option maxRecDepth 1000000 in
theorem lives_walk (w : World) : Calls Tryz.prog 16 #[] w fun e w' => e = .returned (.bool true) ∧ Below w.heap.size w w' := by
  have hnew := new_step (room := 65536) (by omega) w
  go_enter Tryz.func16, Tryz.ntmps16
  go_wp2_with fail
  go_at_call 6
  refine hnew.mono ?_
  clear hnew
  rintro _ w1 ⟨db, mb, rv1, rfl, hE1, hB1⟩
  have hop := open_step (k := 3) (l := []) hE1 (by omega) RecsOk.nil rfl
  go_wp2_with fail
  go_at_call 7
  refine hop.mono ?_
  clear hop
  rintro _ w2 ⟨sb, lg, vv2, its2, rfl, hO⟩
  obtain ⟨rv2, hE2⟩ := hO.env
  have hS2 := hO.sto
  have hB2 := hB1.trans hO.bel
  have hact := active_walk hS2.st
  clear hO
  go_wp2_with fail
  go_at_call 13
  refine hact.mono ?_
  clear hact
  rintro _ wh ⟨rfl, hwh⟩
  rw [hwh]
  clear hwh wh
  have hr1 : (w2.alloc (.cells #[.string ⟨#[120]⟩, .string ⟨#[97]⟩, .bool false, .string ⟨#[121]⟩, .string ⟨#[98]⟩, .bool false] 86)).ownsRow 0 86 3 (.slice (some ⟨w2.heap.size, 0, none⟩) 2 2) [ru 120 97, ru 121 98].length ([ru 120 97, ru 121 98].flatMap Ru.cells) :=
    World.ownsRow_lit (base := 0) (size := 3) w2 #[.string ⟨#[120]⟩, .string ⟨#[97]⟩, .bool false, .string ⟨#[121]⟩, .string ⟨#[98]⟩, .bool false] 2 (Nat.zero_le _) (by unfold maxLen; omega) rfl
  have hE2' := hE2.bel ((Below.refl _ _).alloc (Nat.le_refl _) (.cells #[.string ⟨#[120]⟩, .string ⟨#[97]⟩, .bool false, .string ⟨#[121]⟩, .string ⟨#[98]⟩, .bool false] 86))
  have hS2' := hS2.bel ((Below.refl _ _).alloc (Nat.le_refl _) (.cells #[.string ⟨#[120]⟩, .string ⟨#[97]⟩, .bool false, .string ⟨#[121]⟩, .string ⟨#[98]⟩, .bool false] 86))
  have hsv := save_step hE2' hS2' (by simp) (by omega) hr1 good_ex1
  go_wp2_with fail
  go_at_call 9
  refine hsv.mono ?_
  clear hsv
  rintro _ w3 ⟨vv3, its3, rfl, hA3⟩
  obtain ⟨rv3, hE3⟩ := hA3.env
  have hS3 := hA3.sto
  have hB3 := (hB2.alloc hE2.hB _).trans hA3.bel
  clear hA3 hE2' hS2' hE2 hS2 hr1
  have hr2 : (w3.alloc (.cells #[.string ⟨#[120]⟩, .string ⟨#[97]⟩, .bool false, .string ⟨#[121]⟩, .string ⟨#[99]⟩, .bool false] 86)).ownsRow 0 86 3 (.slice (some ⟨w3.heap.size, 0, none⟩) 2 2) [ru 120 97, ru 121 99].length ([ru 120 97, ru 121 99].flatMap Ru.cells) :=
    World.ownsRow_lit (base := 0) (size := 3) w3 #[.string ⟨#[120]⟩, .string ⟨#[97]⟩, .bool false, .string ⟨#[121]⟩, .string ⟨#[99]⟩, .bool false] 2 (Nat.zero_le _) (by unfold maxLen; omega) rfl
  have hE3' := hE3.bel ((Below.refl _ _).alloc (Nat.le_refl _) (.cells #[.string ⟨#[120]⟩, .string ⟨#[97]⟩, .bool false, .string ⟨#[121]⟩, .string ⟨#[99]⟩, .bool false] 86))
  have hS3' := hS3.bel ((Below.refl _ _).alloc (Nat.le_refl _) (.cells #[.string ⟨#[120]⟩, .string ⟨#[97]⟩, .bool false, .string ⟨#[121]⟩, .string ⟨#[99]⟩, .bool false] 86))
  have hsv := save_step hE3' hS3' (by simp) (by omega) hr2 good_ex2
  go_wp2_with fail
  go_at_call 9
  refine hsv.mono ?_
  clear hsv
  rintro _ w4 ⟨vv4, its4, rfl, hA4⟩
  obtain ⟨rv4, hE4⟩ := hA4.env
  have hS4 := hA4.sto
  have hB4 := (hB3.alloc hE3.hB _).trans hA4.bel
  clear hA4 hE3' hS3' hE3 hS3 hr2
  have hus := use_step (i := 1) hE4 hS4 (by simp) (by omega) (by simp [versOf, Rec.ver])
  go_wp2_with fail
  go_at_call 11
  refine hus.mono ?_
  clear hus
  rintro _ w5 ⟨rfl, hA5⟩
  obtain ⟨rv5, hE5⟩ := hA5.env
  have hS5 := hA5.sto
  have hB5 := hB4.trans hA5.bel
  have hits := hS5.its
  have hst5 := hS5.st
  clear hA5 hE4 hS4
  have hdf := diff_walk (n := 3) hst5 hits
  go_wp2_with fail
  go_at_call 40
  refine hdf.mono ?_
  clear hdf
  rintro _ w6 ⟨g, c, rfl, hc6, hB6⟩
  have hst6 := hst5.bel hB6
  have hil : its4.length = 2 := by
    have := congrArg List.length hits
    rw [List.length_map] at this
    exact this
  have hle := len_walk hst6
  have hac := active_walk hst6
  rw [hil] at hle
  go_wp2_with (first
    | (go_at_call 12; refine hle.mono ?_; clear hle; rintro _ wa ⟨rfl, rfl⟩)
    | (go_at_call 13; refine hac.mono ?_; clear hac; rintro _ wb ⟨rfl, rfl⟩)
    | go_in)
  go_ret
  exact ⟨rfl, hB5.trans (hB6.mono hB5.size)⟩
end Go.Proofs.YtkndgmjlphppdaaGreatDoor
namespace Go.Proofs.YtkndgmjlphppdaaGreatDoor
open Go Go.Ev Go.RowKit Go.Smap

/-- an argument that is a slice of numbers -/
structure SlArg (w : World) (x : Value) (l : List Int) : Prop where
  val : ∃ a c, x = .slice a l.length c ∧ (l ≠ [] → ∃ b off, a = some ⟨b, off, none⟩ ∧ b < w.heap.size ∧ ∀ (i : Nat) (z : Int), l[i]? = some z → w.cell? ⟨b, off + i, none⟩ = some (.int .i64 z))
  len : l.length ≤ 9223372036854775807
  bd : ∀ z ∈ l, -9223372036854775808 ≤ z ∧ z ≤ 9223372036854775807
theorem SlArg.below {w w' : World} {x : Value} {l : List Int} (h : SlArg w x l) (hb : Below w.heap.size w w') : SlArg w' x l := by
  obtain ⟨a, c, hx, h1⟩ := h.val
  refine ⟨⟨a, c, hx, fun hl => ?_⟩, h.len, h.bd⟩
  obtain ⟨b, off, ha, hb1, h2⟩ := h1 hl
  exact ⟨b, off, ha, Nat.lt_of_lt_of_le hb1 hb.size, fun i z hz => (hb.cell (p := ⟨b, off + i, none⟩) hb1).trans (h2 i z hz)⟩
set_option maxRecDepth 1000000 in
theorem around_walk (z : Int) (m : Nat) (w : World) (hm : 0 < m) (h1 : -9223372036854775808 ≤ z) (h2 : z ≤ 9223372036854775807) (h3 : (m : Int) ≤ 1000000) :
    Calls Tryz.prog 23 #[.int .i64 z, .int .i64 (m : Int)] w fun e w' => e = .returned (.int .i64 (arnd z m)) ∧ w' = w := by
  go_enter Tryz.func23, Tryz.ntmps23
  go_wp2
  · rename_i hn
    go_ret
    refine ⟨?_, rfl⟩
    unfold arnd
    rw [if_pos hn, ← Int.neg_tmod, Int.tmod_eq_emod_of_nonneg (by omega)]; rfl
  · rename_i hn
    go_ret
    refine ⟨?_, rfl⟩
    unfold arnd
    rw [if_neg (by omega)]; rfl
def pickZ (l : List Int) (i m : Nat) : Int := match l[i]? with | some z => arnd z m | none => 0
theorem pickZ_bd (l : List Int) (i : Nat) {m : Nat} (hm : 0 < m) : 0 ≤ pickZ l i m ∧ pickZ l i m < m := by
  unfold pickZ
  split
  · unfold arnd
    exact ⟨Int.emod_nonneg _ (by omega), Int.emod_lt_of_pos _ (by omega)⟩
  · omega
set_option maxRecDepth 1000000 in
theorem pick_walk {w : World} {x : Value} {l : List Int} (h : SlArg w x l) (i m : Nat) (hi : i ≤ 1000) (hm : 0 < m) (hm2 : (m : Int) ≤ 1000000) :
    Calls Tryz.prog 30 #[x, .int .i64 (i : Int), .int .i64 (m : Int)] w fun e w' => e = .returned (.int .i64 (pickZ l i m)) ∧ Below w.heap.size w w' := by
  obtain ⟨a, c, rfl, h1⟩ := h.val
  have hlen := h.len
  obtain ⟨X, hX⟩ : ∃ X, pickZ l i m = X := ⟨_, rfl⟩
  rw [hX]
  by_cases hil : i < l.length
  · obtain ⟨b, off, rfl, hb, h2⟩ := h1 (by intro e; rw [e] at hil; simp at hil)
    have hc := h2 i l[i] (List.getElem?_eq_getElem hil)
    have hbd := h.bd l[i] (List.getElem_mem hil)
    have hx : X = arnd l[i] m := by rw [← hX, pickZ, List.getElem?_eq_getElem hil]
    subst hx
    clear hX
    obtain ⟨z, hz⟩ : ∃ z, l[i] = z := ⟨_, rfl⟩
    rw [hz] at hc hbd ⊢
    clear hz h1 h2
    have ha := fun w' => around_walk z m w' hm hbd.1 hbd.2 hm2
    go_enter Tryz.func30, Tryz.ntmps30
    go_wp2_with (first
      | (go_at_call 23; refine (ha _).mono ?_; rintro _ w1 ⟨rfl, rfl⟩)
      | go_in)
    go_ret
    exact ⟨rfl, Below.refl _ _⟩
  · have hx : X = 0 := by rw [← hX, pickZ, List.getElem?_eq_none (by omega)]
    subst hx
    clear hX
    go_enter Tryz.func30, Tryz.ntmps30
    go_wp2_with fail
    go_ret
    exact ⟨rfl, Below.refl _ _⟩
/-- Few's table of texts -/
def tbl : List ByteArray := [⟨#[97]⟩, ⟨#[98]⟩, ⟨#[97, 42, 98]⟩, ⟨#[40, 97, 41, 92, 49]⟩, ⟨#[91, 94, 99, 93]⟩, ⟨#[94, 97, 36]⟩, ⟨#[40, 63, 61, 97, 41, 97]⟩, ⟨#[97, 124, 97, 98]⟩]
def tblO : Obj := .cells #[.string ⟨#[97]⟩, .string ⟨#[98]⟩, .string ⟨#[97, 42, 98]⟩, .string ⟨#[40, 97, 41, 92, 49]⟩, .string ⟨#[91, 94, 99, 93]⟩, .string ⟨#[94, 97, 36]⟩, .string ⟨#[40, 63, 61, 97, 41, 97]⟩, .string ⟨#[97, 124, 97, 98]⟩] 9 (0, 0)
theorem tbl_at {w : World} {T q : Nat} (h : w.heap[T]? = some tblO) (hq : q < 8) : w.cell? ⟨T, q, none⟩ = some (.string (ofB (txt8 q))) := by
  have hc : w.cell? ⟨T, q, none⟩ = (#[Value.string ⟨#[97]⟩, .string ⟨#[98]⟩, .string ⟨#[97, 42, 98]⟩, .string ⟨#[40, 97, 41, 92, 49]⟩, .string ⟨#[91, 94, 99, 93]⟩, .string ⟨#[94, 97, 36]⟩, .string ⟨#[40, 63, 61, 97, 41, 97]⟩, .string ⟨#[97, 124, 97, 98]⟩])[q]? := by
    simp [World.cell?, h, tblO]
  match q, hq with
  | 0, _ => exact hc
  | 1, _ => exact hc
  | 2, _ => exact hc
  | 3, _ => exact hc
  | 4, _ => exact hc
  | 5, _ => exact hc
  | 6, _ => exact hc
  | 7, _ => exact hc
  | n + 8, h => exact absurd h (by omega)
/-- the rule that Few makes at place i -/
def FewAt (i : Nat) (r : Ru) : Prop := (∃ k, k < 8 ∧ r.text = txt8 k) ∧ ∃ p, p < 3 ∧ r.name = word8 (3 * i + p)
theorem wrapS {x : Int} (h1 : -9223372036854775808 ≤ x) (h2 : x ≤ 9223372036854775807) : IntKind.i64.wrap x = x := by
  rw [IntKind.wrap_i64]
  omega
theorem infoRef : (Tryz.prog.info? 75).map (fun i => (i.zero, i.size, i.bytes)) = some (some (.agg #[.string ByteArray.empty, .string ByteArray.empty, .bool false]), 3, 40) := by kernel_rfl
/-- what Few gives: the rule at place j, the first ones, all -/
def fewOne (l : List Int) (at' j : Nat) : Ru := ⟨word8 (3 * j + (pickZ l (at' + j + 1) 3).toNat), txt8 (pickZ l (at' + 2 * j + 2) 8).toNat, pickZ l (at' + j + 3) 5 == 0⟩
def fewTo (l : List Int) (at' : Nat) : Nat → List Ru
  | 0 => []
  | j + 1 => fewTo l at' j ++ [fewOne l at' j]
def fewL (l : List Int) (at' : Nat) : List Ru := fewTo l at' (pickZ l at' 4).toNat
set_option maxHeartbeats 4000000 in
set_option maxRecDepth 1000000 in
theorem few_walkD {w : World} {v : Value} {l : List Int} (h : SlArg w v l) (at' : Nat) (hat : at' ≤ 100) :
    Calls Tryz.prog 8 #[v, .int .i64 (at' : Int)] w fun e w' => ∃ (v' : Value) (fs : List Ru), e = .returned v' ∧ w'.ownsRow w.heap.size 75 3 v' fs.length (fs.flatMap Ru.cells) ∧ fs.length ≤ 3 ∧ (∀ i f, fs[i]? = some f → FewAt i f) ∧ Below w.heap.size w w' ∧ fs = fewL l at' := by
  obtain ⟨i0, hi0, hz0, hz1, hz2⟩ := info_parts infoRef
  obtain ⟨va, vc, rfl, _⟩ := h.val
  obtain ⟨b1, b2⟩ := pickZ_bd l at' (m := 4) (by omega)
  obtain ⟨N, hN⟩ : ∃ N : Nat, pickZ l at' 4 = N := Int.eq_ofNat_of_zero_le b1
  have hN3 : N ≤ 3 := by omega
  have hpick0 : ∀ w', Below w.heap.size w w' → Calls Tryz.prog 30 #[.slice va l.length vc, .int .i64 (at' : Int), .int .i64 4] w' fun e w1 => e = .returned (.int .i64 (N : Int)) ∧ Below w'.heap.size w' w1 := fun w' hw' => by
    have := pick_walk (h.below hw') at' 4 (by omega) (by omega) (by omega)
    rw [hN] at this
    simpa using this
  go_enter Tryz.func8, Tryz.ntmps8
  go_wp2
  go_loopw [5, 7] (fun v' i wr => ∃ (j : Nat) (fs : List Ru), Hid (fs = fewTo l at' j) ∧ j ≤ N ∧ fs.length = j ∧ i = .int .i64 j ∧ wr.ownsRow (w.heap.size + 1) 75 3 v' j (fs.flatMap Ru.cells) ∧ wr.heap[w.heap.size]? = some tblO ∧ (∀ i f, fs[i]? = some f → FewAt i f) ∧ Below w.heap.size w wr ∧ w.heap.size + 1 ≤ wr.heap.size) (fun _ i _ => N - (intOf i).toNat)
  case atStart =>
    exact ⟨0, [], Lib.hid rfl, Nat.zero_le _, rfl, rfl, World.ownsRow_nil _ _ _ _, heap_alloc_new _ _, fun i f hi => by simp at hi, (Below.refl _ _).alloc (Nat.le_refl _) _, by simp⟩
  case round =>
    obtain ⟨j, fs, HFE, hj, hfs, rfl, hown, htab, hat0, hbel, hsz⟩ := hrel
    have hcall0 := hpick0 _ hbel
    by_cases hjl : j < N
    · obtain ⟨pa, pb⟩ := pickZ_bd l (at' + j + 1) (m := 3) (by omega)
      obtain ⟨p, hp⟩ : ∃ p : Nat, pickZ l (at' + j + 1) 3 = p := Int.eq_ofNat_of_zero_le pa
      obtain ⟨qa, qb⟩ := pickZ_bd l (at' + 2 * j + 2) (m := 8) (by omega)
      obtain ⟨q, hq⟩ : ∃ q : Nat, pickZ l (at' + 2 * j + 2) 8 = q := Int.eq_ofNat_of_zero_le qa
      obtain ⟨ra, rb⟩ := pickZ_bd l (at' + j + 3) (m := 5) (by omega)
      obtain ⟨r, hr⟩ : ∃ r : Nat, pickZ l (at' + j + 3) 5 = r := Int.eq_ofNat_of_zero_le ra
      have hp3 : p < 3 := by omega
      have hq8 : q < 8 := by omega
      have hltr := World.ownsRow.lt hown
      have eA : ((at' + j + 1 : Nat) : Int) = IntKind.i64.wrap (IntKind.i64.wrap ((at' : Int) + (j : Int)) + 1) := by rw [wrapS (x := (at' : Int) + (j : Int)) (by omega) (by omega), wrapS (by omega) (by omega)]; omega
      have eB : ((at' + 2 * j + 2 : Nat) : Int) = IntKind.i64.wrap (IntKind.i64.wrap ((at' : Int) + IntKind.i64.wrap (2 * (j : Int))) + 2) := by rw [wrapS (x := 2 * (j : Int)) (by omega) (by omega), wrapS (x := (at' : Int) + 2 * (j : Int)) (by omega) (by omega), wrapS (by omega) (by omega)]; omega
      have eC : ((at' + j + 3 : Nat) : Int) = IntKind.i64.wrap (IntKind.i64.wrap ((at' : Int) + (j : Int)) + 3) := by rw [wrapS (x := (at' : Int) + (j : Int)) (by omega) (by omega), wrapS (by omega) (by omega)]; omega
      have eD : ((3 * j + p : Nat) : Int) = IntKind.i64.wrap (IntKind.i64.wrap (3 * (j : Int)) + (p : Int)) := by rw [wrapS (x := 3 * (j : Int)) (by omega) (by omega), wrapS (by omega) (by omega)]; omega
      have hpA : ∀ w', Below wr.heap.size wr w' → Calls Tryz.prog 30 #[.slice va l.length vc, .int .i64 (IntKind.i64.wrap (IntKind.i64.wrap ((at' : Int) + (j : Int)) + 1)), .int .i64 3] w' fun e w2 => e = .returned (.int .i64 (p : Int)) ∧ Below wr.heap.size wr w2 := fun w' hw' => by
        have := pick_walk (h.below (hbel.trans (hw'.mono (by omega)))) (at' + j + 1) 3 (by omega) (by omega) (by omega)
        rw [hp, eA] at this
        refine Calls.mono this ?_
        rintro e w2 ⟨rfl, hb⟩
        exact ⟨rfl, hw'.trans (hb.mono hw'.size)⟩
      have hpB : ∀ w', Below wr.heap.size wr w' → Calls Tryz.prog 30 #[.slice va l.length vc, .int .i64 (IntKind.i64.wrap (IntKind.i64.wrap ((at' : Int) + IntKind.i64.wrap (2 * (j : Int))) + 2)), .int .i64 8] w' fun e w2 => e = .returned (.int .i64 (q : Int)) ∧ Below wr.heap.size wr w2 := fun w' hw' => by
        have := pick_walk (h.below (hbel.trans (hw'.mono (by omega)))) (at' + 2 * j + 2) 8 (by omega) (by omega) (by omega)
        rw [hq, eB] at this
        refine Calls.mono this ?_
        rintro e w2 ⟨rfl, hb⟩
        exact ⟨rfl, hw'.trans (hb.mono hw'.size)⟩
      have hpC : ∀ w', Below wr.heap.size wr w' → Calls Tryz.prog 30 #[.slice va l.length vc, .int .i64 (IntKind.i64.wrap (IntKind.i64.wrap ((at' : Int) + (j : Int)) + 3)), .int .i64 5] w' fun e w2 => e = .returned (.int .i64 (r : Int)) ∧ Below wr.heap.size wr w2 := fun w' hw' => by
        have := pick_walk (h.below (hbel.trans (hw'.mono (by omega)))) (at' + j + 3) 5 (by omega) (by omega) (by omega)
        rw [hr, eC] at this
        refine Calls.mono this ?_
        rintro e w2 ⟨rfl, hb⟩
        exact ⟨rfl, hw'.trans (hb.mono hw'.size)⟩
      have hpD : ∀ w', Below wr.heap.size wr w' → Calls Tryz.prog 31 #[.int .i64 (IntKind.i64.wrap (IntKind.i64.wrap (3 * (j : Int)) + (p : Int)))] w' fun e w2 => ∃ s, e = .returned (.string s) ∧ Bytes s [48 + (3 * j + p)] ∧ Below wr.heap.size wr w2 := fun w' hw' => by
        have := dec_walk (j := 3 * j + p) (by omega) w'
        rw [eD] at this
        refine Calls.mono this ?_
        rintro e w2 ⟨s, rfl, hs, hb⟩
        exact ⟨s, rfl, hs, hw'.trans (hb.mono hw'.size)⟩
      have htx := tbl_at htab hq8
      obtain ⟨tx, htxe⟩ : ∃ tx, ofB (txt8 q) = tx := ⟨_, rfl⟩
      rw [htxe] at htx
      have HTX := Lib.hid htxe
      have hcT : ∀ w', Below wr.heap.size wr w' → w'.cell? ⟨w.heap.size, q, none⟩ = some (.string tx) := fun w' hw' => (hw'.cell (p := ⟨w.heap.size, q, none⟩) (by show w.heap.size < wr.heap.size; omega)).trans htx
      have hW1 : ∀ w1, Below wr.heap.size wr w1 → Below wr.heap.size wr w1.drew := fun w1 hb => hb.drew
      have hbase5 : ∀ w5, Below wr.heap.size wr w5 → ∀ o, w.heap.size + 1 ≤ (World.alloc w5 o).heap.size := fun w5 h5 o => by have := h5.size; simp; omega
      have hn1 : j + 1 ≤ maxLen := by unfold maxLen; omega
      have hn2 : (j + 1) * 40 ≤ 140737488355328 := by omega
      have hq1 : (0 : Int) ≤ (q : Int) := Int.natCast_nonneg _
      have hq2 : (q : Int) < 8 := by omega
      have aT := fun e => Nat.not_le_of_lt (Nat.lt_succ_self w.heap.size) (hltr w.heap.size e).1
      have HP : Hid (pickZ l (at' + j + 1) 3 = p ∧ pickZ l (at' + 2 * j + 2) 8 = q ∧ pickZ l (at' + j + 3) 5 = r) := ⟨hp, hq, hr⟩
      clear htxe
      clear eA eB eC eD hp hq hr pa pb qa qb ra rb htx hN b1 b2 hpick0
      go_wp2_with (first
        | (go_at_call 30; refine hcall0.mono ?_; rintro _ w1 ⟨rfl, hb1⟩; have hcw := hcT w1 hb1; have hbd := hb1.drew)
        | go_in)
      go_region_held3 (fun w' => w'.cell? ⟨w.heap.size, q, none⟩ = some (.string tx))
        (first
          | go_keep
          | assumption
          | exact hcT _ (by assumption)
          | exact hcT _ (Below.alloc (by assumption) (Below.size (by assumption)) _)
          | exact (hgrow.cell_far ⟨w.heap.size, q, none⟩ (hbase5 _ hb5 _) (fun e => aT e.symm)).trans (by assumption))
        (first
          | (refine step_append_lies _ (by rfl) _ _ _ (by rfl) (w.heap.size + 1) 75 i0 _ 3 40 Tryz.underlying33 hi0 hz0 hz1 hz2 rfl (by omega) _ j (fs.flatMap Ru.cells) (by rfl) ((owns_bel hown hb5).alloc _)
              ⟨w5.heap.size, 0, none⟩ 1 1 _ (by rfl) (by rfl) (World.news_of_block (heap_alloc_new w5 _)) (by simp [Value.oneCell'])
              (by omega) hn1 hn2 (hbase5 _ hb5 _) (w5.heap.size + 1) (by simp) ?_; intro gg cap w6 hown1 hgrow hat hlt)
          | (go_at_call 30; refine (hpA _ (by assumption)).mono ?_; clear hpA; rintro _ w2 ⟨rfl, hb2⟩)
          | (go_at_call 31; refine (hpD _ (by assumption)).mono ?_; clear hpD; rintro _ w3 ⟨nm, rfl, hnm, hb3⟩; have hns : nm.size = 1 := bytes_size hnm)
          | (go_at_call 30; refine (hpB _ (by assumption)).mono ?_; clear hpB; rintro _ w4 ⟨rfl, hb4⟩)
          | (go_at_call 30; refine (hpC _ (by assumption)).mono ?_; clear hpC; rintro _ w5 ⟨rfl, hb5⟩))
      have hb6 : Below w.heap.size w w6 := ((hbel.trans (hb5.mono (by omega))).alloc (by have := hb5.size; omega) _).grown hgrow (by have := hb5.size; simp; omega) fun x hx => by have := (hltr x hx).1; omega
      have hs6 := hgrow.size
      have hs5 := hb5.size
      simp at hs6
      have htab6 : w6.heap[w.heap.size]? = some tblO := (hgrow.block _ (by simp; omega) (fun e => aT e.symm)).trans ((Below.heap_alloc _ _ _ (by omega)).trans ((hb5.block _ (by omega)).trans htab))
      have hname : (⟨#[110]⟩ ++ nm : ByteArray) = ofB (word8 (3 * j + p)) := by
        refine bytes_inj (l := wordN (3 * j + p)) ?_ (word8_bytes (by omega))
        have h0 : Bytes nm [48 + (3 * j + p)] := hnm
        unfold Bytes at h0 ⊢
        unfold wordN
        rw [if_pos (by omega)]
        simp [ByteArray.data_append, h0]
      rw [hname, ← HTX.out] at hown1
      have hnew : FewAt j ⟨word8 (3 * j + p), txt8 q, ((r : Int) == 0)⟩ := ⟨⟨q, hq8, rfl⟩, p, hp3, rfl⟩
      clear hgrow hat hcT hcall0 hnm hlt
      go_wp2
      go_roundw
      case rel =>
        refine ⟨j + 1, fs ++ [⟨word8 (3 * j + p), txt8 q, ((r : Int) == 0)⟩], Lib.hid (by unfold fewTo fewOne; rw [HFE.out, HP.out.1, HP.out.2.1, HP.out.2.2]; rfl), hjl, by simp [hfs], by go_num, ?_, htab6, fun i f hi => ?_, hb6, by omega⟩
        · rw [List.flatMap_append]
          simpa [Ru.cells] using hown1
        · rcases Nat.lt_or_ge i fs.length with hil | hil
          · rw [List.getElem?_append_left hil] at hi
            exact hat0 i f hi
          · rw [List.getElem?_append_right hil] at hi
            have h0 : i - fs.length = 0 := by
              rcases Nat.eq_zero_or_pos (i - fs.length) with h | h
              · exact h
              · rw [List.getElem?_eq_none (by simp; omega)] at hi; cases hi
            rw [h0] at hi
            have hij : i = j := by omega
            subst hij
            simp at hi
            subst hi
            exact hnew
      case measure => simp [intOf]; omega
    · have hje : j = N := by omega
      subst hje
      go_wp2_with (first
        | (go_at_call 30; refine hcall0.mono ?_; rintro _ w1 ⟨rfl, hb1⟩)
        | go_in)
      go_ret
      exact ⟨_, fs, rfl, by rw [hfs]; exact row_base (owns_bel hown hb1) (by omega), by omega, hat0, hbel.trans (hb1.mono (by omega)), by unfold fewL; rw [hN]; exact HFE.out⟩
theorem few_walk {w : World} {v : Value} {l : List Int} (h : SlArg w v l) (at' : Nat) (hat : at' ≤ 100) :
    Calls Tryz.prog 8 #[v, .int .i64 (at' : Int)] w fun e w' => ∃ (v' : Value) (fs : List Ru), e = .returned v' ∧ w'.ownsRow w.heap.size 75 3 v' fs.length (fs.flatMap Ru.cells) ∧ fs.length ≤ 3 ∧ (∀ i f, fs[i]? = some f → FewAt i f) ∧ Below w.heap.size w w' := by
  refine (few_walkD h at' hat).mono ?_
  rintro e w' ⟨v', fs, he, h1, h2, h3, h4, _⟩
  exact ⟨v', fs, he, h1, h2, h3, h4⟩
theorem good_of {rs : List Ru} (hl : rs.length ≤ 3) (h : ∀ i r, rs[i]? = some r → FewAt i r) : Good rs := by
  refine ⟨by omega, ?_, fun r hr => ?_⟩
  · rw [List.nodup_iff_pairwise_ne, List.pairwise_iff_getElem]
    intro i j hi hj hij e
    simp only [List.length_map] at hi hj
    simp only [List.getElem_map] at e
    obtain ⟨_, p, hp, h1⟩ := h i rs[i] (List.getElem?_eq_getElem hi)
    obtain ⟨_, q, hq, h2⟩ := h j rs[j] (List.getElem?_eq_getElem hj)
    rw [h1, h2] at e
    have hw := fun (k : Nat) (hk : k < 9) => word8_bytes (j := k) (by omega)
    have h3 := hw (3 * i + p) (by omega)
    rw [e] at h3
    have h4 := hw (3 * j + q) (by omega)
    unfold Bytes wordN at h3 h4
    rw [h4, if_pos (by omega), if_pos (by omega)] at h3
    simp at h3
    omega
  · obtain ⟨i, hi⟩ := List.mem_iff_getElem?.1 hr
    have hil := (List.getElem?_eq_some_iff.1 hi).1
    obtain ⟨⟨k, hk, ht⟩, p, hp, hn⟩ := h i r hi
    exact ⟨⟨k, by omega, ht⟩, 3 * i + p, by omega, hn⟩
end Go.Proofs.YtkndgmjlphppdaaGreatDoor
namespace Go.Proofs.YtkndgmjlphppdaaGreatDoor
open Go Go.RowKit Go.Smap

set_option maxHeartbeats 4000000 in
set_option maxRecDepth 1000000 in
theorem own_walk {w : World} {base : Nat} {v : Value} {rs : List Ru} (hown0 : w.ownsRow base 75 3 v rs.length (rs.flatMap Ru.cells)) (hlen : rs.length ≤ 1000) :
    Calls Tryz.prog 10 #[v] w fun e w' => ∃ v', e = .returned v' ∧ w'.ownsRow w.heap.size 86 3 v' rs.length (rs.flatMap Ru.cells) ∧ Below w.heap.size w w' := by
  obtain ⟨i0, hi0, hz0, hz1, hz2⟩ := info_parts infoRule
  obtain ⟨va, vc, rfl, hva⟩ := owns_shape hown0
  have hlt0 := World.ownsRow.lt hown0
  go_enter Tryz.func10, Tryz.ntmps10
  go_wp2
  go_loopw [3, 4] (fun v i wr => ∃ k : Nat, k ≤ rs.length ∧ i = .int .i64 k ∧ wr.ownsRow w.heap.size 86 3 v k ((rs.take k).flatMap Ru.cells) ∧ Below w.heap.size w wr) (fun _ i _ => rs.length - (intOf i).toNat)
  case atStart => exact ⟨0, Nat.zero_le _, rfl, World.ownsRow_nil _ _ _ _, Below.refl _ _⟩
  case round =>
    obtain ⟨k, hk, rfl, hown, hbel⟩ := hrel
    by_cases hkl : k < rs.length
    · obtain ⟨g, rfl⟩ := hva (by omega)
      obtain ⟨c0, c1, c2⟩ := rl_cells hown0 hkl
      have hg := (hlt0 g rfl).2
      have c0' := (hbel.cell (p := ⟨g, k * 3, none⟩) hg).trans c0
      have c1' := (hbel.cell (p := ⟨g, k * 3 + 1, none⟩) hg).trans c1
      have c2' := (hbel.cell (p := ⟨g, k * 3 + 2, none⟩) hg).trans c2
      have hsz := hbel.size
      have hltr := World.ownsRow.lt hown
      have hn1 : k + 1 ≤ maxLen := by unfold maxLen; omega
      have hn2 : (k + 1) * 40 ≤ 140737488355328 := by omega
      have hi1 : (0 : Int) ≤ (k : Int) := Int.natCast_nonneg _
      have hi2 : (k : Int) < (rs.length : Int) := by omega
      have ag := fun e => Nat.not_le_of_lt hg (hltr g e).1
      have htk : Hid ((rs.take (k + 1)).flatMap Ru.cells = (rs.take k).flatMap Ru.cells ++ [.string (ofB rs[k].name), .string (ofB rs[k].text), .bool rs[k].runes]) := by
        show _ = _
        rw [List.take_succ_eq_append_getElem hkl, List.flatMap_append]
        simp [Ru.cells]
      obtain ⟨nm, hnm⟩ : ∃ s, ofB rs[k].name = s := ⟨_, rfl⟩
      obtain ⟨tx, htx⟩ : ∃ s, ofB rs[k].text = s := ⟨_, rfl⟩
      obtain ⟨ru, hru⟩ : ∃ s, rs[k].runes = s := ⟨_, rfl⟩
      rw [hnm] at c0 c0' htk
      rw [htx] at c1 c1' htk
      rw [hru] at c2 c2' htk
      clear hnm htx hru c0 c1 c2
      go_wp2_with fail
      go_region_held3 (fun w' => w'.cell? ⟨g, k * 3, none⟩ = some (.string nm) ∧ w'.cell? ⟨g, k * 3 + 1, none⟩ = some (.string tx) ∧ w'.cell? ⟨g, k * 3 + 2, none⟩ = some (.bool ru))
        (first
          | go_keep
          | (go_split_ands
             refine ⟨?_, ?_, ?_⟩
             · (rw [hgrow.cell_far _ (by simp; omega) (fun e => ag e.symm)]; assumption)
             · (rw [hgrow.cell_far _ (by simp; omega) (fun e => ag e.symm)]; assumption)
             · (rw [hgrow.cell_far _ (by simp; omega) (fun e => ag e.symm)]; assumption)))
        ((refine step_append_lies _ (by rfl) _ _ _ (by rfl) w.heap.size 86 i0 _ 3 40 Tryz.underlying37 hi0 hz0 hz1 hz2 rfl (by omega) _ k ((rs.take k).flatMap Ru.cells) (by rfl) ((hown.alloc _).drew)
            ⟨wr.heap.size, 0, none⟩ 1 1 [.string nm, .string tx, .bool ru] (by rfl) (by rfl) (World.news_of_block (cs := #[.string nm, .string tx, .bool ru]) (t := 86) (fr := (0, 0)) (heap_alloc_new wr _)) (by simp [Value.oneCell'])
            (by omega) hn1 hn2 (by simp; omega) (wr.heap.size + 1) (by simp) ?_; intro gg cap w1 hown1 hgrow hat hlt))
      go_wp2
      go_roundw
      case rel =>
        refine ⟨k + 1, hkl, by go_num, by rw [htk.out]; exact hown1, ((hbel.alloc hsz _).drew).grown hgrow (by simp; omega) fun x hx => (hltr x hx).1⟩
      case measure => simp [intOf]; omega
    · have hke : k = rs.length := by omega
      subst hke
      rw [List.take_length] at hown
      go_wp2_with fail
      go_ret
      exact ⟨_, rfl, hown, hbel⟩
set_option maxHeartbeats 4000000 in
set_option maxRecDepth 1000000 in
theorem same_walk {w : World} {b1 b2 : Nat} {v1 v2 : Value} {rs : List Ru} (h1 : w.ownsRow b1 86 3 v1 rs.length (rs.flatMap Ru.cells)) (h2 : w.ownsRow b2 75 3 v2 rs.length (rs.flatMap Ru.cells)) (hlen : rs.length ≤ 1000) :
    Calls Tryz.prog 15 #[v1, v2] w fun e w' => e = .returned (.bool true) ∧ Below w.heap.size w w' := by
  obtain ⟨va, vc, rfl, hva⟩ := owns_shape h1
  obtain ⟨ua, uc, rfl, hua⟩ := owns_shape h2
  have hlt1 := World.ownsRow.lt h1
  have hlt2 := World.ownsRow.lt h2
  go_enter Tryz.func15, Tryz.ntmps15
  go_wp2
  go_loopw [5] (fun i wr => ∃ j : Nat, j ≤ rs.length ∧ i = .int .i64 j ∧ Below w.heap.size w wr) (fun i _ => rs.length - (intOf i).toNat)
  case atStart => exact ⟨0, Nat.zero_le _, rfl, Below.refl _ _⟩
  case round =>
    obtain ⟨j, hj, rfl, hbel⟩ := hrel
    by_cases hjl : j < rs.length
    · obtain ⟨g, rfl⟩ := hva (by omega)
      obtain ⟨g', rfl⟩ := hua (by omega)
      obtain ⟨c0, c1, c2⟩ := rl_cells h1 hjl
      obtain ⟨d0, d1, d2⟩ := rl_cells h2 hjl
      have hg := (hlt1 g rfl).2
      have hg' := (hlt2 g' rfl).2
      have c0' := (hbel.cell (p := ⟨g, j * 3, none⟩) hg).trans c0
      have c1' := (hbel.cell (p := ⟨g, j * 3 + 1, none⟩) hg).trans c1
      have c2' := (hbel.cell (p := ⟨g, j * 3 + 2, none⟩) hg).trans c2
      have d0' := (hbel.cell (p := ⟨g', j * 3, none⟩) hg').trans d0
      have d1' := (hbel.cell (p := ⟨g', j * 3 + 1, none⟩) hg').trans d1
      have d2' := (hbel.cell (p := ⟨g', j * 3 + 2, none⟩) hg').trans d2
      obtain ⟨nm, hnm⟩ : ∃ s, ofB rs[j].name = s := ⟨_, rfl⟩
      obtain ⟨tx, htx⟩ : ∃ s, ofB rs[j].text = s := ⟨_, rfl⟩
      obtain ⟨ru, hru⟩ : ∃ s, rs[j].runes = s := ⟨_, rfl⟩
      rw [hnm] at c0' d0'
      rw [htx] at c1' d1'
      rw [hru] at c2' d2'
      have hj1 : (0 : Int) ≤ (j : Int) := Int.natCast_nonneg _
      have hj2 : (j : Int) < (rs.length : Int) := by omega
      clear hnm htx hru c0 c1 c2 d0 d1 d2
      go_wp2_with fail
      go_region_held3 (fun w' => w'.cell? ⟨g, j * 3, none⟩ = some (.string nm) ∧ w'.cell? ⟨g, j * 3 + 1, none⟩ = some (.string tx) ∧ w'.cell? ⟨g, j * 3 + 2, none⟩ = some (.bool ru) ∧ w'.cell? ⟨g', j * 3, none⟩ = some (.string nm) ∧ w'.cell? ⟨g', j * 3 + 1, none⟩ = some (.string tx) ∧ w'.cell? ⟨g', j * 3 + 2, none⟩ = some (.bool ru))
        (first
          | go_keep)
        (first
          | fail)
      go_wp2
      go_roundw
      case rel => exact ⟨j + 1, hjl, by go_num, hbel.drew⟩
      case measure => simp [intOf]; omega
    · have hje : j = rs.length := by omega
      subst hje
      go_wp2_with fail
      go_ret
      exact ⟨rfl, hbel⟩
end Go.Proofs.YtkndgmjlphppdaaGreatDoor
namespace Go.Proofs.YtkndgmjlphppdaaGreatDoor
open Go Go.RowKit Go.Imap

/-- rules of the reference, list by list -/
structure AllAt (w : World) (B : Nat) (v : Value) (its : List (Value × List Ru)) : Prop where
  row : w.ownsRow B 33 1 v its.length (its.map Prod.fst)
  each : ∀ x ∈ its, w.ownsRow B 75 3 x.1 x.2.length (x.2.flatMap Ru.cells)
/-- the blocks of F are cells of the types ts -/
def NT (w : World) (F : Nat → Prop) (ts : List TypeId) : Prop := ∀ g, F g → ∃ (t : TypeId) (cs : Array Value) (fr : Nat × Nat), w.heap[g]? = some (.cells cs t fr) ∧ t ∈ ts
section
variable {w w' w1 : World} {B db mb : Nat} {rv : Nat → Value} {d : Dk} {room U : Nat} {F : Nat → Prop} {ts us : List TypeId} {a a' x u : Value} {its : List (Value × List Ru)}
theorem NT.apartly (h : NT w F ts) (hd : ∀ t ∈ ts, t ∉ us) : Apartly w F us := fun g hg t cs fr hc ht => by
  obtain ⟨t', cs', fr', hc', ht'⟩ := h g hg
  have e := hc.symm.trans hc'
  cases e
  exact hd _ ht' ht
theorem NT.df (h : NT w F ts) (hd : DkAt w B db mb rv d) (h1 : 62 ∉ ts) (h2 : 5 ∉ ts) : ∀ g, DF db mb rv d g → ¬ F g := fun g hg hf => by
  obtain ⟨t, cs, fr, hc, ht⟩ := h g hf
  rcases hg with rfl | rfl | ⟨i, hi, e⟩
  · have e := hc.symm.trans hd.blk
    cases e
    exact h1 ht
  · obtain ⟨ms, cl, hm, _⟩ := hd.map
    have e := hc.symm.trans hm
    cases e
  · obtain ⟨f, hf⟩ := Option.isSome_iff_exists.1 hi
    have hr := hd.row i f hf
    rcases hr.2 with ⟨e0, _⟩ | ⟨g', cap, cur, e0, _, h3, _⟩
    · rw [e0] at e; cases e
    · rw [e0] at e
      cases e
      have e := hc.symm.trans h3
      cases e
      exact h2 ht
theorem Env.nt (h : Env w B db mb rv d room U) (hc : Chg F w w') (hn : NT w F ts) (h1 : 62 ∉ ts) (h2 : 5 ∉ ts) : Env w' B db mb rv d room U :=
  ⟨h.dk.chg hc (hn.df h.dk h1 h2), Nat.le_trans h.hB hc.size, h.lo, h.off, h.armed, h.room, h.used, h.lens⟩
theorem Sto.nt {sb lg k : Nat} {vv : Value} {l : List Rec} (h : Sto w B db d sb lg k vv its l) (hc : Chg F w w') (hn : NT w F ts) (hd : ∀ t ∈ ts, t ∉ [69, 103, 37, 86]) : Sto w' B db d sb lg k vv its l :=
  ⟨h.st.chg hc (hn.apartly hd), h.its, h.ok, h.bytes, h.k64⟩
theorem AllAt.chg (h : AllAt w B a its) (hc : Chg F w w') (ha : Apartly w F [33, 75]) : AllAt w' B a its :=
  ⟨row_chg h.row hc (ha.row h.row (by simp)), fun x hx => row_chg (h.each x hx) hc (ha.row (h.each x hx) (by simp))⟩
theorem AllAt.ft (h : AllAt w B a its) (hc : Chg F w w') (hf : FT w F) : AllAt w' B a its := h.chg hc (hf.apartly (by decide) (by decide) (by decide) (by decide) (by decide))
theorem AllAt.bel (h : AllAt w B a its) (hb : Below w.heap.size w w') : AllAt w' B a its := h.chg (F := fun _ => False) (Chg.of_below hb) fun _ hf => hf.elim
theorem Blk.ft {g : Nat} {t : TypeId} {cs : Array Value} (h : Blk w g t cs) (hc : Chg F w w') (hf : FT w F) (h1 : 62 ≠ t) (h2 : 5 ≠ t) (h3 : 103 ≠ t) (h4 : 69 ≠ t) (h5 : 37 ≠ t) : Blk w' g t cs :=
  h.chg hc ((hf.apartly (ts := [t]) (by simpa using h1) (by simpa using h2) (by simpa using h3) (by simpa using h4) (by simpa using h5)).blk h (by simp))
/-- a list more: the row grown, and stored into the block of rows -/
theorem AllAt.push (h : AllAt w B a its) {rs : List Ru} (hrow : w1.ownsRow B 33 1 a' (its.length + 1) (its.map Prod.fst ++ [x])) (hg : w.grownBy w1 a.ownBlock) (hu : w.ownsRow B 75 3 x rs.length (rs.flatMap Ru.cells))
    {gA : Nat} {cs : Array Value} (hb : Blk w gA 39 cs) (i : Nat) (y : Value) : AllAt (w1.setCell ⟨gA, i, none⟩ y) B a' (its ++ [(x, rs)]) := by
  have hc : Chg (fun g => a.ownBlock = some g) w w1 := ⟨hg.os, hg.tape, hg.output, hg.size, fun k hk hf => hg.block k hk fun e => hf e.symm⟩
  have hb1 : Blk w1 gA 39 cs := hb.chg hc (fun e => row_blk h.row hb (by decide) e)
  have hkeep : ∀ {v : Value} {m : Nat} {xs : List Value}, w.ownsRow B 75 3 v m xs → (w1.setCell ⟨gA, i, none⟩ y).ownsRow B 75 3 v m xs := fun hr => by
    have hr1 : w1.ownsRow B 75 3 _ _ _ := row_chg hr hc fun g hgo e => by
      rcases hr.2 with ⟨rfl, _⟩ | ⟨g', cap, cur, rfl, _, h3, _⟩
      · cases hgo
      · cases hgo
        rcases h.row.2 with ⟨e0, _⟩ | ⟨g2, cap2, cur2, e0, _, h4, _⟩
        · rw [e0] at e; cases e
        · rw [e0] at e
          cases e
          have e := h3.symm.trans h4
          exact absurd (by injection e with e; injection e : (75 : TypeId) = 33) (by decide)
    exact row_set hr1 (p := ⟨gA, i, none⟩) (row_blk hr1 hb1 (by decide)) _
  refine ⟨?_, fun z hz => ?_⟩
  · rw [List.length_append, List.length_singleton, List.map_append]
    exact row_set hrow (p := ⟨gA, i, none⟩) (row_blk hrow hb1 (by decide)) _
  · rcases List.mem_append.1 hz with hz | hz
    · exact hkeep (h.each z hz)
    · simp only [List.mem_singleton] at hz
      subst hz
      exact hkeep hu
/-- the other one is as it was -/
theorem AllAt.other (h : AllAt w B a its) {b : Value} {its2 : List (Value × List Ru)} (h2 : AllAt w B b its2) (hab : ∀ g, a.ownBlock = some g → b.ownBlock ≠ some g) (hg : w.grownBy w1 a.ownBlock) {gA : Nat} {cs : Array Value} (hb : Blk w gA 39 cs) (i : Nat) (y : Value) :
    AllAt (w1.setCell ⟨gA, i, none⟩ y) B b its2 := by
  have hc : Chg (fun g => a.ownBlock = some g) w w1 := ⟨hg.os, hg.tape, hg.output, hg.size, fun k hk hf => hg.block k hk fun e => hf e.symm⟩
  have hb1 : Blk w1 gA 39 cs := hb.chg hc (fun e => row_blk h.row hb (by decide) e)
  refine ⟨row_set (p := ⟨gA, i, none⟩) (row_chg h2.row hc fun g hgo e => hab g e hgo) (row_blk (row_chg h2.row hc fun g hgo e => hab g e hgo) hb1 (by decide)) _, fun z hz => ?_⟩
  have hr := h2.each z hz
  have hr1 : w1.ownsRow B 75 3 z.1 z.2.length (z.2.flatMap Ru.cells) := row_chg hr hc fun g hgo e => by
    rcases hr.2 with ⟨e1, _⟩ | ⟨g', cap, cur, e1, _, h3, _⟩
    · rw [e1] at hgo; cases hgo
    · rw [e1] at hgo
      cases hgo
      rcases h.row.2 with ⟨e0, _⟩ | ⟨g2, cap2, cur2, e0, _, h4, _⟩
      · rw [e0] at e; cases e
      · rw [e0] at e
        cases e
        have e := h3.symm.trans h4
        exact absurd (by injection e with e; injection e : (75 : TypeId) = 33) (by decide)
  exact row_set hr1 (p := ⟨gA, i, none⟩) (row_blk hr1 hb1 (by decide)) _
theorem nt_all (h : AllAt w B a its) {gA : Nat} {cs : Array Value} (hb : Blk w gA 39 cs) : NT w (fun g => g = gA ∨ a.ownBlock = some g) [33, 39] := fun g hg => by
  rcases hg with rfl | hg
  · exact ⟨_, _, _, hb, by simp⟩
  · rcases h.row.2 with ⟨e0, _⟩ | ⟨g2, cap2, cur2, e0, _, h4, _⟩
    · rw [e0] at hg; cases hg
    · rw [e0] at hg
      cases hg
      exact ⟨_, _, _, h4, by simp⟩
theorem chg_all {gA : Nat} (hg : w.grownBy w1 a.ownBlock) (i : Nat) (y : Value) : Chg (fun g => g = gA ∨ a.ownBlock = some g) w (w1.setCell ⟨gA, i, none⟩ y) := by
  have hc : Chg (fun g => g = gA ∨ a.ownBlock = some g) w w1 := ⟨hg.os, hg.tape, hg.output, hg.size, fun k hk hf => hg.block k hk fun e => hf (.inr e.symm)⟩
  exact hc.setCell (p := ⟨gA, i, none⟩) (.inr (.inl rfl)) _
end
/-- an argument that is a slice of truth values -/
structure BArg (w : World) (x : Value) (l : List Bool) : Prop where
  val : ∃ a c, x = .slice a l.length c ∧ (l ≠ [] → ∃ b off, a = some ⟨b, off, none⟩ ∧ b < w.heap.size ∧ ∀ (i : Nat) (z : Bool), l[i]? = some z → w.cell? ⟨b, off + i, none⟩ = some (.bool z))
  len : l.length ≤ 9223372036854775807
theorem BArg.below {w w' : World} {x : Value} {l : List Bool} (h : BArg w x l) (hb : Below w.heap.size w w') : BArg w' x l := by
  obtain ⟨a, c, hx, h1⟩ := h.val
  refine ⟨⟨a, c, hx, fun hl => ?_⟩, h.len⟩
  obtain ⟨b, off, ha, hb1, h2⟩ := h1 hl
  exact ⟨b, off, ha, Nat.lt_of_lt_of_le hb1 hb.size, fun i z hz => (hb.cell (p := ⟨b, off + i, none⟩) hb1).trans (h2 i z hz)⟩
end Go.Proofs.YtkndgmjlphppdaaGreatDoor
