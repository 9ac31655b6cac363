/-
  sides, walked: two lists of rules over bytes.
  sides, walked, where a rule is erased.
  What the runs of the plan with a machine give at one position of a text.
  First at the plan with a machine.
  Evaluations where some calls are taken as done: a call that only reads; a symbol that is not in a set.
  First at the plan of the oracle, evaluated: by which symbols of the text are 97.
  First at the plan of the oracle: its contract at a text of one to five symbols.
  A rule that two sets have in addition changes nothing of whether they differ. (Plain.)
-/
import Derived.Test.YtopicmcaoeameaaGreatDoorApartG1a
import Derived.Deep.RegionLaw
import Derived.Test.YtopicmcaoeameaaGreatDoorApartG1b
import Derived.Test.YtopicmcaoeameaaGreatDoorApartG0b
import Derived.Test.YtopicmcaoeameaaGreatDoorApartG0a
namespace Go.Proofs.YtopicmcaoeameaaGreatDoor
open Go Go.Ev Go.RowKit Go.Smap

theorem arnd_in (z : Int) (q : Nat) (hq : 0 < q) : 0 ≤ arnd z q ∧ arnd z q < q := by
  unfold arnd
  exact ⟨Int.emod_nonneg _ (by omega), Int.emod_lt_of_pos _ (by omega)⟩
/-- a rule's name, as sides gives it -/
def NameZ (s : ByteArray) : Prop := (∃ j, j < 9 ∧ Bytes s [110, 48 + j]) ∨ Bytes s [122]
/-- two lists of rules, as sides gives them -/
structure Pair (ra rb : List Rl) : Prop where
  ga : Good ra
  gb : Good rb
  la : ra.length ≤ 3
  lb : rb.length ≤ 4
  na : ∀ r ∈ ra, NameZ r.name
  nb : ∀ r ∈ rb, NameZ r.name
/-- what sides leaves -/
def sidesPost (w w' : World) (e : Ending) : Prop := ∃ (v1 v2 : Value) (ra rb : List Rl), e = .returned (.tuple #[v1, v2]) ∧ w'.ownsRow w.heap.size 27 3 v1 ra.length (ra.flatMap Rl.cells) ∧ w'.ownsRow w.heap.size 27 3 v2 rb.length (rb.flatMap Rl.cells) ∧ Pair ra rb ∧ Below w.heap.size w w'
/-- the elements that append takes: nil, or cells -/
theorem append_src {w1 : World} {base : Nat} {v : Value} {rs : List Rl} (h : w1.ownsRow base 27 3 v rs.length (rs.flatMap Rl.cells)) (o : Obj) : (v = .slice none 0 0 ∧ rs.length = 0) ∨ ∃ ad c, v = .slice (some ad) rs.length c ∧ ∀ j y, (rs.flatMap Rl.cells)[j]? = some y → (w1.alloc o).cell? (ad.add j) = some y := by
  rcases h.2 with ⟨e, h0⟩ | ⟨g, cap, cur, e, hge, hg, _⟩
  · exact .inl ⟨e, h0⟩
  · refine .inr ⟨⟨g, 0, none⟩, cap, e, fun j y hy => ?_⟩
    have := h.cells (g := g) (by rw [e]; rfl) j y hy
    rw [← this]
    exact World.cell?_of_block (Below.heap_alloc _ _ _ (by rw [show (Addr.add ⟨g, 0, none⟩ j).block = g by unfold Addr.add; split <;> rfl]; exact (Array.getElem?_eq_some_iff.1 hg).1))
theorem nameZ_of {rs : List Rl} (h : ∀ r ∈ rs, ∃ j, j < 9 ∧ Bytes r.name [110, 48 + j]) : ∀ r ∈ rs, NameZ r.name := fun r hr => .inl (h r hr)
theorem Pair.same {rs : List Rl} (h : Good rs) (hl : rs.length ≤ 3) (hn : ∀ r ∈ rs, NameZ r.name) : Pair rs rs := ⟨h, h, hl, by omega, hn, hn⟩
/-- a rule's text changed -/
def setT (rs : List Rl) (i k : Nat) (tx : ByteArray) : List Rl := match rs, i with
  | [], _ => []
  | r :: t, 0 => ⟨r.name, tx, k⟩ :: t
  | r :: t, i + 1 => r :: setT t i k tx
theorem setT_len : ∀ (rs : List Rl) (i k : Nat) (tx : ByteArray), (setT rs i k tx).length = rs.length
  | [], _, _, _ => rfl
  | r :: t, 0, _, _ => rfl
  | r :: t, i + 1, k, tx => by show (setT t i k tx).length + 1 = _; rw [setT_len t i k tx]; rfl
theorem setT_names : ∀ (rs : List Rl) (i k : Nat) (tx : ByteArray), (setT rs i k tx).map Rl.name = rs.map Rl.name
  | [], _, _, _ => rfl
  | r :: t, 0, _, _ => rfl
  | r :: t, i + 1, k, tx => by show r.name :: (setT t i k tx).map Rl.name = _; rw [setT_names t i k tx]; rfl
theorem setT_mem : ∀ (rs : List Rl) (i k : Nat) (tx : ByteArray) (q : Rl), q ∈ setT rs i k tx → q ∈ rs ∨ ∃ r ∈ rs, q = ⟨r.name, tx, k⟩
  | [], _, _, _, q, h => by cases h
  | r :: t, 0, k, tx, q, h => by
    rcases List.mem_cons.1 h with rfl | h
    · exact .inr ⟨r, List.mem_cons_self .., rfl⟩
    · exact .inl (List.mem_cons_of_mem _ h)
  | r :: t, i + 1, k, tx, q, h => by
    rcases List.mem_cons.1 h with rfl | h
    · exact .inl (List.mem_cons_self ..)
    · rcases setT_mem t i k tx q h with h | ⟨r', h1, h2⟩
      · exact .inl (List.mem_cons_of_mem _ h)
      · exact .inr ⟨r', List.mem_cons_of_mem _ h1, h2⟩
theorem setT_cells : ∀ (rs : List Rl) (i k : Nat) (tx : ByteArray), i < rs.length → (rs.flatMap Rl.cells).set (i * 3 + 1) (.string tx) = (setT rs i k tx).flatMap Rl.cells
  | [], _, _, _, h => by simp at h
  | r :: t, 0, _, _, _ => by simp [Rl.cells, setT]
  | r :: t, i + 1, k, tx, h => by
    have ih := setT_cells t i k tx (by simpa using h)
    rw [show (i + 1) * 3 + 1 = (i * 3 + 1) + 1 + 1 + 1 by omega]
    show (r.cells ++ t.flatMap Rl.cells).set _ _ = r.cells ++ (setT t i k tx).flatMap Rl.cells
    simp only [Rl.cells, List.cons_append, List.nil_append, List.set_cons_succ]
    rw [← ih]
theorem Good.setT {rs : List Rl} (h : Good rs) (i : Nat) {k : Nat} {tx : ByteArray} (hk : k < 12) (ht : Txt k tx) : Good (setT rs i k tx) := by
  refine ⟨by rw [setT_len]; exact h.len, by rw [setT_names]; exact h.nodup, fun q hq => ?_⟩
  rcases setT_mem rs i k tx q hq with hq | ⟨r, hr, rfl⟩
  · exact h.each q hq
  · obtain ⟨_, _, h3, h4⟩ := h.each r hr
    exact ⟨hk, ht, h3, h4⟩
theorem Pair.text {rs : List Rl} (h : Good rs) (hl : rs.length ≤ 3) (hn : ∀ r ∈ rs, NameZ r.name) (i : Nat) {k : Nat} {tx : ByteArray} (hk : k < 12) (ht : Txt k tx) : Pair rs (setT rs i k tx) :=
  ⟨h, h.setT i hk ht, hl, by rw [setT_len]; omega, hn, fun q hq => by
    rcases setT_mem rs i k tx q hq with hq | ⟨r, hr, rfl⟩
    · exact hn q hq
    · exact hn r hr⟩
noncomputable def chkZ : Bool := match cal0.fn 53 [.str [122]] .nil .e with | .ok (.bool true) _ _ => true | _ => false
set_option maxRecDepth 1000000 in
theorem chkZ_ok : chkZ = true := by decide +kernel
theorem isName_z {s : ByteArray} (hs : Bytes s [122]) : IsName s := fun w => by
  have h := chkZ_ok
  unfold chkZ at h
  split at h
  · rename_i H n h1
    refine (call1 cal0_ok h1 (fun _ => 0) w _ (rels_one ⟨s, rfl, hs⟩)).mono fun e w1 he => ?_
    obtain ⟨x, ι, rfl, hx, _, hbel, _⟩ := he
    have hx' : x = .bool true := hx
    subst hx'
    exact ⟨rfl, hbel⟩
  · cases h
theorem Pair.more {rs : List Rl} (h : Good rs) (hl : rs.length ≤ 3) (hn : ∀ r ∈ rs, ∃ j, j < 9 ∧ Bytes r.name [110, 48 + j]) : Pair rs (rs ++ [⟨⟨#[122]⟩, ⟨#[97]⟩, 0⟩]) := by
  have hz : Bytes ⟨#[122]⟩ [122] := rfl
  refine ⟨h, ⟨by simp; omega, ?_, fun r hr => ?_⟩, hl, by simp; omega, nameZ_of hn, fun r hr => ?_⟩
  · rw [List.map_append]
    refine List.nodup_append.2 ⟨h.nodup, by simp, fun a ha b hb e => ?_⟩
    obtain ⟨r, hr, rfl⟩ := List.mem_map.1 ha
    simp only [List.map_cons, List.map_nil, List.mem_singleton] at hb
    subst hb
    obtain ⟨j, _, hj⟩ := hn r hr
    rw [e] at hj
    unfold Bytes at hj
    simp at hj
  · rcases List.mem_append.1 hr with hr | hr
    · exact h.each r hr
    · simp only [List.mem_singleton] at hr
      subst hr
      exact ⟨by decide, rfl, isName_z hz, by unfold maxLen; decide⟩
  · rcases List.mem_append.1 hr with hr | hr
    · exact .inl (hn r hr)
    · simp only [List.mem_singleton] at hr
      subst hr
      exact .inr hz
theorem size27 : (Tryz.prog.info? 27).map (·.size) = some 3 := by kernel_rfl
theorem results_cell27 {fn : Func} {p : Tmp} (h : fn.results = #[.cell p 27]) (tmps : Array Value) (w : World) (g : Nat) (t : TypeId) (cs : Array Value) (fr : Nat × Nat)
    (hp : tmps.getD p undef = .pointer (some ⟨g, 0, none⟩)) (hg : w.heap[g]? = some (.cells cs t fr)) (hi : (Tryz.prog.info? 27).map (·.size) = some cs.size) :
    (results fn tmps).run Tryz.prog w = .ok (.agg cs) w := by
  have hp' : tmps[p]?.getD undef = .pointer (some ⟨g, 0, none⟩) := by simpa using hp
  simp [results, h, hp', asAddr, run_loadVar_row w g t 27 cs fr _ hg Tryz.underlying27 rfl hi]
set_option maxRecDepth 1000000 in
theorem rule_walk (n t : ByteArray) (w : World) : Calls Tryz.prog 8 #[.string n, .string t] w fun e w' => e = .returned (.agg #[.string n, .string t, .bool false]) ∧ Below w.heap.size w w' := by
  go_enter Tryz.func8, Tryz.ntmps8
  go_wp2
  refine bodyPost_ret (results_cell27 rfl _ _ w.heap.size 27 _ (0, 0) rfl (heap_alloc_new w _) size27) rfl ?_
  exact ⟨rfl, (Below.refl _ _).alloc (Nat.le_refl _) _⟩
theorem tdiv_in {how : Int} (hh : -9223372036854775808 ≤ how ∧ how ≤ 9223372036854775807) (q : Nat) (hq : 0 < q) : -9223372036854775808 ≤ how.tdiv q ∧ how.tdiv q ≤ 9223372036854775807 := by
  have h1 : (how.tdiv q).natAbs ≤ how.natAbs := by
    rw [Int.natAbs_tdiv]
    exact Nat.div_le_self _ _
  rcases Int.le_total 0 how with h0 | h0
  · have : 0 ≤ how.tdiv q := Int.tdiv_nonneg h0 (by omega)
    omega
  · have : how.tdiv q ≤ 0 := by
      have := Int.tdiv_nonneg (a := -how) (b := q) (by omega) (by omega)
      rw [Int.neg_tdiv] at this
      omega
    omega
theorem around_nat {z : Int} (hz : -9223372036854775808 ≤ z ∧ z ≤ 9223372036854775807) (w' : World) {m : Nat} (hm : 0 < m) (h3 : m ≤ 1000000) : Calls Tryz.prog 18 #[.int .i64 z, .int .i64 (m : Int)] w' fun e w1 => ∃ a : Nat, a < m ∧ e = .returned (.int .i64 (a : Int)) ∧ w' = w1 := by
  obtain ⟨b1, b2⟩ := arnd_in z m hm
  obtain ⟨a, ha⟩ : ∃ a : Nat, arnd z m = a := Int.eq_ofNat_of_zero_le b1
  refine Calls.mono (around_walk z m w' hm hz.1 hz.2 (by omega)) ?_
  rintro e w1 ⟨rfl, rfl⟩
  exact ⟨a, by omega, by rw [ha], rfl⟩
set_option maxHeartbeats 16000000 in
set_option maxRecDepth 1000000 in
theorem sides_4 {w : World} {v : Value} {l : List Int} (h : SlArg w v l) {how : Int} (hh : -9223372036854775808 ≤ how ∧ how ≤ 9223372036854775807) (hK : ∀ w', Calls Tryz.prog 18 #[.int .i64 how, .int .i64 5] w' fun e w1 => e = .returned (.int .i64 (4 : Int)) ∧ w' = w1) :
    Calls Tryz.prog 7 #[v, .int .i64 how] w fun e w' => sidesPost w w' e := by
  have hm0 := made_walk2 h 0 (by omega)
  have hm6 := fun w' (hb : Below w.heap.size w w') => made_walk2 (h.below hb) 6 (by omega)
  have hA5 : ∀ (w' : World) (m : Nat), 0 < m → m ≤ 3 → Calls Tryz.prog 18 #[.int .i64 (how.tdiv 5), .int .i64 (m : Int)] w' fun e w1 => ∃ a : Nat, a < m ∧ e = .returned (.int .i64 (a : Int)) ∧ w' = w1 := fun w' m hm h3 => around_nat (tdiv_in hh 5 (by omega)) w' hm (by omega)
  obtain ⟨i0, hi0, hz0, hz1, hz2⟩ := info_parts info27
  have M0 : Hid True := trivial
  clear h
  go_enter Tryz.func7, Tryz.ntmps7
  go_wp2_with (first
    | (go_at_call 14; clear M0; refine hm0.mono ?_; clear hm0; rintro _ w1 ⟨v1, rs, rfl, hown1, hG, hX, hb1⟩; obtain ⟨a1, c1, rfl, ha1⟩ := owns_shape hown1; have hl3 := hX.2.1; have hu := append_src hown1 (.cells #[] 27); have hlit := World.ownsRow_lit (e := 27) (size := 3) w1 #[] 0 (Nat.le_refl _) (by unfold maxLen; omega) rfl; have hs1 := hb1.size)
    | (go_at_call 14; refine (hm6 _ hB2).mono ?_; clear hm6; rintro _ w3 ⟨v3, rs3, rfl, hown3, hG3, hX3, hb3⟩)
    | (go_at_call 18; refine (hK _).mono ?_; clear hK; rintro _ wx ⟨rfl, rfl⟩)
    | (at_builtin; refine wpList_append_any rfl _ _ 23 rfl i0 _ 40 Tryz.underlying23 hi0 hz0 hz1 hz2 rfl (by decide) _ 0 [] rfl hlit _ rs.length (rs.flatMap Rl.cells) rfl hu (rl_len rs) (rl_one rs) (by unfold maxLen; omega) (by omega) (by simp) ?_; clear hu hlit; intro vf w2 hf2 hg2; have hB12 : Below w1.heap.size w1 w2 := ((Below.refl _ w1).alloc (Nat.le_refl _) _).grown hg2 (by simp) (fun k hk => by have e : w1.heap.size = k := Option.some.inj hk; omega); clear hg2; have hB2 : Below w.heap.size w w2 := hb1.trans (hB12.mono hs1); have hs2 := hB12.size; rw [Nat.zero_add, List.nil_append] at hf2; obtain ⟨af, cf, rfl, haf⟩ := owns_shape hf2)
    | go_in)
  · go_ret2
    exact ⟨_, _, rs, rs3, rfl, owns_below (owns_below hown1 hB12) hb3, owns_base hown3 hB2.size, ⟨hG, hG3, hl3, by have := hX3.2.1; omega, nameZ_of hX.2.2, nameZ_of hX3.2.2⟩, hB2.trans (hb3.mono hB2.size)⟩
set_option maxHeartbeats 16000000 in
set_option maxRecDepth 1000000 in
theorem sides_3 {w : World} {v : Value} {l : List Int} (h : SlArg w v l) {how : Int} (hh : -9223372036854775808 ≤ how ∧ how ≤ 9223372036854775807) (hK : ∀ w', Calls Tryz.prog 18 #[.int .i64 how, .int .i64 5] w' fun e w1 => e = .returned (.int .i64 (3 : Int)) ∧ w' = w1) :
    Calls Tryz.prog 7 #[v, .int .i64 how] w fun e w' => sidesPost w w' e := by
  have hm0 := made_walk2 h 0 (by omega)
  have hm6 := fun w' (hb : Below w.heap.size w w') => made_walk2 (h.below hb) 6 (by omega)
  have hA5 : ∀ (w' : World) (m : Nat), 0 < m → m ≤ 3 → Calls Tryz.prog 18 #[.int .i64 (how.tdiv 5), .int .i64 (m : Int)] w' fun e w1 => ∃ a : Nat, a < m ∧ e = .returned (.int .i64 (a : Int)) ∧ w' = w1 := fun w' m hm h3 => around_nat (tdiv_in hh 5 (by omega)) w' hm (by omega)
  obtain ⟨i0, hi0, hz0, hz1, hz2⟩ := info_parts info27
  have M0 : Hid True := trivial
  clear h
  go_enter Tryz.func7, Tryz.ntmps7
  go_wp2_with (first
    | (go_at_call 14; clear M0; refine hm0.mono ?_; clear hm0; rintro _ w1 ⟨v1, rs, rfl, hown1, hG, hX, hb1⟩; obtain ⟨a1, c1, rfl, ha1⟩ := owns_shape hown1; have hl3 := hX.2.1; have hu := append_src hown1 (.cells #[] 27); have hlit := World.ownsRow_lit (e := 27) (size := 3) w1 #[] 0 (Nat.le_refl _) (by unfold maxLen; omega) rfl; have hs1 := hb1.size)
    | (go_at_call 14; refine (hm6 _ hB2).mono ?_; clear hm6; rintro _ w3 ⟨v3, rs3, rfl, hown3, hG3, hX3, hb3⟩)
    | (go_at_call 18; refine (hK _).mono ?_; clear hK; rintro _ wx ⟨rfl, rfl⟩)
    | (go_at_call 18; have hpos : 0 < rs.length := (by have h0 : ((rs.length : Int) == 0) = false := (by assumption); simp only [beq_eq_false_iff_ne, ne_eq] at h0; omega); refine (hA5 _ rs.length hpos hl3).mono ?_; clear hA5; rintro _ wx ⟨at0, hat, rfl, rfl⟩)
    | (at_builtin; refine wpList_append_any rfl _ _ 23 rfl i0 _ 40 Tryz.underlying23 hi0 hz0 hz1 hz2 rfl (by decide) _ 0 [] rfl hlit _ rs.length (rs.flatMap Rl.cells) rfl hu (rl_len rs) (rl_one rs) (by unfold maxLen; omega) (by omega) (by simp) ?_; clear hu hlit; intro vf w2 hf2 hg2; have hB12 : Below w1.heap.size w1 w2 := ((Below.refl _ w1).alloc (Nat.le_refl _) _).grown hg2 (by simp) (fun k hk => by have e : w1.heap.size = k := Option.some.inj hk; omega); clear hg2; have hB2 : Below w.heap.size w w2 := hb1.trans (hB12.mono hs1); have hs2 := hB12.size; rw [Nat.zero_add, List.nil_append] at hf2; obtain ⟨af, cf, rfl, haf⟩ := owns_shape hf2)
    | go_in)
  · go_ret2
    exact ⟨_, _, rs, rs3, rfl, owns_below (owns_below hown1 hB12) hb3, owns_base hown3 hB2.size, ⟨hG, hG3, hl3, by have := hX3.2.1; omega, nameZ_of hX.2.2, nameZ_of hX3.2.2⟩, hB2.trans (hb3.mono hB2.size)⟩
  · go_ret2
    exact ⟨_, _, rs, rs, rfl, owns_below hown1 hB12, owns_base hf2 hs1, .same hG hl3 (nameZ_of hX.2.2), hB2⟩
set_option maxHeartbeats 16000000 in
set_option maxRecDepth 1000000 in
theorem sides_2 {w : World} {v : Value} {l : List Int} (h : SlArg w v l) {how : Int} (hh : -9223372036854775808 ≤ how ∧ how ≤ 9223372036854775807) (hK : ∀ w', Calls Tryz.prog 18 #[.int .i64 how, .int .i64 5] w' fun e w1 => e = .returned (.int .i64 (2 : Int)) ∧ w' = w1) :
    Calls Tryz.prog 7 #[v, .int .i64 how] w fun e w' => sidesPost w w' e := by
  have hm0 := made_walk2 h 0 (by omega)
  have hm6 := fun w' (hb : Below w.heap.size w w') => made_walk2 (h.below hb) 6 (by omega)
  have hA5 : ∀ (w' : World) (m : Nat), 0 < m → m ≤ 3 → Calls Tryz.prog 18 #[.int .i64 (how.tdiv 5), .int .i64 (m : Int)] w' fun e w1 => ∃ a : Nat, a < m ∧ e = .returned (.int .i64 (a : Int)) ∧ w' = w1 := fun w' m hm h3 => around_nat (tdiv_in hh 5 (by omega)) w' hm (by omega)
  obtain ⟨i0, hi0, hz0, hz1, hz2⟩ := info_parts info27
  have M0 : Hid True := trivial
  clear h
  go_enter Tryz.func7, Tryz.ntmps7
  go_wp2_with (first
    | (go_at_call 14; clear M0; refine hm0.mono ?_; clear hm0; rintro _ w1 ⟨v1, rs, rfl, hown1, hG, hX, hb1⟩; obtain ⟨a1, c1, rfl, ha1⟩ := owns_shape hown1; have hl3 := hX.2.1; have hu := append_src hown1 (.cells #[] 27); have hlit := World.ownsRow_lit (e := 27) (size := 3) w1 #[] 0 (Nat.le_refl _) (by unfold maxLen; omega) rfl; have hs1 := hb1.size)
    | (go_at_call 14; refine (hm6 _ hB2).mono ?_; clear hm6; rintro _ w3 ⟨v3, rs3, rfl, hown3, hG3, hX3, hb3⟩)
    | (go_at_call 18; refine (hK _).mono ?_; clear hK; rintro _ wx ⟨rfl, rfl⟩)
    | (go_at_call 18; have hpos : 0 < rs.length := (by have h0 : ((rs.length : Int) == 0) = false := (by assumption); simp only [beq_eq_false_iff_ne, ne_eq] at h0; omega); refine (hA5 _ rs.length hpos hl3).mono ?_; clear hA5; rintro _ wx ⟨at0, hat, rfl, rfl⟩; have M2 : Hid True := trivial)
    | (at_builtin; refine wpList_append_any rfl _ _ 23 rfl i0 _ 40 Tryz.underlying23 hi0 hz0 hz1 hz2 rfl (by decide) _ 0 [] rfl hlit _ rs.length (rs.flatMap Rl.cells) rfl hu (rl_len rs) (rl_one rs) (by unfold maxLen; omega) (by omega) (by simp) ?_; clear hu hlit; intro vf w2 hf2 hg2; have hB12 : Below w1.heap.size w1 w2 := ((Below.refl _ w1).alloc (Nat.le_refl _) _).grown hg2 (by simp) (fun k hk => by have e : w1.heap.size = k := Option.some.inj hk; omega); clear hg2; have hB2 : Below w.heap.size w w2 := hb1.trans (hB12.mono hs1); have hs2 := hB12.size; rw [Nat.zero_add, List.nil_append] at hf2; obtain ⟨af, cf, rfl, haf⟩ := owns_shape hf2)
    | (go_at_call 8; refine (rule_walk _ _ _).mono ?_; rintro _ w4 ⟨rfl, hb4⟩; have hs4 := hb4.size)
    | (at_builtin; clear M2; refine wpList_append_own _ rfl _ _ 23 rfl w1.heap.size 27 i0 _ 3 40 Tryz.underlying23 hi0 hz0 hz1 hz2 rfl (by decide) _ rs.length (rs.flatMap Rl.cells) rfl ((owns_below hf2 hb4).alloc _) ⟨w4.heap.size, 0, none⟩ 1 1 [.string ⟨#[122]⟩, .string ⟨#[97]⟩, .bool false] rfl rfl ?c1 ?c2 ?c3 ?c4 ?c5 ?_)
    | go_in)
  case c1 =>
    intro j u hj
    exact new_cells w4 _ 27 rfl rfl hj
  case c2 => intro u hu; simp at hu; rcases hu with rfl | rfl | rfl <;> rfl
  case c3 => unfold maxLen; omega
  case c4 => omega
  case c5 => simp; omega
  · go_ret2
    exact ⟨_, _, rs, rs3, rfl, owns_below (owns_below hown1 hB12) hb3, owns_base hown3 hB2.size, ⟨hG, hG3, hl3, by have := hX3.2.1; omega, nameZ_of hX.2.2, nameZ_of hX3.2.2⟩, hB2.trans (hb3.mono hB2.size)⟩
  · intro vg w3 hg3 hgr3 _
    obtain ⟨ag, cg, rfl, _⟩ := owns_shape hg3
    have hB14 : Below w1.heap.size w1 w3 := ((hB12.trans (hb4.mono hs2)).alloc (by omega) _).grown hgr3 (by simp; omega) (fun k hk => (World.ownsRow.lt hf2 k hk).1)
    clear hgr3
    go_wp2
    go_ret2
    exact ⟨_, _, rs, rs ++ [⟨⟨#[122]⟩, ⟨#[97]⟩, 0⟩], rfl, owns_below hown1 hB14, by simpa [Rl.cells] using owns_base hg3 hs1, .more hG hl3 hX.2.2, hb1.trans (hB14.mono hs1)⟩
set_option maxHeartbeats 16000000 in
set_option maxRecDepth 1000000 in
theorem sides_00 {w : World} {v : Value} {l : List Int} (h : SlArg w v l) {how : Int} (hh : -9223372036854775808 ≤ how ∧ how ≤ 9223372036854775807) (hK : ∀ w', Calls Tryz.prog 18 #[.int .i64 how, .int .i64 5] w' fun e w1 => e = .returned (.int .i64 (0 : Int)) ∧ w' = w1) (hA15 : ∀ w', Calls Tryz.prog 18 #[.int .i64 (how.tdiv 15), .int .i64 5] w' fun e w1 => e = .returned (.int .i64 (0 : Int)) ∧ w' = w1) :
    Calls Tryz.prog 7 #[v, .int .i64 how] w fun e w' => sidesPost w w' e := by
  have hm0 := made_walk2 h 0 (by omega)
  have hm6 := fun w' (hb : Below w.heap.size w w') => made_walk2 (h.below hb) 6 (by omega)
  have hA5 : ∀ (w' : World) (m : Nat), 0 < m → m ≤ 3 → Calls Tryz.prog 18 #[.int .i64 (how.tdiv 5), .int .i64 (m : Int)] w' fun e w1 => ∃ a : Nat, a < m ∧ e = .returned (.int .i64 (a : Int)) ∧ w' = w1 := fun w' m hm h3 => around_nat (tdiv_in hh 5 (by omega)) w' hm (by omega)
  obtain ⟨i0, hi0, hz0, hz1, hz2⟩ := info_parts info27
  have M0 : Hid True := trivial
  clear h
  go_enter Tryz.func7, Tryz.ntmps7
  go_wp2_with (first
    | (go_at_call 14; clear M0; refine hm0.mono ?_; clear hm0; rintro _ w1 ⟨v1, rs, rfl, hown1, hG, hX, hb1⟩; obtain ⟨a1, c1, rfl, ha1⟩ := owns_shape hown1; have hl3 := hX.2.1; have hu := append_src hown1 (.cells #[] 27); have hlit := World.ownsRow_lit (e := 27) (size := 3) w1 #[] 0 (Nat.le_refl _) (by unfold maxLen; omega) rfl; have hs1 := hb1.size)
    | (go_at_call 14; refine (hm6 _ hB2).mono ?_; clear hm6; rintro _ w3 ⟨v3, rs3, rfl, hown3, hG3, hX3, hb3⟩)
    | (go_at_call 18; refine (hK _).mono ?_; clear hK; rintro _ wx ⟨rfl, rfl⟩)
    | (go_at_call 18; have hpos : 0 < rs.length := (by have h0 : ((rs.length : Int) == 0) = false := (by assumption); simp only [beq_eq_false_iff_ne, ne_eq] at h0; omega); refine (hA5 _ rs.length hpos hl3).mono ?_; clear hA5; rintro _ wx ⟨at0, hat, rfl, rfl⟩; obtain ⟨g, rfl⟩ := haf (by omega); have hg := World.ownsRow.lt hf2 g rfl; have hat0 : (at0 : Int) < (rs.length : Int) := (by omega); obtain ⟨tx0, htx0⟩ : ∃ t, rs[at0].text = t := ⟨_, rfl⟩; have cT := (rl_cells hf2 hat).2.1; rw [htx0] at cT; have cT' : ∀ o, (w2.alloc o).cell? ⟨g, at0 * 3 + 1, none⟩ = some (.string tx0) := (fun o => (World.cell?_of_block (a := ⟨g, at0 * 3 + 1, none⟩) (Below.heap_alloc _ _ _ hg.2)).trans cT); have fT : ∀ o, (w2.alloc o).frozen? ⟨g, at0 * 3 + 1, none⟩ = false := (fun o => (hf2.alloc o).frozenAt (at0 * 3 + 1)))
    | (at_builtin; refine wpList_append_any rfl _ _ 23 rfl i0 _ 40 Tryz.underlying23 hi0 hz0 hz1 hz2 rfl (by decide) _ 0 [] rfl hlit _ rs.length (rs.flatMap Rl.cells) rfl hu (rl_len rs) (rl_one rs) (by unfold maxLen; omega) (by omega) (by simp) ?_; clear hu hlit; intro vf w2 hf2 hg2; have hB12 : Below w1.heap.size w1 w2 := ((Below.refl _ w1).alloc (Nat.le_refl _) _).grown hg2 (by simp) (fun k hk => by have e : w1.heap.size = k := Option.some.inj hk; omega); clear hg2; have hB2 : Below w.heap.size w w2 := hb1.trans (hB12.mono hs1); have hs2 := hB12.size; rw [Nat.zero_add, List.nil_append] at hf2; obtain ⟨af, cf, rfl, haf⟩ := owns_shape hf2)
    | (go_at_call 18; refine (hA15 _).mono ?_; rintro _ wy ⟨rfl, rfl⟩)
    | go_in)
  · go_ret2
    exact ⟨_, _, rs, rs3, rfl, owns_below (owns_below hown1 hB12) hb3, owns_base hown3 hB2.size, ⟨hG, hG3, hl3, by have := hX3.2.1; omega, nameZ_of hX.2.2, nameZ_of hX3.2.2⟩, hB2.trans (hb3.mono hB2.size)⟩
  · have hst := fun o => (World.ownsRow.alloc (hf2.stored (at0 * 3 + 1) (.string ⟨#[97, 43]⟩)).1) o
    go_ret2
    exact ⟨_, _, rs, setT rs at0 8 ⟨#[97, 43]⟩, rfl, owns_below hown1 ((hB12.setCell (by show w1.heap.size ≤ g; omega) _).alloc (by simp [World.setCell]; omega) _), by rw [setT_len, ← setT_cells _ _ _ _ hat]; exact owns_base (hst _) hs1, .text hG hl3 (nameZ_of hX.2.2) at0 (by decide) rfl, (hB2.setCell (by show w.heap.size ≤ g; omega) _).alloc (by simp [World.setCell]; omega) _⟩
set_option maxHeartbeats 16000000 in
set_option maxRecDepth 1000000 in
theorem sides_01 {w : World} {v : Value} {l : List Int} (h : SlArg w v l) {how : Int} (hh : -9223372036854775808 ≤ how ∧ how ≤ 9223372036854775807) (hK : ∀ w', Calls Tryz.prog 18 #[.int .i64 how, .int .i64 5] w' fun e w1 => e = .returned (.int .i64 (0 : Int)) ∧ w' = w1) (hA15 : ∀ w', Calls Tryz.prog 18 #[.int .i64 (how.tdiv 15), .int .i64 5] w' fun e w1 => e = .returned (.int .i64 (1 : Int)) ∧ w' = w1) :
    Calls Tryz.prog 7 #[v, .int .i64 how] w fun e w' => sidesPost w w' e := by
  have hm0 := made_walk2 h 0 (by omega)
  have hm6 := fun w' (hb : Below w.heap.size w w') => made_walk2 (h.below hb) 6 (by omega)
  have hA5 : ∀ (w' : World) (m : Nat), 0 < m → m ≤ 3 → Calls Tryz.prog 18 #[.int .i64 (how.tdiv 5), .int .i64 (m : Int)] w' fun e w1 => ∃ a : Nat, a < m ∧ e = .returned (.int .i64 (a : Int)) ∧ w' = w1 := fun w' m hm h3 => around_nat (tdiv_in hh 5 (by omega)) w' hm (by omega)
  obtain ⟨i0, hi0, hz0, hz1, hz2⟩ := info_parts info27
  have M0 : Hid True := trivial
  clear h
  go_enter Tryz.func7, Tryz.ntmps7
  go_wp2_with (first
    | (go_at_call 14; clear M0; refine hm0.mono ?_; clear hm0; rintro _ w1 ⟨v1, rs, rfl, hown1, hG, hX, hb1⟩; obtain ⟨a1, c1, rfl, ha1⟩ := owns_shape hown1; have hl3 := hX.2.1; have hu := append_src hown1 (.cells #[] 27); have hlit := World.ownsRow_lit (e := 27) (size := 3) w1 #[] 0 (Nat.le_refl _) (by unfold maxLen; omega) rfl; have hs1 := hb1.size)
    | (go_at_call 14; refine (hm6 _ hB2).mono ?_; clear hm6; rintro _ w3 ⟨v3, rs3, rfl, hown3, hG3, hX3, hb3⟩)
    | (go_at_call 18; refine (hK _).mono ?_; clear hK; rintro _ wx ⟨rfl, rfl⟩)
    | (go_at_call 18; have hpos : 0 < rs.length := (by have h0 : ((rs.length : Int) == 0) = false := (by assumption); simp only [beq_eq_false_iff_ne, ne_eq] at h0; omega); refine (hA5 _ rs.length hpos hl3).mono ?_; clear hA5; rintro _ wx ⟨at0, hat, rfl, rfl⟩; obtain ⟨g, rfl⟩ := haf (by omega); have hg := World.ownsRow.lt hf2 g rfl; have hat0 : (at0 : Int) < (rs.length : Int) := (by omega); obtain ⟨tx0, htx0⟩ : ∃ t, rs[at0].text = t := ⟨_, rfl⟩; have cT := (rl_cells hf2 hat).2.1; rw [htx0] at cT; have cT' : ∀ o, (w2.alloc o).cell? ⟨g, at0 * 3 + 1, none⟩ = some (.string tx0) := (fun o => (World.cell?_of_block (a := ⟨g, at0 * 3 + 1, none⟩) (Below.heap_alloc _ _ _ hg.2)).trans cT); have fT : ∀ o, (w2.alloc o).frozen? ⟨g, at0 * 3 + 1, none⟩ = false := (fun o => (hf2.alloc o).frozenAt (at0 * 3 + 1)))
    | (at_builtin; refine wpList_append_any rfl _ _ 23 rfl i0 _ 40 Tryz.underlying23 hi0 hz0 hz1 hz2 rfl (by decide) _ 0 [] rfl hlit _ rs.length (rs.flatMap Rl.cells) rfl hu (rl_len rs) (rl_one rs) (by unfold maxLen; omega) (by omega) (by simp) ?_; clear hu hlit; intro vf w2 hf2 hg2; have hB12 : Below w1.heap.size w1 w2 := ((Below.refl _ w1).alloc (Nat.le_refl _) _).grown hg2 (by simp) (fun k hk => by have e : w1.heap.size = k := Option.some.inj hk; omega); clear hg2; have hB2 : Below w.heap.size w w2 := hb1.trans (hB12.mono hs1); have hs2 := hB12.size; rw [Nat.zero_add, List.nil_append] at hf2; obtain ⟨af, cf, rfl, haf⟩ := owns_shape hf2)
    | (go_at_call 18; refine (hA15 _).mono ?_; rintro _ wy ⟨rfl, rfl⟩)
    | go_in)
  · go_ret2
    exact ⟨_, _, rs, rs3, rfl, owns_below (owns_below hown1 hB12) hb3, owns_base hown3 hB2.size, ⟨hG, hG3, hl3, by have := hX3.2.1; omega, nameZ_of hX.2.2, nameZ_of hX3.2.2⟩, hB2.trans (hb3.mono hB2.size)⟩
  · have hst := fun o => (World.ownsRow.alloc (hf2.stored (at0 * 3 + 1) (.string ⟨#[98]⟩)).1) o
    go_ret2
    exact ⟨_, _, rs, setT rs at0 1 ⟨#[98]⟩, rfl, owns_below hown1 ((hB12.setCell (by show w1.heap.size ≤ g; omega) _).alloc (by simp [World.setCell]; omega) _), by rw [setT_len, ← setT_cells _ _ _ _ hat]; exact owns_base (hst _) hs1, .text hG hl3 (nameZ_of hX.2.2) at0 (by decide) rfl, (hB2.setCell (by show w.heap.size ≤ g; omega) _).alloc (by simp [World.setCell]; omega) _⟩
set_option maxHeartbeats 16000000 in
set_option maxRecDepth 1000000 in
theorem sides_02 {w : World} {v : Value} {l : List Int} (h : SlArg w v l) {how : Int} (hh : -9223372036854775808 ≤ how ∧ how ≤ 9223372036854775807) (hK : ∀ w', Calls Tryz.prog 18 #[.int .i64 how, .int .i64 5] w' fun e w1 => e = .returned (.int .i64 (0 : Int)) ∧ w' = w1) (hA15 : ∀ w', Calls Tryz.prog 18 #[.int .i64 (how.tdiv 15), .int .i64 5] w' fun e w1 => e = .returned (.int .i64 (2 : Int)) ∧ w' = w1) :
    Calls Tryz.prog 7 #[v, .int .i64 how] w fun e w' => sidesPost w w' e := by
  have hm0 := made_walk2 h 0 (by omega)
  have hm6 := fun w' (hb : Below w.heap.size w w') => made_walk2 (h.below hb) 6 (by omega)
  have hA5 : ∀ (w' : World) (m : Nat), 0 < m → m ≤ 3 → Calls Tryz.prog 18 #[.int .i64 (how.tdiv 5), .int .i64 (m : Int)] w' fun e w1 => ∃ a : Nat, a < m ∧ e = .returned (.int .i64 (a : Int)) ∧ w' = w1 := fun w' m hm h3 => around_nat (tdiv_in hh 5 (by omega)) w' hm (by omega)
  obtain ⟨i0, hi0, hz0, hz1, hz2⟩ := info_parts info27
  have M0 : Hid True := trivial
  clear h
  go_enter Tryz.func7, Tryz.ntmps7
  go_wp2_with (first
    | (go_at_call 14; clear M0; refine hm0.mono ?_; clear hm0; rintro _ w1 ⟨v1, rs, rfl, hown1, hG, hX, hb1⟩; obtain ⟨a1, c1, rfl, ha1⟩ := owns_shape hown1; have hl3 := hX.2.1; have hu := append_src hown1 (.cells #[] 27); have hlit := World.ownsRow_lit (e := 27) (size := 3) w1 #[] 0 (Nat.le_refl _) (by unfold maxLen; omega) rfl; have hs1 := hb1.size)
    | (go_at_call 14; refine (hm6 _ hB2).mono ?_; clear hm6; rintro _ w3 ⟨v3, rs3, rfl, hown3, hG3, hX3, hb3⟩)
    | (go_at_call 18; refine (hK _).mono ?_; clear hK; rintro _ wx ⟨rfl, rfl⟩)
    | (go_at_call 18; have hpos : 0 < rs.length := (by have h0 : ((rs.length : Int) == 0) = false := (by assumption); simp only [beq_eq_false_iff_ne, ne_eq] at h0; omega); refine (hA5 _ rs.length hpos hl3).mono ?_; clear hA5; rintro _ wx ⟨at0, hat, rfl, rfl⟩; obtain ⟨g, rfl⟩ := haf (by omega); have hg := World.ownsRow.lt hf2 g rfl; have hat0 : (at0 : Int) < (rs.length : Int) := (by omega); obtain ⟨tx0, htx0⟩ : ∃ t, rs[at0].text = t := ⟨_, rfl⟩; have cT := (rl_cells hf2 hat).2.1; rw [htx0] at cT; have cT' : ∀ o, (w2.alloc o).cell? ⟨g, at0 * 3 + 1, none⟩ = some (.string tx0) := (fun o => (World.cell?_of_block (a := ⟨g, at0 * 3 + 1, none⟩) (Below.heap_alloc _ _ _ hg.2)).trans cT); have fT : ∀ o, (w2.alloc o).frozen? ⟨g, at0 * 3 + 1, none⟩ = false := (fun o => (hf2.alloc o).frozenAt (at0 * 3 + 1)))
    | (at_builtin; refine wpList_append_any rfl _ _ 23 rfl i0 _ 40 Tryz.underlying23 hi0 hz0 hz1 hz2 rfl (by decide) _ 0 [] rfl hlit _ rs.length (rs.flatMap Rl.cells) rfl hu (rl_len rs) (rl_one rs) (by unfold maxLen; omega) (by omega) (by simp) ?_; clear hu hlit; intro vf w2 hf2 hg2; have hB12 : Below w1.heap.size w1 w2 := ((Below.refl _ w1).alloc (Nat.le_refl _) _).grown hg2 (by simp) (fun k hk => by have e : w1.heap.size = k := Option.some.inj hk; omega); clear hg2; have hB2 : Below w.heap.size w w2 := hb1.trans (hB12.mono hs1); have hs2 := hB12.size; rw [Nat.zero_add, List.nil_append] at hf2; obtain ⟨af, cf, rfl, haf⟩ := owns_shape hf2)
    | (go_at_call 18; refine (hA15 _).mono ?_; rintro _ wy ⟨rfl, rfl⟩)
    | go_in)
  · go_ret2
    exact ⟨_, _, rs, rs3, rfl, owns_below (owns_below hown1 hB12) hb3, owns_base hown3 hB2.size, ⟨hG, hG3, hl3, by have := hX3.2.1; omega, nameZ_of hX.2.2, nameZ_of hX3.2.2⟩, hB2.trans (hb3.mono hB2.size)⟩
  · have hst := fun o => (World.ownsRow.alloc (hf2.stored (at0 * 3 + 1) (.string ⟨#[]⟩)).1) o
    go_ret2
    exact ⟨_, _, rs, setT rs at0 9 ⟨#[]⟩, rfl, owns_below hown1 ((hB12.setCell (by show w1.heap.size ≤ g; omega) _).alloc (by simp [World.setCell]; omega) _), by rw [setT_len, ← setT_cells _ _ _ _ hat]; exact owns_base (hst _) hs1, .text hG hl3 (nameZ_of hX.2.2) at0 (by decide) rfl, (hB2.setCell (by show w.heap.size ≤ g; omega) _).alloc (by simp [World.setCell]; omega) _⟩
set_option maxHeartbeats 16000000 in
set_option maxRecDepth 1000000 in
theorem sides_03 {w : World} {v : Value} {l : List Int} (h : SlArg w v l) {how : Int} (hh : -9223372036854775808 ≤ how ∧ how ≤ 9223372036854775807) (hK : ∀ w', Calls Tryz.prog 18 #[.int .i64 how, .int .i64 5] w' fun e w1 => e = .returned (.int .i64 (0 : Int)) ∧ w' = w1) (hA15 : ∀ w', Calls Tryz.prog 18 #[.int .i64 (how.tdiv 15), .int .i64 5] w' fun e w1 => e = .returned (.int .i64 (3 : Int)) ∧ w' = w1) :
    Calls Tryz.prog 7 #[v, .int .i64 how] w fun e w' => sidesPost w w' e := by
  have hm0 := made_walk2 h 0 (by omega)
  have hm6 := fun w' (hb : Below w.heap.size w w') => made_walk2 (h.below hb) 6 (by omega)
  have hA5 : ∀ (w' : World) (m : Nat), 0 < m → m ≤ 3 → Calls Tryz.prog 18 #[.int .i64 (how.tdiv 5), .int .i64 (m : Int)] w' fun e w1 => ∃ a : Nat, a < m ∧ e = .returned (.int .i64 (a : Int)) ∧ w' = w1 := fun w' m hm h3 => around_nat (tdiv_in hh 5 (by omega)) w' hm (by omega)
  obtain ⟨i0, hi0, hz0, hz1, hz2⟩ := info_parts info27
  have M0 : Hid True := trivial
  clear h
  go_enter Tryz.func7, Tryz.ntmps7
  go_wp2_with (first
    | (go_at_call 14; clear M0; refine hm0.mono ?_; clear hm0; rintro _ w1 ⟨v1, rs, rfl, hown1, hG, hX, hb1⟩; obtain ⟨a1, c1, rfl, ha1⟩ := owns_shape hown1; have hl3 := hX.2.1; have hu := append_src hown1 (.cells #[] 27); have hlit := World.ownsRow_lit (e := 27) (size := 3) w1 #[] 0 (Nat.le_refl _) (by unfold maxLen; omega) rfl; have hs1 := hb1.size)
    | (go_at_call 14; refine (hm6 _ hB2).mono ?_; clear hm6; rintro _ w3 ⟨v3, rs3, rfl, hown3, hG3, hX3, hb3⟩)
    | (go_at_call 18; refine (hK _).mono ?_; clear hK; rintro _ wx ⟨rfl, rfl⟩)
    | (go_at_call 18; have hpos : 0 < rs.length := (by have h0 : ((rs.length : Int) == 0) = false := (by assumption); simp only [beq_eq_false_iff_ne, ne_eq] at h0; omega); refine (hA5 _ rs.length hpos hl3).mono ?_; clear hA5; rintro _ wx ⟨at0, hat, rfl, rfl⟩; obtain ⟨g, rfl⟩ := haf (by omega); have hg := World.ownsRow.lt hf2 g rfl; have hat0 : (at0 : Int) < (rs.length : Int) := (by omega); obtain ⟨tx0, htx0⟩ : ∃ t, rs[at0].text = t := ⟨_, rfl⟩; have cT := (rl_cells hf2 hat).2.1; rw [htx0] at cT; have cT' : ∀ o, (w2.alloc o).cell? ⟨g, at0 * 3 + 1, none⟩ = some (.string tx0) := (fun o => (World.cell?_of_block (a := ⟨g, at0 * 3 + 1, none⟩) (Below.heap_alloc _ _ _ hg.2)).trans cT); have fT : ∀ o, (w2.alloc o).frozen? ⟨g, at0 * 3 + 1, none⟩ = false := (fun o => (hf2.alloc o).frozenAt (at0 * 3 + 1)))
    | (at_builtin; refine wpList_append_any rfl _ _ 23 rfl i0 _ 40 Tryz.underlying23 hi0 hz0 hz1 hz2 rfl (by decide) _ 0 [] rfl hlit _ rs.length (rs.flatMap Rl.cells) rfl hu (rl_len rs) (rl_one rs) (by unfold maxLen; omega) (by omega) (by simp) ?_; clear hu hlit; intro vf w2 hf2 hg2; have hB12 : Below w1.heap.size w1 w2 := ((Below.refl _ w1).alloc (Nat.le_refl _) _).grown hg2 (by simp) (fun k hk => by have e : w1.heap.size = k := Option.some.inj hk; omega); clear hg2; have hB2 : Below w.heap.size w w2 := hb1.trans (hB12.mono hs1); have hs2 := hB12.size; rw [Nat.zero_add, List.nil_append] at hf2; obtain ⟨af, cf, rfl, haf⟩ := owns_shape hf2)
    | (go_at_call 18; refine (hA15 _).mono ?_; rintro _ wy ⟨rfl, rfl⟩)
    | go_in)
  · go_ret2
    exact ⟨_, _, rs, rs3, rfl, owns_below (owns_below hown1 hB12) hb3, owns_base hown3 hB2.size, ⟨hG, hG3, hl3, by have := hX3.2.1; omega, nameZ_of hX.2.2, nameZ_of hX3.2.2⟩, hB2.trans (hb3.mono hB2.size)⟩
  · have hst := fun o => (World.ownsRow.alloc (hf2.stored (at0 * 3 + 1) (.string ⟨#[97, 124, 97, 98]⟩)).1) o
    go_ret2
    exact ⟨_, _, rs, setT rs at0 7 ⟨#[97, 124, 97, 98]⟩, rfl, owns_below hown1 ((hB12.setCell (by show w1.heap.size ≤ g; omega) _).alloc (by simp [World.setCell]; omega) _), by rw [setT_len, ← setT_cells _ _ _ _ hat]; exact owns_base (hst _) hs1, .text hG hl3 (nameZ_of hX.2.2) at0 (by decide) rfl, (hB2.setCell (by show w.heap.size ≤ g; omega) _).alloc (by simp [World.setCell]; omega) _⟩
set_option maxHeartbeats 16000000 in
set_option maxRecDepth 1000000 in
theorem sides_04 {w : World} {v : Value} {l : List Int} (h : SlArg w v l) {how : Int} (hh : -9223372036854775808 ≤ how ∧ how ≤ 9223372036854775807) (hK : ∀ w', Calls Tryz.prog 18 #[.int .i64 how, .int .i64 5] w' fun e w1 => e = .returned (.int .i64 (0 : Int)) ∧ w' = w1) (hA15 : ∀ w', Calls Tryz.prog 18 #[.int .i64 (how.tdiv 15), .int .i64 5] w' fun e w1 => e = .returned (.int .i64 (4 : Int)) ∧ w' = w1) :
    Calls Tryz.prog 7 #[v, .int .i64 how] w fun e w' => sidesPost w w' e := by
  have hm0 := made_walk2 h 0 (by omega)
  have hm6 := fun w' (hb : Below w.heap.size w w') => made_walk2 (h.below hb) 6 (by omega)
  have hA5 : ∀ (w' : World) (m : Nat), 0 < m → m ≤ 3 → Calls Tryz.prog 18 #[.int .i64 (how.tdiv 5), .int .i64 (m : Int)] w' fun e w1 => ∃ a : Nat, a < m ∧ e = .returned (.int .i64 (a : Int)) ∧ w' = w1 := fun w' m hm h3 => around_nat (tdiv_in hh 5 (by omega)) w' hm (by omega)
  obtain ⟨i0, hi0, hz0, hz1, hz2⟩ := info_parts info27
  have M0 : Hid True := trivial
  clear h
  go_enter Tryz.func7, Tryz.ntmps7
  go_wp2_with (first
    | (go_at_call 14; clear M0; refine hm0.mono ?_; clear hm0; rintro _ w1 ⟨v1, rs, rfl, hown1, hG, hX, hb1⟩; obtain ⟨a1, c1, rfl, ha1⟩ := owns_shape hown1; have hl3 := hX.2.1; have hu := append_src hown1 (.cells #[] 27); have hlit := World.ownsRow_lit (e := 27) (size := 3) w1 #[] 0 (Nat.le_refl _) (by unfold maxLen; omega) rfl; have hs1 := hb1.size)
    | (go_at_call 14; refine (hm6 _ hB2).mono ?_; clear hm6; rintro _ w3 ⟨v3, rs3, rfl, hown3, hG3, hX3, hb3⟩)
    | (go_at_call 18; refine (hK _).mono ?_; clear hK; rintro _ wx ⟨rfl, rfl⟩)
    | (go_at_call 18; have hpos : 0 < rs.length := (by have h0 : ((rs.length : Int) == 0) = false := (by assumption); simp only [beq_eq_false_iff_ne, ne_eq] at h0; omega); refine (hA5 _ rs.length hpos hl3).mono ?_; clear hA5; rintro _ wx ⟨at0, hat, rfl, rfl⟩; obtain ⟨g, rfl⟩ := haf (by omega); have hg := World.ownsRow.lt hf2 g rfl; have hat0 : (at0 : Int) < (rs.length : Int) := (by omega); obtain ⟨tx0, htx0⟩ : ∃ t, rs[at0].text = t := ⟨_, rfl⟩; have cT := (rl_cells hf2 hat).2.1; rw [htx0] at cT; have cT' : ∀ o, (w2.alloc o).cell? ⟨g, at0 * 3 + 1, none⟩ = some (.string tx0) := (fun o => (World.cell?_of_block (a := ⟨g, at0 * 3 + 1, none⟩) (Below.heap_alloc _ _ _ hg.2)).trans cT); have fT : ∀ o, (w2.alloc o).frozen? ⟨g, at0 * 3 + 1, none⟩ = false := (fun o => (hf2.alloc o).frozenAt (at0 * 3 + 1)))
    | (at_builtin; refine wpList_append_any rfl _ _ 23 rfl i0 _ 40 Tryz.underlying23 hi0 hz0 hz1 hz2 rfl (by decide) _ 0 [] rfl hlit _ rs.length (rs.flatMap Rl.cells) rfl hu (rl_len rs) (rl_one rs) (by unfold maxLen; omega) (by omega) (by simp) ?_; clear hu hlit; intro vf w2 hf2 hg2; have hB12 : Below w1.heap.size w1 w2 := ((Below.refl _ w1).alloc (Nat.le_refl _) _).grown hg2 (by simp) (fun k hk => by have e : w1.heap.size = k := Option.some.inj hk; omega); clear hg2; have hB2 : Below w.heap.size w w2 := hb1.trans (hB12.mono hs1); have hs2 := hB12.size; rw [Nat.zero_add, List.nil_append] at hf2; obtain ⟨af, cf, rfl, haf⟩ := owns_shape hf2)
    | (go_at_call 18; refine (hA15 _).mono ?_; rintro _ wy ⟨rfl, rfl⟩)
    | go_in)
  · go_ret2
    exact ⟨_, _, rs, rs3, rfl, owns_below (owns_below hown1 hB12) hb3, owns_base hown3 hB2.size, ⟨hG, hG3, hl3, by have := hX3.2.1; omega, nameZ_of hX.2.2, nameZ_of hX3.2.2⟩, hB2.trans (hb3.mono hB2.size)⟩
  · have hst := fun o => (World.ownsRow.alloc (hf2.stored (at0 * 3 + 1) (.string ⟨#[91, 97, 45, 98, 93]⟩)).1) o
    go_ret2
    exact ⟨_, _, rs, setT rs at0 10 ⟨#[91, 97, 45, 98, 93]⟩, rfl, owns_below hown1 ((hB12.setCell (by show w1.heap.size ≤ g; omega) _).alloc (by simp [World.setCell]; omega) _), by rw [setT_len, ← setT_cells _ _ _ _ hat]; exact owns_base (hst _) hs1, .text hG hl3 (nameZ_of hX.2.2) at0 (by decide) rfl, (hB2.setCell (by show w.heap.size ≤ g; omega) _).alloc (by simp [World.setCell]; omega) _⟩
end Go.Proofs.YtopicmcaoeameaaGreatDoor
namespace Go.Proofs.YtopicmcaoeameaaGreatDoor
open Go Go.Ev Go.RowKit Go.Smap

/-- cells stored one behind the other -/
def setAll : List Value → Nat → List Value → List Value
  | xs, _, [] => xs
  | xs, j, v :: r => setAll (xs.set j v) (j + 1) r
theorem stored_all {base g n cap : Nat} {e : TypeId} {size : Nat} : ∀ (news : List Value) (j : Nat) {w : World} {xs : List Value}, w.ownsRow base e size (.slice (some ⟨g, 0, none⟩) n cap) n xs → (w.setCells g j news).ownsRow base e size (.slice (some ⟨g, 0, none⟩) n cap) n (setAll xs j news)
  | [], _, _, _, h => h
  | v :: r, j, _, _, h => stored_all r (j + 1) (h.stored j v).1
theorem below_setCells {B g : Nat} {a : World} (hg : B ≤ g) : ∀ (news : List Value) (j : Nat) {w : World}, Below B a w → Below B a (w.setCells g j news)
  | [], _, _, h => h
  | v :: r, j, _, h => below_setCells hg r (j + 1) (h.setCell hg v)
theorem setAll_app : ∀ (news A B : List Value), news.length ≤ B.length → setAll (A ++ B) A.length news = A ++ news ++ B.drop news.length
  | [], A, B, _ => by simp [setAll]
  | v :: r, A, [], h => by simp at h
  | v :: r, A, b :: B, h => by
    show setAll ((A ++ b :: B).set A.length v) (A.length + 1) r = _
    have h1 : (A ++ b :: B).set A.length v = (A ++ [v]) ++ B := by
      rw [List.set_append_right _ _ (Nat.le_refl _), Nat.sub_self]
      simp
    have h2 := setAll_app r (A ++ [v]) B (by simpa using h)
    rw [List.length_append, List.length_singleton] at h2
    rw [h1, h2]
    simp
theorem owns_take {w : World} {base : Nat} {e : TypeId} {size g n m cap : Nat} {xs : List Value} (h : w.ownsRow base e size (.slice (some ⟨g, 0, none⟩) n cap) n xs) (hm : m ≤ n) : w.ownsRow base e size (.slice (some ⟨g, 0, none⟩) m cap) m (xs.take (m * size)) := by
  have hmn : m * size ≤ n * size := Nat.mul_le_mul_right size hm
  refine ⟨by rw [List.length_take, h.1]; omega, .inr ?_⟩
  rcases h.2 with ⟨e1, _⟩ | ⟨g', cap', cur, e1, g2, g3, g4, g5, g6, g7⟩
  · cases e1
  · cases e1
    exact ⟨g, cap, cur, rfl, g2, g3, by omega, g5, g6, by rw [← g7, List.take_take, Nat.min_eq_left hmn]⟩
theorem Pair.less {rs rb : List Rl} (h : Good rs) (hl : rs.length ≤ 3) (hn : ∀ r ∈ rs, NameZ r.name) (hs : rb.Sublist rs) : Pair rs rb :=
  ⟨h, ⟨Nat.le_trans hs.length_le h.len, (hs.map Rl.name).nodup h.nodup, fun r hr => h.each r (hs.subset hr)⟩, hl, by have := hs.length_le; omega, hn, fun r hr => hn r (hs.subset hr)⟩
set_option maxHeartbeats 16000000 in
set_option maxRecDepth 1000000 in
theorem sides_1 {w : World} {v : Value} {l : List Int} (h : SlArg w v l) {how : Int} (hh : -9223372036854775808 ≤ how ∧ how ≤ 9223372036854775807) (hK : ∀ w', Calls Tryz.prog 18 #[.int .i64 how, .int .i64 5] w' fun e w1 => e = .returned (.int .i64 (1 : Int)) ∧ w' = w1) :
    Calls Tryz.prog 7 #[v, .int .i64 how] w fun e w' => sidesPost w w' e := by
  have hm0 := made_walk2 h 0 (by omega)
  have hm6 := fun w' (hb : Below w.heap.size w w') => made_walk2 (h.below hb) 6 (by omega)
  have hA5 : ∀ (w' : World) (m : Nat), 0 < m → m ≤ 3 → Calls Tryz.prog 18 #[.int .i64 (how.tdiv 5), .int .i64 (m : Int)] w' fun e w1 => ∃ a : Nat, a < m ∧ e = .returned (.int .i64 (a : Int)) ∧ w' = w1 := fun w' m hm h3 => around_nat (tdiv_in hh 5 (by omega)) w' hm (by omega)
  obtain ⟨i0, hi0, hz0, hz1, hz2⟩ := info_parts info27
  have M0 : Hid True := trivial
  clear h
  go_enter Tryz.func7, Tryz.ntmps7
  go_wp2_with (first
    | (go_at_call 14; clear M0; refine hm0.mono ?_; clear hm0; rintro _ w1 ⟨v1, rs, rfl, hown1, hG, hX, hb1⟩; obtain ⟨a1, c1, rfl, ha1⟩ := owns_shape hown1; have hl3 := hX.2.1; have hu := append_src hown1 (.cells #[] 27); have hlit := World.ownsRow_lit (e := 27) (size := 3) w1 #[] 0 (Nat.le_refl _) (by unfold maxLen; omega) rfl; have hs1 := hb1.size)
    | (go_at_call 14; refine (hm6 _ hB2).mono ?_; clear hm6; rintro _ w3 ⟨v3, rs3, rfl, hown3, hG3, hX3, hb3⟩)
    | (go_at_call 18; refine (hK _).mono ?_; clear hK; rintro _ wx ⟨rfl, rfl⟩)
    | (go_at_call 18; have hpos : 0 < rs.length := (by have h0 : ((rs.length : Int) == 0) = false := (by assumption); simp only [beq_eq_false_iff_ne, ne_eq] at h0; omega); refine (hA5 _ rs.length hpos hl3).mono ?_; clear hA5; rintro _ wx ⟨at0, hat, rfl, rfl⟩)
    | (at_builtin; refine wpList_append_any rfl _ _ 23 rfl i0 _ 40 Tryz.underlying23 hi0 hz0 hz1 hz2 rfl (by decide) _ 0 [] rfl hlit _ rs.length (rs.flatMap Rl.cells) rfl hu (rl_len rs) (rl_one rs) (by unfold maxLen; omega) (by omega) (by simp) ?_; clear hu hlit; intro vf w2 hf2 hg2; have hB12 : Below w1.heap.size w1 w2 := ((Below.refl _ w1).alloc (Nat.le_refl _) _).grown hg2 (by simp) (fun k hk => by have e : w1.heap.size = k := Option.some.inj hk; omega); clear hg2; have hB2 : Below w.heap.size w w2 := hb1.trans (hB12.mono hs1); have hs2 := hB12.size; rw [Nat.zero_add, List.nil_append] at hf2; obtain ⟨af, cf, rfl, haf⟩ := owns_shape hf2)
    | go_in)
  · go_ret2
    exact ⟨_, _, rs, rs3, rfl, owns_below (owns_below hown1 hB12) hb3, owns_base hown3 hB2.size, ⟨hG, hG3, hl3, by have := hX3.2.1; omega, nameZ_of hX.2.2, nameZ_of hX3.2.2⟩, hB2.trans (hb3.mono hB2.size)⟩
  · have hcf : rs.length ≤ cf := by
      rcases hf2.2 with ⟨e, h0⟩ | ⟨g, cap, cur, e, _, _, h3, _⟩
      · omega
      · injection e with e1 e2 e3
        omega
    have hat1 : at0 + 1 ≤ rs.length := hat
    have hat2 : at0 ≤ cf := by omega
    have hat3 : at0 + 1 ≤ cf := by omega
    obtain ⟨g, rfl⟩ := haf (by omega)
    obtain ⟨b, hb⟩ : ∃ b, at0 + 1 = b := ⟨_, rfl⟩
    have hw : IntKind.i64.wrap ((at0 : Int) + 1) = (b : Int) := by rw [IntKind.wrap_i64]; omega
    have hbl : b ≤ rs.length := by omega
    have hbl2 : (b : Int) ≤ (rs.length : Int) := by omega
    have hab : at0 ≤ b := by omega
    have hlg := World.ownsRow.lt hf2 g rfl
    have hcells : ∀ (idx : Nat), idx < rs.length * 3 → (w2.drew.cell? ⟨g, idx, none⟩).isSome = true ∧ w2.drew.frozen? ⟨g, idx, none⟩ = false := fun idx hi => by
      refine ⟨?_, hf2.frozenAt idx⟩
      have : w2.cell? ⟨g, idx, none⟩ = (rs.flatMap Rl.cells)[idx]? := hf2.cellAt idx (by omega)
      show (w2.cell? ⟨g, idx, none⟩).isSome = true
      rw [this, List.getElem?_eq_getElem (by rw [rl_len]; omega)]
      rfl
    by_cases hlast : cf = b
    · subst hlast
      have hrb : rs.length - cf = 0 := by omega
      go_region_law (refine step_append_room (by rfl) _ _ _ (by rfl) 27 i0 3 Tryz.underlying23 hi0 hz1 g 0 at0 cf (by go_simp) ⟨g, 0, none⟩ 0 0 [] (by go_simp) (by rfl) (fun j u hu => by simp at hu) (fun u hu => by simp at hu) (by omega) (fun j hj => absurd hj (by simp)) ?_)
      all_goals
        have hB3 : Below w1.heap.size w1 w2.drew := hB12.drew
        have hfin : w2.drew.ownsRow w.heap.size 27 3 (.slice (some ⟨g, 0, none⟩) at0 cf) (rs.take at0).length ((rs.take at0).flatMap Rl.cells) := by
          have h1 := owns_take (m := at0) (owns_base (World.ownsRow.drew hf2) hs1) (by omega)
          have h2 : (rs.take at0).length = at0 := by rw [List.length_take]; omega
          have h3 : (rs.flatMap Rl.cells).take (at0 * 3) = (rs.take at0).flatMap Rl.cells := by
            conv => lhs; rw [← List.take_append_drop at0 rs]
            rw [List.flatMap_append, List.take_left' (by rw [rl_len, h2])]
          rw [h2, ← h3]
          exact h1
        go_wp2
        go_ret2
        exact ⟨_, _, rs, rs.take at0, rfl, owns_below hown1 hB3, hfin, .less hG hl3 (nameZ_of hX.2.2) (List.take_sublist _ _), hb1.trans (hB3.mono hs1)⟩
    · have hpart := part_cells hf2 (List.take_append_drop b rs).symm
      have hlb : (rs.take b).length = b := by rw [List.length_take]; omega
      rw [hlb] at hpart
      have hnl : ((rs.drop b).flatMap Rl.cells).length = (rs.length - b) * 3 := by rw [rl_len, List.length_drop]
      have hsp : ∀ j, j < ((rs.drop b).flatMap Rl.cells).length → (w2.drew.cell? ⟨g, 0 + at0 * 3 + j, none⟩).isSome = true ∧ w2.drew.frozen? ⟨g, 0 + at0 * 3 + j, none⟩ = false := fun j hj => hcells _ (by rw [hnl] at hj; omega)
      go_region_law (refine step_append_room (by rfl) _ _ _ (by rfl) 27 i0 3 Tryz.underlying23 hi0 hz1 g 0 at0 cf (by go_simp) ⟨g, b * 3, none⟩ (rs.length - b) (cf - b) ((rs.drop b).flatMap Rl.cells) (by go_simp) hnl hpart.1 (rl_one _) (by omega) hsp ?_)
      all_goals
        have hB3 : Below w1.heap.size w1 (w2.drew.setCells g (at0 * 3) ((rs.drop b).flatMap Rl.cells)) := below_setCells hlg.1 _ _ hB12.drew
        have hfin : (w2.drew.setCells g (at0 * 3) ((rs.drop b).flatMap Rl.cells)).ownsRow w.heap.size 27 3 (.slice (some ⟨g, 0, none⟩) (at0 + (rs.length - b)) cf) (rs.take at0 ++ rs.drop b).length ((rs.take at0 ++ rs.drop b).flatMap Rl.cells) := by
          have h1 := owns_take (m := at0 + (rs.length - b)) (stored_all ((rs.drop b).flatMap Rl.cells) (at0 * 3) (owns_base (World.ownsRow.drew hf2) hs1)) (by omega)
          have h2 : (rs.take at0).length = at0 := by rw [List.length_take]; omega
          have h4 : (rs.take at0 ++ rs.drop b).length = at0 + (rs.length - b) := by rw [List.length_append, h2, List.length_drop]
          have h3 : (setAll (rs.flatMap Rl.cells) (at0 * 3) ((rs.drop b).flatMap Rl.cells)).take ((at0 + (rs.length - b)) * 3) = (rs.take at0 ++ rs.drop b).flatMap Rl.cells := by
            have h5 : rs.flatMap Rl.cells = (rs.take at0).flatMap Rl.cells ++ (rs.drop at0).flatMap Rl.cells := by rw [← List.flatMap_append, List.take_append_drop]
            have h6 : at0 * 3 = ((rs.take at0).flatMap Rl.cells).length := by rw [rl_len, h2]
            rw [h5, h6, setAll_app _ _ _ (by rw [rl_len, rl_len, List.length_drop, List.length_drop]; omega), List.flatMap_append, List.take_left' (by rw [List.length_append, rl_len, rl_len, h2, List.length_drop]; omega)]
          rw [h4, ← h3]
          exact h1
        go_wp2
        go_ret2
        exact ⟨_, _, rs, rs.take at0 ++ rs.drop b, rfl, owns_below hown1 hB3, hfin, .less hG hl3 (nameZ_of hX.2.2) (by
          conv => rhs; rw [← List.take_append_drop at0 rs]
          refine List.Sublist.append (List.Sublist.refl _) ?_
          rw [← hb, ← List.drop_drop]
          exact List.drop_sublist 1 _), hb1.trans (hB3.mono hs1)⟩
/-- Around, its result known -/
theorem around_at {z : Int} (hz : -9223372036854775808 ≤ z ∧ z ≤ 9223372036854775807) {m : Nat} (hm : 0 < m) (h3 : m ≤ 1000000) {a : Int} (ha : arnd z m = a) (w' : World) : Calls Tryz.prog 18 #[.int .i64 z, .int .i64 (m : Int)] w' fun e w1 => e = .returned (.int .i64 a) ∧ w' = w1 := by
  refine Calls.mono (around_walk z m w' hm hz.1 hz.2 (by omega)) ?_
  rintro e w1 ⟨rfl, rfl⟩
  rw [ha]; exact ⟨rfl, rfl⟩
theorem sides_walk {w : World} {v : Value} {l : List Int} (h : SlArg w v l) {how : Int} (hh : -9223372036854775808 ≤ how ∧ how ≤ 9223372036854775807) : Calls Tryz.prog 7 #[v, .int .i64 how] w fun e w' => sidesPost w w' e := by
  obtain ⟨ka, kb⟩ := arnd_in how 5 (by omega)
  obtain ⟨qa, qb⟩ := arnd_in (how.tdiv 15) 5 (by omega)
  have hq := tdiv_in hh 15 (by omega)
  have K := fun (a : Int) (e : arnd how 5 = a) => around_at hh (m := 5) (by omega) (by omega) e
  have Q := fun (a : Int) (e : arnd (how.tdiv 15) 5 = a) => around_at hq (m := 5) (by omega) (by omega) e
  obtain hk | hk | hk | hk | hk : arnd how 5 = 0 ∨ arnd how 5 = 1 ∨ arnd how 5 = 2 ∨ arnd how 5 = 3 ∨ arnd how 5 = 4 := by omega
  · obtain hj | hj | hj | hj | hj : arnd (how.tdiv 15) 5 = 0 ∨ arnd (how.tdiv 15) 5 = 1 ∨ arnd (how.tdiv 15) 5 = 2 ∨ arnd (how.tdiv 15) 5 = 3 ∨ arnd (how.tdiv 15) 5 = 4 := by omega
    · exact sides_00 h hh (K _ hk) (Q _ hj)
    · exact sides_01 h hh (K _ hk) (Q _ hj)
    · exact sides_02 h hh (K _ hk) (Q _ hj)
    · exact sides_03 h hh (K _ hk) (Q _ hj)
    · exact sides_04 h hh (K _ hk) (Q _ hj)
  · exact sides_1 h hh (K _ hk)
  · exact sides_2 h hh (K _ hk)
  · exact sides_3 h hh (K _ hk)
  · exact sides_4 h hh (K _ hk)
end Go.Proofs.YtopicmcaoeameaaGreatDoor
namespace Go.Proofs.YtopicmcaoeameaaGreatDoor
open Go Go.Ev Go.RowKit

noncomputable def gloPM (n at' : Nat) (pre : List Nat) : Glo := ⟨fun _ => [], [], [], ro3 ++ [(nR, runsOf 3), (nT, cellsP 3 at' pre n 0)]⟩
noncomputable def evalM (n at' : Nat) (pre : List Nat) : Option (Int × Bool) :=
  match (calOf (gloPM n at' pre)).fn 48 [.sl nR 0 1 1 1, .sl nT 0 n n 1, .int .i64 at', .int .i64 2000] HM n1 with
  | .ok (.tup [.agg [.int .i64 s, .int .i64 e, v], .bool ok, .int .i64 err]) H _ => (match freeH H (nT :: nR :: ro3.map (·.1)), isSl v, ieq err 0, machOK H with
    | true, true, true, true => (match ok with | true => (match ieq s at' with | true => some (e, true) | false => none) | false => some (e, false))
    | _, _, _, _ => none)
  | _ => none
noncomputable def treeM (n at' : Nat) : Bool := treeG (evalM n at') (clz 3).length (n - at') []
theorem treeM_ok {n at' : Nat} (h : treeM n at' = true) {t : List Int} (hb : ∀ x ∈ t, 0 ≤ x ∧ x ≤ 255) (hn : t.length = n) (ha : at' ≤ n) : ∃ pre r, InP 3 t at' pre ∧ evalM n at' pre = some r :=
  treeG_ok (by decide) hb hn (n - at') [] h (fun i c hi => by simp at hi) (by simp; omega)
theorem evalM_inv {n at' : Nat} {pre : List Nat} {R : Int × Bool} (h : evalM n at' pre = some R) : ∃ s v H m, (calOf (gloPM n at' pre)).fn 48 [.sl nR 0 1 1 1, .sl nT 0 n n 1, .int .i64 at', .int .i64 2000] HM n1 = .ok (.tup [.agg [.int .i64 s, .int .i64 R.1, v], .bool R.2, .int .i64 0]) H m ∧
    freeH H (nT :: nR :: ro3.map (·.1)) = true ∧ isSl v = true ∧ machOK H = true ∧ (R.2 = true → s = at') := by
  unfold evalM at h
  split at h
  · rename_i s e v ok err H m h0
    split at h
    · rename_i hf hv he hm
      have he0 : err = 0 := by
        rw [ieq_eq] at he
        simpa using he
      subst he0
      split at h
      · split at h
        · rename_i hs
          cases h
          exact ⟨s, v, H, m, h0, hf, hv, hm, fun _ => by rw [ieq_eq] at hs; simpa using hs⟩
        · cases h
      · cases h
        exact ⟨s, v, H, m, h0, hf, hv, hm, fun h => by cases h⟩
    · cases h
  · cases h
set_option maxRecDepth 1000000 in
theorem plU_more : plL (nameOf (planU 3)) (runsOf 3) = true ∧ nameOf (planU 3) nR = false := by decide +kernel
set_option maxRecDepth 1000000 in
theorem callMach2 {P : Program} {cal : Cal} {cells runs : List V} (k : CalOK P ⟨fun _ => [], [], [], ro3 ++ [(nR, runs), (nT, cells)]⟩ cal) (hruns : plL (nameOf (planU 3)) runs = true) {f : Nat} {args : List V} {v : V} {H : Heap} {n m : Pth}
    (h : cal.fn f args HM m = .ok v H n) (hfree : freeH H (nT :: nR :: ro3.map (·.1)) = true) (hm : machOK H = true) {lo hi b mb : Nat} {w : World} {xr : List Value} (hw : ∃ ι : Emb, RoIs ι (planU 3) w ∧ ι (root 3) = some (b, 0) ∧ (∀ e ∈ planU 3, ∀ c s, ι e.1 = some (c, s) → lo ≤ c ∧ c < hi ∧ (c = mb ↔ (3 : Nat) = 3 ∧ e.1 = nMach)) ∧
      ((3 : Nat) = 3 → ι nMach = some (mb, 0) ∧ ∃ c el fr, w.heap[mb]? = some (.cells c el fr) ∧ (fr.1 = fr.2 ∨ c.size ≤ fr.1) ∧ ι.size mb = c.size) ∧ V.rels ι runs xr)
    {tb : Nat} (htb : tb < lo ∨ hi ≤ tb) {c : Array Value} {el : TypeId} {fr : Nat × Nat} (hb : w.heap[tb]? = some (.cells c el fr)) (σ : Nat → Int) (tsz : Nat)
    (hc : ∀ ι : Emb, ι.sym = σ → V.rels ι cells ((c.toList.drop 0).take cells.length)) {g : Nat} (hg : g < lo ∨ hi ≤ g) (gtb : g ≠ tb) {cg : Array Value} {elg : TypeId} {frg : Nat × Nat} (hbg : w.heap[g]? = some (.cells cg elg frg)) (hcg : (cg.toList.drop 0).take runs.length = xr) (gsz : Nat) (xs : Array Value)
    (hxs : ∀ ι : Emb, ι (root 3) = some (b, 0) → ι nT = some (tb, 0) → ι.size tb = tsz → ι nR = some (g, 0) → ι.size g = gsz → ι.sym = σ → V.rels ι args xs.toList) :
    Calls P f xs w fun e w1 => ∃ x ι', e = .returned x ∧ V.rel ι' v x ∧ Bel (fun k => k = mb) w.heap.size w w1 := by
  obtain ⟨ι, hro, hr, hin, hma, hrr⟩ := hw
  obtain ⟨hm1, mc, mel, mfr, hm2, hm3, hm4⟩ := hma rfl
  obtain ⟨⟨cl1, cl2⟩, hT, hroot, hnm⟩ := plU_closed
  have hR := plU_more.2
  have hTR : nT ≠ nR := by decide +kernel
  have hmn : nameOf (planU 3) nMach = true := nameOf_iff.2 ⟨(nMach, mach0), List.mem_cons_self .., rfl⟩
  let ι' : Emb := ⟨fun p => if nT = p then some (tb, 0) else if nR = p then some (g, 0) else if nameOf (planU 3) p = true then ι p else none, fun x => if x = tb then tsz else if x = g then gsz else ι.size x, σ⟩
  have eT : ι' nT = some (tb, 0) := by show (if nT = nT then some (tb, 0) else if nR = nT then some (g, 0) else if nameOf (planU 3) nT = true then ι nT else none) = _; rw [if_pos rfl]
  have eR : ι' nR = some (g, 0) := by show (if nT = nR then some (tb, 0) else if nR = nR then some (g, 0) else if nameOf (planU 3) nR = true then ι nR else none) = _; rw [if_neg hTR, if_pos rfl]
  have eN : ∀ p, nameOf (planU 3) p = true → ι' p = ι p := fun p hp => by
    have hne : nT ≠ p := fun e => by rw [e, hp] at hT; cases hT
    have hne2 : nR ≠ p := fun e => by rw [e, hp] at hR; cases hR
    show (if nT = p then some (tb, 0) else if nR = p then some (g, 0) else if nameOf (planU 3) p = true then ι p else none) = _
    rw [if_neg hne, if_neg hne2, if_pos hp]
  have hmem : ∀ p, nameOf (planU 3) p = true → ∀ c s, ι p = some (c, s) → c ≠ tb ∧ c ≠ g := fun p hp c s hc => by
    obtain ⟨x, hx, rfl⟩ := nameOf_iff.1 hp
    obtain ⟨l1, l2, _⟩ := hin x hx c s hc
    constructor
    · intro e
      rw [e] at l1 l2
      rcases htb with h | h
      · exact Nat.not_le_of_lt h l1
      · exact Nat.not_le_of_lt l2 h
    · intro e
      rw [e] at l1 l2
      rcases hg with h | h
      · exact Nat.not_le_of_lt h l1
      · exact Nat.not_le_of_lt l2 h
  have hmove : ∀ p b s, nameOf (planU 3) p = true → ι p = some (b, s) → ι' p = some (b, s) ∧ ι'.size b = ι.size b := fun p x s hp hx =>
    ⟨(eN p hp).trans hx, by show (if x = tb then tsz else if x = g then gsz else ι.size x) = _; rw [if_neg (hmem p hp x s hx).1, if_neg (hmem p hp x s hx).2]⟩
  have eno : ∀ p, nT ≠ p → nR ≠ p → ¬ nameOf (planU 3) p = true → ι' p = none := fun p h1 h2 h3 => by
    show (if nT = p then some (tb, 0) else if nR = p then some (g, 0) else if nameOf (planU 3) p = true then ι p else none) = _
    rw [if_neg h1, if_neg h2, if_neg h3]
  have hlt : ∀ p b s, ι' p = some (b, s) → b < w.heap.size := fun p x s hx => by
    by_cases e : nT = p
    · subst e
      rw [eT] at hx
      cases hx
      exact (Array.getElem?_eq_some_iff.1 hb).1
    · by_cases e2 : nR = p
      · subst e2
        rw [eR] at hx
        cases hx
        exact (Array.getElem?_eq_some_iff.1 hbg).1
      · by_cases hp : nameOf (planU 3) p = true
        · rw [eN p hp] at hx
          obtain ⟨y, hy, rfl⟩ := nameOf_iff.1 hp
          obtain ⟨b', s', c', el', fr', h1, h2, _⟩ := hro y hy
          rw [hx] at h1
          cases h1
          exact (Array.getElem?_eq_some_iff.1 h2).1
        · rw [eno p e e2 hp] at hx; cases hx
  have eM : ι' nMach = some (mb, 0) := (eN _ hmn).trans hm1
  have hmtb : mb ≠ tb := (hmem nMach hmn mb 0 hm1).1
  have hmg : mb ≠ g := (hmem nMach hmn mb 0 hm1).2
  have hmlt : mb < w.heap.size := (Array.getElem?_eq_some_iff.1 hm2).1
  have hmr : V.rels ι' mach0 ((mc.toList.drop 0).take mach0.length) := by
    obtain ⟨b', s', c', el', fr', h1, h2, h3⟩ := hro (nMach, mach0) (List.mem_cons_self ..)
    rw [hm1] at h1
    cases h1
    rw [hm2] at h2
    cases h2
    exact V.rels.move hmove _ _ cl1 h3
  have hsz : ι'.size mb = mc.size := by show (if mb = tb then tsz else if mb = g then gsz else ι.size mb) = _; rw [if_neg hmtb, if_neg hmg]; exact hm4
  have st : ι'.size tb = tsz := by show (if tb = tb then tsz else if tb = g then gsz else ι.size tb) = _; rw [if_pos rfl]
  have sg : ι'.size g = gsz := by show (if g = tb then tsz else if g = g then gsz else ι.size g) = _; rw [if_neg gtb, if_pos rfl]
  have hHOK : HOK P ι' HM w := by
    refine ⟨fun p o ho => ?_, fun p q b s s' hp hq _ _ => (live_HM hp).trans (live_HM hq).symm, hlt⟩
    rw [HM_get] at ho
    split at ho
    · rename_i e
      subst e
      cases ho
      exact ⟨mb, 0, mc, mel, mfr, eM, hm2, hm3, hmr, hsz, rfl⟩
    · cases ho
  have hro' : ∀ e ∈ ro3, ∃ b s c el fr, ι' e.1 = some (b, s) ∧ w.heap[b]? = some (Obj.cells c el fr) ∧ V.rels ι' e.2 ((c.toList.drop s).take e.2.length) ∧ b ≠ mb := fun e he => by
    have he' : e ∈ planU 3 := List.mem_cons_of_mem _ he
    obtain ⟨b', s', c', el', fr', h1, h2, h3⟩ := hro e he'
    have hn : nameOf (planU 3) e.1 = true := nameOf_iff.2 ⟨e, he', rfl⟩
    refine ⟨b', s', c', el', fr', (eN _ hn).trans h1, h2, V.rels.move hmove _ _ (by have := List.all_eq_true.1 cl2 e he; exact this) h3, fun eb => ?_⟩
    have := ((hin e he' b' s' h1).2.2.1 eb).2
    have h5 : nameOf ro3 nMach = true := nameOf_iff.2 ⟨e, he, this⟩
    rw [hnm] at h5
    cases h5
  obtain ⟨_, _, hk⟩ := k.fn _ _ _ _ _ _ _ h
  refine (hk ι' w xs hHOK ⟨fun g i v h => by simp at h, fun g h => absurd rfl h, fun e he => by simp at he, fun e he => by simp at he, fun e he => by simp at he, fun e he => ?_⟩ (fun p h1 h2 => ?_)
    (hxs ι' ((eN _ hroot).trans hr) eT st eR sg rfl)).mono fun e w1 he => ?_
  · rcases List.mem_append.1 he with he | he
    · obtain ⟨b', s', c', el', fr', h1, h2, h3, h4⟩ := hro' e he
      refine ⟨b', s', c', el', fr', h1, h2, h3, fun q t hl hq => ?_⟩
      rw [live_HM hl, eM] at hq
      cases hq
      exact h4 rfl
    · simp only [List.mem_cons, List.not_mem_nil, or_false] at he
      rcases he with rfl | rfl
      · refine ⟨g, 0, cg, elg, frg, eR, hbg, ?_, fun q t hl hq => ?_⟩
        · rw [hcg]
          exact V.rels.move hmove _ _ hruns hrr
        · rw [live_HM hl, eM] at hq
          cases hq
          exact hmg rfl
      · refine ⟨tb, 0, c, el, fr, eT, hb, hc ι' rfl, fun q t hl hq => ?_⟩
        rw [live_HM hl, eM] at hq
        cases hq
        exact hmtb rfl
  · cases hp : ι' p with
    | none => rfl
    | some z =>
      exfalso
      by_cases e : nT = p
      · subst e
        exact h2 (freeH_ok hfree nT (List.mem_cons_self ..))
      · by_cases e2 : nR = p
        · subst e2
          exact h2 (freeH_ok hfree nR (List.mem_cons_of_mem _ (List.mem_cons_self ..)))
        · by_cases hn : nameOf (planU 3) p = true
          · obtain ⟨y, hy, rfl⟩ := nameOf_iff.1 hn
            rcases List.mem_cons.1 (show y ∈ (nMach, mach0) :: ro3 from hy) with rfl | hy'
            · rw [HM_get, if_pos rfl] at h1
              cases h1
            · exact h2 (freeH_ok hfree y.1 (List.mem_cons_of_mem _ (List.mem_cons_of_mem _ (List.mem_map.2 ⟨y, hy', rfl⟩))))
          · rw [eno p e e2 hn] at hp; cases hp
  · obtain ⟨x, rfl, ι'', hv', hs⟩ := he
    refine ⟨x, ι'', rfl, hv', hs.os, hs.tape, hs.out, hs.size, fun b hb hne => hs.kept b hb fun p s hl hp => ?_, fun b hb e => ?_⟩
    · rw [live_HM hl, eM] at hp
      cases hp
      exact hne rfl
    · subst e
      obtain ⟨l, hl1, hl2, hl3⟩ := machOK_get hm
      obtain ⟨b', s', c', el', fr', h1, h2, h3, h4, h5, h6⟩ := hs.hok.obj _ _ hl1
      rw [hs.ext.name _ _ eM] at h1
      cases h1
      have hsz' : c'.size = mc.size := by rw [← h5, hs.ext.same _ _ _ eM, hsz]
      refine .inr ⟨mc, c', mel, el', mfr, fr', hm2, h2, h3, hsz', fun i hi => ?_⟩
      have hm19 : mach0.length = 19 := rfl
      have r1 := rels_take 14 _ _ hmr
      have r2 := rels_take 14 _ _ h4
      rw [hl2] at r2
      have heq := rigids_eq hs.ext _ _ _ mach_rigid r1 r2
      rw [hl3, hm19, List.drop_zero, List.drop_zero, List.take_take, List.take_take] at heq
      have := congrArg (fun l => l[i]?) heq
      simp only [List.getElem?_take] at this
      rw [if_pos (by omega), if_pos (by omega), Array.getElem?_toList, Array.getElem?_toList] at this
      exact this
/-- where the plan with a machine lies, and its runs -/
def RunsM (lo hi mb : Nat) (w : World) (b : Nat) (xr : List Value) : Prop := ∃ ι : Emb, RoIs ι (planU 3) w ∧ ι (root 3) = some (b, 0) ∧ (∀ e ∈ planU 3, ∀ c s, ι e.1 = some (c, s) → lo ≤ c ∧ c < hi ∧ (c = mb ↔ (3 : Nat) = 3 ∧ e.1 = nMach)) ∧
      ((3 : Nat) = 3 → ι nMach = some (mb, 0) ∧ ∃ c el fr, w.heap[mb]? = some (.cells c el fr) ∧ (fr.1 = fr.2 ∨ c.size ≤ fr.1) ∧ ι.size mb = c.size) ∧ V.rels ι (runsOf 3) xr
theorem pos_m {n at' : Nat} {pre : List Nat} {R : Int × Bool} (h : evalM n at' pre = some R) {t : List Int} (hn : t.length = n) (hb : ∀ x ∈ t, 0 ≤ x ∧ x ≤ 255) (hp : InP 3 t at' pre)
    {lo hi b mb : Nat} {w : World} {xs : List Value} (hr : RunsM lo hi mb w b xs) {tb tc base base2 : Nat} (htb : tb < lo ∨ hi ≤ tb) (htx : w.ownsRow base 3 1 (.slice (some ⟨tb, 0, none⟩) n tc) n (t.map (Value.int .i64)))
    {g gc : Nat} (hg : g < lo ∨ hi ≤ g) (hgr : w.ownsRow base2 123 1 (.slice (some ⟨g, 0, none⟩) (runsOf 3).length gc) (runsOf 3).length xs) :
    Calls Tryz.prog 48 #[.slice (some ⟨g, 0, none⟩) (runsOf 3).length gc, .slice (some ⟨tb, 0, none⟩) n tc, .int .i64 (at' : Int), .int .i64 2000] w fun e w1 => ∃ s e' ca cm cc, e = .returned (.tuple #[.agg #[.int .i64 s, .int .i64 e', .slice ca cm cc], .bool R.2, .int .i64 0]) ∧
      (R.2 = true → s = at' ∧ e' = R.1) ∧ Bel (fun k => k = mb) w.heap.size w w1 := by
  obtain ⟨s, v, H, m, h0, hfree, hv, hmo, hs⟩ := evalM_inv h
  have hlen : ∀ d i, (cellsP 3 at' pre d i).length = d := fun d => by
    induction d with
    | zero => intro i; rfl
    | succ d ih => intro i; show (cellsP 3 at' pre d (i + 1)).length + 1 = _; rw [ih]
  rcases htx.2 with ⟨e, _⟩ | ⟨g1, c1, u1, e, _, q1, q2, q3, q4, q5⟩
  · cases e
  · cases e
    rcases hgr.2 with ⟨e, _⟩ | ⟨g2, c2, u2, e, _, p1, p2, p3, p4, p5⟩
    · cases e
    · cases e
      have gtb : g ≠ tb := fun e => by
        subst e
        rw [q1] at p1
        cases p1
      refine (callMach2 (cells := cellsP 3 at' pre n 0) (runs := runsOf 3) (xr := xs) (calOf_ok (gloPM n at' pre)) plU_more.1 h0 hfree hmo hr htb q1 (fun i => (t[i]?).getD 0) tc (fun ι hι => ?_) hg gtb p1 (by rw [List.drop_zero]; rw [Nat.mul_one] at p5; exact p5) gc _ (fun ι e1 e2 e3 e4 e5 _ => ?_)).mono ?_
      · rw [List.drop_zero, hlen]
        rw [Nat.mul_one] at q5
        rw [q5]
        have := cells_rel hb hp ι (fun i x hi => by rw [hι]; show (t[i]?).getD 0 = x; rw [hi]; rfl) n 0 (by omega)
        rw [List.drop_zero] at this
        exact this
      · exact rels_cons ⟨g, 0, gc, e4, rfl, p2, (fun h => absurd h (by decide)), (fun _ => by rw [e5]; omega)⟩ (rels_cons ⟨tb, 0, tc, e2, rfl, q2, (fun h => absurd h (by decide)), (fun _ => by rw [e3]; omega)⟩ (rels_cons rfl (rels_one rfl)))
      · rintro e w1 ⟨y, ι2, rfl, hy, hbel⟩
        obtain ⟨ca, cm, cc, rfl⟩ := out_rel hv hy
        exact ⟨s, R.1, ca, cm, cc, rfl, fun hR => ⟨hs hR, rfl⟩, hbel⟩
end Go.Proofs.YtopicmcaoeameaaGreatDoor
namespace Go.Proofs.YtopicmcaoeameaaGreatDoor
open Go Go.Ev Go.RowKit

theorem RunsM.bel {M : Nat → Prop} {B lo hi b mb : Nat} {w w' : World} {xr : List Value} (h : RunsM lo hi mb w b xr) (hb : Bel M B w w') (hB : hi ≤ B) (hM : ∀ c, lo ≤ c → c < hi → M c → (3 : Nat) = 3 ∧ c = mb) : RunsM lo hi mb w' b xr := by
  obtain ⟨ι, h1, h2, h3, h4, h5r⟩ := h
  refine ⟨ι, fun e he => ?_, h2, h3, fun hk => ?_, h5r⟩
  · obtain ⟨c, s, cs, el, fr, e1, e2, e3⟩ := h1 e he
    obtain ⟨l1, l2, l3⟩ := h3 e he c s e1
    by_cases hm : M c
    · obtain ⟨_, rfl⟩ := (show (3 : Nat) = 3 ∧ c = mb from hM c l1 l2 hm)
      have hn : e.1 = nMach := (l3.1 rfl).2
      have hcs : e.2 = mach0 := by
        rcases List.mem_cons.1 (show e ∈ (nMach, mach0) :: ro3 from he) with rfl | he'
        · rfl
        · have := (List.mem_filter.1 he').2
          rw [hn, (Pth.beq_iff nMach nMach).2 rfl] at this
          cases this
      rcases hb.mach c (by omega) hm with e4 | ⟨x, x', t, t', gr, gr', k1, k2, k3, k4, k5⟩
      · exact ⟨c, s, cs, el, fr, e1, e4.trans e2, e3⟩
      · rw [e2] at k1
        cases k1
        obtain ⟨e5, cs', el', fr', e7, e8, e9⟩ := h4 rfl
        rw [e2] at e7
        cases e7
        have hs0 : s = 0 := by rw [hn, e5] at e1; cases e1; rfl
        subst hs0
        refine ⟨c, 0, x', t', gr', e1, k2, ?_⟩
        rw [hcs] at e3 ⊢
        refine rels_swap (mach0.take 14) 5 _ _ e3 (by simp [k4]) fun i hi => ?_
        have hi' : i < 14 := by simpa [mach0] using hi
        have hm19 : mach0.length = 19 := rfl
        rw [List.drop_zero, List.drop_zero, List.getElem?_take, List.getElem?_take, hm19, if_pos (by omega), if_pos (by omega), Array.getElem?_toList, Array.getElem?_toList, k5 i hi']
    · exact ⟨c, s, cs, el, fr, e1, (hb.block c (by omega) hm).trans e2, e3⟩
  · obtain ⟨e5, cs, el, fr, e7, e8, e9⟩ := h4 hk
    refine ⟨e5, ?_⟩
    obtain ⟨l1, l2, _⟩ := h3 (nMach, mach0) (List.mem_cons_self ..) mb 0 e5
    by_cases hm : M mb
    · rcases hb.mach mb (by omega) hm with e4 | ⟨x, x', t, t', gr, gr', k1, k2, k3, k4, k5⟩
      · exact ⟨cs, el, fr, e4.trans e7, e8, e9⟩
      · rw [e7] at k1
        cases k1
        exact ⟨x', t', gr', k2, k3, e9.trans k4.symm⟩
    · exact ⟨cs, el, fr, (hb.block mb (by omega) hm).trans e7, e8, e9⟩
theorem in_planU {e : Pth × List V} (h : e ∈ plan 3) (hn : e.1 ≠ nMach) : e ∈ planU 3 := List.mem_cons_of_mem _ (List.mem_filter.2 ⟨h, by
  cases hb : e.1.beq nMach with
  | true => exact absurd ((Pth.beq_iff _ _).1 hb) hn
  | false => rfl⟩)
theorem root_memU : (root 3, rootC 3) ∈ planU 3 ∧ (engN 3, (engs 3).map (V.int .i64)) ∈ planU 3 ∧ (runN 3, runsOf 3) ∈ planU 3 ∧ root 3 ≠ nMach ∧ engN 3 ≠ nMach := by
  have h1 : root 3 ≠ nMach := by decide +kernel
  have h2 : engN 3 ≠ nMach := by decide +kernel
  have h3 : runN 3 ≠ nMach := by decide +kernel
  obtain ⟨m1, m2, m3⟩ := root_mem 3 (by decide)
  exact ⟨in_planU m1 h1, in_planU m2 h2, in_planU m3 h3, h1, h2⟩
theorem first_m {n : Nat} (htr : ∀ a ≤ n, treeM n a = true) (h1 : 1 ≤ n) (h5 : n ≤ 5) {t : List Int} (hn : t.length = n) (hb : ∀ x ∈ t, 0 ≤ x ∧ x ≤ 255) :
    ∃ R : Nat → Bool × Int, ∀ (M : Nat → Prop) (lo hi : Nat) (w : World) (pb tb tc base from' : Nat), (∀ c, M c → c < w.heap.size) → LaidM M 3 lo hi w pb → hi ≤ w.heap.size → (tb < lo ∨ hi ≤ tb) → ¬ M tb → w.ownsRow base 3 1 (.slice (some ⟨tb, 0, none⟩) n tc) n (t.map (Value.int .i64)) → from' ≤ n →
      Calls Tryz.prog 30 #[.pointer (some ⟨pb, 0, none⟩), .slice (some ⟨tb, 0, none⟩) n tc, .int .i64 (from' : Int), .int .i64 2000] w fun e w1 =>
        ∃ ca cm cc, e = .returned (.tuple #[.agg #[.int .i64 (goR R n from').s, .int .i64 (goR R n from').e, .slice ca cm cc], .bool (goR R n from').ok, .int .i64 (goR R n from').err]) ∧ Bel M w.heap.size w w1 := by
  have hex : ∀ a, ∃ r : Int × Bool, a ≤ n → ∃ pre, InP 3 t a pre ∧ evalM n a pre = some r := fun a => by
    by_cases ha : a ≤ n
    · obtain ⟨pre, r, q1, q2⟩ := treeM_ok (htr a ha) hb hn ha
      exact ⟨r, fun _ => ⟨pre, q1, q2⟩⟩
    · exact ⟨(0, false), fun h => absurd h ha⟩
  obtain ⟨f, hf⟩ := Classical.axiomOfChoice hex
  refine ⟨fun a => ((f a).2, (f a).1), fun M lo hi w pb tb tc base from' hMw hl hhi htb htm htx hfr => ?_⟩
  obtain ⟨lo', hi', mb, b1, b2, ⟨ι, hro, hroot, hin0, hma⟩, hmb⟩ := hl
  have hin : ∀ e ∈ planU 3, ∀ c s, ι e.1 = some (c, s) → lo' ≤ c ∧ c < hi' := fun e he c s h => ⟨(hin0 e he c s h).1, (hin0 e he c s h).2.1⟩
  have htb' : tb < lo' ∨ hi' ≤ tb := htb.imp (fun h => Nat.lt_of_lt_of_le h b1) (fun h => Nat.le_trans b2 h)
  have hhi' : hi' ≤ w.heap.size := Nat.le_trans b2 hhi
  have hnm : ∀ e ∈ planU 3, e.1 ≠ nMach → ∀ c s, ι e.1 = some (c, s) → ¬ M c := fun e he hne c s hc hm => hne ((((hin0 e he c s hc).2.2).1 ((hmb c (hin0 e he c s hc).1 (hin0 e he c s hc).2.1).1 hm).2).2)
  obtain ⟨m1, m2, m3, n1, n2⟩ := root_memU
  obtain ⟨l1, l2, l3, l4⟩ := runs_len 3 (by decide)
  obtain ⟨pb', s0, e1, e2, _, hc⟩ := ro_cell hro m1
  rw [hroot] at e1
  cases e1
  obtain ⟨x0, k0, rfl⟩ := hc 0 _ rfl
  obtain ⟨x1, k1, eb, es, c1, ee, rfl, _, _, _⟩ := hc 1 _ rfl
  obtain ⟨x3, k3, rb, rs, c3, re, rfl, _, _, _⟩ := hc 3 _ rfl
  obtain ⟨eb', es', ee', ebl, _, hec⟩ := ro_cell hro m2
  rw [ee] at ee'
  cases ee'
  obtain ⟨rb', rs', re', rbl, hrx, hrc⟩ := ro_cell hro m3
  rw [re] at re'
  cases re'
  obtain ⟨xs, hxs⟩ : ∃ xs, List.take (runsOf 3).length (List.drop rs ((w.heap[rb]?.map fun o => match o with | .cells c _ _ => c.toList | _ => []).getD [])) = xs := ⟨_, rfl⟩
  replace hrx : V.rels ι (runsOf 3) xs := by rw [← hxs]; exact hrx
  have hxl : xs.length = (runsOf 3).length := rels_length hrx
  have hpin := hin _ m1 _ _ hroot
  have hein := hin _ m2 _ _ ee
  have hcx : ∀ (j : Nat) (x : Value), xs[j]? = some x → w.cell? ⟨rb, rs + j, none⟩ = some x := fun j x hx => by
    have hjl : j < (runsOf 3).length := by rw [← hxl]; exact (List.getElem?_eq_some_iff.1 hx).1
    rw [← hxs, List.getElem?_take, if_pos hjl, List.getElem?_drop] at hx
    cases hw : w.heap[rb]? with
    | none => rw [hw] at hx; simp at hx
    | some o =>
      rw [hw] at hx
      cases o <;> simp at hx
      simp only [World.cell?, hw]
      exact hx
  have hone := fn_one _ _ (runs_fn 3 (by decide)) hrx
  refine first_walk (M := M) (es := engs 3) (g1 := eb) (g2 := es + 0) (c1 := c1) (rv0 := .slice (some ⟨rb, rs + 0, none⟩) (engs 3).length c3) (c2 := 0) (c3 := 0) (m := 0) (pv := .nilFunc)
    (OK := fun w' rv => ∃ g gc, rv = .slice (some ⟨g, 0, none⟩) (runsOf 3).length gc ∧ w'.ownsRow w.heap.size 123 1 rv (runsOf 3).length xs) (R := fun a => ((f a).2, (f a).1)) hMw e2 (hnm _ m1 n1 _ _ hroot) ebl (hnm _ m2 n2 _ _ ee) k0 k1 k3 (fun i e hi => ?_) (by omega) (fun w' hw' => ?_) (fun w' hw' => ?_) (fun w1 w2 rv h hb12 => ?_) (by omega) hfr (fun a ha w' rv hw' hok => ?_)
  · obtain ⟨x, hx, hr⟩ := hec i (.int .i64 e) (by rw [List.getElem?_map, hi]; rfl)
    refine ⟨l4 (by decide) e (List.mem_of_getElem? hi), ?_⟩
    rw [Nat.add_zero, hx]
    exact congrArg some hr
  · exact textE_walk h1 h5 hfr hn hb (owns_below htx hw')
  · rw [Nat.add_zero, ← l1]
    refine (clone_walk (xs := xs) hxl (by omega) (by omega) (fun j x hx => (hw'.cell (p := ⟨rb, rs + j, none⟩) rbl).trans (hcx j x hx)) hone (Nat.lt_of_lt_of_le rbl hw'.size)).mono ?_
    rintro e w1 ⟨v, rfl, hv, hb1⟩
    refine ⟨v, rfl, hb1, ?_⟩
    obtain ⟨a, c, rfl, ha⟩ := owns_shape hv
    obtain ⟨g, rfl⟩ := ha (by omega)
    exact ⟨g, c, rfl, owns_base hv hw'.size⟩
  · obtain ⟨g, gc, rfl, hg⟩ := h
    exact ⟨g, gc, rfl, owns_bel hg hb12 hMw⟩
  · obtain ⟨g, gc, rfl, hg⟩ := hok
    obtain ⟨pre, q1, q2⟩ := hf a ha
    have hgl := World.ownsRow.lt hg g rfl
    have hRM : RunsM lo' hi' mb w' pb xs := RunsM.bel (M := M) ⟨ι, hro, hroot, hin0, hma, hrx⟩ hw' hhi' (fun c c1 c2 hm => (hmb c c1 c2).1 hm)
    refine (pos_m q2 hn hb q1 hRM htb' (owns_bel1 htx hw' (fun g' hg' => by cases hg'; exact htm)) (.inr (Nat.le_trans hhi' hgl.1)) hg).mono ?_
    rintro e w1 ⟨s, e', ca, cm, cc, rfl, hval, hb1⟩
    obtain ⟨y1, y2⟩ := Laid1.mb ⟨ι, hro, hroot, hin0, hma⟩
    exact ⟨s, e', ca, cm, cc, rfl, hval, hb1.more fun c hc => (hmb c (hc ▸ y1) (hc ▸ y2)).2 ⟨rfl, hc⟩⟩
end Go.Proofs.YtopicmcaoeameaaGreatDoor
namespace Go.Proofs.YtopicmcaoeameaaGreatDoor
open Go Go.Ev Go.RowKit

/-- the function F at the values as0, whose result is v0, taken as done -/
noncomputable def memoCal (F : Nat) (as0 : List V) (v0 : V) (c : Cal) : Cal :=
  ⟨fun f xa H n => match Nat.beq f F with
    | true => (match veq 1000 (.agg xa) (.agg as0) with | true => .ok v0 H n | false => c.fn f xa H n)
    | false => c.fn f xa H n, c.rd⟩
def plainV : V → Bool | .int _ _ => true | .bool _ => true | _ => false
theorem plainV_rel {v : V} (h : plainV v = true) {ι ι' : Emb} {x : Value} (hx : V.rel ι v x) : V.rel ι' v x := by
  cases v <;> simp only [plainV] at h <;> first | exact hx | exact absurd h (by decide)
theorem memoCal_ok {P : Program} {Γ Γ1 : Glo} {F : Nat} {as0 : List V} {v0 : V} {c0 c : Cal} {H0 : Heap} {m0 n0 : Pth} (k0 : CalOK P Γ1 c0) (h : c0.fn F as0 .nil m0 = .ok v0 H0 n0) (hp : plainV v0 = true) (hval : Γ1.val = fun _ => []) (ht : Γ1.tab = []) (hl : Γ1.lds = [])
    (hsub : ∀ e ∈ Γ1.ro, e ∈ Γ.ro) (hcl : closedRo Γ1.ro = true) (has : plL (nameOf Γ1.ro) as0 = true) (hfree : freeH H0 (Γ1.ro.map (·.1)) = true) (k : CalOK P Γ c) : CalOK P Γ (memoCal F as0 v0 c) := by
  refine ⟨fun f xa H n v H' n' he => ?_, k.rd⟩
  have he' : (match Nat.beq f F with
    | true => (match veq 1000 (.agg xa) (.agg as0) with | true => Res.ok v0 H n | false => c.fn f xa H n)
    | false => c.fn f xa H n) = .ok v H' n' := he
  cases hf : Nat.beq f F with
  | false => simp only [hf] at he'; exact k.fn _ _ _ _ _ _ _ he'
  | true =>
    simp only [hf] at he'
    cases hq : veq 1000 (.agg xa) (.agg as0) with
    | false => simp only [hq] at he'; exact k.fn _ _ _ _ _ _ _ he'
    | true =>
      simp only [hq] at he'
      have hfF := beq_eq hf
      subst hfF
      have := veq_eq _ _ _ hq
      injection this with this
      subst this
      cases he'
      obtain ⟨_, hcall, hk⟩ := k0.fn _ _ _ _ _ _ _ h
      have noLive : ∀ p, ¬ Live (.nil : Heap) p := fun p hl => by obtain ⟨o, h1, _⟩ := hl; rw [Tr.get_nil] at h1; cases h1
      refine ⟨Mono.refl _, hcall, fun ι w xs hok gok hfr hxs => ?_⟩
      let ι0 : Emb := ⟨fun p => if nameOf Γ1.ro p = true then ι p else none, ι.size, ι.sym⟩
      have e0 : ∀ p, ι0 p = if nameOf Γ1.ro p = true then ι p else none := fun _ => rfl
      have hmove : ∀ p b s, nameOf Γ1.ro p = true → ι p = some (b, s) → ι0 p = some (b, s) ∧ ι0.size b = ι.size b := fun p b s hp hx => ⟨by rw [e0, if_pos hp]; exact hx, rfl⟩
      refine (hk ι0 w xs ⟨fun p o h => (by rw [Tr.get_nil] at h; cases h), fun p q b s s' h => absurd h (noLive p), fun p b s hpb => ?_⟩
        ⟨fun g i v h => (by rw [hval] at h; simp at h), fun g h => (by rw [hval] at h; exact absurd rfl h), fun e he => (by rw [ht] at he; simp at he), fun e he => (by rw [ht] at he; simp at he), fun e he => (by rw [hl] at he; simp at he), fun e he => ?_⟩ (fun p _ h2 => ?_) (V.rels.move hmove _ _ has hxs)).mono fun e w' he => ?_
      · rw [e0] at hpb
        split at hpb
        · exact hok.lt p b s hpb
        · cases hpb
      · obtain ⟨b, s, cs, el, fr, h1, h2, h3, _⟩ := gok.ro e (hsub e he)
        exact ⟨b, s, cs, el, fr, (hmove _ _ _ (nameOf_iff.2 ⟨e, he, rfl⟩) h1).1, h2, V.rels.move hmove _ _ (closedRo_ok hcl e he) h3, fun q t hl => absurd hl (noLive q)⟩
      · rw [e0]
        by_cases hn : nameOf Γ1.ro p = true
        · obtain ⟨y, hy, rfl⟩ := nameOf_iff.1 hn
          exact absurd (freeH_ok hfree y.1 (List.mem_map.2 ⟨y, hy, rfl⟩)) h2
        · rw [if_neg hn]
      · obtain ⟨x, rfl, ι', hv, hs⟩ := he
        have hkept : ∀ b, b < w.heap.size → w'.heap[b]? = w.heap[b]? := fun b hb => hs.kept b hb fun p s hl => absurd hl (noLive p)
        exact ⟨x, rfl, ι, plainV_rel hp hv, ⟨Emb.le.refl _, fun _ h1 h2 => absurd h1 h2, ⟨fun p o hp => O.ok_mono (hok.obj p o hp) (Emb.le.refl _) fun b s _ hp' => hkept b (hok.lt p b s hp'), hok.inj, fun p b s hp => Nat.lt_of_lt_of_le (hok.lt p b s hp) hs.size⟩,
          fun b hb _ => hkept b hb, hs.size, fun p b s hl hp _ => ⟨p, s, hl, hp⟩, hs.tape, hs.os, hs.out⟩⟩
/-- the function F, asked whether a number that is not 97 lies in the set of 97 alone: it does not -/
noncomputable def hasCal (F : Nat) (Γ : Glo) (c : Cal) : Cal :=
  ⟨fun f xa H n => match Nat.beq f F, xa with
    | true, [.sl p o m l e, .sym i .i64 a b] => (match Nat.beq m 1, tabOf Γ.tab 5 (.sym i .i64 a b) (.int .i64 97), roOf Γ.ro p with
      | true, some (.bool false), some cs => (match nth cs o, nth cs (Nat.succ o) with
        | some (.int .i64 x), some (.int .i64 y) => (match ieq x 97, ieq y 97 with | true, true => .ok (.bool false) H n | _, _ => .bad)
        | _, _ => .bad)
      | _, _, _ => .bad)
    | _, _ => c.fn f xa H n, c.rd⟩
theorem hasCal_ok {P : Program} {Γ : Glo} {F : Nat} (hF : Callable P F) (h : ∀ (w : World) (b s cap : Nat) (x : Int), x ≠ 97 → w.cell? ⟨b, s, none⟩ = some (.int .i64 97) → w.cell? ⟨b, s + 1, none⟩ = some (.int .i64 97) →
      Calls P F #[.slice (some ⟨b, s, none⟩) 1 cap, .int .i64 x] w fun e w' => e = .returned (.bool false) ∧ Below w.heap.size w w') {c : Cal} (k : CalOK P Γ c) : CalOK P Γ (hasCal F Γ c) := by
  refine ⟨fun f xa H n v H' n' he => ?_, k.rd⟩
  have he' : (match Nat.beq f F, xa with
    | true, [.sl p o m l e, .sym i .i64 a b] => (match Nat.beq m 1, tabOf Γ.tab 5 (.sym i .i64 a b) (.int .i64 97), roOf Γ.ro p with
      | true, some (.bool false), some cs => (match nth cs o, nth cs (Nat.succ o) with
        | some (.int .i64 x), some (.int .i64 y) => (match ieq x 97, ieq y 97 with | true, true => Res.ok (.bool false) H n | _, _ => .bad)
        | _, _ => .bad)
      | _, _, _ => .bad)
    | _, _ => c.fn f xa H n) = .ok v H' n' := he
  split at he'
  · rename_i p o m l e i a b hf
    split at he'
    · rename_i cs hm htab hro
      split at he'
      · rename_i x y hx hy
        split at he'
        · rename_i hx9 hy9
          cases he'
          have hfF := beq_eq hf
          subst hfF
          have hm1 := beq_eq hm
          subst hm1
          rw [ieq_eq] at hx9 hy9
          have hx97 : x = 97 := by simpa using hx9
          have hy97 : y = 97 := by simpa using hy9
          subst hx97; subst hy97
          refine ⟨Mono.refl _, hF, fun ι w xs hok gok hfr hxs => ?_⟩
          obtain ⟨z, t, e1, hz, ht⟩ := rels_cons_inv hxs
          obtain ⟨u, t2, rfl, hu, ht2⟩ := rels_cons_inv ht
          have := rels_nil_inv ht2; subst this
          obtain ⟨blk, s, cap, q1, rfl, q2, _, _⟩ := hz
          simp only [V.rel] at hu
          obtain ⟨rfl, u1, u2⟩ := hu
          obtain ⟨en, hem, g1, g2, g3, g4⟩ := tabOf_ok htab
          obtain ⟨vv, t1, t2⟩ := gok.tab en hem .i64 (ι.sym i) 97 (by rw [g2]; simp only [V.rel]; exact ⟨trivial, u1, u2⟩) (by rw [g3]; simp only [V.rel]) .eql (by rw [g1]; rfl)
          have hne : ι.sym i ≠ 97 := fun e => by
            rw [e] at t1
            have : vv = .bool true := (Option.some.inj t1).symm
            subst this
            rw [g4] at t2
            simp only [V.rel, valOf] at t2
            cases t2
          have hxe : xs = #[.slice (some ⟨blk, s + o, none⟩) 1 cap, .int .i64 (ι.sym i)] := by apply Array.toList_inj.1; rw [e1]
          subst hxe
          obtain ⟨b2, s2, c2, el, fr, r1, r2, r3, _⟩ := gok.ro _ (roOf_mem hro)
          have r1' : ι p = some (b2, s2) := r1
          rw [q1] at r1'
          cases r1'
          have cellOf : ∀ (j : Nat) (v : V) , nth cs j = some v → ∃ x, w.cell? ⟨blk, s + j, none⟩ = some x ∧ V.rel ι v x := fun j v hv => by
            rw [nth_eq] at hv
            obtain ⟨x, hx, hr⟩ := rels_get r3 hv
            have hj : j < cs.length := (List.getElem?_eq_some_iff.1 hv).1
            refine ⟨x, ?_, hr⟩
            rw [List.getElem?_take_of_lt hj, List.getElem?_drop, Array.getElem?_toList] at hx
            simp only [World.cell?, r2]
            exact hx
          obtain ⟨x0, c0, d0⟩ := cellOf _ _ hx
          obtain ⟨x1, c1, d1⟩ := cellOf _ _ hy
          simp only [V.rel] at d0 d1
          subst d0; subst d1
          refine (h w blk (s + o) cap (ι.sym i) hne c0 c1).mono ?_
          rintro e w' ⟨rfl, hbl⟩
          have hkept : ∀ b, b < w.heap.size → w'.heap[b]? = w.heap[b]? := hbl.block
          exact ⟨_, rfl, ι, by simp only [V.rel], ⟨Emb.le.refl _, fun _ h1 h2 => absurd h1 h2, ⟨fun p o hp => O.ok_mono (hok.obj p o hp) (Emb.le.refl _) fun b s _ hp' => hkept b (hok.lt p b s hp'), hok.inj, fun p b s hp => Nat.lt_of_lt_of_le (hok.lt p b s hp) hbl.size⟩,
            fun b hb _ => hkept b hb, hbl.size, fun p b s hl hp _ => ⟨p, s, hl, hp⟩, hbl.tape, hbl.os, hbl.output⟩⟩
        · cases he'
      · cases he'
    · cases he'
  · exact k.fn _ _ _ _ _ _ _ he'
end Go.Proofs.YtopicmcaoeameaaGreatDoor
namespace Go.Proofs.YtopicmcaoeameaaGreatDoor
open Go Go.Ev Go.RowKit

def bitsAll : Nat → List (List Bool)
  | 0 => [[]]
  | n + 1 => (bitsAll n).flatMap fun l => [true :: l, false :: l]
/-- a text's cells: 97, or anything -/
def cellsB : List Bool → Nat → List V
  | [], _ => []
  | true :: t, i => .int .i64 97 :: cellsB t (i + 1)
  | false :: t, i => .sym i .i64 0 255 :: cellsB t (i + 1)
/-- that those others are not 97 -/
def tabB : List Bool → Nat → Tab
  | [], _ => []
  | true :: t, i => tabB t (i + 1)
  | false :: t, i => (5, .sym i .i64 0 255, .int .i64 97, .bool false) :: tabB t (i + 1)
noncomputable def gloB (b : List Bool) : Glo := ⟨fun _ => [], tabB b 0, [], plan 6 ++ [(nT, cellsB b 0)]⟩
noncomputable def gloA : Glo := ⟨fun _ => [], [], [], plan 6⟩
/-- the pattern, as the oracle is asked whether it accepts it -/
def asA : List V := [.agg [.int .i64 2, .nilsl, .sl (nm 195) 0 2 2 8, .int .i64 0, .int .i64 0, .int .i64 0, .int .i64 0, .bool false, .int .i64 0, .bool false]]
noncomputable def chkA : Bool := match (calOf gloA).fn 122 asA .nil n1 with
  | .ok (.int .i64 (.ofNat 0)) H _ => freeH H ((plan 6).map (·.1))
  | _ => false
noncomputable def calB (b : List Bool) : Cal := evCalO (fun c => memoCal 122 asA (.int .i64 0) (hasCal 129 (gloB b) c)) (funIR Tryz.prog) (gloB b) 1000000 1000
/-- what First gives: start, end, found -/
noncomputable def evalB (n : Nat) (b : List Bool) (f : Nat) : Option (Int × Int × Bool) :=
  match (calB b).fn 30 [.ptr (root 6) 0, .sl nT 0 n n 1, .int .i64 f, .int .i64 2000] .nil n1 with
  | .ok (.tup [.agg [.int .i64 s, .int .i64 e, v], .bool ok, .int .i64 err]) H _ => (match freeH H (nT :: (plan 6).map (·.1)), isSl v, ieq err 0 with
    | true, true, true => some (s, e, ok)
    | _, _, _ => none)
  | _ => none
noncomputable def chkB (n f : Nat) (b : List Bool) : Bool := match evalB n b f with
  | some (s, _, ok) => (match ok with | true => decide ((f : Int) ≤ s) && (decide (s ≤ n) && (match nth b s.toNat with | some true => true | _ => false)) | false => true)
  | none => false
/-- is it asked from f on? -/
noncomputable def askB (f : Nat) (b : List Bool) : Bool := match f with | 0 => true | g + 1 => (match nth b g with | some true => true | _ => false)
noncomputable def treeB (n f : Nat) : Bool := (bitsAll n).all fun b => match askB f b with | true => chkB n f b | false => true
end Go.Proofs.YtopicmcaoeameaaGreatDoor
namespace Go.Proofs.YtopicmcaoeameaaGreatDoor
open Go Go.Ev Go.RowKit

/-- First's contract at the text t and the rule k, out of what it gives from each position -/
def FirstAt (k n : Nat) (t : List Int) (G : Nat → FR) : Prop := (∀ f, (G f).err = 0 ∧ ((G f).ok = true → (f : Int) ≤ (G f).s ∧ (G f).s ≤ n)) ∧
  ∀ (M : Nat → Prop) (lo hi : Nat) (w : World) (pb tb tc base from' : Nat), (∀ c, M c → c < w.heap.size) → LaidM M k lo hi w pb → hi ≤ w.heap.size → (tb < lo ∨ hi ≤ tb) → ¬ M tb → w.ownsRow base 3 1 (.slice (some ⟨tb, 0, none⟩) n tc) n (t.map (Value.int .i64)) → from' ≤ n → Rch G from' →
      Calls Tryz.prog 30 #[.pointer (some ⟨pb, 0, none⟩), .slice (some ⟨tb, 0, none⟩) n tc, .int .i64 (from' : Int), .int .i64 2000] w fun e w1 =>
        ∃ ca cm cc, e = .returned (.tuple #[.agg #[.int .i64 (G from').s, .int .i64 (G from').e, .slice ca cm cc], .bool (G from').ok, .int .i64 (G from').err]) ∧ Bel M w.heap.size w w1
/-- which symbols are 97 -/
def bs (t : List Int) : List Bool := t.map fun x => decide (x = 97)
theorem bs_mem : ∀ t : List Int, bs t ∈ bitsAll t.length
  | [] => List.mem_cons_self ..
  | x :: t => by
    show bs (x :: t) ∈ (bitsAll t.length).flatMap fun l => [true :: l, false :: l]
    refine List.mem_flatMap.2 ⟨bs t, bs_mem t, ?_⟩
    show decide (x = 97) :: bs t ∈ _
    cases decide (x = 97) <;> simp
theorem cellsB_len : ∀ (b : List Bool) (i : Nat), (cellsB b i).length = b.length
  | [], _ => rfl
  | true :: t, i => congrArg (· + 1) (cellsB_len t (i + 1))
  | false :: t, i => congrArg (· + 1) (cellsB_len t (i + 1))
theorem cellsB_rel (ι : Emb) : ∀ (u : List Int) (i : Nat), (∀ x ∈ u, 0 ≤ x ∧ x ≤ 255) → (∀ j x, u[j]? = some x → ι.sym (i + j) = x) → V.rels ι (cellsB (bs u) i) (u.map (Value.int .i64))
  | [], _, _, _ => rels_nil
  | x :: u, i, hb, hσ => by
    have ih := cellsB_rel ι u (i + 1) (fun y hy => hb y (List.mem_cons_of_mem _ hy)) (fun j y hj => by
      have := hσ (j + 1) y (by simpa using hj)
      rw [show i + 1 + j = i + (j + 1) by omega]
      exact this)
    have h0 : ι.sym i = x := hσ 0 x rfl
    have hx := hb x (List.mem_cons_self ..)
    show V.rels ι (cellsB (decide (x = 97) :: bs u) i) _
    by_cases h : x = 97
    · rw [show decide (x = 97) = true from decide_eq_true h]
      exact rels_cons (show _ = _ by rw [h]) ih
    · rw [show decide (x = 97) = false from decide_eq_false h]
      refine rels_cons ?_ ih
      simp only [V.rel, h0]
      exact ⟨trivial, hx.1, hx.2⟩
theorem tabB_told (ι : Emb) : ∀ (u : List Int) (i : Nat), (∀ j x, u[j]? = some x → ι.sym (i + j) = x) → ∀ e ∈ tabB (bs u) i, Go.Ev.Told ι e ∧ Go.Ev.ToldA ι e
  | [], _, _, e, he => by simp [bs, tabB] at he
  | x :: u, i, hσ, e, he => by
    have ih := tabB_told ι u (i + 1) (fun j y hj => by
      have := hσ (j + 1) y (by simpa using hj)
      rw [show i + 1 + j = i + (j + 1) by omega]
      exact this)
    have h0 : ι.sym i = x := hσ 0 x rfl
    have he' : e ∈ tabB (decide (x = 97) :: bs u) i := he
    by_cases h : x = 97
    · rw [show decide (x = 97) = true from decide_eq_true h] at he'
      exact ih e he'
    · rw [show decide (x = 97) = false from decide_eq_false h] at he'
      rcases List.mem_cons.1 he' with rfl | he'
      · refine ⟨fun k a b ha hbb op hop => ?_, fun h20 => absurd (show (5 : Nat) = 20 from h20) (by decide)⟩
        simp only [V.rel] at ha hbb
        obtain ⟨e1, _⟩ := ha
        cases e1
        cases hbb
        have hop' : op = .eql := by cases op <;> simp [bno] at hop <;> rfl
        subst hop'
        refine ⟨.bool (ieq (ι.sym i) 97), rfl, ?_⟩
        have hf : ieq (ι.sym i) 97 = false := by
          rw [ieq_eq, h0]
          simpa using h
        rw [hf]
        simp only [V.rel]
        rfl
      · exact ih e he'
/-- a call that reads what was laid, and an input's cells, of which something is told -/
theorem callTold {P : Program} {cal : Cal} {l : List (Pth × List V)} {tab : Tab} {root T : Pth} {cells : List V} (k : CalOK P ⟨fun _ => [], tab, [], l ++ [(T, cells)]⟩ cal) {f : Nat} {args : List V} {v : V} {H : Heap} {n m : Pth}
    (h : cal.fn f args .nil m = .ok v H n) (hfree : freeH H (T :: l.map (·.1)) = true) (hcl : closedRo l = true) (hT : nameOf l T = false) (hroot : nameOf l root = true) {lo hi b : Nat} {w : World} (hw : Laid l root lo hi w b)
    {tb off : Nat} (htb : tb < lo ∨ hi ≤ tb) {c : Array Value} {el : TypeId} {fr : Nat × Nat} (hb : w.heap[tb]? = some (.cells c el fr)) (σ : Nat → Int) (tsz : Nat) (ht : ∀ ι : Emb, ι.sym = σ → ∀ e ∈ tab, Go.Ev.Told ι e ∧ Go.Ev.ToldA ι e)
    (hc : ∀ ι : Emb, ι.sym = σ → V.rels ι cells ((c.toList.drop off).take cells.length)) (xs : Array Value)
    (hxs : ∀ ι : Emb, ι root = some (b, 0) → ι T = some (tb, off) → ι.size tb = tsz → ι.sym = σ → V.rels ι args xs.toList) :
    Calls P f xs w fun e w1 => ∃ x ι', e = .returned x ∧ V.rel ι' v x ∧ Below w.heap.size w w1 := by
  obtain ⟨ι, hro, hr, hin⟩ := hw
  let ι' : Emb := ⟨fun p => if T = p then some (tb, off) else if nameOf l p = true then ι p else none, fun x => if x = tb then tsz else ι.size x, σ⟩
  have eT : ι' T = some (tb, off) := by show (if T = T then _ else _) = _; rw [if_pos rfl]
  have eN : ∀ p, nameOf l p = true → ι' p = ι p := fun p hp => by
    show (if T = p then _ else _) = _
    rw [if_neg (fun e => by rw [e, hp] at hT; cases hT), if_pos hp]
  have hmem : ∀ p, nameOf l p = true → ∀ c s, ι p = some (c, s) → c ≠ tb := fun p hp c s hc e => by
    obtain ⟨x, hx, rfl⟩ := nameOf_iff.1 hp
    have := hin x hx c s hc
    omega
  have hmove : ∀ p b s, nameOf l p = true → ι p = some (b, s) → ι' p = some (b, s) ∧ ι'.size b = ι.size b := fun p x s hp hx =>
    ⟨(eN p hp).trans hx, by show (if x = tb then _ else _) = _; rw [if_neg (hmem p hp x s hx)]⟩
  have hlt : ∀ p b s, ι' p = some (b, s) → b < w.heap.size := fun p x s hx => by
    by_cases e : T = p
    · subst e
      rw [eT] at hx
      cases hx
      exact (Array.getElem?_eq_some_iff.1 hb).1
    · by_cases hp : nameOf l p = true
      · rw [eN p hp] at hx
        obtain ⟨y, hy, rfl⟩ := nameOf_iff.1 hp
        obtain ⟨b', s', c', el', fr', h1, h2, _⟩ := hro y hy
        rw [hx] at h1
        cases h1
        exact (Array.getElem?_eq_some_iff.1 h2).1
      · have : ι' p = none := by show (if T = p then _ else _) = _; rw [if_neg e, if_neg hp]
        rw [this] at hx; cases hx
  refine callRo k h hfree rfl (ht ι' rfl) rfl (ι := ι') (fun e he => ?_) (fun p hp => ?_) hlt xs (hxs ι' ((eN root hroot).trans hr) eT (by show (if tb = tb then _ else _) = _; rw [if_pos rfl]) rfl)
  · rcases List.mem_append.1 he with he | he
    · obtain ⟨b', s', c', el', fr', h1, h2, h3⟩ := hro e he
      have hn : nameOf l e.1 = true := nameOf_iff.2 ⟨e, he, rfl⟩
      exact ⟨b', s', c', el', fr', (eN _ hn).trans h1, h2, V.rels.move hmove _ _ (closedRo_ok hcl e he) h3⟩
    · simp only [List.mem_singleton] at he
      subst he
      exact ⟨tb, off, c, el, fr, eT, hb, hc ι' rfl⟩
  · by_cases e : T = p
    · subst e; simp
    · by_cases hn : nameOf l p = true
      · obtain ⟨y, hy, rfl⟩ := nameOf_iff.1 hn
        exact List.mem_cons_of_mem _ (List.mem_map.2 ⟨y, hy, rfl⟩)
      · exact absurd (by show (if T = p then _ else _) = _; rw [if_neg e, if_neg hn]) hp
set_option maxRecDepth 1000000 in
theorem asA_ok : chkA = true ∧ plL (nameOf (plan 6)) asA = true := by decide +kernel
theorem chkA_inv : ∃ H n, (calOf gloA).fn 122 asA .nil n1 = .ok (.int .i64 0) H n ∧ freeH H ((plan 6).map (·.1)) = true := by
  have h := asA_ok.1
  unfold chkA at h
  split at h
  · rename_i H n h0
    exact ⟨H, n, h0, h⟩
  · cases h
set_option maxRecDepth 1000000 in
theorem has_walk (w : World) (b s cap : Nat) (x : Int) (hx : x ≠ 97) (c0 : w.cell? ⟨b, s, none⟩ = some (.int .i64 97)) (c1 : w.cell? ⟨b, s + 1, none⟩ = some (.int .i64 97)) :
    Calls Tryz.prog 129 #[.slice (some ⟨b, s, none⟩) 1 cap, .int .i64 x] w fun e w' => e = .returned (.bool false) ∧ Below w.heap.size w w' := by
  go_enter Tryz.func129, Tryz.ntmps129
  go_wp2
  refine wp_loop_rounds 2 ?_
  rw [rounds_succ]
  by_cases h : (97 : Int) ≤ x
  · have h2 : ¬ x ≤ 97 := by omega
    go_wp2
    rw [rounds_succ]
    go_wp2
    go_ret
    refine ⟨rfl, ?_⟩
    exact ((Below.refl _ _).alloc (Nat.le_refl _) _)
  · go_wp2
    rw [rounds_succ]
    go_wp2
    go_ret
    refine ⟨rfl, ?_⟩
    exact ((Below.refl _ _).alloc (Nat.le_refl _) _)
theorem has_callable : Callable Tryz.prog 129 := ⟨_, Tryz.func129, rfl, by kernel_rfl⟩
theorem calB_ok (b : List Bool) : CalOK Tryz.prog (gloB b) (calB b) := by
  obtain ⟨H, n, h0, hf⟩ := chkA_inv
  exact calO_ok mix named (fun c k => memoCal_ok (calOf_ok gloA) h0 rfl rfl rfl rfl (fun e he => List.mem_append_left _ he) (plan_closed 6 (by decide)).1 asA_ok.2 hf (hasCal_ok has_callable has_walk k)) 1000
theorem evalB_inv {n f : Nat} {b : List Bool} {s e : Int} {ok : Bool} (h : evalB n b f = some (s, e, ok)) : ∃ v H m, (calB b).fn 30 [.ptr (root 6) 0, .sl nT 0 n n 1, .int .i64 f, .int .i64 2000] .nil n1 = .ok (.tup [.agg [.int .i64 s, .int .i64 e, v], .bool ok, .int .i64 0]) H m ∧
    freeH H (nT :: (plan 6).map (·.1)) = true ∧ isSl v = true := by
  unfold evalB at h
  split at h
  · rename_i s' e' v ok' err H m h0
    split at h
    · rename_i hf hv he
      have he0 : err = 0 := by
        rw [ieq_eq] at he
        simpa using he
      subst he0
      cases h
      exact ⟨v, H, m, h0, hf, hv⟩
    · cases h
  · cases h
theorem first_o (htr : ∀ n, 1 ≤ n → n ≤ 5 → ∀ f ≤ n, treeB n f = true) {t : List Int} (h1 : 1 ≤ t.length) (h5 : t.length ≤ 5) (hb : ∀ x ∈ t, 0 ≤ x ∧ x ≤ 255) : ∃ G, FirstAt 6 t.length t G := by
  have hex : ∀ f : Nat, ∃ r : Int × Int × Bool, (r.2.2 = true → ((f : Int) ≤ r.1 ∧ r.1 ≤ t.length) ∧ (bs t)[r.1.toNat]? = some true) ∧ (f ≤ t.length → askB f (bs t) = true → evalB t.length (bs t) f = some r) := fun f => by
    by_cases hf : f ≤ t.length
    · by_cases ha : askB f (bs t) = true
      · have hc0 := List.all_eq_true.1 (htr _ h1 h5 f hf) _ (bs_mem t)
        have hc : chkB t.length f (bs t) = true := by
          have hc1 : (match askB f (bs t) with | true => chkB t.length f (bs t) | false => true) = true := hc0
          rw [ha] at hc1
          exact hc1
        unfold chkB at hc
        split at hc
        · rename_i s e ok he
          refine ⟨(s, e, ok), fun hok => ?_, fun _ _ => he⟩
          have hok' : ok = true := hok
          subst hok'
          simp only [Bool.and_eq_true, decide_eq_true_eq] at hc
          obtain ⟨c1, c2, c3⟩ := hc
          refine ⟨⟨c1, c2⟩, ?_⟩
          rw [nth_eq] at c3
          split at c3
          · assumption
          · cases c3
        · cases hc
      · exact ⟨(0, 0, false), fun h => absurd h (by decide), fun _ h => absurd h ha⟩
    · exact ⟨(0, 0, false), fun h => absurd h (by decide), fun h => absurd h hf⟩
  obtain ⟨g, hg⟩ := Classical.axiomOfChoice hex
  refine ⟨fun f => ⟨(g f).1, (g f).2.1, (g f).2.2, 0⟩, fun f => ⟨rfl, fun h => ((hg f).1 h).1⟩, fun M lo hi w pb tb tc base from' hMw hl hhi htb htm htx hfr hrch => ?_⟩
  have hask : askB from' (bs t) = true := by
    rcases hrch with rfl | ⟨f, e1, e2⟩
    · rfl
    · obtain ⟨⟨a1, _⟩, a3⟩ := (hg f).1 e1
      have e2' : (g f).1 + 1 = (from' : Int) := e2
      obtain ⟨j, rfl⟩ : ∃ j, from' = j + 1 := ⟨from' - 1, by omega⟩
      have hj : (g f).1.toNat = j := by omega
      rw [hj] at a3
      show (match nth (bs t) j with | some true => true | _ => false) = true
      rw [nth_eq, a3]
  have he := (hg from').2 hfr hask
  obtain ⟨v, H, m, h0, hfree, hv⟩ := evalB_inv he
  obtain ⟨lo', hi', mb, b1, b2, hlaid, hmb⟩ := hl
  have htb' : tb < lo' ∨ hi' ≤ tb := by omega
  have hpl := plan_closed 6 (by decide)
  rcases htx.2 with ⟨e, _⟩ | ⟨g1, c1, u1, e, _, q1, q2, q3, q4, q5⟩
  · cases e
  · cases e
    refine (callTold (calB_ok (bs t)) h0 hfree hpl.1 hpl.2.1 hpl.2.2 (hlaid.laid (by decide)) htb' q1 (off := 0) (fun i => (t[i]?).getD 0) tc (fun ι hσ => ?_) (fun ι hσ => ?_) _ (fun ι hr hT hsz hσ => ?_)).mono fun ed w2 he => ?_
    · exact tabB_told ι t 0 fun j x hj => by rw [hσ]; show (t[0 + j]?).getD 0 = x; rw [Nat.zero_add, hj]; rfl
    · rw [List.drop_zero, cellsB_len, show (bs t).length = t.length by simp [bs]]
      rw [Nat.mul_one] at q5
      rw [q5]
      exact cellsB_rel ι t 0 hb fun j x hj => by rw [hσ]; show (t[0 + j]?).getD 0 = x; rw [Nat.zero_add, hj]; rfl
    · exact rels_cons ⟨pb, 0, hr, rfl⟩ (rels_cons ⟨tb, 0, tc, hT, rfl, q2, fun h => absurd h (by decide), fun _ => by rw [hsz]; omega⟩ (rels_cons rfl (rels_one rfl)))
    · obtain ⟨y, ι', rfl, hy, hbel⟩ := he
      obtain ⟨ca, cm, cc, rfl⟩ := out_rel hv hy
      exact ⟨ca, cm, cc, rfl, .of hbel⟩
end Go.Proofs.YtopicmcaoeameaaGreatDoor
namespace Go.Proofs.YtopicmcaoeameaaGreatDoor
open Go Go.Ev Go.RowKit Go.Smap

theorem fnr_at {F : Nat → Nat → FR} {n : Nat} : ∀ (rs : List Rl) (E : List (Rl × Int × Int)), (rs.map Rl.name).Nodup → fnr F n rs = .ok E → ∀ r ∈ rs, ∃ l, ms (F r.k) n 0 = .ok l ∧ (E.filter fun p => decide (p.1.name = r.name)).map (·.2) = l
  | [], _, _, _, r, hr => by cases hr
  | q :: t, E, hnd, h, r, hr => by
    have h' : (match ms (F q.k) n 0 with | .error e => Except.error e | .ok l => pre (l.map fun p => (q, p)) (fnr F n t)) = .ok E := h
    cases hm : ms (F q.k) n 0 with
    | error e => rw [hm] at h'; cases h'
    | ok l =>
      rw [hm] at h'
      simp only at h'
      cases hf : fnr F n t with
      | error e => rw [hf] at h'; cases h'
      | ok E2 =>
        rw [hf] at h'
        cases h'
        rw [List.map_cons, List.nodup_cons] at hnd
        rw [List.filter_append, List.map_append]
        rcases List.mem_cons.1 hr with rfl | hr
        · refine ⟨l, hm, ?_⟩
          have h1 : (l.map fun p => (r, p)).filter (fun p => decide (p.1.name = r.name)) = l.map fun p => (r, p) := by
            rw [List.filter_eq_self]
            intro p hp
            obtain ⟨x, _, rfl⟩ := List.mem_map.1 hp
            simp
          have h2 : E2.filter (fun p => decide (p.1.name = r.name)) = [] := by
            rw [List.filter_eq_nil_iff]
            intro p hp
            have := fnr_names F n t E2 hf p hp
            simp only [decide_eq_true_eq]
            exact fun e => hnd.1 (e ▸ List.mem_map.2 ⟨p.1, this, rfl⟩)
          rw [h1, h2, List.map_nil, List.append_nil, List.map_map]
          exact (List.map_congr_left fun _ _ => rfl).trans (List.map_id l)
        · obtain ⟨l', h1, h2⟩ := fnr_at t E2 hnd.2 hf r hr
          refine ⟨l', h1, ?_⟩
          have h3 : (l.map fun p => (q, p)).filter (fun p => decide (p.1.name = r.name)) = [] := by
            rw [List.filter_eq_nil_iff]
            intro p hp
            obtain ⟨x, _, rfl⟩ := List.mem_map.1 hp
            simp only [decide_eq_true_eq]
            exact fun e => hnd.1 (e ▸ List.mem_map.2 ⟨r, hr, rfl⟩)
          rw [h3, h2]
          simp
/-- what is found for a name: the matches of its rule -/
theorem grp_at {F : Nat → Nat → FR} {n : Nat} {rs : List Rl} {D : List (Int × Int × Int)} (hnd : (rs.map Rl.name).Nodup) (h : fnd F n 0 rs = .ok D) {r : Rl} (hr : r ∈ rs) : ∃ l, ms (F r.k) n 0 = .ok l ∧ grp rs D r.name = l := by
  obtain ⟨E, hE, hg⟩ := grp_fnr h r.name
  rw [hg]
  exact fnr_at rs E hnd hE r hr
theorem grp_no {F : Nat → Nat → FR} {n : Nat} {rs : List Rl} {D : List (Int × Int × Int)} (h : fnd F n 0 rs = .ok D) {s : ByteArray} (hs : ∀ r ∈ rs, r.name ≠ s) : grp rs D s = [] := by
  obtain ⟨E, hE, hg⟩ := grp_fnr h s
  rw [hg]
  have : E.filter (fun p => decide (p.1.name = s)) = [] := by
    rw [List.filter_eq_nil_iff]
    intro p hp
    simpa using hs p.1 (fnr_names F n rs E hE p hp)
  rw [this]
  rfl
/-- the same rule of two lists -/
theorem grp_both {F : Nat → Nat → FR} {n : Nat} {ra rb : List Rl} {D1 D2 : List (Int × Int × Int)} (na : (ra.map Rl.name).Nodup) (nb : (rb.map Rl.name).Nodup) (h1 : fnd F n 0 ra = .ok D1) (h2 : fnd F n 0 rb = .ok D2) {r : Rl} (ha : r ∈ ra) (hb : r ∈ rb) : grp ra D1 r.name = grp rb D2 r.name := by
  obtain ⟨l, m1, e1⟩ := grp_at na h1 ha
  obtain ⟨l', m2, e2⟩ := grp_at nb h2 hb
  rw [m1] at m2
  cases m2
  rw [e1, e2]
/-- a longer list's matches for a name that the rest has not -/
theorem grp_more {F : Nat → Nat → FR} {n : Nat} {rs rt : List Rl} {D1 D2 : List (Int × Int × Int)} (na : (rs.map Rl.name).Nodup) (nb : (rt.map Rl.name).Nodup) (h1 : fnd F n 0 rs = .ok D1) (h2 : fnd F n 0 rt = .ok D2) (hsub : ∀ r ∈ rs, r ∈ rt) {s : ByteArray} (hs : ∀ r ∈ rt, r.name = s → r ∈ rs) : grp rt D2 s = grp rs D1 s := by
  by_cases h : ∃ r ∈ rs, r.name = s
  · obtain ⟨r, hr, rfl⟩ := h
    exact grp_both nb na h2 h1 (hsub r hr) hr
  · have h' : ∀ r ∈ rs, r.name ≠ s := fun r hr e => h ⟨r, hr, e⟩
    rw [grp_no h1 h', grp_no h2 fun r hr e => h' r (hs r hr e) e]
theorem differ_nil {ra rb : List Rl} {D1 D2 : List (Int × Int × Int)} {ns : List ByteArray} : differ ra rb D1 D2 ns = [] ↔ ∀ s ∈ ns, grp ra D1 s = grp rb D2 s := by
  unfold differ
  rw [List.filter_eq_nil_iff]
  constructor
  · intro h s hs
    have := h s hs
    simpa using this
  · intro h s hs
    simpa using h s hs
/-- with a rule more, ahead of one list and behind the other one: they differ if they did -/
theorem differ_more {F : Nat → Nat → FR} {n : Nat} {ra rb : List Rl} {z : Rl} {D1 D2 E1 E2 : List (Int × Int × Int)} {ns nt : List ByteArray} (na : ((z :: ra).map Rl.name).Nodup) (nb : ((rb ++ [z]).map Rl.name).Nodup) (h1 : fnd F n 0 ra = .ok D1) (h2 : fnd F n 0 rb = .ok D2) (g1 : fnd F n 0 (z :: ra) = .ok E1) (g2 : fnd F n 0 (rb ++ [z]) = .ok E2)
    (hns : ∀ s, s ∈ ns ↔ ∃ r ∈ ra ++ rb, r.name = s) (hnt : ∀ s, s ∈ nt ↔ ∃ r ∈ (z :: ra) ++ (rb ++ [z]), r.name = s) : (differ (z :: ra) (rb ++ [z]) E1 E2 nt).isEmpty = (differ ra rb D1 D2 ns).isEmpty := by
  have na' : (ra.map Rl.name).Nodup := by
    rw [List.map_cons, List.nodup_cons] at na
    exact na.2
  have hza : ∀ r ∈ ra, r.name ≠ z.name := fun r hr e => by
    rw [List.map_cons, List.nodup_cons] at na
    exact na.1 (e ▸ List.mem_map.2 ⟨r, hr, rfl⟩)
  have nb0 : (rb.map Rl.name).Nodup ∧ ∀ r ∈ rb, r.name ≠ z.name := by
    rw [List.map_append, List.nodup_append] at nb
    exact ⟨nb.1, fun r hr e => nb.2.2 r.name (List.mem_map.2 ⟨r, hr, rfl⟩) z.name (by simp) e⟩
  obtain ⟨nb', hzb⟩ := nb0
  have ga : ∀ s, s ≠ z.name → grp (z :: ra) E1 s = grp ra D1 s := fun s hs => grp_more na' na h1 g1 (fun r hr => List.mem_cons_of_mem _ hr) fun r hr e => by
    rcases List.mem_cons.1 hr with rfl | hr
    · exact absurd e.symm hs
    · exact hr
  have gb : ∀ s, s ≠ z.name → grp (rb ++ [z]) E2 s = grp rb D2 s := fun s hs => grp_more nb' nb h2 g2 (fun r hr => List.mem_append_left _ hr) fun r hr e => by
    rcases List.mem_append.1 hr with hr | hr
    · exact hr
    · simp only [List.mem_singleton] at hr
      subst hr
      exact absurd e.symm hs
  have gz : grp (z :: ra) E1 z.name = grp (rb ++ [z]) E2 z.name := grp_both na nb g1 g2 (List.mem_cons_self ..) (by simp)
  rw [Bool.eq_iff_iff, List.isEmpty_iff, List.isEmpty_iff, differ_nil, differ_nil]
  constructor
  · intro h s hs
    obtain ⟨r, hr, rfl⟩ := (hns s).1 hs
    have hne : r.name ≠ z.name := by
      rcases List.mem_append.1 hr with hr | hr
      · exact hza r hr
      · exact hzb r hr
    rw [← ga _ hne, ← gb _ hne]
    refine h _ ((hnt _).2 ⟨r, ?_, rfl⟩)
    rcases List.mem_append.1 hr with hr | hr
    · exact List.mem_append_left _ (List.mem_cons_of_mem _ hr)
    · exact List.mem_append_right _ (List.mem_append_left _ hr)
  · intro h s hs
    by_cases hz : s = z.name
    · rw [hz]; exact gz
    · rw [ga s hz, gb s hz]
      obtain ⟨r, hr, rfl⟩ := (hnt s).1 hs
      refine h _ ((hns _).2 ⟨r, ?_, rfl⟩)
      rcases List.mem_append.1 hr with hr | hr
      · rcases List.mem_cons.1 hr with rfl | hr
        · exact absurd rfl hz
        · exact List.mem_append_left _ hr
      · rcases List.mem_append.1 hr with hr | hr
        · exact List.mem_append_right _ hr
        · simp only [List.mem_singleton] at hr
          subst hr
          exact absurd rfl hz
/-- the rule that both sides have in addition -/
def zz : Rl := ⟨⟨#[122, 122]⟩, ⟨#[97, 42, 98]⟩, 2⟩
noncomputable def chkZZ : Bool := match cal0.fn 53 [.str [122, 122]] .nil .e with | .ok (.bool true) _ _ => true | _ => false
set_option maxRecDepth 1000000 in
theorem chkZZ_ok : chkZZ = true := by decide +kernel
theorem isName_zz : IsName zz.name := fun w => by
  have h := chkZZ_ok
  unfold chkZZ at h
  split at h
  · rename_i H n h1
    refine (call1 cal0_ok h1 (fun _ => 0) w _ (rels_one ⟨zz.name, rfl, rfl⟩)).mono fun e w1 he => ?_
    obtain ⟨x, ι, rfl, hx, _, hbel, _⟩ := he
    have hx' : x = .bool true := hx
    subst hx'
    exact ⟨rfl, hbel⟩
  · cases h
theorem nameZ_ne {s : ByteArray} (h : NameZ s) : s ≠ zz.name := by
  intro e
  subst e
  rcases h with ⟨j, hj, h⟩ | h
  · have h' : [122, 122] = [110, 48 + j] := h
    simp at h'
  · have h' : [122, 122] = [122] := h
    simp at h'
theorem zz_each : zz.k < 12 ∧ Txt zz.k zz.text ∧ IsName zz.name ∧ zz.name.size ≤ maxLen := ⟨by decide, rfl, isName_zz, by unfold maxLen; decide⟩
theorem Pair.ahead {ra rb : List Rl} (h : Pair ra rb) : Good (zz :: ra) := by
  refine ⟨by have := h.la; simp; omega, ?_, fun r hr => ?_⟩
  · rw [List.map_cons, List.nodup_cons]
    refine ⟨fun hm => ?_, h.ga.nodup⟩
    obtain ⟨r, hr, e⟩ := List.mem_map.1 hm
    exact nameZ_ne (h.na r hr) e
  · rcases List.mem_cons.1 hr with rfl | hr
    · exact zz_each
    · exact h.ga.each r hr
theorem Pair.behind {ra rb : List Rl} (h : Pair ra rb) : Good (rb ++ [zz]) := by
  refine ⟨by have := h.lb; simp; omega, ?_, fun r hr => ?_⟩
  · rw [List.map_append]
    refine List.nodup_append.2 ⟨h.gb.nodup, by simp, fun a ha b hb e => ?_⟩
    obtain ⟨r, hr, rfl⟩ := List.mem_map.1 ha
    simp only [List.map_cons, List.map_nil, List.mem_singleton] at hb
    subst hb
    exact nameZ_ne (h.nb r hr) e
  · rcases List.mem_append.1 hr with hr | hr
    · exact h.gb.each r hr
    · simp only [List.mem_singleton] at hr
      subst hr
      exact zz_each
end Go.Proofs.YtopicmcaoeameaaGreatDoor
