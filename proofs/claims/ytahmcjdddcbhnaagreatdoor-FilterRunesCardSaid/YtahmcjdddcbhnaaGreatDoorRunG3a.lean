/-
  The rule \u{e4} that flows, walked: feed and end, and the closures that call them.
  The plain backtracker of the rule that waits, walked: check, Run.
  The plain backtracker of the rule that waits, walked: match, report, keep.
  The plain backtracker of the rule that waits, walked: what its calls leave.
  The rule that waits, walked: what a machine is made of, and feed.
  The rule that waits, walked: its end.
  The rule that waits, walked: the closure that calls its end.
-/
import Derived.Test.YtahmcjdddcbhnaaGreatDoorAskGW
import Derived.Test.YtahmcjdddcbhnaaGreatDoorRunG2a
import Derived.Test.YtahmcjdddcbhnaaGreatDoorRunG1a
import Derived.Test.YtahmcjdddcbhnaaGreatDoorRunG1b
import Derived.Test.YtahmcjdddcbhnaaGreatDoorStaTW
import Derived.Test.YtahmcjdddcbhnaaGreatDoorRunG0b
namespace Go.Proofs.YtahmcjdddcbhnaaGreatDoor
open Go Go.Ev Go.RowKit

theorem Tabs.chg {w w' : World} {F : Nat → Prop} (h : Tabs w) (hc : Chg F w w') (h1 : ¬ F 1) (h2 : ¬ F 2) : Tabs w' :=
  ⟨fun c hc' => (hc.cell (p := ⟨1, c, none⟩) (lt_cell (h.1 c hc')) h1).trans (h.1 c hc'), fun i hi => ⟨(hc.cell (p := ⟨2, 2 * i, none⟩) (lt_cell (h.2 i hi).1) h2).trans (h.2 i hi).1, (hc.cell (p := ⟨2, 2 * i + 1, none⟩) (lt_cell (h.2 i hi).2) h2).trans (h.2 i hi).2⟩⟩
theorem Forms.chg {w w' : World} {F : Nat → Prop} (h : Forms w) (hc : Chg F w w') (h0 : ¬ F 0) : Forms w' := fun i v hv => (hc.cell (p := ⟨0, i, none⟩) (lt_cell (h i v hv)) h0).trans (h i v hv)
section
variable {w : World} {mb ub bb sb n : Nat} {m : Option (List Nat)} {sh pe tk us L : Int} {ι : Emb} {hv v : Value} {held y : List UInt8} {S : List Nat} {r : List UInt8}
/-- what the rule can write -/
def FUt (mb ub bb : Nat) (m : Option (List Nat)) (ι : Emb) (hv : Value) (b : Nat) : Prop := MFt mb ub b ∨ BFU bb m ι hv b
/-- what a piece leaves: the meter, the stream -/
structure FedU (w : World) (mb ub bb sb : Nat) (m : Option (List Nat)) (ι : Emb) (hv : Value) (sh pe t us' L' : Int) (held' : List UInt8) (w' : World) : Prop where
  met : MtC w' mb ub sh pe t us'
  byt : ∃ σ2 ι2 hv2, BytU w' bb sb (some σ2) L' ι2 hv2 held' ∧ ∀ b, BFU bb (some σ2) ι2 hv2 b → BFU bb m ι hv b ∨ w.heap.size ≤ b
  chg : Chg (FUt mb ub bb m ι hv) w w'
theorem FedU.pre {w0 w' : World} {t us' L' : Int} {held' : List UInt8} (h : FedU w0 mb ub bb sb m ι hv sh pe t us' L' held' w') (hb : Below w.heap.size w w0) : FedU w mb ub bb sb m ι hv sh pe t us' L' held' w' := by
  obtain ⟨k2, ι2, A2, h1, h2⟩ := h.byt
  have := hb.size
  exact ⟨h.met, ⟨k2, ι2, A2, h1, fun b hb => (h2 b hb).imp id fun e => by omega⟩, (Chg.of_below hb).trans h.chg fun _ _ h => h⟩
set_option maxHeartbeats 8000000 in
set_option maxRecDepth 1000000 in
theorem flowfeedU (hso : SortedOk) (hT : Tabs w) (hFo : Forms w) (hF3 : ∀ b, b < 3 → ¬ FUt mb ub bb m ι hv b) (hM : MtC w mb ub sh pe tk us) (hB : BytU w bb sb m L ι hv held) (hd : ∀ b, BFU bb m ι hv b → ¬ MFt mb ub b) {t : Int} (ht : tk ≤ t ∧ t ≤ 1099511627776) (hy : Sees w 1 v (bv y)) (hvl : ∀ g, Value.leads v = some g → ¬ MFt mb ub g) (hyn : y.length = n)
    (hlen : (held ++ y).length ≤ 1000) (hp : Utf.Prs (held ++ y) S r) (hs : Utf.Stop r) (hS : S.length ≤ 24) (hL1 : L ≤ 1000) (hsuf : (n : Int) ≤ sh - usedAt pe tk us t) :
    Calls Tryz.prog 349 #[.agg #[.pointer (some ⟨bb, 0, none⟩)], shareV mb t, v] w fun e w' => (r = [] ∨ Utf.one r = .more → ∃ u, e = .returned (.tuple #[u, .bool true]) ∧ (∃ a b c, u = .slice a b c) ∧ Sees w' 2 u (pairsV (hits L S)) ∧ FedU w mb ub bb sb m ι hv sh pe t (usedAt pe tk us t + n) (L + S.length) r w' ∧ ∀ g, Value.leads u = some g → FUt mb ub bb m ι hv g ∨ w.heap.size ≤ g) ∧
      (r ≠ [] → Utf.one r = .bad → e = .returned (.tuple #[.slice none 0 0, .bool false]) ∧ Chg (FUt mb ub bb m ι hv) w w') := by
  have hus := hM.usedBd t
  have hsh := hM.hsh
  have hl := fun w1 (hb : Below w.heap.size w w1) => qleft_walkC (hM.bel hb) ht
  have htk := fun w1 (hb : Below w.heap.size w w1) => qtake_walkC (n := (n : Int)) (hM.bel hb) ht (by omega)
  have hM1 : ¬ MFt mb ub 1 := fun h => hF3 1 (by omega) (.inl h)
  have hM2 : ¬ MFt mb ub 2 := fun h => hF3 2 (by omega) (.inl h)
  have hM0 : ¬ MFt mb ub 0 := fun h => hF3 0 (by omega) (.inl h)
  have hbg := fun (hok : r = [] ∨ Utf.one r = .more) w1 (hb : Below w.heap.size w w1) (w2 : World) (hc : Chg (MFt mb ub) w1 w2) => bfeedU_good hso ((hT.below hb).chg hc hM1 hM2) ((hFo.below hb).chg hc hM0) ((hB.bel hb).chg hc hd) ((hy.bel hb).chg hc hvl) hlen hp hs hok hS hL1
  have hbb := fun (hr : r ≠ []) (hbad : Utf.one r = .bad) w1 (hb : Below w.heap.size w w1) (w2 : World) (hc : Chg (MFt mb ub) w1 w2) => bfeedU_bad ((hT.below hb).chg hc hM1 hM2) ((hB.bel hb).chg hc hd) ((hy.bel hb).chg hc hvl) hlen hp hs hr hbad
  have HBG := Lib.hid hbg
  have HBB := Lib.hid hbb
  obtain ⟨R, hR⟩ : ∃ R, sh - usedAt pe tk us t = R := ⟨_, rfl⟩
  obtain ⟨u', hu'⟩ : ∃ u', usedAt pe tk us t + (n : Int) = u' := ⟨_, rfl⟩
  rw [hR] at hl hsuf
  rw [hu'] at htk ⊢
  have hrn : ¬ R < (n : Int) := by omega
  obtain ⟨vA, vn, vc, rfl, hvn, -, -⟩ := id hy
  have hvn' : n = vn := by rw [bv_len] at hvn; omega
  subst hvn'
  have hmlt : ∀ b, MFt mb ub b → b < w.heap.size := fun b hb => by rcases hb with rfl | rfl; exact hM.blk.lt; exact hM.used.lt
  unfold shareV at hl htk ⊢
  clear hM hR hu' hus hsh hvn hbg hbb hT hFo hy
  obtain ⟨W0, hW0⟩ : ∃ x, (w.alloc (.cells #[.pointer (some ⟨bb, 0, none⟩)] 153)).alloc (.cells #[.pointer (some ⟨mb, 0, none⟩), .int .i64 0, .int .i64 t] 118) = x := ⟨_, rfl⟩
  have hB0 : Below w.heap.size w W0 := by rw [← hW0]; exact ((Below.refl _ _).alloc (Nat.le_refl _) _).alloc (by simp) _
  have hz0 : W0.heap.size = w.heap.size + 2 := by rw [← hW0]; simp
  have x1 : Blk W0 w.heap.size 153 #[.pointer (some ⟨bb, 0, none⟩)] := by rw [← hW0]; exact (Blk.made w _ _).alloc _
  have x2 : Blk W0 (w.heap.size + 1) 118 #[.pointer (some ⟨mb, 0, none⟩), .int .i64 0, .int .i64 t] := by
    have := Blk.made (w.alloc (.cells #[.pointer (some ⟨bb, 0, none⟩)] 153)) 118 #[.pointer (some ⟨mb, 0, none⟩), .int .i64 0, .int .i64 t]
    rw [hW0, World.size_alloc] at this
    exact this
  have y0 := x2.at' 0
  have y1 := x2.at' 1
  have y2 := x2.at' 2
  simp at y0 y1 y2
  have hl0 := hl W0 hB0
  have hrd : decide (R < (n : Int)) = false := decide_eq_false hrn
  clear hl
  by_cases hbad : r ≠ [] ∧ Utf.one r = .bad
  · have HGO : Hid (¬ (r = [] ∨ Utf.one r = .more)) := Lib.hid (fun h => h.elim hbad.1 fun h => by rw [hbad.2] at h; cases h)
    have hb9 := HBB.out hbad.1 hbad.2
    clear hs hp hS hlen hbad
    go_enter Tryz.func349, Tryz.ntmps349
    go_wp2_with (first
      | (go_at_call 345; refine hl0.mono ?_; clear hl0; rintro _ w1 ⟨rfl, hb1⟩; have hb1w := hB0.trans (hb1.mono hB0.size); have htk1 := htk w1 hb1w; have x1' := x1.bel hb1 x1.lt; have x2' := x2.bel hb1 x2.lt; have z0 := x2'.at' 0; have z1 := x2'.at' 1; have z2 := x2'.at' 2; simp at z0 z1 z2)
      | (go_at_call 351; refine htk1.mono ?_; clear htk1; rintro _ w2 ⟨rfl, hM2', hC2⟩; have hbf2 := hb9 w1 hb1w w2 hC2; have x1'' := x1'.chg hC2 (fun hf => by { have h1 := hmlt _ hf; omega }); have v0 := x1''.at' 0; simp at v0)
      | (go_at_call 352; refine hbf2.mono ?_; clear hbf2; rintro _ w3 ⟨rfl, hC3⟩)
      | fail)
    go_ret2
    refine ⟨fun h => absurd h HGO.out, fun _ _ => ⟨rfl, ?_⟩⟩
    exact (((Chg.of_below (F := FUt mb ub bb m ι hv) hb1w).trans hC2 fun _ _ h => .inl h).trans (Chg.of_below (F := fun _ => False) hC3) fun _ _ h => h.elim)
  · have hok : r = [] ∨ Utf.one r = .more := by
      by_cases hr : r = []
      · exact .inl hr
      · right
        cases ho : Utf.one r with
        | more => rfl
        | bad => exact absurd ⟨hr, ho⟩ hbad
        | ok c k =>
          rcases hs with e | e
          · exact absurd e hr
          · exact absurd ho (e c k)
    have HGO : Hid (¬ (r ≠ [] ∧ Utf.one r = .bad)) := Lib.hid hbad
    have hb9 := HBG.out hok
    clear hs hp hS hlen hbad hok
    go_enter Tryz.func349, Tryz.ntmps349
    go_wp2_with (first
      | (go_at_call 345; refine hl0.mono ?_; clear hl0; rintro _ w1 ⟨rfl, hb1⟩; have hb1w := hB0.trans (hb1.mono hB0.size); have htk1 := htk w1 hb1w; have x1' := x1.bel hb1 x1.lt; have x2' := x2.bel hb1 x2.lt; have z0 := x2'.at' 0; have z1 := x2'.at' 1; have z2 := x2'.at' 2; simp at z0 z1 z2)
      | (go_at_call 351; refine htk1.mono ?_; clear htk1; rintro _ w2 ⟨rfl, hM2', hC2⟩; have hbf2 := hb9 w1 hb1w w2 hC2; have x1'' := x1'.chg hC2 (fun hf => by { have h1 := hmlt _ hf; omega }); have v0 := x1''.at' 0; simp at v0)
      | (go_at_call 352; refine hbf2.mono ?_; clear hbf2; rintro _ w3 ⟨u3, σ3, ι3, hv3, rfl, hse3, hB3, hC3, hF3', hl3⟩; obtain ⟨uA, un, uc, rfl⟩ : ∃ a b c, u3 = .slice a b c := (by obtain ⟨a, b, c, e, -⟩ := hse3; exact ⟨a, b, c, e⟩))
      | fail)
    go_ret2
    have s1 := hb1w.size
    have s2 := hC2.size
    refine ⟨fun _ => ⟨_, rfl, ⟨_, _, _, rfl⟩, hse3, ⟨?_, ⟨σ3, ι3, hv3, hB3, fun b hb => (hF3' b hb).imp id fun e => by omega⟩, ?_⟩, fun g hg => (hl3 g hg).imp .inr fun e => by omega⟩, fun h1 h2 => absurd ⟨h1, h2⟩ HGO.out⟩
    · exact hM2'.chg hC3 (fun hf => hd _ hf (.inl rfl)) (fun hf => hd _ hf (.inr rfl))
    · exact ((Chg.of_below (F := FUt mb ub bb m ι hv) hb1w).trans hC2 fun _ _ h => .inl h).trans hC3 fun _ _ h => .inr h
set_option maxHeartbeats 4000000 in
set_option maxRecDepth 1000000 in
theorem flowendU (hB : BytU w bb sb m L ι hv held) {t : Int} {u : Value} (_hu : u.oneCell' = true) :
    Calls Tryz.prog 348 #[.agg #[.pointer (some ⟨bb, 0, none⟩)], shareV mb t, u] w fun e w' => e = .returned (.tuple #[.slice none 0 0, .bool (decide (held = []))]) ∧ Chg (foot ι (shU m)) w w' := by
  have hcl := fun w1 (hb : Below w.heap.size w w1) => bcloseU_walk (hB.bel hb)
  unfold shareV
  obtain ⟨W0, hW0⟩ : ∃ x, (w.alloc (.cells #[.pointer (some ⟨bb, 0, none⟩)] 153)).alloc (.cells #[.pointer (some ⟨mb, 0, none⟩), .int .i64 0, .int .i64 t] 118) = x := ⟨_, rfl⟩
  have hB0 : Below w.heap.size w W0 := by rw [← hW0]; exact ((Below.refl _ _).alloc (Nat.le_refl _) _).alloc (by simp) _
  have x1 : Blk W0 w.heap.size 153 #[.pointer (some ⟨bb, 0, none⟩)] := by rw [← hW0]; exact (Blk.made w _ _).alloc _
  have y0 := x1.at' 0
  simp at y0
  have hl0 := hcl W0 hB0
  clear hcl hB
  by_cases hh : held = []
  · rw [if_pos hh] at hl0
    have hdh : decide (held = []) = true := decide_eq_true hh
    rw [hdh]
    clear hh hdh
    go_enter Tryz.func348, Tryz.ntmps348
    go_wp2_with (first
      | (go_at_call 347; refine hl0.mono ?_; clear hl0; rintro _ w1 ⟨rfl, hC1⟩)
      | fail)
    go_ret2
    exact ⟨rfl, (Chg.of_below hB0).trans hC1 fun _ _ h => h⟩
  · rw [if_neg hh] at hl0
    have hdh : decide (held = []) = false := decide_eq_false hh
    rw [hdh]
    clear hh hdh
    go_enter Tryz.func348, Tryz.ntmps348
    go_wp2_with (first
      | (go_at_call 347; refine hl0.mono ?_; clear hl0; rintro _ w1 ⟨rfl, hC1⟩)
      | fail)
    go_ret2
    exact ⟨rfl, (Chg.of_below hB0).trans hC1 fun _ _ h => h⟩
set_option maxHeartbeats 4000000 in
set_option maxRecDepth 1000000 in
theorem data1U (hso : SortedOk) (hT : Tabs w) (hFo : Forms w) (hF3 : ∀ b, b < 3 → ¬ FUt mb ub bb m ι hv b) (hM : MtC w mb ub sh pe tk us) (hB : BytU w bb sb m L ι hv held) (hd : ∀ b, BFU bb m ι hv b → ¬ MFt mb ub b) {t : Int} (ht : tk ≤ t ∧ t ≤ 1099511627776) (hy : Sees w 1 v (bv y)) (hvl : ∀ g, Value.leads v = some g → ¬ MFt mb ub g) (hyn : y.length = n)
    (hlen : (held ++ y).length ≤ 1000) (hp : Utf.Prs (held ++ y) S r) (hs : Utf.Stop r) (hS : S.length ≤ 24) (hL1 : L ≤ 1000) (hsuf : (n : Int) ≤ sh - usedAt pe tk us t) {q : Nat} (hq : w.cell? ⟨q, 0, none⟩ = some v) (hql : q < w.heap.size) :
    Calls Tryz.prog 39 #[flowV bb, shareV mb t, .pointer (some ⟨q, 0, none⟩)] w fun e w' => (r = [] ∨ Utf.one r = .more → ∃ u, e = .returned (.tuple #[u, .bool true]) ∧ (∃ a b c, u = .slice a b c) ∧ Sees w' 2 u (pairsV (hits L S)) ∧ FedU w mb ub bb sb m ι hv sh pe t (usedAt pe tk us t + n) (L + S.length) r w' ∧ ∀ g, Value.leads u = some g → FUt mb ub bb m ι hv g ∨ w.heap.size ≤ g) ∧
      (r ≠ [] → Utf.one r = .bad → e = .returned (.tuple #[.slice none 0 0, .bool false]) ∧ Chg (FUt mb ub bb m ι hv) w w') := by
  obtain ⟨W0, hW0⟩ : ∃ x, w.alloc (.cells #[.pointer (some ⟨mb, 0, none⟩), .int .i64 0, .int .i64 t] 118) = x := ⟨_, rfl⟩
  have hB0 : Below w.heap.size w W0 := by rw [← hW0]; exact (Below.refl _ _).alloc (Nat.le_refl _) _
  have hff := flowfeedU hso (hT.below hB0) (hFo.below hB0) hF3 (hM.bel hB0) (hB.bel hB0) hd ht (hy.bel hB0) hvl hyn hlen hp hs hS hL1 hsuf
  have x2 : Blk W0 w.heap.size 118 #[.pointer (some ⟨mb, 0, none⟩), .int .i64 0, .int .i64 t] := by rw [← hW0]; exact Blk.made w _ _
  have y0 := x2.at' 0
  have y1 := x2.at' 1
  have y2 := x2.at' 2
  simp at y0 y1 y2
  have hq0 := (hB0.cell (p := ⟨q, 0, none⟩) hql).trans hq
  have hme : (method 664 153 (.agg #[.pointer (some ⟨bb, 0, none⟩)]) "rexmill/filter.feed").run Tryz.prog W0 = .ok (349, .agg #[.pointer (some ⟨bb, 0, none⟩)]) W0 := Go.Ev.run_method meth_feed (664 - 1)
  obtain ⟨vA, vn, vc, rfl, -, -, -⟩ := hy
  obtain ⟨Q, hQ⟩ : ∃ Q : Ending → World → Prop, Q = fun e w' => (r = [] ∨ Utf.one r = .more → ∃ u, e = .returned (.tuple #[u, .bool true]) ∧ (∃ a b c, u = .slice a b c) ∧ Sees w' 2 u (pairsV (hits L S)) ∧ FedU w mb ub bb sb m ι hv sh pe t (usedAt pe tk us t + n) (L + S.length) r w' ∧ ∀ g, Value.leads u = some g → FUt mb ub bb m ι hv g ∨ w.heap.size ≤ g) ∧
      (r ≠ [] → Utf.one r = .bad → e = .returned (.tuple #[.slice none 0 0, .bool false]) ∧ Chg (FUt mb ub bb m ι hv) w w') := ⟨_, rfl⟩
  have hff2 : Calls Tryz.prog 349 #[.agg #[.pointer (some ⟨bb, 0, none⟩)], shareV mb t, .slice vA vn vc] W0 fun e w' => (∃ u o, e = .returned (.tuple #[u, .bool o]) ∧ ∃ a b c, u = .slice a b c) ∧ Q e w' := by
    refine hff.mono fun e w' he => ⟨?_, ?_⟩
    · by_cases hb : r ≠ [] ∧ Utf.one r = .bad
      · obtain ⟨h1, -⟩ := he.2 hb.1 hb.2
        exact ⟨_, _, h1, _, _, _, rfl⟩
      · have hok : r = [] ∨ Utf.one r = .more := by
          by_cases hr : r = []
          · exact .inl hr
          · right
            cases ho : Utf.one r with
            | more => rfl
            | bad => exact absurd ⟨hr, ho⟩ hb
            | ok c k =>
              rcases hs with e | e
              · exact absurd e hr
              · exact absurd ho (e c k)
        obtain ⟨u, h1, h2, -⟩ := he.1 hok
        exact ⟨_, _, h1, h2⟩
    · have hsz := hB0.size
      rw [hQ]
      refine ⟨fun hok => ?_, fun h1 h2 => ?_⟩
      · obtain ⟨u, k1, k2, k3, k4, k5⟩ := he.1 hok
        exact ⟨u, k1, k2, k3, k4.pre hB0, fun g hg => (k5 g hg).imp id fun e => by omega⟩
      · obtain ⟨k1, k2⟩ := he.2 h1 h2
        exact ⟨k1, (Chg.of_below hB0).trans k2 fun _ _ h => h⟩
  rw [show (fun e w' => (r = [] ∨ Utf.one r = .more → ∃ u, e = .returned (.tuple #[u, .bool true]) ∧ (∃ a b c, u = .slice a b c) ∧ Sees w' 2 u (pairsV (hits L S)) ∧ FedU w mb ub bb sb m ι hv sh pe t (usedAt pe tk us t + n) (L + S.length) r w' ∧ ∀ g, Value.leads u = some g → FUt mb ub bb m ι hv g ∨ w.heap.size ≤ g) ∧
      (r ≠ [] → Utf.one r = .bad → e = .returned (.tuple #[.slice none 0 0, .bool false]) ∧ Chg (FUt mb ub bb m ι hv) w w')) = Q from hQ.symm]
  show Calls Tryz.prog 39 _ w fun e w' => Q e w'
  unfold shareV at hff2 ⊢
  unfold flowV
  clear hM hB hd hvl hsuf hq hff hT hFo hs hp hlen hS hQ hF3 hyn
  go_enter Tryz.func39, Tryz.ntmps39
  go_wp2_with (first
    | (go_at_call 349; refine hff2.mono ?_; clear hff2; rintro _ w1 ⟨⟨u1, o1, rfl, ua, ub', uc, rfl⟩, hX⟩)
    | fail)
  first | go_ret2 | skip
  exact hX
set_option maxHeartbeats 4000000 in
set_option maxRecDepth 1000000 in
theorem end1U (hB : BytU w bb sb m L ι hv held) {t : Int} {q cb : Nat} {u : Value} (hq : w.cell? ⟨q, 0, none⟩ = some (.pointer (some ⟨cb, 0, none⟩))) (hql : q < w.heap.size) (hc : w.cell? ⟨cb, 2, none⟩ = some u) (hcl : cb < w.heap.size) (hu : ∃ a n c, u = .slice a n c) (hqn : ¬ foot ι (shU m) q) (hcn : ¬ foot ι (shU m) cb) :
    Calls Tryz.prog 40 #[flowV bb, shareV mb t, .pointer (some ⟨q, 0, none⟩)] w fun e w' => e = .returned (.tuple #[.slice none 0 0, .bool (decide (held = []))]) ∧ Chg (foot ι (shU m)) w w' := by
  obtain ⟨uA, un, uc, rfl⟩ := hu
  obtain ⟨W0, hW0⟩ : ∃ x, w.alloc (.cells #[.pointer (some ⟨mb, 0, none⟩), .int .i64 0, .int .i64 t] 118) = x := ⟨_, rfl⟩
  have hB0 : Below w.heap.size w W0 := by rw [← hW0]; exact (Below.refl _ _).alloc (Nat.le_refl _) _
  have hB1 := hB0.drew
  have hff := flowendU (mb := mb) (hB.bel hB1) (t := t) (u := .slice uA un uc) rfl
  have x2 : Blk W0.drew w.heap.size 118 #[.pointer (some ⟨mb, 0, none⟩), .int .i64 0, .int .i64 t] := by rw [← hW0]; exact Blk.made w _ _
  have y0 := x2.at' 0
  have y1 := x2.at' 1
  have y2 := x2.at' 2
  simp at y0 y1 y2
  have hq0 := (hB1.cell (p := ⟨q, 0, none⟩) hql).trans hq
  have hc0 := (hB1.cell (p := ⟨cb, 2, none⟩) hcl).trans hc
  have hna : ∀ W, (nilAhead 664 153 (.agg #[.pointer (some ⟨bb, 0, none⟩)]) "rexmill/filter.end").run Tryz.prog W = .ok (some false) W := fun W => Go.Ev.run_nilAhead meth_end (664 - 1)
  have hme : ∀ W, (method 664 153 (.agg #[.pointer (some ⟨bb, 0, none⟩)]) "rexmill/filter.end").run Tryz.prog W = .ok (348, .agg #[.pointer (some ⟨bb, 0, none⟩)]) W := fun W => Go.Ev.run_method meth_end (664 - 1)
  obtain ⟨o, ho⟩ : ∃ o, decide (held = []) = o := ⟨_, rfl⟩
  rw [ho] at hff ⊢
  unfold shareV at hff ⊢
  unfold flowV
  have hlt := fun b (hb : foot ι (shU m) b) => hB.str.lt hb
  have hS : ∀ w1, Chg (foot ι (shU m)) W0.drew w1 → ((w1.cell? ⟨w.heap.size, 0, none⟩ = some (.pointer (some ⟨mb, 0, none⟩)) ∧ w1.cell? ⟨w.heap.size, 1, none⟩ = some (.int .i64 0)) ∧ w1.cell? ⟨w.heap.size, 2, none⟩ = some (.int .i64 t)) ∧ w1.cell? ⟨q, 0, none⟩ = some (.pointer (some ⟨cb, 0, none⟩)) ∧ w1.cell? ⟨cb, 2, none⟩ = some (.slice uA un uc) := fun w1 hC => by
    have hx := x2.chg hC (fun hf => by have := hlt _ hf; omega)
    have k0 := hx.at' 0
    have k1 := hx.at' 1
    have k2 := hx.at' 2
    simp at k0 k1 k2
    have hz : W0.drew.heap.size = w.heap.size + 1 := by rw [← hW0]; simp
    exact ⟨⟨⟨k0, k1⟩, k2⟩, (hC.cell (p := ⟨q, 0, none⟩) (by show q < W0.drew.heap.size; omega) hqn).trans hq0, (hC.cell (p := ⟨cb, 2, none⟩) (by show cb < W0.drew.heap.size; omega) hcn).trans hc0⟩
  have HS := Lib.hid hS
  have hS0 := hS _ (Chg.refl _ _)
  clear hB hq hc hS x2 y0 y1 y2 hq0 hc0 hlt
  go_enter Tryz.func40, Tryz.ntmps40
  go_wp2_with fail
  go_region_held3 (fun w' => ((w'.cell? ⟨w.heap.size, 0, none⟩ = some (.pointer (some ⟨mb, 0, none⟩)) ∧ w'.cell? ⟨w.heap.size, 1, none⟩ = some (.int .i64 0)) ∧ w'.cell? ⟨w.heap.size, 2, none⟩ = some (.int .i64 t)) ∧ w'.cell? ⟨q, 0, none⟩ = some (.pointer (some ⟨cb, 0, none⟩)) ∧ w'.cell? ⟨cb, 2, none⟩ = some (.slice uA un uc))
    (first | exact hS0 | exact HS.out _ hC1 | go_keep)
    (first
      | (go_simp; go_at_call 348; refine hff.mono ?_; clear hff; rintro _ w1 ⟨rfl, hC1⟩))
  go_wp2_with fail
  go_ret2
  exact ⟨rfl, (Chg.of_below hB1).trans hC1 fun _ _ h => h⟩
end
end Go.Proofs.YtahmcjdddcbhnaaGreatDoor
namespace Go.Proofs.YtahmcjdddcbhnaaGreatDoor
open Go Go.Ev Go.RowKit

set_option maxHeartbeats 4000000 in
set_option maxRecDepth 1000000 in
theorem check_walk {w : World} {Mb : Nat} {v : Value} {S : List Nat} {a fuel : Int} (h9 : w.cell? ⟨Mb, 9, none⟩ = some (.bool true)) (hv : Sees w 1 v (natI S)) (hcp : ∀ c ∈ S, Utf.Cp c) (hlen : S.length ≤ 60000) (hat : 0 ≤ a ∧ a ≤ S.length) (hfu : 0 ≤ fuel ∧ fuel ≤ 1099511627776) :
    Calls Tryz.prog 173 #[.pointer (some ⟨Mb, 0, none⟩), v, .int .i64 a, .int .i64 fuel] w fun e w' => e = .returned (.int .i64 0) ∧ w' = w := by
  obtain ⟨A, n, cp, rfl, h1, h2, h3⟩ := hv
  have hn : S.length = n := by rw [natI_len] at h1; omega
  have hw1 : IntKind.u64.wrap 1114111 = 1114111 := by decide
  have k1 : ¬ fuel < 0 := by omega
  have k2 : ¬ (1099511627776 : Int) < fuel := by omega
  have k3 : ¬ a < 0 := by omega
  have k4 : ¬ (n : Int) < a := by omega
  have k5 : ¬ (65536 : Int) < (n : Int) := by omega
  have HN := Lib.hid hn
  have HC := Lib.hid hcp
  have H3 := Lib.hid h3
  clear h1 hcp h3 hn hat hfu hlen
  go_enter Tryz.func173, Tryz.ntmps173
  go_wp2_with fail
  go_loopw [22] (fun iv wr => ∃ j : Nat, j ≤ n ∧ iv = .int .i64 j ∧ wr = w) (fun iv _ => n - (intOf iv).toNat)
  case atStart => exact ⟨0, Nat.zero_le _, rfl, rfl⟩
  case round =>
    obtain ⟨j, hj, rfl, rfl⟩ := hrel
    by_cases hjl : j < n
    · obtain ⟨b, off, rfl, hb, hcc⟩ := H3.out (by omega)
      have hjs : j < S.length := by rw [HN.out]; exact hjl
      have hcell := hcc j (.int .i64 ((S[j] : Nat) : Int)) (by unfold natI; rw [List.getElem?_map, List.getElem?_eq_getElem hjs]; rfl)
      have hcpj := HC.out _ (List.getElem_mem hjs)
      obtain ⟨z, hz⟩ : ∃ z : Nat, S[j] = z := ⟨_, rfl⟩
      rw [hz] at hcell hcpj
      have hz1 := hcpj.1
      have hw2 : IntKind.u64.wrap (z : Int) = z := by simp [IntKind.wrap, IntKind.bits, IntKind.signed]; omega
      have k6 : ¬ (1114111 : Int) < (z : Int) := by omega
      have hj1 : (j : Int) < (n : Int) := by omega
      clear hcc hz hcpj
      go_wp2_with fail
      go_roundw
      case rel => exact ⟨j + 1, hjl, by go_num, by first | rfl | trivial⟩
      case measure => simp [intOf]; omega
    · have hj1 : ¬ (j : Int) < (n : Int) := by omega
      go_wp2_with fail
      go_ret
      exact ⟨rfl, rfl⟩
noncomputable section
def atV : V := .sym 1 .i64 0 65536
def lnV : V := .sym 2 .i64 0 9223372036854775807
/-- the place is ahead of the text's end, or not -/
def tabT (b : Bool) : Tab := match b with | true => [(10, atV, lnV, .bool false), (7, atV, lnV, .bool true)] | false => [(10, atV, lnV, .bool true)]
def calT (b : Bool) (lds : List (Pth × Nat × V)) : Cal := evCal (funIR Tryz.prog) ⟨fun _ => [], tabT b, lds, []⟩ 1000000 1000
def machL (tx : V) (k : Int) (fu : V) : List V := [J 2, .nilsl, .sl (nm 51) 0 2 2 8, J 0, J 0, J 0, J 0, .bool false, J 0, .bool true, tx, .nilsl, .nilsl, J 0, atV, J k, fu, .bool false, .bool false]
def goalL : List V := [J 0, .ptr (nm 30) 0, J 0, J 0, .nilp]
def srcA : List (Pth × O) := (nm 31, .cells goalL) :: (nm 30, .cells (machL (.inp (nm 60) 2) 0 (.iv .i64 1000 1099511627776 1))) :: treeM
def dstA (k : Int) : List (Pth × O) := (nm 30, .cells (machL .unk k .unk)) :: treeM
def isHit (v : V) : Bool := match v with | .tup [.agg [.lin 1 .i64 1 _ _, .sl0 true, .nilp], .bool true] => true | _ => false
def isMiss (v : V) : Bool := match v with | .tup [.agg [.int .i64 0, .nilsl, .nilp], .bool false] => true | _ => false
def sbL : Asc := idl [30, 51, 52, 53, 54]
def srch (b : Bool) (lds : List (Pth × Nat × V)) (k : Int) (pv : V → Bool) : Bool :=
  match (calT b lds).fn 175 [.ptr (nm 30) 0, J 0, .agg [atV, .sl0 true, .ptr (nm 31) 0], .bool true] (hp srcA) (nm 100) with
  | .ok v H' _ => (match pv v, freeH H' [nm 60] with | true, true => fitF [(1, atV)] [(1, 0, 65536)] sbL (dstA k) H' | _, _ => false)
  | .bad => false
end
theorem run_hit : srch true [(nm 60, 1, J 228)] 4 isHit = true := by decide +kernel
theorem run_lo : srch true [(nm 60, 1, .iv .i64 0 227 1)] 3 isMiss = true := by decide +kernel
theorem run_hi : srch true [(nm 60, 1, .iv .i64 229 1114111 1)] 3 isMiss = true := by decide +kernel
theorem run_end : srch false [] 3 isMiss = true := by decide +kernel
/-- the machine's cells -/
def machC (kv tx st sp fu : Value) (rd : Bool) : Array Value := #[.int .i64 2, .slice none 0 0, kv, .int .i64 0, .int .i64 0, .int .i64 0, .int .i64 0, .bool false, .int .i64 0, .bool true, tx, .slice none 0 0, .slice none 0 0, .int .i64 0, st, sp, fu, .bool false, .bool rd]
/-- the tree of the rule that waits: its kids' slice -/
structure TreeAt (w : World) (kv : Value) (ι : Emb) : Prop where
  lies : Lies w treeM (fun _ => 0) ι
  kids : V.rel ι (.sl (nm 51) 0 2 2 8) kv
theorem told_lt {ι : Emb} {b : Bool} (hb : b = true ↔ ι.sym 1 < ι.sym 2) : ∀ e ∈ tabT b, Go.Ev.Told ι e := by
  intro e he
  cases b with
  | true =>
    have hlt := hb.1 rfl
    have : e = (10, atV, lnV, .bool false) ∨ e = (7, atV, lnV, .bool true) := by simpa [tabT] using he
    rcases this with rfl | rfl
    · intro k a c ha hc op hop
      simp only [atV, lnV, V.rel, Value.int.injEq] at ha hc
      cases op <;> simp only [bno] at hop <;> try omega
      refine ⟨_, rfl, ?_⟩
      simp only [V.rel]
      rw [ha.1.2, hc.1.2]
      simp [ilt_eq, hlt, Go.Ev.valOf]
    · intro k a c ha hc op hop
      simp only [atV, lnV, V.rel, Value.int.injEq] at ha hc
      cases op <;> simp only [bno] at hop <;> try omega
      refine ⟨_, rfl, ?_⟩
      simp only [V.rel]
      rw [ha.1.2, hc.1.2]
      simp [ilt_eq, hlt, Go.Ev.valOf]
  | false =>
    have hlt : ¬ ι.sym 1 < ι.sym 2 := fun h => by cases hb.2 h
    have : e = (10, atV, lnV, .bool true) := by simpa [tabT] using he
    subst this
    intro k a c ha hc op hop
    simp only [atV, lnV, V.rel, Value.int.injEq] at ha hc
    cases op <;> simp only [bno] at hop <;> try omega
    refine ⟨_, rfl, ?_⟩
    simp only [V.rel]
    rw [ha.1.2, hc.1.2]
    simp [ilt_eq, hlt, Go.Ev.valOf]
theorem fit_treeS : fitF [] [] (idl [51, 52, 53, 54]) treeM (hp treeM) = true := by decide +kernel
theorem size_same {A A2 : List (Pth × O)} {σ τ : Nat → Int} {w : World} {ι ι2 : Emb} (h : Lies w A σ ι) (h2 : Lies w A2 τ ι2) {p : Pth} {l l2 : List V} (hp : (Ev.hp A).get p = some (.cells l)) (hp2 : (Ev.hp A2).get p = some (.cells l2)) {b s : Nat} (hb : ι p = some (b, s)) (hb2 : ι2 p = some (b, s)) : ι2.size b = ι.size b := by
  obtain ⟨b1, s1, c, el, fr, q1, q2, -, -, q5, -⟩ := h.hok.obj _ _ hp
  obtain ⟨b2, s2, c2, el2, fr2, r1, r2, -, -, r5, -⟩ := h2.hok.obj _ _ hp2
  rw [hb] at q1; cases q1
  rw [hb2] at r1; cases r1
  rw [q2] at r2; cases r2
  rw [q5, r5]
theorem kids_same {A A2 : List (Pth × O)} {σ τ : Nat → Int} {w : World} {ι ι2 : Emb} {kv : Value} (h : Lies w A σ ι) (h2 : Lies w A2 τ ι2) {l l2 : List V} (hp : (Ev.hp A).get (nm 51) = some (.cells l)) (hp2 : (Ev.hp A2).get (nm 51) = some (.cells l2)) (he : ι2 (nm 51) = ι (nm 51)) (hk : V.rel ι (.sl (nm 51) 0 2 2 8) kv) : V.rel ι2 (.sl (nm 51) 0 2 2 8) kv := by
  simp only [V.rel] at hk ⊢
  obtain ⟨b, s, c', k1, k2, k3, k4, k5⟩ := hk
  exact ⟨b, s, c', he.trans k1, k2, k3, k4, fun e => by rw [size_same h h2 hp hp2 k1 (he.trans k1)]; exact k5 e⟩
theorem fit_dst3 : fitF [] [] (idl [51, 52, 53, 54]) treeM (hp (dstA 3)) = true := by decide +kernel
theorem fit_dst4 : fitF [] [] (idl [51, 52, 53, 54]) treeM (hp (dstA 4)) = true := by decide +kernel
theorem mach_of {ι : Emb} {k : Int} {xs : List Value} (h : V.rels ι (machL .unk k .unk) xs) : ∃ kv tx fu, xs = (machC kv tx (.int .i64 (ι.sym 1)) (.int .i64 k) fu false).toList ∧ V.rel ι (.sl (nm 51) 0 2 2 8) kv := by
  unfold machL at h
  obtain ⟨x0, t0, rfl, h0, h⟩ := rels_cons_inv h
  obtain ⟨x1, t1, rfl, h1, h⟩ := rels_cons_inv h
  obtain ⟨x2, t2, rfl, h2, h⟩ := rels_cons_inv h
  obtain ⟨x3, t3, rfl, h3, h⟩ := rels_cons_inv h
  obtain ⟨x4, t4, rfl, h4, h⟩ := rels_cons_inv h
  obtain ⟨x5, t5, rfl, h5, h⟩ := rels_cons_inv h
  obtain ⟨x6, t6, rfl, h6, h⟩ := rels_cons_inv h
  obtain ⟨x7, t7, rfl, h7, h⟩ := rels_cons_inv h
  obtain ⟨x8, t8, rfl, h8, h⟩ := rels_cons_inv h
  obtain ⟨x9, t9, rfl, h9, h⟩ := rels_cons_inv h
  obtain ⟨x10, t10, rfl, h10, h⟩ := rels_cons_inv h
  obtain ⟨x11, t11, rfl, h11, h⟩ := rels_cons_inv h
  obtain ⟨x12, t12, rfl, h12, h⟩ := rels_cons_inv h
  obtain ⟨x13, t13, rfl, h13, h⟩ := rels_cons_inv h
  obtain ⟨x14, t14, rfl, h14, h⟩ := rels_cons_inv h
  obtain ⟨x15, t15, rfl, h15, h⟩ := rels_cons_inv h
  obtain ⟨x16, t16, rfl, h16, h⟩ := rels_cons_inv h
  obtain ⟨x17, t17, rfl, h17, h⟩ := rels_cons_inv h
  obtain ⟨x18, t18, rfl, h18, h⟩ := rels_cons_inv h
  have := rels_nil_inv h
  subst this
  simp only [J, atV, V.rel] at h0 h1 h3 h4 h5 h6 h7 h8 h9 h11 h12 h13 h14 h15 h17 h18
  obtain ⟨h14, -⟩ := h14
  subst h0 h1 h3 h4 h5 h6 h7 h8 h9 h11 h12 h13 h14 h15 h17 h18
  exact ⟨x2, x10, x16, rfl, h2⟩
/-- the numbers that are told -/
def numT (a n : Nat) : Nat → Int := fun i => if i = 1 then (a : Int) else if i = 2 then (n : Int) else 0
/-- what a search leaves -/
def SrP (w : World) (Mb gb a : Nat) (k : Int) (ι0 : Emb) (w' : World) : Prop := ∃ kv2 tx2 fu2 ι2, Cel w' Mb (machC kv2 tx2 (.int .i64 (a : Int)) (.int .i64 k) fu2 false) ∧ TreeAt w' kv2 ι2 ∧ ¬ foot ι2 treeM Mb ∧ (∀ b, foot ι2 treeM b → foot ι0 treeM b) ∧ Chg (fun b => b = Mb ∨ b = gb ∨ foot ι0 treeM b) w w'
set_option maxHeartbeats 4000000 in
theorem search_walk {w : World} {Mb gb : Nat} {kv tx : Value} {fu : Int} {ca : Addr} {S : List Nat} {a : Nat} {ι0 : Emb} (hM : Cel w Mb (machC kv tx (.int .i64 (a : Int)) (.int .i64 0) (.int .i64 fu) false)) (hg : Cel w gb #[.int .i64 0, .pointer (some ⟨Mb, 0, none⟩), .int .i64 0, .int .i64 0, .pointer none]) (hT : TreeAt w kv ι0)
    (hMf : ¬ foot ι0 treeM Mb) (hgf : ¬ foot ι0 treeM gb) (hMg : Mb ≠ gb) (hM0 : 0 < Mb) (hg0 : 0 < gb) (hx : Sees w 1 tx (natI S)) (hcp : ∀ c ∈ S, Utf.Cp c) (hS : S.length ≤ 60000) (ha : a ≤ S.length) (hxl : ∀ b, Value.leads tx = some b → b ≠ Mb ∧ b ≠ gb ∧ ¬ foot ι0 treeM b) (hfu : 1000 ≤ fu ∧ fu ≤ 1099511627776) :
    Calls Tryz.prog 175 #[.pointer (some ⟨Mb, 0, none⟩), .int .i64 0, .agg #[.int .i64 (a : Int), .slice (some ca) 0 0, .pointer (some ⟨gb, 0, none⟩)], .bool true] w fun e w' =>
      (S[a]? = some 228 ∧ (∃ ca2, e = .returned (.tuple #[.agg #[.int .i64 ((a : Int) + 1), .slice (some ca2) 0 0, .pointer none], .bool true])) ∧ SrP w Mb gb a 4 ι0 w') ∨ (S[a]? ≠ some 228 ∧ e = .returned (.tuple #[.agg #[.int .i64 0, .slice none 0 0, .pointer none], .bool false]) ∧ SrP w Mb gb a 3 ι0 w') := by
  obtain ⟨tA, n, tc, rfl, x1, x2, x3⟩ := id hx
  have hn : S.length = n := by rw [natI_len] at x1; omega
  subst hn
  -- the tree, its numbers being those that are told
  obtain ⟨ι1, hL1, hid1, hft1⟩ := hT.lies.part (τ := numT a S.length) fit_treeS num_none names_treeM
  have hk1 : V.rel ι1 (.sl (nm 51) 0 2 2 8) kv := kids_same hT.lies hL1 (by rfl) (by rfl) (hid1 _ (by decide)) hT.kids
  have hnone : ∀ p, p ∉ names treeM → ι1 p = none := fun p hp => by
    cases h : ι1 p with
    | none => rfl
    | some z => exact absurd (hL1.dom p (by rw [h]; simp)) hp
  have hf0 : ∀ p b s, ι1 p = some (b, s) → foot ι0 treeM b := fun p b s hp => by
    have hm := hL1.dom p (by rw [hp]; simp)
    have hp0 : ι0 p = some (b, s) := by rw [← hid1 p hm]; exact hp
    have hlive : Live (Ev.hp treeM) p := by
      obtain ⟨i, hi, rfl⟩ := names_treeM p hm
      simp only [List.mem_cons, List.not_mem_nil, or_false] at hi
      rcases hi with rfl | rfl | rfl | rfl
      · exact ⟨_, by rfl, by simp⟩
      · exact ⟨_, by rfl, by simp⟩
      · exact ⟨_, by rfl, by simp⟩
      · exact ⟨_, by rfl, by simp⟩
    exact ⟨p, s, hlive, hp0⟩
  -- the text's name
  obtain ⟨tb, ts, htb, htA, htM⟩ : ∃ tb ts, tb < w.heap.size ∧ (S.length ≠ 0 → tA = some ⟨tb, ts, none⟩ ∧ ∀ i u, (natI S)[i]? = some u → w.cell? ⟨tb, ts + i, none⟩ = some u) ∧ tb ≠ Mb ∧ tb ≠ gb ∧ ¬ (S.length ≠ 0 ∧ foot ι0 treeM tb) := by
    by_cases hz : S.length = 0
    · exact ⟨0, 0, by have := hM.lt; omega, fun h => absurd hz h, by omega, by omega, fun h => h.1 hz⟩
    · obtain ⟨b, s, rfl, h1, h2⟩ := x3 hz
      have := hxl b (by obtain ⟨m, hm⟩ : ∃ m, S.length = m + 1 := ⟨S.length - 1, by omega⟩; rw [hm]; rfl)
      exact ⟨b, s, h1, fun _ => ⟨rfl, h2⟩, this.1, this.2.1, fun h => this.2.2 h.2⟩
  obtain ⟨ι3, hle3, hok3, h60, hoth3, hsy3⟩ := hok_name hL1.hok (p := nm 60) (b := tb) (s := ts) (by decide +kernel) (hnone _ (by decide +kernel)) htb
  -- the machine
  have hinp : V.rel ι3 (.inp (nm 60) 2) (.slice tA S.length tc) := by
    simp only [V.rel]
    refine ⟨tA, S.length, tc, rfl, ?_, ?_, fun h => ⟨tb, ts, (htA h).1, h60⟩⟩
    · rw [hsy3, hL1.sym]; rfl
    · rw [hsy3, hL1.sym]; show ((S.length : Nat) : Int) ≤ _; omega
  have hat : V.rel ι3 atV (.int .i64 (a : Int)) := by
    simp only [atV, V.rel]
    rw [hsy3, hL1.sym]
    exact ⟨rfl, by show (0 : Int) ≤ (a : Nat); omega, by show ((a : Nat) : Int) ≤ 65536; omega⟩
  have hfv : V.rel ι3 (.iv .i64 1000 1099511627776 1) (.int .i64 fu) := by
    simp only [V.rel]
    exact ⟨(fu - 1000).toNat, by congr 1; omega, by omega⟩
  have hk3 := V.rel.mono hle3 _ _ hk1
  have hrelM : V.rels ι3 (machL (.inp (nm 60) 2) 0 (.iv .i64 1000 1099511627776 1)) (machC kv (.slice tA S.length tc) (.int .i64 (a : Int)) (.int .i64 0) (.int .i64 fu) false).toList := by
    have i0 : ∀ z : Int, V.rel ι3 (J z) (.int .i64 z) := fun z => by simp only [J, V.rel]
    have bb : ∀ z : Bool, V.rel ι3 (.bool z) (.bool z) := fun z => by simp only [V.rel]
    have ns : V.rel ι3 .nilsl (.slice none 0 0) := by simp only [V.rel]
    exact rels_cons (i0 _) (rels_cons ns (rels_cons hk3 (rels_cons (i0 _) (rels_cons (i0 _) (rels_cons (i0 _) (rels_cons (i0 _) (rels_cons (bb _) (rels_cons (i0 _) (rels_cons (bb _) (rels_cons hinp (rels_cons ns (rels_cons ns (rels_cons (i0 _) (rels_cons hat (rels_cons (i0 _) (rels_cons hfv (rels_cons (bb _) (rels_cons (bb _) rels_nil))))))))))))))))))
  have hnm : ∀ b, ¬ foot ι0 treeM b → b ≠ tb → ∀ q s, ι3 q ≠ some (b, s) := fun b hb hbt q s hq => by
    by_cases e : q = nm 60
    · rw [e, h60] at hq
      cases hq
      exact hbt rfl
    · rw [hoth3 q e] at hq
      exact hb (hf0 q b s hq)
  obtain ⟨ι4, hle4, hok4, h30, hoth4, hsy4⟩ := hok_join hok3 (p := nm 30) (by decide +kernel) (by rw [hoth3 _ (by decide +kernel)]; exact hnone _ (by decide +kernel)) hM (by rfl) (hnm Mb hMf (Ne.symm htM.1)) hrelM
  -- the goal
  have hrelG : V.rels ι4 goalL (#[.int .i64 0, .pointer (some ⟨Mb, 0, none⟩), .int .i64 0, .int .i64 0, .pointer none] : Array Value).toList := by
    have i0 : ∀ z : Int, V.rel ι4 (J z) (.int .i64 z) := fun z => by simp only [J, V.rel]
    exact rels_cons (i0 _) (rels_cons (ptr_rel h30) (rels_cons (i0 _) (rels_cons (i0 _) (rels_cons (by simp only [V.rel]) rels_nil))))
  obtain ⟨ι5, hle5, hok5, h31, hoth5, hsy5⟩ := hok_join hok4 (p := nm 31) (by decide +kernel) (by rw [hoth4 _ (by decide +kernel), hoth3 _ (by decide +kernel)]; exact hnone _ (by decide +kernel)) hg (by rfl) (fun q s hq => by
    by_cases e : q = nm 30
    · rw [e, h30] at hq
      cases hq
      exact hMg rfl
    · rw [hoth4 q e] at hq
      exact hnm gb hgf (Ne.symm htM.2.1) q s hq) hrelG
  have hsy : ι5.sym = numT a S.length := by rw [hsy5, hsy4, hsy3, hL1.sym]
  have hold : ∀ q, q ≠ nm 30 → q ≠ nm 31 → q ≠ nm 60 → ι5 q = ι1 q := fun q e1 e2 e3 => by rw [hoth5 q e2, hoth4 q e1, hoth3 q e3]
  have h60' : ι5 (nm 60) = some (tb, ts) := by rw [hoth5 _ (by decide +kernel), hoth4 _ (by decide +kernel)]; exact h60
  have h30' : ι5 (nm 30) = some (Mb, 0) := by rw [hoth5 _ (by decide +kernel)]; exact h30
  have hdom : ∀ p, ι5 p ≠ none → p ∈ names srcA ∨ p ∈ [nm 60] := fun p hp => by
    by_cases e1 : p = nm 30
    · subst e1; exact .inl (by decide +kernel)
    by_cases e2 : p = nm 31
    · subst e2; exact .inl (by decide +kernel)
    by_cases e3 : p = nm 60
    · subst e3; exact .inr (by simp)
    rw [hold p e1 e2 e3] at hp
    have := hL1.dom p hp
    exact .inl (List.mem_cons_of_mem _ (List.mem_cons_of_mem _ this))
  have hnl : S.length ≠ 0 → ∀ q t, Live (Ev.hp srcA) q → ι5 q ≠ some (tb, t) := fun hz q t hl hq => by
    by_cases e1 : q = nm 30
    · rw [e1, h30'] at hq; cases hq; exact htM.1 rfl
    by_cases e2 : q = nm 31
    · rw [e2, h31] at hq; cases hq; exact htM.2.1 rfl
    by_cases e3 : q = nm 60
    · subst e3
      obtain ⟨o, g1, -⟩ := hl
      have : (Ev.hp srcA).get (nm 60) = none := by decide +kernel
      rw [this] at g1
      cases g1
    · rw [hold q e1 e2 e3] at hq
      exact htM.2.2 ⟨hz, hf0 q tb t hq⟩
  have gokT : ∀ v0 : V, ∀ z : Nat, S[a]? = some z → V.rel ι5 v0 (.int .i64 (z : Int)) → GOK ⟨fun _ => [], tabT true, [(nm 60, 1, v0)], []⟩ ι5 (Ev.hp srcA) w := fun v0 z hz hv0 => by
    have hal : a < S.length := (List.getElem?_eq_some_iff.1 hz).1
    have htl := told_lt (ι := ι5) (b := true) ⟨fun _ => by rw [hsy]; show ((a : Nat) : Int) < ((S.length : Nat) : Int); omega, fun _ => rfl⟩
    refine ⟨fun g i v h => (by simp at h), fun g h => absurd rfl h, htl, fun e he h20 => ?_, fun e he => ?_, fun e he => (by cases he)⟩
    · have : e = (10, atV, lnV, .bool false) ∨ e = (7, atV, lnV, .bool true) := by simpa [tabT] using he
      rcases this with rfl | rfl <;> exact absurd h20 (by decide)
    · have : e = (nm 60, 1, v0) := by simpa using he
      subst this
      refine ⟨tb, ts, .int .i64 (z : Int), h60', hnl (by omega), ?_, hv0⟩
      rw [hsy]
      have hcell := (htA (by omega)).2 a (.int .i64 (z : Int)) (by unfold natI; rw [List.getElem?_map, hz]; rfl)
      exact hcell
  have gokE : a = S.length → GOK ⟨fun _ => [], tabT false, [], []⟩ ι5 (Ev.hp srcA) w := fun hal => by
    have htl := told_lt (ι := ι5) (b := false) ⟨fun h => (by cases h), fun h => by rw [hsy] at h; exfalso; have h' : ((a : Nat) : Int) < ((S.length : Nat) : Int) := h; omega⟩
    refine ⟨fun g i v h => (by simp at h), fun g h => absurd rfl h, htl, fun e he h20 => ?_, fun e he => (by cases he), fun e he => (by cases he)⟩
    have : e = (10, atV, lnV, .bool true) := by simpa [tabT] using he
    subst this
    exact absurd h20 (by decide)
  have hnum : Num [(1, atV)] [(1, 0, 65536)] (numT a S.length) (numT a S.length) := by
    refine ⟨fun i u h => ?_, fun i lo hi h => ?_⟩
    · have := List.mem_singleton.1 (getN_mem h)
      cases this
      rfl
    · have := List.mem_singleton.1 (getS_mem h)
      cases this
      exact ⟨by show (0 : Int) ≤ ((a : Nat) : Int); omega, by show ((a : Nat) : Int) ≤ 65536; omega⟩
  have hxs : V.rels ι5 [.ptr (nm 30) 0, J 0, .agg [atV, .sl0 true, .ptr (nm 31) 0], .bool true] (#[.pointer (some ⟨Mb, 0, none⟩), .int .i64 0, .agg #[.int .i64 (a : Int), .slice (some ca) 0 0, .pointer (some ⟨gb, 0, none⟩)], .bool true] : Array Value).toList := by
    refine rels_cons (ptr_rel h30') (rels_cons (by simp only [J, V.rel]) (rels_cons ?_ (rels_cons (by simp only [V.rel]) rels_nil)))
    rw [V.rel]
    exact ⟨_, rfl, rels_cons (V.rel.mono hle5 _ _ (V.rel.mono hle4 _ _ hat)) (rels_cons (by simp only [V.rel]; exact ⟨_, _, rfl, fun _ => rfl⟩) (rels_cons (ptr_rel h31) rels_nil))⟩
  have key : ∀ (b : Bool) (lds : List (Pth × Nat × V)) (k : Int) (pv : V → Bool), srch b lds k pv = true → GOK ⟨fun _ => [], tabT b, lds, []⟩ ι5 (Ev.hp srcA) w → (k = 3 ∨ k = 4) → Calls Tryz.prog 175 #[.pointer (some ⟨Mb, 0, none⟩), .int .i64 0, .agg #[.int .i64 (a : Int), .slice (some ca) 0 0, .pointer (some ⟨gb, 0, none⟩)], .bool true] w fun e w' =>
      (∃ x v ι', e = .returned x ∧ pv v = true ∧ V.rel ι' v x ∧ ι'.sym = numT a S.length) ∧
      SrP w Mb gb a k ι0 w' := by
    intro b lds k pv hs gok hk
    unfold srch at hs
    split at hs
    · rename_i v H' n hc
      split at hs
      · rename_i hpv hfree
        refine (call_told (Go.Ev.cal_ok (Γ := ⟨fun _ => [], tabT b, lds, []⟩) mix notNamed 1000) hc hfree hs hnum hsy hok5 gok hdom hxs).mono ?_
        rintro e w' ⟨x, ι', ι2, rfl, hv, hle, hL2, hC, hF, hr⟩
        refine ⟨⟨x, v, ι', rfl, hpv, hv, by rw [hle.syms, hsy]⟩, ?_⟩
        have r30 : ι2 (nm 30) = some (Mb, 0) := (hr (nm 30, nm 30) (by simp [sbL, idl])).trans (hle.name _ _ h30')
        obtain ⟨cs, hcs, hcel⟩ := hL2.celx (p := nm 30) (l := machL .unk k .unk) (by rfl)
        have hbk : bk ι2 (nm 30) = Mb := by unfold bk; rw [r30]; rfl
        rw [hbk] at hcel
        obtain ⟨kv2, tx2, fu2, ecs, hkk⟩ := mach_of hcs
        have ecs2 := Array.toList_inj.1 ecs
        have hs1 : ι2.sym 1 = (a : Int) := by rw [hL2.sym]; rfl
        rw [ecs2, hs1] at hcel
        have hft : fitF [] [] (idl [51, 52, 53, 54]) treeM (Ev.hp (dstA k)) = true := by rcases hk with rfl | rfl; exact fit_dst3; exact fit_dst4
        obtain ⟨ι6, hL6, hid6, hft6⟩ := hL2.part (τ := fun _ => 0) hft num_none names_treeM
        have hin : ∀ p ∈ names treeM, ι2 p = ι' p := fun p hp => by
          obtain ⟨i, hi, rfl⟩ := names_treeM p hp
          refine hr (nm i, nm i) ?_
          simp only [List.mem_cons, List.not_mem_nil, or_false] at hi
          rcases hi with rfl | rfl | rfl | rfl <;> simp [sbL, idl]
        have hne : ∀ p ∈ names treeM, p ≠ nm 30 ∧ p ≠ nm 31 ∧ p ≠ nm 60 := fun p hp => by
          obtain ⟨i, hi, rfl⟩ := names_treeM p hp
          simp only [List.mem_cons, List.not_mem_nil, or_false] at hi
          rcases hi with rfl | rfl | rfl | rfl <;> decide +kernel
        have hsome : ∀ p ∈ names treeM, ∃ z, ι1 p = some z := fun p hp => by
          obtain ⟨i, hi, rfl⟩ := names_treeM p hp
          simp only [List.mem_cons, List.not_mem_nil, or_false] at hi
          rcases hi with rfl | rfl | rfl | rfl <;> exact ⟨_, hL1.bkc (by rfl)⟩
        have heq : ∀ p ∈ names treeM, ι2 p = ι1 p := fun p hp => by
          obtain ⟨z, hz⟩ := hsome p hp
          obtain ⟨e1, e2, e3⟩ := hne p hp
          rw [hin p hp, hz]
          exact hle.name _ _ (by rw [hold p e1 e2 e3]; exact hz)
        have hft7 : ∀ d, foot ι6 treeM d → foot ι0 treeM d := fun d hd => by
          obtain ⟨p, hp, t, hpd⟩ := hft6 d hd
          exact hf0 p d t (by rw [← heq p hp]; exact hpd)
        refine ⟨kv2, tx2, fu2, ι6, hcel, ⟨hL6, kids_same hL2 hL6 (by rfl) (by rfl) (hid6 _ (by decide)) hkk⟩, fun h => hMf (hft7 _ h), hft7, hC.more fun d hd hf => ?_⟩
        obtain ⟨p, t, hl, hp⟩ := hf
        by_cases e1 : p = nm 30
        · rw [e1, h30'] at hp; cases hp; exact .inl rfl
        by_cases e2 : p = nm 31
        · rw [e2, h31] at hp; cases hp; exact .inr (.inl rfl)
        by_cases e3 : p = nm 60
        · subst e3
          obtain ⟨o, g1, -⟩ := hl
          have : (Ev.hp srcA).get (nm 60) = none := by decide +kernel
          rw [this] at g1
          cases g1
        · rw [hold p e1 e2 e3] at hp
          exact .inr (.inr (hf0 p d t hp))
      · cases hs
    · cases hs
  have hmiss : ∀ (x : Value) (v : V) (ι' : Emb), isMiss v = true → V.rel ι' v x → x = .tuple #[.agg #[.int .i64 0, .slice none 0 0, .pointer none], .bool false] := fun x v ι' hp hr => by
    unfold isMiss at hp
    split at hp
    · rw [V.rel] at hr
      obtain ⟨cs, rfl, hc⟩ := hr
      obtain ⟨y0, t0, e0, g0, hc⟩ := rels_cons_inv hc
      obtain ⟨y1, t1, e1, g1, hc⟩ := rels_cons_inv hc
      have := rels_nil_inv hc
      subst this
      rw [V.rel] at g0
      obtain ⟨ds, rfl, hd⟩ := g0
      obtain ⟨z0, s0, f0, k0, hd⟩ := rels_cons_inv hd
      obtain ⟨z1, s1, f1, k1, hd⟩ := rels_cons_inv hd
      obtain ⟨z2, s2, f2, k2, hd⟩ := rels_cons_inv hd
      have := rels_nil_inv hd
      subst this
      simp only [V.rel] at g1 k0 k1 k2
      have h1 : ds = #[.int .i64 0, .slice none 0 0, .pointer none] := Array.toList_inj.1 (by rw [f0, f1, f2, k0, k1, k2])
      rw [show cs = #[.agg ds, y1] from Array.toList_inj.1 (by rw [e0, e1]), h1, g1]
    · cases hp
  have hhit : ∀ (x : Value) (v : V) (ι' : Emb), isHit v = true → ι'.sym = numT a S.length → V.rel ι' v x → ∃ ca2, x = .tuple #[.agg #[.int .i64 ((a : Int) + 1), .slice (some ca2) 0 0, .pointer none], .bool true] := fun x v ι' hp hs hr => by
    unfold isHit at hp
    split at hp
    · rw [V.rel] at hr
      obtain ⟨cs, rfl, hc⟩ := hr
      obtain ⟨y0, t0, e0, g0, hc⟩ := rels_cons_inv hc
      obtain ⟨y1, t1, e1, g1, hc⟩ := rels_cons_inv hc
      have := rels_nil_inv hc
      subst this
      rw [V.rel] at g0
      obtain ⟨ds, rfl, hd⟩ := g0
      obtain ⟨z0, s0, f0, k0, hd⟩ := rels_cons_inv hd
      obtain ⟨z1, s1, f1, k1, hd⟩ := rels_cons_inv hd
      obtain ⟨z2, s2, f2, k2, hd⟩ := rels_cons_inv hd
      have := rels_nil_inv hd
      subst this
      simp only [V.rel] at g1 k0 k1 k2
      obtain ⟨a2, c2, k1, kz⟩ := k1
      have kz := kz trivial
      subst kz
      rw [hs] at k0
      have h1 : ds = #[.int .i64 ((a : Int) + 1), .slice (some a2) 0 0, .pointer none] := Array.toList_inj.1 (by rw [f0, f1, f2, k0.1, k1, k2]; rfl)
      exact ⟨a2, by rw [show cs = #[.agg ds, y1] from Array.toList_inj.1 (by rw [e0, e1]), h1, g1]⟩
    · cases hp
  by_cases hal : a < S.length
  · obtain ⟨z, hz⟩ : ∃ z, S[a]? = some z := ⟨S[a], List.getElem?_eq_getElem hal⟩
    have hcz := (hcp z (List.mem_of_getElem? hz)).1
    rcases Nat.lt_trichotomy z 228 with h | h | h
    · refine (key true [(nm 60, 1, .iv .i64 0 227 1)] 3 isMiss run_lo (gokT _ z hz (by simp only [V.rel]; exact ⟨z, by congr 1; omega, by omega⟩)) (.inl rfl)).mono ?_
      rintro e w' ⟨⟨x, v, ι', rfl, hpv, hv, -⟩, hR⟩
      exact .inr ⟨by rw [hz]; intro e; cases e; omega, by rw [hmiss x v ι' hpv hv], hR⟩
    · subst h
      refine (key true [(nm 60, 1, J 228)] 4 isHit run_hit (gokT _ 228 hz (by simp only [J, V.rel]; rfl)) (.inr rfl)).mono ?_
      rintro e w' ⟨⟨x, v, ι', rfl, hpv, hv, hsv⟩, hR⟩
      obtain ⟨ca2, hx2⟩ := hhit x v ι' hpv hsv hv
      exact .inl ⟨hz, ⟨ca2, by rw [hx2]⟩, hR⟩
    · refine (key true [(nm 60, 1, .iv .i64 229 1114111 1)] 3 isMiss run_hi (gokT _ z hz (by simp only [V.rel]; exact ⟨z - 229, by rw [show (229 : Int) + ((z - 229 : Nat) : Int) * ((1 : Nat) : Int) = (z : Int) by omega], by omega⟩)) (.inl rfl)).mono ?_
      rintro e w' ⟨⟨x, v, ι', rfl, hpv, hv, -⟩, hR⟩
      exact .inr ⟨by rw [hz]; intro e; cases e; omega, by rw [hmiss x v ι' hpv hv], hR⟩
  · refine (key false [] 3 isMiss run_end (gokE (by omega)) (.inl rfl)).mono ?_
    rintro e w' ⟨⟨x, v, ι', rfl, hpv, hv, -⟩, hR⟩
    exact .inr ⟨(by rw [List.getElem?_eq_none (by omega)]; intro e; cases e), by rw [hmiss x v ι' hpv hv], hR⟩
end Go.Proofs.YtahmcjdddcbhnaaGreatDoor
namespace Go.Proofs.YtahmcjdddcbhnaaGreatDoor
open Go Go.Ev Go.RowKit

set_option maxHeartbeats 1000000 in
theorem match_walk {w : World} {rp nx : Value} (hr : ∃ a, rp = .pointer a) (hn : ∃ a, nx = .pointer a) :
    Calls Tryz.prog 176 #[rp, nx] w fun e w' => e = .returned (.pointer (some ⟨w.heap.size, 0, none⟩)) ∧ Blk w' w.heap.size 388 #[.int .i64 0, rp, .int .i64 0, .int .i64 0, nx] ∧ Below w.heap.size w w' := by
  obtain ⟨a, rfl⟩ := hr
  obtain ⟨b, rfl⟩ := hn
  go_enter Tryz.func176, Tryz.ntmps176
  go_wp2_with fail
  go_ret
  exact ⟨rfl, Blk.made w _ _, (Below.refl _ _).alloc (Nat.le_refl _) _⟩
noncomputable section
def machK (tx : V) (k : Int) (rd : Bool) : List V := [J 2, .nilsl, .sl (nm 51) 0 2 2 8, J 0, J 0, J 0, J 0, .bool false, J 0, .bool true, tx, .nilsl, .nilsl, J 0, atV, J k, .unk, .bool false, .bool rd]
def macA (k : Int) (rd : Bool) : List (Pth × O) := (nm 30, .cells (machK .unk k rd)) :: treeM
def macR (f : Nat) (args : List V) (k : Int) (rd rd2 : Bool) (pv : V → Bool) : Bool :=
  match cal0.fn f args (hp (macA k rd)) (nm 100) with
  | .ok v H' _ => (match pv v with | true => fitF [(1, atV)] [(1, 0, 65536)] sbL (macA k rd2) H' | _ => false)
  | .bad => false
def isRepH (v : V) : Bool := match v with | .agg [.sym 1 .i64 _ _, .lin 1 .i64 1 _ _, .sl _ _ 0 _ _, .bool true, .int .i64 4, .int .i64 0] => true | _ => false
def isRepM (v : V) : Bool := match v with | .agg [.int .i64 0, .int .i64 0, .nilsl, .bool false, .int .i64 3, .int .i64 0] => true | _ => false
def isVoid (v : V) : Bool := match v with | .tup [] => true | _ => false
end
theorem run_repH : macR 174 [.ptr (nm 30) 0, .agg [.lin 1 .i64 1 1 65537, .sl0 true, .nilp], .bool true] 4 false true isRepH = true := by decide +kernel
theorem run_repM : macR 174 [.ptr (nm 30) 0, .agg [J 0, .nilsl, .nilp], .bool false] 3 false false isRepM = true := by decide +kernel
theorem run_keepH : macR 177 [.ptr (nm 30) 0] 4 true true isVoid = true := by decide +kernel
theorem run_keepM : macR 177 [.ptr (nm 30) 0] 3 false false isVoid = true := by decide +kernel
theorem mach_of2 {ι : Emb} {k : Int} {rd : Bool} {xs : List Value} (h : V.rels ι (machK .unk k rd) xs) : ∃ kv tx fu, xs = (machC kv tx (.int .i64 (ι.sym 1)) (.int .i64 k) fu rd).toList ∧ V.rel ι (.sl (nm 51) 0 2 2 8) kv := by
  unfold machK at h
  obtain ⟨x0, t0, rfl, h0, h⟩ := rels_cons_inv h
  obtain ⟨x1, t1, rfl, h1, h⟩ := rels_cons_inv h
  obtain ⟨x2, t2, rfl, h2, h⟩ := rels_cons_inv h
  obtain ⟨x3, t3, rfl, h3, h⟩ := rels_cons_inv h
  obtain ⟨x4, t4, rfl, h4, h⟩ := rels_cons_inv h
  obtain ⟨x5, t5, rfl, h5, h⟩ := rels_cons_inv h
  obtain ⟨x6, t6, rfl, h6, h⟩ := rels_cons_inv h
  obtain ⟨x7, t7, rfl, h7, h⟩ := rels_cons_inv h
  obtain ⟨x8, t8, rfl, h8, h⟩ := rels_cons_inv h
  obtain ⟨x9, t9, rfl, h9, h⟩ := rels_cons_inv h
  obtain ⟨x10, t10, rfl, h10, h⟩ := rels_cons_inv h
  obtain ⟨x11, t11, rfl, h11, h⟩ := rels_cons_inv h
  obtain ⟨x12, t12, rfl, h12, h⟩ := rels_cons_inv h
  obtain ⟨x13, t13, rfl, h13, h⟩ := rels_cons_inv h
  obtain ⟨x14, t14, rfl, h14, h⟩ := rels_cons_inv h
  obtain ⟨x15, t15, rfl, h15, h⟩ := rels_cons_inv h
  obtain ⟨x16, t16, rfl, h16, h⟩ := rels_cons_inv h
  obtain ⟨x17, t17, rfl, h17, h⟩ := rels_cons_inv h
  obtain ⟨x18, t18, rfl, h18, h⟩ := rels_cons_inv h
  have := rels_nil_inv h
  subst this
  simp only [J, atV, V.rel] at h0 h1 h3 h4 h5 h6 h7 h8 h9 h11 h12 h13 h14 h15 h17 h18
  obtain ⟨h14, -⟩ := h14
  subst h0 h1 h3 h4 h5 h6 h7 h8 h9 h11 h12 h13 h14 h15 h17 h18
  exact ⟨x2, x10, x16, rfl, h2⟩
theorem fit_mac4t : fitF [] [] (idl [51, 52, 53, 54]) treeM (hp (macA 4 true)) = true := by decide +kernel
theorem fit_mac3f : fitF [] [] (idl [51, 52, 53, 54]) treeM (hp (macA 3 false)) = true := by decide +kernel
set_option maxHeartbeats 4000000 in
theorem mac_call {f : Nat} {args : List V} {xs : Array Value} {k : Int} {rd rd2 : Bool} {pv : V → Bool} (h : macR f args k rd rd2 pv = true) (hft : fitF [] [] (idl [51, 52, 53, 54]) treeM (hp (macA k rd2)) = true) {w : World} {Mb a : Nat} {kv tx fu : Value} {ι0 : Emb}
    (hM : Cel w Mb (machC kv tx (.int .i64 (a : Int)) (.int .i64 k) fu rd)) (hT : TreeAt w kv ι0) (hMf : ¬ foot ι0 treeM Mb) (ha : a ≤ 60000) (hxs : ∀ ι : Emb, ι (nm 30) = some (Mb, 0) → ι.sym = numT a 0 → V.rels ι args xs.toList) :
    Calls Tryz.prog f xs w fun e w' => (∃ x v ι', e = .returned x ∧ pv v = true ∧ V.rel ι' v x ∧ ι'.sym = numT a 0) ∧
      ∃ kv2 tx2 fu2 ι2, Cel w' Mb (machC kv2 tx2 (.int .i64 (a : Int)) (.int .i64 k) fu2 rd2) ∧ TreeAt w' kv2 ι2 ∧ ¬ foot ι2 treeM Mb ∧ (∀ b, foot ι2 treeM b → foot ι0 treeM b) ∧ Chg (fun b => b = Mb ∨ foot ι0 treeM b) w w' := by
  obtain ⟨ι1, hL1, hid1, hft1⟩ := hT.lies.part (τ := numT a 0) fit_treeS num_none names_treeM
  have hk1 : V.rel ι1 (.sl (nm 51) 0 2 2 8) kv := kids_same hT.lies hL1 (by rfl) (by rfl) (hid1 _ (by decide)) hT.kids
  have hnone : ∀ p, p ∉ names treeM → ι1 p = none := fun p hp => by
    cases h : ι1 p with
    | none => rfl
    | some z => exact absurd (hL1.dom p (by rw [h]; simp)) hp
  have hf0 : ∀ p b s, ι1 p = some (b, s) → foot ι0 treeM b := fun p b s hp => by
    have hm := hL1.dom p (by rw [hp]; simp)
    have hp0 : ι0 p = some (b, s) := by rw [← hid1 p hm]; exact hp
    have hlive : Live (Ev.hp treeM) p := by
      obtain ⟨i, hi, rfl⟩ := names_treeM p hm
      simp only [List.mem_cons, List.not_mem_nil, or_false] at hi
      rcases hi with rfl | rfl | rfl | rfl
      · exact ⟨_, by rfl, by simp⟩
      · exact ⟨_, by rfl, by simp⟩
      · exact ⟨_, by rfl, by simp⟩
      · exact ⟨_, by rfl, by simp⟩
    exact ⟨p, s, hlive, hp0⟩
  have hat : V.rel ι1 atV (.int .i64 (a : Int)) := by
    simp only [atV, V.rel]
    rw [hL1.sym]
    exact ⟨rfl, by show (0 : Int) ≤ (a : Nat); omega, by show ((a : Nat) : Int) ≤ 65536; omega⟩
  have hrelM : V.rels ι1 (machK .unk k rd) (machC kv tx (.int .i64 (a : Int)) (.int .i64 k) fu rd).toList := by
    have i0 : ∀ z : Int, V.rel ι1 (J z) (.int .i64 z) := fun z => by simp only [J, V.rel]
    have bb : ∀ z : Bool, V.rel ι1 (.bool z) (.bool z) := fun z => by simp only [V.rel]
    have uu : ∀ z : Value, V.rel ι1 .unk z := fun z => by simp only [V.rel]
    have ns : V.rel ι1 .nilsl (.slice none 0 0) := by simp only [V.rel]
    exact rels_cons (i0 _) (rels_cons ns (rels_cons hk1 (rels_cons (i0 _) (rels_cons (i0 _) (rels_cons (i0 _) (rels_cons (i0 _) (rels_cons (bb _) (rels_cons (i0 _) (rels_cons (bb _) (rels_cons (uu _) (rels_cons ns (rels_cons ns (rels_cons (i0 _) (rels_cons hat (rels_cons (i0 _) (rels_cons (uu _) (rels_cons (bb _) (rels_cons (bb _) rels_nil))))))))))))))))))
  obtain ⟨ι4, hle4, hok4, h30, hoth4, hsy4⟩ := hok_join hL1.hok (p := nm 30) (by decide +kernel) (hnone _ (by decide +kernel)) hM (by rfl) (fun q s hq => hMf (hf0 q Mb s hq)) hrelM
  have hsy : ι4.sym = numT a 0 := by rw [hsy4, hL1.sym]
  have hdom : ∀ p, ι4 p ≠ none → p ∈ names (macA k rd) ∨ p ∈ ([] : List Pth) := fun p hp => by
    by_cases e1 : p = nm 30
    · subst e1; exact .inl (List.mem_cons_self ..)
    rw [hoth4 p e1] at hp
    exact .inl (List.mem_cons_of_mem _ (hL1.dom p hp))
  have hnum : Num [(1, atV)] [(1, 0, 65536)] (numT a 0) (numT a 0) := by
    refine ⟨fun i u h => ?_, fun i lo hi h => ?_⟩
    · have := List.mem_singleton.1 (getN_mem h)
      cases this
      rfl
    · have := List.mem_singleton.1 (getS_mem h)
      cases this
      exact ⟨by show (0 : Int) ≤ ((a : Nat) : Int); omega, by show ((a : Nat) : Int) ≤ 65536; omega⟩
  unfold macR at h
  split at h
  · rename_i v H' n hc
    split at h
    · rename_i hpv
      refine (call_told (ps := []) cal0_ok hc (by rfl) h hnum hsy hok4 GOK.none hdom (hxs ι4 h30 hsy)).mono ?_
      rintro e w' ⟨x, ι', ι2, rfl, hv, hle, hL2, hC, hF, hr⟩
      refine ⟨⟨x, v, ι', rfl, hpv, hv, by rw [hle.syms, hsy]⟩, ?_⟩
      have r30 : ι2 (nm 30) = some (Mb, 0) := (hr (nm 30, nm 30) (by simp [sbL, idl])).trans (hle.name _ _ h30)
      obtain ⟨cs, hcs, hcel⟩ := hL2.celx (p := nm 30) (l := machK .unk k rd2) (by rfl)
      have hbk : bk ι2 (nm 30) = Mb := by unfold bk; rw [r30]; rfl
      rw [hbk] at hcel
      obtain ⟨kv2, tx2, fu2, ecs, hkk⟩ := mach_of2 hcs
      have ecs2 := Array.toList_inj.1 ecs
      have hs1 : ι2.sym 1 = (a : Int) := by rw [hL2.sym]; rfl
      rw [ecs2, hs1] at hcel
      obtain ⟨ι6, hL6, hid6, hft6⟩ := hL2.part (τ := fun _ => 0) hft num_none names_treeM
      have hin : ∀ p ∈ names treeM, ι2 p = ι' p := fun p hp => by
        obtain ⟨i, hi, rfl⟩ := names_treeM p hp
        refine hr (nm i, nm i) ?_
        simp only [List.mem_cons, List.not_mem_nil, or_false] at hi
        rcases hi with rfl | rfl | rfl | rfl <;> simp [sbL, idl]
      have hne : ∀ p ∈ names treeM, p ≠ nm 30 := fun p hp => by
        obtain ⟨i, hi, rfl⟩ := names_treeM p hp
        simp only [List.mem_cons, List.not_mem_nil, or_false] at hi
        rcases hi with rfl | rfl | rfl | rfl <;> decide +kernel
      have hsome : ∀ p ∈ names treeM, ∃ z, ι1 p = some z := fun p hp => by
        obtain ⟨i, hi, rfl⟩ := names_treeM p hp
        simp only [List.mem_cons, List.not_mem_nil, or_false] at hi
        rcases hi with rfl | rfl | rfl | rfl <;> exact ⟨_, hL1.bkc (by rfl)⟩
      have heq : ∀ p ∈ names treeM, ι2 p = ι1 p := fun p hp => by
        obtain ⟨z, hz⟩ := hsome p hp
        rw [hin p hp, hz]
        exact hle.name _ _ (by rw [hoth4 p (hne p hp)]; exact hz)
      have hft7 : ∀ d, foot ι6 treeM d → foot ι0 treeM d := fun d hd => by
        obtain ⟨p, hp, t, hpd⟩ := hft6 d hd
        exact hf0 p d t (by rw [← heq p hp]; exact hpd)
      refine ⟨kv2, tx2, fu2, ι6, hcel, ⟨hL6, kids_same hL2 hL6 (by rfl) (by rfl) (hid6 _ (by decide)) hkk⟩, fun h => hMf (hft7 _ h), hft7, hC.more fun d hd hf => ?_⟩
      obtain ⟨p, t, hl, hp⟩ := hf
      by_cases e1 : p = nm 30
      · rw [e1, h30] at hp; cases hp; exact .inl rfl
      · rw [hoth4 p e1] at hp
        exact .inr (hf0 p d t hp)
    · cases h
  · cases h
end Go.Proofs.YtahmcjdddcbhnaaGreatDoor
namespace Go.Proofs.YtahmcjdddcbhnaaGreatDoor
open Go Go.Ev Go.RowKit

theorem sizeMatch : (Tryz.prog.info? 281).map (·.size) = some 3 := by kernel_rfl
theorem results_match {fn : Func} {p q r s : Tmp} (h : fn.results = #[.cell p 281, .tmp q, .tmp r, .tmp s]) (tmps : Array Value) (w : World) (g : Nat) {a0 a1 a2 v1 v2 v3 : Value}
    (hp : tmps.getD p undef = .pointer (some ⟨g, 0, none⟩)) (hg : Blk w g 281 #[a0, a1, a2]) (h1 : tmps.getD q undef = v1) (h2 : tmps.getD r undef = v2) (h3 : tmps.getD s undef = v3) :
    (results fn tmps).run Tryz.prog w = .ok (.tuple #[.agg #[a0, a1, a2], v1, v2, v3]) w := by
  have hp' : tmps[p]?.getD undef = .pointer (some ⟨g, 0, none⟩) := by simpa using hp
  have h1' : tmps[q]?.getD undef = v1 := by simpa using h1
  have h2' : tmps[r]?.getD undef = v2 := by simpa using h2
  have h3' : tmps[s]?.getD undef = v3 := by simpa using h3
  simp [results, h, hp', h1', h2', h3', asAddr, run_loadVar_row w g _ 281 _ (0, 0) _ hg Tryz.underlying281 rfl sizeMatch]
/-- a machine and its tree -/
structure MachAt (w : World) (Mb : Nat) (ι : Emb) : Prop where
  ex : ∃ kv tx st sp fu rd, Cel w Mb (machC kv tx st sp fu rd) ∧ TreeAt w kv ι
  out : ¬ foot ι treeM Mb
  pos : 0 < Mb
/-- what it can write -/
def MaF (Mb : Nat) (ι : Emb) (b : Nat) : Prop := b = Mb ∨ foot ι treeM b
theorem TreeAt.chg {F : Nat → Prop} {w w' : World} {kv : Value} {ι : Emb} (h : TreeAt w kv ι) (hc : Chg F w w') (hf : ∀ b, foot ι treeM b → ¬ F b) : TreeAt w' kv ι := ⟨h.lies.chg hc hf, h.kids⟩
theorem MachAt.chg {F : Nat → Prop} {w w' : World} {Mb : Nat} {ι : Emb} (h : MachAt w Mb ι) (hc : Chg F w w') (hf : ∀ b, MaF Mb ι b → ¬ F b) : MachAt w' Mb ι := by
  obtain ⟨⟨kv, tx, st, sp, fu, rd, h1, h2⟩, h3, h4⟩ := h
  exact ⟨⟨kv, tx, st, sp, fu, rd, h1.chg hc (hf _ (.inl rfl)), h2.chg hc fun b hb => hf b (.inr hb)⟩, h3, h4⟩
theorem MachAt.lt {w : World} {Mb : Nat} {ι : Emb} (h : MachAt w Mb ι) {b : Nat} (hb : MaF Mb ι b) : b < w.heap.size := by
  obtain ⟨⟨kv, tx, st, sp, fu, rd, h1, h2⟩, h3, h4⟩ := h
  rcases hb with rfl | hb
  · exact h1.lt
  · exact h2.lies.lt hb
/-- what a call of the machine leaves -/
def McP (w : World) (Mb a : Nat) (k : Int) (rd : Bool) (ι0 : Emb) (w' : World) : Prop := ∃ kv2 tx2 fu2 ι2, Cel w' Mb (machC kv2 tx2 (.int .i64 (a : Int)) (.int .i64 k) fu2 rd) ∧ TreeAt w' kv2 ι2 ∧ ¬ foot ι2 treeM Mb ∧ (∀ b, foot ι2 treeM b → foot ι0 treeM b) ∧ Chg (fun b => b = Mb ∨ foot ι0 treeM b) w w'
section
variable {w : World} {Mb a : Nat} {kv tx fu : Value} {ι0 : Emb}
theorem rep_hit {ca : Addr} (hM : Cel w Mb (machC kv tx (.int .i64 (a : Int)) (.int .i64 4) fu false)) (hT : TreeAt w kv ι0) (hMf : ¬ foot ι0 treeM Mb) (ha : a ≤ 60000) :
    Calls Tryz.prog 174 #[.pointer (some ⟨Mb, 0, none⟩), .agg #[.int .i64 ((a : Int) + 1), .slice (some ca) 0 0, .pointer none], .bool true] w fun e w' => (∃ d3 c3, e = .returned (.agg #[.int .i64 (a : Int), .int .i64 ((a : Int) + 1), .slice (some d3) 0 c3, .bool true, .int .i64 4, .int .i64 0])) ∧ McP w Mb a 4 true ι0 w' := by
  refine (mac_call run_repH fit_mac4t hM hT hMf ha fun ι h30 hs => ?_).mono ?_
  · refine rels_cons (ptr_rel h30) (rels_cons ?_ (rels_cons (by simp only [V.rel]) rels_nil))
    rw [V.rel]
    refine ⟨_, rfl, rels_cons ?_ (rels_cons (by simp only [V.rel]; exact ⟨_, _, rfl, fun _ => rfl⟩) (rels_cons (by simp only [V.rel]) rels_nil))⟩
    simp only [V.rel]
    rw [hs]
    exact ⟨rfl, by show (1 : Int) ≤ ((a : Nat) : Int) + 1; omega, by show ((a : Nat) : Int) + 1 ≤ 65537; omega⟩
  · rintro e w' ⟨⟨x, v, ι', rfl, hp, hr, hs⟩, hR⟩
    refine ⟨?_, hR⟩
    unfold isRepH at hp
    split at hp
    · rw [V.rel] at hr
      obtain ⟨cs, rfl, hc⟩ := hr
      obtain ⟨y0, t0, e0, g0, hc⟩ := rels_cons_inv hc
      obtain ⟨y1, t1, e1, g1, hc⟩ := rels_cons_inv hc
      obtain ⟨y2, t2, e2, g2, hc⟩ := rels_cons_inv hc
      obtain ⟨y3, t3, e3, g3, hc⟩ := rels_cons_inv hc
      obtain ⟨y4, t4, e4, g4, hc⟩ := rels_cons_inv hc
      obtain ⟨y5, t5, e5, g5, hc⟩ := rels_cons_inv hc
      have := rels_nil_inv hc
      subst this
      simp only [V.rel] at g0 g1 g2 g3 g4 g5
      obtain ⟨bb, ss, c3, -, g2, -⟩ := g2
      rw [hs] at g0 g1
      exact ⟨_, c3, by rw [show cs = #[.int .i64 (a : Int), .int .i64 ((a : Int) + 1), y2, .bool true, .int .i64 4, .int .i64 0] from Array.toList_inj.1 (by rw [e0, e1, e2, e3, e4, e5, g0.1, g1.1, g3, g4, g5]; rfl), g2]⟩
    · cases hp
theorem rep_miss (hM : Cel w Mb (machC kv tx (.int .i64 (a : Int)) (.int .i64 3) fu false)) (hT : TreeAt w kv ι0) (hMf : ¬ foot ι0 treeM Mb) (ha : a ≤ 60000) :
    Calls Tryz.prog 174 #[.pointer (some ⟨Mb, 0, none⟩), .agg #[.int .i64 0, .slice none 0 0, .pointer none], .bool false] w fun e w' => e = .returned (.agg #[.int .i64 0, .int .i64 0, .slice none 0 0, .bool false, .int .i64 3, .int .i64 0]) ∧ McP w Mb a 3 false ι0 w' := by
  refine (mac_call run_repM fit_mac3f hM hT hMf ha fun ι h30 hs => ?_).mono ?_
  · refine rels_cons (ptr_rel h30) (rels_cons ?_ (rels_cons (by simp only [V.rel]) rels_nil))
    rw [V.rel]
    exact ⟨_, rfl, rels_cons (by simp only [J, V.rel]) (rels_cons (by simp only [V.rel]) (rels_cons (by simp only [V.rel]) rels_nil))⟩
  · rintro e w' ⟨⟨x, v, ι', rfl, hp, hr, hs⟩, hR⟩
    refine ⟨?_, hR⟩
    unfold isRepM at hp
    split at hp
    · rw [V.rel] at hr
      obtain ⟨cs, rfl, hc⟩ := hr
      obtain ⟨y0, t0, e0, g0, hc⟩ := rels_cons_inv hc
      obtain ⟨y1, t1, e1, g1, hc⟩ := rels_cons_inv hc
      obtain ⟨y2, t2, e2, g2, hc⟩ := rels_cons_inv hc
      obtain ⟨y3, t3, e3, g3, hc⟩ := rels_cons_inv hc
      obtain ⟨y4, t4, e4, g4, hc⟩ := rels_cons_inv hc
      obtain ⟨y5, t5, e5, g5, hc⟩ := rels_cons_inv hc
      have := rels_nil_inv hc
      subst this
      simp only [V.rel] at g0 g1 g2 g3 g4 g5
      rw [show cs = #[.int .i64 0, .int .i64 0, .slice none 0 0, .bool false, .int .i64 3, .int .i64 0] from Array.toList_inj.1 (by rw [e0, e1, e2, e3, e4, e5, g0, g1, g2, g3, g4, g5])]
    · cases hp
theorem void_of {ι : Emb} {v : V} {x : Value} (hp : isVoid v = true) (hr : V.rel ι v x) : x = .tuple #[] := by
  unfold isVoid at hp
  split at hp
  · rw [V.rel] at hr
    obtain ⟨cs, rfl, hc⟩ := hr
    have := rels_nil_inv hc
    rw [show cs = #[] from Array.toList_inj.1 (by rw [this])]
  · cases hp
theorem keep_hit (hM : Cel w Mb (machC kv tx (.int .i64 (a : Int)) (.int .i64 4) fu true)) (hT : TreeAt w kv ι0) (hMf : ¬ foot ι0 treeM Mb) (ha : a ≤ 60000) :
    Calls Tryz.prog 177 #[.pointer (some ⟨Mb, 0, none⟩)] w fun e w' => e = .returned (.tuple #[]) ∧ McP w Mb a 4 true ι0 w' := by
  refine (mac_call run_keepH fit_mac4t hM hT hMf ha fun ι h30 hs => rels_cons (ptr_rel h30) rels_nil).mono ?_
  rintro e w' ⟨⟨x, v, ι', rfl, hp, hr, hs⟩, hR⟩
  exact ⟨by rw [void_of hp hr], hR⟩
theorem keep_miss (hM : Cel w Mb (machC kv tx (.int .i64 (a : Int)) (.int .i64 3) fu false)) (hT : TreeAt w kv ι0) (hMf : ¬ foot ι0 treeM Mb) (ha : a ≤ 60000) :
    Calls Tryz.prog 177 #[.pointer (some ⟨Mb, 0, none⟩)] w fun e w' => e = .returned (.tuple #[]) ∧ McP w Mb a 3 false ι0 w' := by
  refine (mac_call run_keepM fit_mac3f hM hT hMf ha fun ι h30 hs => rels_cons (ptr_rel h30) rels_nil).mono ?_
  rintro e w' ⟨⟨x, v, ι', rfl, hp, hr, hs⟩, hR⟩
  exact ⟨by rw [void_of hp hr], hR⟩
end
end Go.Proofs.YtahmcjdddcbhnaaGreatDoor
namespace Go.Proofs.YtahmcjdddcbhnaaGreatDoor
open Go Go.Ev Go.RowKit

/-- the pattern's value, its kids' slice being kv -/
def patC (kv : Value) : Array Value := #[.int .i64 2, .slice none 0 0, kv, .int .i64 0, .int .i64 0, .int .i64 0, .int .i64 0, .bool false, .int .i64 0, .bool true]
/-- its tree is there, within the blocks T -/
structure PatAt (w : World) (kv : Value) (T : Nat → Prop) : Prop where
  ex : ∃ ι : Emb, RoIs ι treeU w ∧ V.rel ι (.sl (nm 51) 0 2 2 8) kv ∧ (∀ p, ι p ≠ none → p ∈ treeU.map (·.1)) ∧ ∀ p b s, ι p = some (b, s) → T b ∧ b < w.heap.size
theorem PatAt.chg {F : Nat → Prop} {w w' : World} {kv : Value} {T : Nat → Prop} (h : PatAt w kv T) (hc : Chg F w w') (hf : ∀ b, T b → ¬ F b) : PatAt w' kv T := by
  obtain ⟨ι, h1, h2, h3, h4⟩ := h
  exact ⟨ι, h1.same fun e _ b s hb => hc.block b (h4 _ _ _ hb).2 (hf b (h4 _ _ _ hb).1), h2, h3, fun p b s hb => ⟨(h4 p b s hb).1, Nat.lt_of_lt_of_le (h4 p b s hb).2 hc.size⟩⟩
theorem PatAt.bel {w w' : World} {kv : Value} {T : Nat → Prop} (h : PatAt w kv T) (hb : Below w.heap.size w w') : PatAt w' kv T := h.chg (F := fun _ => False) (Chg.of_below hb) fun _ _ h => h
theorem fit_newM : fitF [] [] (idl [51, 52, 53, 54]) treeM (hp newA) = true := by decide +kernel
theorem bnew_walk {w : World} {kv : Value} {T : Nat → Prop} (h : PatAt w kv T) (hw0 : 0 < w.heap.size) :
    Calls Tryz.prog 149 #[.agg (patC kv)] w fun e w' => ∃ Mb ι, e = .returned (.tuple #[.pointer (some ⟨Mb, 0, none⟩), .int .i64 0]) ∧ MachAt w' Mb ι ∧ (∀ b, MaF Mb ι b → w.heap.size ≤ b) ∧ Below w.heap.size w w' := by
  obtain ⟨ι, h1, h2, h3, h4⟩ := h
  have hxs : V.rels ι [.agg patU] (#[.agg (patC kv)] : Array Value).toList := by
    refine rels_cons ?_ rels_nil
    rw [V.rel]
    have i0 : ∀ z : Int, V.rel ι (J z) (.int .i64 z) := fun z => by simp only [J, V.rel]
    have bb : ∀ z : Bool, V.rel ι (.bool z) (.bool z) := fun z => by simp only [V.rel]
    have ns : V.rel ι .nilsl (.slice none 0 0) := by simp only [V.rel]
    exact ⟨_, rfl, rels_cons (i0 _) (rels_cons ns (rels_cons h2 (rels_cons (i0 _) (rels_cons (i0 _) (rels_cons (i0 _) (rels_cons (i0 _) (rels_cons (bb _) (rels_cons (i0 _) (rels_cons (bb _) rels_nil)))))))))⟩
  refine (made_ok run_new h1 h3 (fun p b s hp => (h4 p b s hp).2) hxs).mono ?_
  rintro e w' ⟨x, v, ι', ι2, rfl, hp, hv, hL, hb, hnew, hr, hsz⟩
  unfold isNew at hp
  split at hp
  · rename_i p
    have e1 := hr (nm 30, p) (by simp [newL0])
    simp only [V.rel] at hv
    obtain ⟨cs, rfl, hc⟩ := hv
    obtain ⟨y0, t0, e0, g0, hc⟩ := rels_cons_inv hc
    obtain ⟨y1, t1, f1, g1, hc⟩ := rels_cons_inv hc
    have f2 := rels_nil_inv hc
    simp only [V.rel] at g0 g1
    obtain ⟨Mb, s, hq, rfl⟩ := g0
    have hq' : ι2 (nm 30) = some (Mb, s) := e1.trans hq
    have hbc := hL.bkc (p := nm 30) (l := [J 2, .nilsl, .sl (nm 51) 0 2 2 8, J 0, J 0, J 0, J 0, .bool false, J 0, .bool true, .nilsl, .nilsl, .nilsl, J 0, J 0, J 0, J 0, .bool false, .bool false]) (by rfl)
    rw [hq'] at hbc
    have hs0 : s = 0 := by cases hbc; rfl
    subst hs0
    obtain ⟨ds, hds, hcel⟩ := hL.celx (p := nm 30) (l := [J 2, .nilsl, .sl (nm 51) 0 2 2 8, J 0, J 0, J 0, J 0, .bool false, J 0, .bool true, .nilsl, .nilsl, .nilsl, J 0, J 0, J 0, J 0, .bool false, .bool false]) (by rfl)
    have hbk : bk ι2 (nm 30) = Mb := by unfold bk; rw [hq']; rfl
    rw [hbk] at hcel
    obtain ⟨x0, t0, d0, k0, hds⟩ := rels_cons_inv hds
    obtain ⟨x1, t1, d1, k1, hds⟩ := rels_cons_inv hds
    obtain ⟨x2, t2, d2, k2, hds⟩ := rels_cons_inv hds
    obtain ⟨x3, t3, d3, k3, hds⟩ := rels_cons_inv hds
    obtain ⟨x4, t4, d4, k4, hds⟩ := rels_cons_inv hds
    obtain ⟨x5, t5, d5, k5, hds⟩ := rels_cons_inv hds
    obtain ⟨x6, t6, d6, k6, hds⟩ := rels_cons_inv hds
    obtain ⟨x7, t7, d7, k7, hds⟩ := rels_cons_inv hds
    obtain ⟨x8, t8, d8, k8, hds⟩ := rels_cons_inv hds
    obtain ⟨x9, t9, d9, k9, hds⟩ := rels_cons_inv hds
    obtain ⟨x10, t10, d10, k10, hds⟩ := rels_cons_inv hds
    obtain ⟨x11, t11, d11, k11, hds⟩ := rels_cons_inv hds
    obtain ⟨x12, t12, d12, k12, hds⟩ := rels_cons_inv hds
    obtain ⟨x13, t13, d13, k13, hds⟩ := rels_cons_inv hds
    obtain ⟨x14, t14, d14, k14, hds⟩ := rels_cons_inv hds
    obtain ⟨x15, t15, d15, k15, hds⟩ := rels_cons_inv hds
    obtain ⟨x16, t16, d16, k16, hds⟩ := rels_cons_inv hds
    obtain ⟨x17, t17, d17, k17, hds⟩ := rels_cons_inv hds
    obtain ⟨x18, t18, d18, k18, hds⟩ := rels_cons_inv hds
    have := rels_nil_inv hds
    subst this
    simp only [J, V.rel] at k0 k1 k3 k4 k5 k6 k7 k8 k9 k10 k11 k12 k13 k14 k15 k16 k17 k18
    have hds2 : ds = machC x2 (.slice none 0 0) (.int .i64 0) (.int .i64 0) (.int .i64 0) false := Array.toList_inj.1 (by rw [d0, d1, d2, d3, d4, d5, d6, d7, d8, d9, d10, d11, d12, d13, d14, d15, d16, d17, d18, k0, k1, k3, k4, k5, k6, k7, k8, k9, k10, k11, k12, k13, k14, k15, k16, k17, k18]; rfl)
    rw [hds2] at hcel
    obtain ⟨ι6, hL6, hid6, hft6⟩ := hL.part (τ := fun _ => 0) (A2 := treeM) (ns := [51, 52, 53, 54]) fit_newM num_none names_treeM
    have hk6 := kids_same hL hL6 (by rfl) (by rfl) (hid6 _ (by decide)) k2
    have hliveN : ∀ p ∈ names treeM, Live (Ev.hp newA) p := fun p hp => by
      obtain ⟨i, hi, rfl⟩ := names_treeM p hp
      simp only [List.mem_cons, List.not_mem_nil, or_false] at hi
      rcases hi with rfl | rfl | rfl | rfl <;> exact ⟨_, by rfl, by simp⟩
    have hMlive : Live (Ev.hp newA) (nm 30) := ⟨_, by rfl, by simp⟩
    have hf6 : ∀ b, foot ι6 treeM b → w.heap.size ≤ b ∧ b ≠ Mb := fun b hb => by
      obtain ⟨p, hp, t, hpb⟩ := hft6 b hb
      refine ⟨hnew b ⟨p, t, hliveN p hp, hpb⟩, fun e => ?_⟩
      subst e
      have := hL.hok.inj p (nm 30) b t 0 (hliveN p hp) hMlive hpb hq'
      obtain ⟨i, hi, rfl⟩ := names_treeM p hp
      simp only [List.mem_cons, List.not_mem_nil, or_false] at hi
      rcases hi with rfl | rfl | rfl | rfl <;> exact absurd this (by decide +kernel)
    have hMge : w.heap.size ≤ Mb := hnew Mb ⟨nm 30, 0, hMlive, hq'⟩
    refine ⟨Mb, ι6, ?_, ⟨⟨x2, _, _, _, _, _, hcel, hL6, hk6⟩, fun h => (hf6 _ h).2 rfl, by omega⟩, fun b hb => ?_, hb⟩
    · congr 2
      apply Array.toList_inj.1
      rw [e0, f1, f2, g1]
    · rcases hb with rfl | hb
      · exact hMge
      · exact (hf6 b hb).1
  · cases hp
theorem meth_feedW : methAt Tryz.prog "rexmill/filter.feed" 155 = some 397 := by kernel_rfl
theorem meth_endW : methAt Tryz.prog "rexmill/filter.end" 155 = some 396 := by kernel_rfl
set_option maxHeartbeats 4000000 in
set_option maxRecDepth 1000000 in
theorem data1W {w : World} {kv v : Value} {mb q : Nat} {t : Int} (hv : ∃ a n c, v = .slice a n c) (hq : w.cell? ⟨q, 0, none⟩ = some v) (hql : q < w.heap.size) :
    Calls Tryz.prog 39 #[.iface 155 (.agg (patC kv)), shareV mb t, .pointer (some ⟨q, 0, none⟩)] w fun e w' => e = .returned (.tuple #[.slice none 0 0, .bool true]) ∧ Below w.heap.size w w' := by
  obtain ⟨vA, vn, vc, rfl⟩ := hv
  obtain ⟨W0, hW0⟩ : ∃ x, w.alloc (.cells #[.pointer (some ⟨mb, 0, none⟩), .int .i64 0, .int .i64 t] 118) = x := ⟨_, rfl⟩
  have hB0 : Below w.heap.size w W0 := by rw [← hW0]; exact (Below.refl _ _).alloc (Nat.le_refl _) _
  have x2 : Blk W0 w.heap.size 118 #[.pointer (some ⟨mb, 0, none⟩), .int .i64 0, .int .i64 t] := by rw [← hW0]; exact Blk.made w _ _
  have y0 := x2.at' 0
  have y1 := x2.at' 1
  have y2 := x2.at' 2
  simp at y0 y1 y2
  have hq0 := (hB0.cell (p := ⟨q, 0, none⟩) hql).trans hq
  have hfe : Calls Tryz.prog 397 #[.agg (patC kv), .agg #[.pointer (some ⟨mb, 0, none⟩), .int .i64 0, .int .i64 t], .slice vA vn vc] W0 fun e w' => e = .returned (.tuple #[.slice none 0 0, .bool true]) ∧ Below W0.heap.size W0 w' := by
    unfold patC
    go_enter Tryz.func397, Tryz.ntmps397
    go_wp2_with fail
    go_ret2
    exact ⟨rfl, ((Below.refl _ _).alloc (Nat.le_refl _) _).alloc (by simp) _⟩
  have hme : (method 664 155 (.agg (patC kv)) "rexmill/filter.feed").run Tryz.prog W0 = .ok (397, .agg (patC kv)) W0 := Go.Ev.run_method meth_feedW (664 - 1)
  unfold shareV
  go_enter Tryz.func39, Tryz.ntmps39
  go_wp2_with (first
    | (go_at_call 397; refine hfe.mono ?_; clear hfe; rintro _ w1 ⟨rfl, hX⟩)
    | fail)
  go_ret2
  exact ⟨rfl, hB0.trans (hX.mono hB0.size)⟩
end Go.Proofs.YtahmcjdddcbhnaaGreatDoor
namespace Go.Proofs.YtahmcjdddcbhnaaGreatDoor
open Go Go.Ev Go.RowKit

theorem infoPairW : (Tryz.prog.info? 65).map (fun i => (i.zero, i.size, i.bytes)) = some (some (.agg #[.int .i64 0, .int .i64 0]), 2, 16) := by kernel_rfl
/-- what is asked of Run -/
def RunOk : Prop := ∀ (w : World) (Mb a : Nat) (tx : Value) (fu : Int) (S : List Nat) (ι0 : Emb), MachAt w Mb ι0 → Sees w 1 tx (natI S) → (∀ c ∈ S, Utf.Cp c) → S.length ≤ 60000 → a ≤ S.length → (∀ b, Value.leads tx = some b → ¬ MaF Mb ι0 b) → (1000 ≤ fu ∧ fu ≤ 1099511627776) →
    Calls Tryz.prog 151 #[.pointer (some ⟨Mb, 0, none⟩), tx, .int .i64 (a : Int), .int .i64 fu] w fun e w' =>
      ((S[a]? = some 228 ∧ ∃ d3 c3, e = .returned (.tuple #[.agg #[.int .i64 (a : Int), .int .i64 ((a : Int) + 1), .slice (some d3) 0 c3], .bool true, .int .i64 4, .int .i64 0])) ∨ (S[a]? ≠ some 228 ∧ e = .returned (.tuple #[.agg #[.int .i64 0, .int .i64 0, .slice none 0 0], .bool false, .int .i64 3, .int .i64 0]))) ∧
      ∃ ι2, MachAt w' Mb ι2 ∧ (∀ b, foot ι2 treeM b → foot ι0 treeM b) ∧ Chg (MaF Mb ι0) w w'
section
variable {w : World} {mb ub : Nat} {T : Nat → Prop} {sh pe tk us : Int} {kv v : Value} {X : List UInt8} {S : List Nat} {r : List UInt8}
set_option maxHeartbeats 8000000 in
set_option maxRecDepth 1000000 in
theorem waitend_bad (hFo : Forms w) (hM : MtC w mb ub sh pe tk us) (hv : Sees w 1 v (bv X)) (hlen : X.length ≤ 1000) (hp : Utf.Prs X S r) (hs : Utf.Stop r) (hr : r ≠ []) {t : Int} (ht : tk ≤ t ∧ t ≤ 1099511627776) :
    Calls Tryz.prog 396 #[.agg (patC kv), shareV mb t, v] w fun e w' => e = .returned (.tuple #[.slice none 0 0, .bool false]) ∧ Below w.heap.size w w' := by
  obtain ⟨W0, hW0⟩ : ∃ x, (w.alloc (.cells (patC kv) 155)).alloc (.cells #[.pointer (some ⟨mb, 0, none⟩), .int .i64 0, .int .i64 t] 118) = x := ⟨_, rfl⟩
  have hB0 : Below w.heap.size w W0 := by rw [← hW0]; exact ((Below.refl _ _).alloc (Nat.le_refl _) _).alloc (by simp) _
  have x1 : Blk W0 w.heap.size 155 (patC kv) := by rw [← hW0]; exact (Blk.made w _ _).alloc _
  have x2 : Blk W0 (w.heap.size + 1) 118 #[.pointer (some ⟨mb, 0, none⟩), .int .i64 0, .int .i64 t] := by
    have := Blk.made (w.alloc (.cells (patC kv) 155)) 118 #[.pointer (some ⟨mb, 0, none⟩), .int .i64 0, .int .i64 t]
    rw [hW0, World.size_alloc] at this
    exact this
  have y0 := x2.at' 0
  have y1 := x2.at' 1
  have y2 := x2.at' 2
  simp at y0 y1 y2
  have hl0 := qleft_walkC (hM.bel hB0) ht
  have hde := fun w1 (hb : Below W0.heap.size W0 w1) => decU_walk (hFo.below (hB0.trans (hb.mono hB0.size))) (by omega : X.length ≤ 60000) (hv.bel (hB0.trans (hb.mono hB0.size))) hp hs
  have h9 := fun w1 (hb : Below W0.heap.size W0 w1) => (x1.bel hb x1.lt).at' 9
  simp [patC] at h9
  obtain ⟨R, hR⟩ : ∃ R, sh - usedAt pe tk us t = R := ⟨_, rfl⟩
  rw [hR] at hl0
  obtain ⟨vA, vn, vc, rfl, -, -, -⟩ := hv
  unfold shareV at hl0 ⊢
  unfold patC at hW0 ⊢
  have HR := Lib.hid hr
  clear hM hR x1 x2 hp hs hFo hr
  go_enter Tryz.func396, Tryz.ntmps396
  go_wp2_with (first
    | (go_at_call 345; refine hl0.mono ?_; clear hl0; rintro _ w1 ⟨rfl, hb1⟩; have hd1 := hde w1 hb1; have k9 := h9 w1 hb1)
    | (go_at_call 8; refine hd1.mono ?_; clear hd1; rintro _ w2 ⟨hq | hq, hb2⟩; exact absurd hq.1 HR.out; obtain ⟨-, rfl⟩ := hq)
    | fail)
  go_ret2
  exact ⟨rfl, (hB0.trans (hb1.mono hB0.size)).trans (hb2.mono (hB0.trans (hb1.mono hB0.size)).size)⟩
theorem hits_more {x : List Nat} {j : Nat} (h : x[j]? ≠ some 228) : hits 0 (x.take (j + 1)) = hits 0 (x.take j) := by
  by_cases hj : j < x.length
  · rw [hits_take hj, if_neg (fun e => h (by rw [List.getElem?_eq_getElem hj]; congr 1; omega))]
  · rw [List.take_of_length_le (by omega), List.take_of_length_le (by omega)]
theorem hits_hit {x : List Nat} {j : Nat} (h : x[j]? = some 228) : hits 0 (x.take (j + 1)) = hits 0 (x.take j) ++ [(j : Int)] := by
  have hj := (List.getElem?_eq_some_iff.1 h).1
  have he := (List.getElem?_eq_some_iff.1 h).2
  rw [hits_take hj, if_pos (by rw [he]; rfl)]
  simp
theorem pairsV_snoc (l : List Int) (a : Int) : pairsV (l ++ [a]) = pairsV l ++ [.int .i64 a, .int .i64 (a + 1)] := by unfold pairsV; rw [List.flatMap_append]; simp
set_option maxHeartbeats 16000000 in
set_option maxRecDepth 1000000 in
theorem waitend_good (hrun : RunOk) (hFo : Forms w) (hM : MtC w mb ub sh pe tk us) (hP : PatAt w kv T) (hv : Sees w 1 v (bv X)) (hlen : X.length ≤ 1000) (hp : Utf.Prs X S []) {t : Int} (ht : tk ≤ t ∧ t ≤ 1099511627776) (hsuf : 10000 ≤ sh - usedAt pe tk us t) :
    Calls Tryz.prog 396 #[.agg (patC kv), shareV mb t, v] w fun e w' => ∃ u, e = .returned (.tuple #[u, .bool true]) ∧ (∃ a b c, u = .slice a b c) ∧ Sees w' 2 u (pairsV (hits 0 S)) ∧ Chg (MFt mb ub) w w' ∧ ∀ g, Value.leads u = some g → w.heap.size ≤ g := by
  obtain ⟨i0, hi0, hz0, hz1, hz2⟩ := info_parts' infoPairW
  have hus := hM.usedBd t
  have hsh := hM.hsh
  obtain ⟨W0, hW0⟩ : ∃ x, (w.alloc (.cells (patC kv) 155)).alloc (.cells #[.pointer (some ⟨mb, 0, none⟩), .int .i64 0, .int .i64 t] 118) = x := ⟨_, rfl⟩
  have hB0 : Below w.heap.size w W0 := by rw [← hW0]; exact ((Below.refl _ _).alloc (Nat.le_refl _) _).alloc (by simp) _
  have hz0' : W0.heap.size = w.heap.size + 2 := by rw [← hW0]; simp
  have x1 : Blk W0 w.heap.size 155 (patC kv) := by rw [← hW0]; exact (Blk.made w _ _).alloc _
  have x2 : Blk W0 (w.heap.size + 1) 118 #[.pointer (some ⟨mb, 0, none⟩), .int .i64 0, .int .i64 t] := by
    have := Blk.made (w.alloc (.cells (patC kv) 155)) 118 #[.pointer (some ⟨mb, 0, none⟩), .int .i64 0, .int .i64 t]
    rw [hW0, World.size_alloc] at this
    exact this
  have y0 := x2.at' 0
  have y1 := x2.at' 1
  have y2 := x2.at' 2
  simp at y0 y1 y2
  have hl0 := qleft_walkC (hM.bel hB0) ht
  have hde := fun w1 (hb : Below W0.heap.size W0 w1) => decU_walk (hFo.below (hB0.trans (hb.mono hB0.size))) (by omega : X.length ≤ 60000) (hv.bel (hB0.trans (hb.mono hB0.size))) hp (.inl rfl)
  have hnw := fun w1 (hb : Below W0.heap.size W0 w1) => bnew_walk (hP.bel (hB0.trans (hb.mono hB0.size))) (by have := hb.size; omega)
  have hSl := hp.len
  have hcp := hp.cps
  obtain ⟨R, hR⟩ : ∃ R, sh - usedAt pe tk us t = R := ⟨_, rfl⟩
  rw [hR] at hl0 hsuf
  obtain ⟨vA, vn, vc, rfl, -, -, -⟩ := hv
  obtain ⟨nS, hnS⟩ : ∃ nS, S.length = nS := ⟨_, rfl⟩
  have HO := Lib.hid (And.intro hM (And.intro hB0 (And.intro x1 (And.intro x2 (And.intro hcp (And.intro hR (And.intro hnS hrun)))))))
  have h9 := fun w1 (hb : Below W0.heap.size W0 w1) (i : Nat) => (x1.bel hb x1.lt).at' i
  have hS1000 : S.length ≤ 1000 := by simp at hSl; omega
  have hR2 : R ≤ 1099511627776 := by omega
  have hwr : IntKind.i64.wrap ((S.length : Int) + 1) = (S.length : Int) + 1 := wrapS (by omega) (by omega)
  unfold shareV at hl0 ⊢
  unfold patC at hW0 h9 hnw ⊢
  clear hM hR x1 x2 hp hFo hP hcp hrun hnS hus hsh hSl hB0
  go_enter Tryz.func396, Tryz.ntmps396
  go_wp2_with (first
    | (go_at_call 345; refine hl0.mono ?_; clear hl0; rintro _ w1 ⟨rfl, hb1⟩; have hd1 := hde w1 hb1; have k9 := h9 w1 hb1 9; simp at k9)
    | (go_at_call 8; refine hd1.mono ?_; clear hd1; rintro _ w2 ⟨hq | hq, hb2⟩; rotate_left; exact absurd rfl hq.1; obtain ⟨-, u2, rfl, hrow2⟩ := hq; have hb02 := hb1.trans (hb2.mono hb1.size); have hn2 := hnw w2 hb02; have j0 := h9 w2 hb02 0; have j1 := h9 w2 hb02 1; have j2 := h9 w2 hb02 2; have j3 := h9 w2 hb02 3; have j4 := h9 w2 hb02 4; have j5 := h9 w2 hb02 5; have j6 := h9 w2 hb02 6; have j7 := h9 w2 hb02 7; have j8 := h9 w2 hb02 8; have j9 := h9 w2 hb02 9; simp at j0 j1 j2 j3 j4 j5 j6 j7 j8 j9; obtain ⟨A2, c2, rfl, -⟩ := row_form hrow2)
    | (go_at_call 149; refine hn2.mono ?_; clear hn2; rintro _ w3 ⟨Mb, ι3, rfl, hMa, hMge, hb3⟩)
    | fail)
  obtain ⟨q1, q2, q3, q4, q5, q6, q7, q8⟩ := HO.out
  have hb12 := hb1.trans (hb2.mono hb1.size)
  have hbw2 : Below w.heap.size w w2 := q2.trans (hb12.mono q2.size)
  have hbw3 : Below w.heap.size w w3 := hbw2.trans (hb3.mono hbw2.size)
  have z1 := hb1.size
  have z2 := hb2.size
  have z3 := hb3.size
  have hse3 := (Sees.row hrow2).bel hb3
  have hle : ∀ g, Value.leads (.slice A2 S.length c2) = some g → g < w2.heap.size := fun g hg => (World.ownsRow.lt hrow2 g (leads_own hrow2 hg)).2
  have hMl : ∀ b, MaF Mb ι3 b → b < w3.heap.size := fun b hb => hMa.lt hb
  have HL := Lib.hid (And.intro hle (And.intro hMge (And.intro hse3 (And.intro hMl (And.intro hbw3 (And.intro z1 (And.intro z2 z3)))))))
  have x2' : Blk w3 (w.heap.size + 1) 118 #[.pointer (some ⟨mb, 0, none⟩), .int .i64 0, .int .i64 t] := (q4.bel hb12 q4.lt).bel hb3 (Nat.lt_of_lt_of_le q4.lt hb12.size)
  have hx2l : w.heap.size + 1 < w2.heap.size := Nat.lt_of_lt_of_le q4.lt hb12.size
  have HX := Lib.hid (And.intro x2' hx2l)
  clear q1 q2 q3 q4 q5 q6 q7 hb12 hbw2 hbw3 hse3 hle hMge hMl hde h9 hnw j0 j1 j2 j3 j4 j5 j6 j7 j8 j9 y0 y1 y2 x2' hx2l k9 hb02
  go_loopw [12, 13, 42] (fun lv nv iv wr => ∃ j : Nat, j ≤ S.length + 1 ∧ iv = .int .i64 j ∧ ∃ k : Int, nv = .int .i64 k ∧ (0 ≤ k ∧ k ≤ 4 * j) ∧ Hid (∃ ιj, MachAt wr Mb ιj ∧ (∀ b, foot ιj treeM b → foot ι3 treeM b) ∧ Chg (MaF Mb ι3) w3 wr ∧ wr.ownsRow w3.heap.size 65 2 lv (hits 0 (S.take j)).length (pairsV (hits 0 (S.take j))))) (fun _ _ iv _ => S.length + 1 - (intOf iv).toNat)
  case atStart => exact ⟨0, Nat.zero_le _, rfl, 0, rfl, ⟨by omega, by omega⟩, Lib.hid ⟨ι3, hMa, fun _ h => h, Chg.refl _ _, World.ownsRow_nil _ _ _ _⟩⟩
  case round =>
    obtain ⟨j, hj, rfl, k, rfl, hk, hI⟩ := hrel
    obtain ⟨ιj, hMj, hfj, hCj, hrow⟩ := hI.out
    have hnj := hits_len (S.take j) 0
    rw [List.length_take] at hnj
    obtain ⟨nh, hnh⟩ : ∃ nh, (hits 0 (S.take j)).length = nh := ⟨_, rfl⟩
    rw [hnh] at hrow hnj
    obtain ⟨lA, lc, rfl, _⟩ := row_form hrow
    by_cases hjl : j ≤ S.length
    · obtain ⟨g1, g2, g3, g4, g5, gz1, gz2, gz3⟩ := HL.out
      have hxr : Sees wr 1 (.slice A2 S.length c2) (natI S) := g3.chg hCj fun b hb h => by
        have h1 := g1 b hb
        have h2 := g2 b h
        omega
      have hr := q8 wr Mb j (.slice A2 S.length c2) (R - k) S ιj hMj hxr HO.out.2.2.2.2.1 (by have := HO.out.2.2.2.2.2.2.1; omega) hjl (fun b hb h => by
        have h1 := g1 b hb
        have h2 := g2 b (h.elim .inl fun h => .inr (hfj b h))
        omega) (by omega)
      have hj1 : (j : Int) < (S.length : Int) + 1 := by omega
      have hwk : IntKind.i64.wrap (R - k) = R - k := wrapS (by omega) (by omega)
      have hw4 : IntKind.i64.wrap (k + 4) = k + 4 := wrapS (by omega) (by omega)
      have hw3 : IntKind.i64.wrap (k + 3) = k + 3 := wrapS (by omega) (by omega)
      have hwj : IntKind.i64.wrap ((j : Int) + 1) = (j : Int) + 1 := wrapS (by omega) (by omega)
      have n63 : nh + 1 ≤ maxLen := by unfold maxLen; omega
      have nby : (nh + 1) * 16 ≤ 140737488355328 := by omega
      have hszj := hCj.size
      have HC := Lib.hid (And.intro hCj (And.intro hfj hnh))
      have hMl := g4
      have HML := Lib.hid hMl
      clear hI hMj hfj hCj g1 g2 g3 g4 g5 hxr hnh hMl
      go_wp2_with (first
        | (go_at_call 151; refine hr.mono ?_; clear hr; rintro _ w5 ⟨hq, ι5, hM5, hf5, hC5⟩; have hrow5 := row_chg hrow hC5 (fun g hg h => by { have h1 := (World.ownsRow.lt hrow g hg).1; have h2 := HML.out g (h.elim .inl fun h => .inr (HC.out.2.1 g h)); omega }); have z5 := hC5.size; rcases hq with ⟨h228, d3, c3, rfl⟩ | ⟨h228, rfl⟩; obtain ⟨W6, hW6⟩ : ∃ x, w5.alloc (.cells #[.int .i64 (j : Int), .int .i64 ((j : Int) + 1), .slice (some d3) 0 c3] 281) = x := ⟨_, rfl⟩; have r6 : W6.ownsRow w3.heap.size 65 2 (.slice lA nh lc) nh (pairsV (hits 0 (S.take j))) := by { rw [← hW6]; exact hrow5.alloc _ }; have b6 : Blk W6 w5.heap.size 281 #[.int .i64 (j : Int), .int .i64 ((j : Int) + 1), .slice (some d3) 0 c3] := by { rw [← hW6]; exact Blk.made w5 _ _ }; have m0 := b6.at' 0; have m1 := b6.at' 1; simp at m0 m1; have hso6 := sees_one W6 65 #[.int .i64 (j : Int), .int .i64 ((j : Int) + 1)] (size := 2) rfl; have hC6 : Chg (fun _ => False) w5 W6 := by { rw [← hW6]; exact (Chg.refl _ w5).alloc _ }; have z6 := hC6.size)
        | (at_builtin; refine wpList_append_sees (base := w3.heap.size) rfl _ _ 63 rfl i0 _ 16 Tryz.underlying63 hi0 hz0 hz1 hz2 rfl (by decide) (.slice lA nh lc) nh _ rfl (r6.alloc _) _ 1 _ rfl hso6 rfl (by intro u hu; simp at hu; rcases hu with rfl | rfl <;> rfl) n63 nby (by simp; omega) ?_; intro v6 w6 hrow6 hgrow6 hown6; obtain ⟨A6, c6, rfl, -⟩ := row_form hrow6)
        | fail)
      · go_roundw
        case rel =>
          refine ⟨j + 1, by omega, by go_num, k + 4, rfl, ⟨by omega, by omega⟩, Lib.hid ⟨ι5, ?_, fun b hb => HC.out.2.1 b (hf5 b hb), ?_, ?_⟩⟩
          · refine hM5.chg (F := fun b => w3.heap.size ≤ b) (((hC6.more fun _ _ h => h.elim).alloc _).grown hgrow6 fun k hk => .inr (World.ownsRow.lt hrow5 k hk).1) fun b hb h => ?_
            have h2 := HML.out b (hb.elim .inl fun h => .inr (HC.out.2.1 b (hf5 b h)))
            have h3 : w3.heap.size ≤ b := h
            omega
          · exact ((((HC.out.1.trans hC5 fun i _ h => h.elim .inl fun h => .inr (HC.out.2.1 i h)).trans hC6 fun _ _ h => h.elim).alloc _).grown hgrow6 fun k hk => .inl (World.ownsRow.lt hrow5 k hk).1)
          · rw [hits_hit h228, List.length_append, HC.out.2.2, pairsV_snoc]
            exact hrow6
        case measure => simp [intOf]; omega
      · go_roundw
        case rel =>
          refine ⟨j + 1, by omega, by go_num, k + 3, rfl, ⟨by omega, by omega⟩, Lib.hid ⟨ι5, ?_, fun b hb => HC.out.2.1 b (hf5 b hb), ?_, ?_⟩⟩
          · exact hM5.chg (F := fun _ => False) ((Chg.refl _ w5).alloc _) fun _ _ h => h
          · exact (HC.out.1.trans hC5 fun i _ h => h.elim .inl fun h => .inr (HC.out.2.1 i h)).alloc _
          · rw [hits_more h228, HC.out.2.2]
            exact hrow5.alloc _
        case measure => simp [intOf]; omega
    · have hje : j = S.length + 1 := by omega
      have hj1 : ¬ (j : Int) < (S.length : Int) + 1 := by omega
      have htk : S.take j = S := List.take_of_length_le (by omega)
      obtain ⟨q1, q2, q3, q4, q5, q6, q7, -⟩ := HO.out
      obtain ⟨g1, g2, g3, g4, g5, gz1, gz2, gz3⟩ := HL.out
      have hbr : Below w.heap.size w wr := by
        refine ((Chg.of_below (F := fun b => w.heap.size ≤ b) g5).trans hCj fun i hi h => ?_).to_below (Nat.le_refl _) fun _ _ h => h
        have := g2 i h
        have := q2.size
        show w.heap.size ≤ i
        omega
      have x2r := HX.out.1.chg hCj fun h => by
        have h1 := g2 _ h
        have h2 := HX.out.2
        omega
      have y0 := x2r.at' 0
      have y1 := x2r.at' 1
      have y2 := x2r.at' 2
      simp at y0 y1 y2
      have htk2 := qtake_walkC (n := k) (q1.bel hbr) ht ⟨by omega, by rw [q6]; omega⟩
      unfold shareV at htk2
      rw [htk] at hrow
      have hrow9 : wr.ownsRow w3.heap.size 65 2 (.slice lA nh lc) nh (pairsV (hits 0 S)) := hrow
      have hml : ∀ b, MFt mb ub b → b < w.heap.size := fun b hb => by rcases hb with rfl | rfl; exact q1.blk.lt; exact q1.used.lt
      have HE := Lib.hid (And.intro hrow9 (And.intro hbr (And.intro hml g5.size)))
      clear hI hMj hfj hCj hrow hrow9 q1 q2 q3 q4 q5 q6 q7 g1 g2 g3 g4 g5 hbr x2r hml hnh htk
      go_wp2_with (first
        | (go_at_call 351; refine htk2.mono ?_; clear htk2; rintro _ w6 ⟨rfl, -, hC6⟩)
        | fail)
      go_ret2
      obtain ⟨e1, e2, e3, e4⟩ := HE.out
      have hown : ∀ g, Value.leads (.slice lA nh lc) = some g → w3.heap.size ≤ g := fun g hg => (World.ownsRow.lt e1 g (leads_own e1 hg)).1
      refine ⟨_, rfl, ⟨_, _, _, rfl⟩, (Sees.row e1).chg hC6 fun g hg h => ?_, (Chg.of_below e2).trans hC6 fun _ _ h => h, fun g hg => ?_⟩
      · have := hown g hg
        have := e3 g h
        omega
      · have := hown g hg
        omega
end
end Go.Proofs.YtahmcjdddcbhnaaGreatDoor
namespace Go.Proofs.YtahmcjdddcbhnaaGreatDoor
open Go Go.Ev Go.RowKit

set_option maxHeartbeats 4000000 in
set_option maxRecDepth 1000000 in
theorem end1W {w : World} {mb ub q cb : Nat} {kv u : Value} {t : Int} {R : Value → Bool → World → World → Prop} (hq : w.cell? ⟨q, 0, none⟩ = some (.pointer (some ⟨cb, 0, none⟩))) (hql : q < w.heap.size) (hc : w.cell? ⟨cb, 2, none⟩ = some u) (hcl : cb < w.heap.size) (hu : ∃ a n c, u = .slice a n c) (hqn : ¬ MFt mb ub q) (hcn : ¬ MFt mb ub cb) (hlt : ∀ b, MFt mb ub b → b < w.heap.size)
    (hend : ∀ w1, Below w.heap.size w w1 → Calls Tryz.prog 396 #[.agg (patC kv), shareV mb t, u] w1 fun e w' => ∃ v o, e = .returned (.tuple #[v, .bool o]) ∧ (∃ a b c, v = .slice a b c) ∧ Chg (MFt mb ub) w1 w' ∧ R v o w1 w') :
    Calls Tryz.prog 40 #[.iface 155 (.agg (patC kv)), shareV mb t, .pointer (some ⟨q, 0, none⟩)] w fun e w' => ∃ v o w1, e = .returned (.tuple #[v, .bool o]) ∧ (∃ a b c, v = .slice a b c) ∧ Below w.heap.size w w1 ∧ R v o w1 w' ∧ Chg (MFt mb ub) w w' := by
  obtain ⟨uA, un, uc, rfl⟩ := hu
  obtain ⟨W0, hW0⟩ : ∃ x, w.alloc (.cells #[.pointer (some ⟨mb, 0, none⟩), .int .i64 0, .int .i64 t] 118) = x := ⟨_, rfl⟩
  have hB0 : Below w.heap.size w W0 := by rw [← hW0]; exact (Below.refl _ _).alloc (Nat.le_refl _) _
  have hB1 := hB0.drew
  have hff := hend _ hB1
  have x2 : Blk W0.drew w.heap.size 118 #[.pointer (some ⟨mb, 0, none⟩), .int .i64 0, .int .i64 t] := by rw [← hW0]; exact Blk.made w _ _
  have y0 := x2.at' 0
  have y1 := x2.at' 1
  have y2 := x2.at' 2
  simp at y0 y1 y2
  have hq0 := (hB1.cell (p := ⟨q, 0, none⟩) hql).trans hq
  have hc0 := (hB1.cell (p := ⟨cb, 2, none⟩) hcl).trans hc
  have hna : ∀ W, (nilAhead 664 155 (.agg (patC kv)) "rexmill/filter.end").run Tryz.prog W = .ok (some false) W := fun W => Go.Ev.run_nilAhead meth_endW (664 - 1)
  have hme : ∀ W, (method 664 155 (.agg (patC kv)) "rexmill/filter.end").run Tryz.prog W = .ok (396, .agg (patC kv)) W := fun W => Go.Ev.run_method meth_endW (664 - 1)
  have HB := Lib.hid hB1
  unfold shareV at hff ⊢
  have hS : ∀ w1, Chg (MFt mb ub) W0.drew w1 → ((w1.cell? ⟨w.heap.size, 0, none⟩ = some (.pointer (some ⟨mb, 0, none⟩)) ∧ w1.cell? ⟨w.heap.size, 1, none⟩ = some (.int .i64 0)) ∧ w1.cell? ⟨w.heap.size, 2, none⟩ = some (.int .i64 t)) ∧ w1.cell? ⟨q, 0, none⟩ = some (.pointer (some ⟨cb, 0, none⟩)) ∧ w1.cell? ⟨cb, 2, none⟩ = some (.slice uA un uc) := fun w1 hC => by
    have hx := x2.chg hC (fun hf => by have := hlt _ hf; omega)
    have k0 := hx.at' 0
    have k1 := hx.at' 1
    have k2 := hx.at' 2
    simp at k0 k1 k2
    have hz : W0.drew.heap.size = w.heap.size + 1 := by rw [← hW0]; simp
    exact ⟨⟨⟨k0, k1⟩, k2⟩, (hC.cell (p := ⟨q, 0, none⟩) (by show q < W0.drew.heap.size; omega) hqn).trans hq0, (hC.cell (p := ⟨cb, 2, none⟩) (by show cb < W0.drew.heap.size; omega) hcn).trans hc0⟩
  have HS := Lib.hid hS
  have hS0 := hS _ (Chg.refl _ _)
  clear hq hc hS x2 y0 y1 y2 hq0 hc0 hlt hend hB1
  go_enter Tryz.func40, Tryz.ntmps40
  go_wp2_with fail
  go_region_held3 (fun w' => ((w'.cell? ⟨w.heap.size, 0, none⟩ = some (.pointer (some ⟨mb, 0, none⟩)) ∧ w'.cell? ⟨w.heap.size, 1, none⟩ = some (.int .i64 0)) ∧ w'.cell? ⟨w.heap.size, 2, none⟩ = some (.int .i64 t)) ∧ w'.cell? ⟨q, 0, none⟩ = some (.pointer (some ⟨cb, 0, none⟩)) ∧ w'.cell? ⟨cb, 2, none⟩ = some (.slice uA un uc))
    (first | exact hS0 | exact HS.out _ hC1 | go_keep)
    (first
      | (go_simp; go_at_call 396; refine hff.mono ?_; clear hff; rintro _ w1 ⟨v, o, rfl, ⟨a9, b9, c9, rfl⟩, hC1, hR⟩))
  go_wp2_with fail
  first | go_ret2 | skip
  exact ⟨_, o, _, rfl, ⟨_, _, _, rfl⟩, HB.out, hR, (Chg.of_below HB.out).trans hC1 fun _ _ h => h⟩
end Go.Proofs.YtahmcjdddcbhnaaGreatDoor
