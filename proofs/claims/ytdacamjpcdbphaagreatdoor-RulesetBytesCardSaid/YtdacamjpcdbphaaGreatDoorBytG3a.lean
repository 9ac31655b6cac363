/-
  The generator of patterns, walked: Pattern.
  Print, walked at trees that a generator makes.
  The generator of rules, walked: Rules.
  The reference's Spoilt, walked: rules of which one is changed.
-/
import Derived.Test.YtdacamjpcdbphaaGreatDoorGenSW
import Derived.Test.YtdacamjpcdbphaaGreatDoorBytG1a
import Derived.Test.YtdacamjpcdbphaaGreatDoorPriWW
namespace Go.Proofs.YtdacamjpcdbphaaGreatDoor
open Go Go.RowKit

theorem tree_all : ∀ d, d ≤ 10 → TreeSpec d
  | 0, _ => tree_zero
  | d + 1, h => tree_succ (tree_all d (by omega)) (by omega)
theorem sizePattern : (Tryz.prog.info? 53).map (·.size) = some 10 := by kernel_rfl
theorem results_pat {fn : Func} {p : Tmp} (h : fn.results = #[.cell p 53]) (tmps : Array Value) (w : World) (g : Nat) {a0 a1 a2 a3 a4 a5 a6 a7 a8 a9 : Value}
    (hp : tmps.getD p undef = .pointer (some ⟨g, 0, none⟩)) (hg : Blk w g 53 #[a0, a1, a2, a3, a4, a5, a6, a7, a8, a9]) :
    (results fn tmps).run Tryz.prog w = .ok (.agg #[a0, a1, a2, a3, a4, a5, a6, a7, a8, a9]) w :=
  results_cell_row h tmps w g 53 _ (0, 0) _ hp hg Tryz.underlying53 rfl sizePattern
theorem Blk.ten {w : World} {R : Nat} {a0 a1 a2 a3 a4 a5 a6 a7 a8 a9 : Value} (h : Blk w R 53 #[a0, a1, a2, a3, a4, a5, a6, a7, a8, a9]) :
    w.cell? ⟨R, 0, none⟩ = some a0 ∧ w.cell? ⟨R, 1, none⟩ = some a1 ∧ w.cell? ⟨R, 2, none⟩ = some a2 ∧ w.cell? ⟨R, 3, none⟩ = some a3 ∧ w.cell? ⟨R, 4, none⟩ = some a4 ∧ w.cell? ⟨R, 5, none⟩ = some a5 ∧ w.cell? ⟨R, 6, none⟩ = some a6 ∧ w.cell? ⟨R, 7, none⟩ = some a7 ∧ w.cell? ⟨R, 8, none⟩ = some a8 ∧ w.cell? ⟨R, 9, none⟩ = some a9 :=
  ⟨h.at' 0, h.at' 1, h.at' 2, h.at' 3, h.at' 4, h.at' 5, h.at' 6, h.at' 7, h.at' 8, h.at' 9⟩
theorem Blk.thaw10 {w : World} {R : Nat} {cs : Array Value} {t : TypeId} (h : Blk w R t cs) :
    w.frozen? ⟨R, 0, none⟩ = false ∧ w.frozen? ⟨R, 1, none⟩ = false ∧ w.frozen? ⟨R, 2, none⟩ = false ∧ w.frozen? ⟨R, 3, none⟩ = false ∧ w.frozen? ⟨R, 4, none⟩ = false ∧ w.frozen? ⟨R, 5, none⟩ = false ∧ w.frozen? ⟨R, 6, none⟩ = false ∧ w.frozen? ⟨R, 7, none⟩ = false ∧ w.frozen? ⟨R, 8, none⟩ = false ∧ w.frozen? ⟨R, 9, none⟩ = false :=
  ⟨h.thaw 0, h.thaw 1, h.thaw 2, h.thaw 3, h.thaw 4, h.thaw 5, h.thaw 6, h.thaw 7, h.thaw 8, h.thaw 9⟩
theorem Blk.put10 {w : World} {R : Nat} {ty : TypeId} {a0 a1 a2 a3 a4 a5 a6 a7 a8 a9 : Value} (h : Blk w R ty #[a0, a1, a2, a3, a4, a5, a6, a7, a8, a9]) (b0 b1 b2 b3 b4 b5 b6 b7 b8 b9 : Value) :
    Blk ((((((((((w.setCell ⟨R, 0, none⟩ b0).setCell ⟨R, 1, none⟩ b1).setCell ⟨R, 2, none⟩ b2).setCell ⟨R, 3, none⟩ b3).setCell ⟨R, 4, none⟩ b4).setCell ⟨R, 5, none⟩ b5).setCell ⟨R, 6, none⟩ b6).setCell ⟨R, 7, none⟩ b7).setCell ⟨R, 8, none⟩ b8).setCell ⟨R, 9, none⟩ b9) R ty #[b0, b1, b2, b3, b4, b5, b6, b7, b8, b9] := by
  have := (((((((((h.put 0 b0).put 1 b1).put 2 b2).put 3 b3).put 4 b4).put 5 b5).put 6 b6).put 7 b7).put 8 b8).put 9 b9
  simpa using this
theorem Chg.put10 {F : Nat → Prop} {a w : World} {R : Nat} (h : Chg F a w) (hR : a.heap.size ≤ R ∨ F R) (b0 b1 b2 b3 b4 b5 b6 b7 b8 b9 : Value) :
    Chg F a ((((((((((w.setCell ⟨R, 0, none⟩ b0).setCell ⟨R, 1, none⟩ b1).setCell ⟨R, 2, none⟩ b2).setCell ⟨R, 3, none⟩ b3).setCell ⟨R, 4, none⟩ b4).setCell ⟨R, 5, none⟩ b5).setCell ⟨R, 6, none⟩ b6).setCell ⟨R, 7, none⟩ b7).setCell ⟨R, 8, none⟩ b8).setCell ⟨R, 9, none⟩ b9) :=
  ((h.put8 hR b0 b1 b2 b3 b4 b5 b6 b7).setCell (p := ⟨R, 8, none⟩) hR b8).setCell (p := ⟨R, 9, none⟩) hR b9
set_option maxHeartbeats 8000000 in
set_option maxRecDepth 1000000 in
theorem pattern_walk {w : World} {x : Value} {l : List Int} (h : SlArg w x l) (uses most : Int) :
    Calls Tryz.prog 19 #[x, .int .i64 uses, .int .i64 most] w fun e w' => ∃ (t : VT) (caps : Nat), e = .returned (patV t caps false) ∧ TreeAt w' (fun b => w.heap.size ≤ b) t ∧ t.num ≤ 1024 ∧ caps ≤ 4 ∧ Below w.heap.size w w' := by
  obtain ⟨A, c, rfl, hA⟩ := h.val
  have hlead : ∀ g, Value.leads (.slice A l.length c) = some g → g < w.heap.size := fun g hg => by
    obtain ⟨A', c', e, h1⟩ := h.val
    cases e
    cases hl : l with
    | nil => rw [hl] at hg; cases A <;> cases hg
    | cons a q =>
      obtain ⟨b, off, rfl, hb, _⟩ := h1 (by rw [hl]; simp)
      rw [hl] at hg
      cases hg
      exact hb
  have hpb := Blk.made w 53 #[.int .i64 0, .slice none 0 0, .slice none 0 0, .int .i64 0, .int .i64 0, .int .i64 0, .int .i64 0, .bool false, .int .i64 0, .bool false]
  have hc1 := (Chg.refl (fun _ => False) w).alloc (.cells #[.int .i64 0, .slice none 0 0, .slice none 0 0, .int .i64 0, .int .i64 0, .int .i64 0, .int .i64 0, .bool false, .int .i64 0, .bool false] 53)
  obtain ⟨W1, hW1⟩ : ∃ x, w.alloc (.cells #[.int .i64 0, .slice none 0 0, .slice none 0 0, .int .i64 0, .int .i64 0, .int .i64 0, .int .i64 0, .bool false, .int .i64 0, .bool false] 53) = x := ⟨_, rfl⟩
  rw [hW1] at hpb hc1
  have s1 := hpb.lt
  have hmb := Blk.made W1 90 #[.slice A l.length c, .int .i64 0, .int .i64 uses, .int .i64 most, .int .i64 0]
  have hc2 := hc1.alloc (.cells #[.slice A l.length c, .int .i64 0, .int .i64 uses, .int .i64 most, .int .i64 0] 90)
  have hpb2 := hpb.alloc (.cells #[.slice A l.length c, .int .i64 0, .int .i64 uses, .int .i64 most, .int .i64 0] 90)
  obtain ⟨W2, hW2⟩ : ∃ x, W1.alloc (.cells #[.slice A l.length c, .int .i64 0, .int .i64 uses, .int .i64 most, .int .i64 0] 90) = x := ⟨_, rfl⟩
  rw [hW2] at hmb hc2 hpb2
  have hM : MkAt W2 W1.heap.size := ⟨A, c, l, 0, uses, most, 0, hmb, h.chg hc2 (fun _ _ h => h), fun g hg => by have := hlead g hg; omega, by omega⟩
  have hi := tree_all 5 (by omega) W2 W1.heap.size hM
  go_enter Tryz.func19, Tryz.ntmps19
  go_wp2_with fail
  refine (show Calls Tryz.prog 38 #[.pointer (some ⟨W1.heap.size, 0, none⟩), .int .i64 5] W2 _ from hi).mono ?_
  clear hi
  rintro _ w3 ⟨t, rfl, hMd⟩
  have hpb3 := hpb2.chg hMd.chg (fun e => by have e' : w.heap.size = W1.heap.size := e; omega)
  have hB3 : Chg (fun _ => False) w w3 := hc2.trans hMd.chg fun i hi e => by have e' : i = W1.heap.size := e; omega
  obtain ⟨As, cs, hset, -⟩ := hMd.tree.set.shape
  obtain ⟨Ak, ck, hkv, -⟩ := hMd.tree.kids.shape
  have hval : t.val = .agg #[.int .i64 t.op, .slice As t.spans.length cs, .slice Ak t.kids.length ck, .int .i64 t.mn, .int .i64 t.mx, .int .i64 t.mo, .int .i64 t.n, .bool t.neg] := by unfold VT.val; rw [hset, hkv]
  rw [hval]
  have hb5 := Blk.made w3 51 #[.int .i64 0, .slice none 0 0, .slice none 0 0, .int .i64 0, .int .i64 0, .int .i64 0, .int .i64 0, .bool false]
  have hC5 := (Chg.refl (fun _ => False) w3).alloc (.cells #[.int .i64 0, .slice none 0 0, .slice none 0 0, .int .i64 0, .int .i64 0, .int .i64 0, .int .i64 0, .bool false] 51)
  obtain ⟨W6, hW6⟩ : ∃ x, w3.alloc (.cells #[.int .i64 0, .slice none 0 0, .slice none 0 0, .int .i64 0, .int .i64 0, .int .i64 0, .int .i64 0, .bool false] 51) = x := ⟨_, rfl⟩
  rw [hW6] at hb5 hC5
  obtain ⟨z0, z1, z2, z3, z4, z5, z6, z7⟩ := hb5.eight
  obtain ⟨y0, y1, y2, y3, y4, y5, y6, y7⟩ := hb5.thaw8
  have hRl := hb5.lt
  have hC6 := (Chg.refl (fun b => b = w3.heap.size) W6).put8 (R := w3.heap.size) (.inr rfl) (.int .i64 t.op) (.slice As t.spans.length cs) (.slice Ak t.kids.length ck) (.int .i64 t.mn) (.int .i64 t.mx) (.int .i64 t.mo) (.int .i64 t.n) (.bool t.neg)
  have hb6 := hb5.put8 (.int .i64 t.op) (.slice As t.spans.length cs) (.slice Ak t.kids.length ck) (.int .i64 t.mn) (.int .i64 t.mx) (.int .i64 t.mo) (.int .i64 t.n) (.bool t.neg)
  obtain ⟨w6, hw6⟩ : ∃ x, (((((((W6.setCell ⟨w3.heap.size, 0, none⟩ (.int .i64 t.op)).setCell ⟨w3.heap.size, 1, none⟩ (.slice As t.spans.length cs)).setCell ⟨w3.heap.size, 2, none⟩ (.slice Ak t.kids.length ck)).setCell ⟨w3.heap.size, 3, none⟩ (.int .i64 t.mn)).setCell ⟨w3.heap.size, 4, none⟩ (.int .i64 t.mx)).setCell ⟨w3.heap.size, 5, none⟩ (.int .i64 t.mo)).setCell ⟨w3.heap.size, 6, none⟩ (.int .i64 t.n)).setCell ⟨w3.heap.size, 7, none⟩ (.bool t.neg) = x := ⟨_, rfl⟩
  rw [hw6] at hb6 hC6
  have hC : Chg (fun _ => False) w3 w6 := hC5.trans hC6 fun i hi e => by have e' : i = w3.heap.size := e; omega
  have hM6 := hMd.maker.chg hC fun _ _ h => h
  have ht6 := hMd.tree.chg hC fun _ _ h => h
  have hpb6 := hpb3.chg hC fun h => h
  have hB6 := hB3.trans hC fun _ _ h => h.elim
  have htn := hMd.num
  go_wp2_with fail
  clear z0 z1 z2 z3 z4 z5 z6 z7 y0 y1 y2 y3 y4 y5 y6 y7 hRl hC6 hC5 hb5 hw6 hW6
  obtain ⟨B, cB, lB, b1, b2, b3, capB, hbB, hcap4, -⟩ := hM6.nums
  obtain ⟨z0, z1, z2, z3, z4, z5, z6, z7⟩ := hb6.eight
  have q4 := hbB.at' 4
  simp at q4
  obtain ⟨x0, x1, x2, x3, x4, x5, x6, x7, x8, x9⟩ := hpb6.ten
  obtain ⟨y0, y1, y2, y3, y4, y5, y6, y7, y8, y9⟩ := hpb6.thaw10
  have hl1 := hbB.lt
  have hl2 := hb6.lt
  have hl3 := hpb6.lt
  go_region_law (fail)
  all_goals
    go_wp2
    have hput := hpb6.put10 (.int .i64 t.op) (.slice As t.spans.length cs) (.slice Ak t.kids.length ck) (.int .i64 t.mn) (.int .i64 t.mx) (.int .i64 t.mo) (.int .i64 t.n) (.bool t.neg) (.int .i64 (capB : Int)) (.bool false)
    have hcf := ((Chg.refl (fun b => b = w.heap.size) w6).put10 (R := w.heap.size) (.inr rfl) (.int .i64 t.op) (.slice As t.spans.length cs) (.slice Ak t.kids.length ck) (.int .i64 t.mn) (.int .i64 t.mx) (.int .i64 t.mo) (.int .i64 t.n) (.bool t.neg) (.int .i64 (capB : Int)) (.bool false)).drew
    refine bodyPost_ret (results_pat rfl _ _ w.heap.size rfl (hput.bel (Below.refl _ _).drew hput.lt)) rfl ?_
    refine ⟨t, capB, by unfold patV; rw [hset, hkv], ?_, htn, hcap4, ?_⟩
    · exact (ht6.chg hcf fun b hb e => by have e' : b = w.heap.size := e; have := hmb.lt; omega).low fun b hb => by have := hmb.lt; omega
    · exact (hB6.trans hcf fun i hi e => by have e' : i = w.heap.size := e; omega).to_below (Nat.le_refl _) fun i hi h => h.elim
end Go.Proofs.YtdacamjpcdbphaaGreatDoor
namespace Go.Proofs.YtdacamjpcdbphaaGreatDoor
open Go Go.RowKit

set_option maxHeartbeats 16000000 in
set_option maxRecDepth 1000000 in
theorem printP_walk {w : World} {B : Nat → Prop} {t : VT} (hT : TreeAt w B t) (hn : t.num ≤ 1024) (caps : Nat) (hc4 : caps ≤ 4) :
    Calls Tryz.prog 20 #[patV t caps false] w fun e w' => ∃ (s : ByteArray) (c : Int), e = .returned (.tuple #[.string s, .int .i64 c]) ∧ s.size ≤ 2048 ∧ Below w.heap.size w w' := by
  have hva := fun (w' : World) (hb : Below w.heap.size w w') => valid_walk (hT.bel hb) (by omega) caps
  have hpr := fun (w' : World) (hb : Below w.heap.size w w') => print_walk t.num rfl (by omega) (hT.bel hb)
  have hnu := fun (w' : World) (hb : Below w.heap.size w w') => numbers_walk t.num rfl (by omega) (hT.bel hb)
  have hdig : ∀ (wr : World), Calls Tryz.prog 43 #[.int .i64 (caps : Int), .int .i64 10] wr fun e w2 => ∃ s : ByteArray, e = .returned (.string s) ∧ s.size ≤ 3 ∧ w2 = wr := fun wr => digits_same wr caps 10 (by omega) (.inl rfl)
  obtain ⟨op, set, kidv, mn, mx, mo, n, neg, spans, kids⟩ := t
  obtain ⟨N, hN⟩ : ∃ N, (VT.mk op set kidv mn mx mo n neg spans kids).num = N := ⟨_, rfl⟩
  rw [hN] at hpr hnu hn
  show Calls Tryz.prog 20 #[.agg #[.int .i64 op, set, kidv, .int .i64 mn, .int .i64 mx, .int .i64 mo, .int .i64 n, .bool neg, .int .i64 (caps : Int), .bool false]] w _
  have hva' : ∀ (w' : World) (hb : Below w.heap.size w w'), Calls Tryz.prog 39 #[.agg #[.int .i64 op, set, kidv, .int .i64 mn, .int .i64 mx, .int .i64 mo, .int .i64 n, .bool neg, .int .i64 (caps : Int), .bool false]] w' fun e w2 => ∃ c : Int, e = .returned (.int .i64 c) ∧ Below w'.heap.size w' w2 := hva
  have hpr' : ∀ (w' : World) (hb : Below w.heap.size w w'), Calls Tryz.prog 40 #[.agg #[.int .i64 op, set, kidv, .int .i64 mn, .int .i64 mx, .int .i64 mo, .int .i64 n, .bool neg]] w' (SomeStr w' (40 * N)) := hpr
  have hnu' : ∀ (w' : World) (hb : Below w.heap.size w w'), Calls Tryz.prog 42 #[.agg #[.int .i64 op, set, kidv, .int .i64 mn, .int .i64 mx, .int .i64 mo, .int .i64 n, .bool neg]] w' fun e w2 => ∃ v l, e = .returned v ∧ NumsAt w' w2 v l ∧ l.length ≤ N := hnu
  clear hva hpr hnu hN hT
  have hbox := fun (w' : World) (hb : Below (w.heap.size + 1) (w.alloc (.cells #[.int .i64 op, set, kidv, .int .i64 mn, .int .i64 mx, .int .i64 mo, .int .i64 n, .bool neg, .int .i64 (caps : Int), .bool false] 53)) w') =>
    ((Blk.made w 53 #[.int .i64 op, set, kidv, .int .i64 mn, .int .i64 mx, .int .i64 mo, .int .i64 n, .bool neg, .int .i64 (caps : Int), .bool false]).bel hb (by omega)).ten
  have hB0 := (Below.refl _ w).alloc (Nat.le_refl _) (.cells #[.int .i64 op, set, kidv, .int .i64 mn, .int .i64 mx, .int .i64 mo, .int .i64 n, .bool neg, .int .i64 (caps : Int), .bool false] 53)
  have hs0 : w.heap.size + 1 ≤ (w.alloc (.cells #[.int .i64 op, set, kidv, .int .i64 mn, .int .i64 mx, .int .i64 mo, .int .i64 n, .bool neg, .int .i64 (caps : Int), .bool false] 53)).heap.size := by simp
  obtain ⟨W0, hW0⟩ : ∃ x, w.alloc (.cells #[.int .i64 op, set, kidv, .int .i64 mn, .int .i64 mx, .int .i64 mo, .int .i64 n, .bool neg, .int .i64 (caps : Int), .bool false] 53) = x := ⟨_, rfl⟩
  rw [hW0] at hbox hB0 hs0
  have hv := hva' W0 hB0
  clear hva'
  obtain ⟨z0, z1, z2, z3, z4, z5, z6, z7, z8, z9⟩ := hbox W0 (Below.refl _ _)
  go_enter Tryz.func20, Tryz.ntmps20
  go_wp2_with fail
  refine hv.mono ?_
  clear hv
  rintro _ w1 ⟨c, rfl, hB1⟩
  have e1 := hB0.trans (hB1.mono hB0.size)
  have e1' : Below (w.heap.size + 1) W0 w1 := hB1.mono hs0
  by_cases hc : c = 0
  · subst hc
    clear z0 z1 z2 z3 z4 z5 z6 z7 z8 z9
    obtain ⟨z0, z1, z2, z3, z4, z5, z6, z7, z8, z9⟩ := hbox w1 e1'
    have hp := hpr' w1 e1
    clear hpr'
    go_wp2_with fail
    refine hp.mono ?_
    clear hp
    rintro _ w2 ⟨s, rfl, hs, hB2⟩
    have e2 := e1.trans (hB2.mono e1.size)
    have e2' : Below (w.heap.size + 1) W0 w2 := e1'.trans (hB2.mono (by have := e1'.size; omega))
    clear z0 z1 z2 z3 z4 z5 z6 z7 z8 z9
    have hS : ∀ w' : World, Below (w.heap.size + 1) W0 w' → w'.cell? ⟨w.heap.size, 0, none⟩ = some (.int .i64 op) ∧ w'.cell? ⟨w.heap.size, 1, none⟩ = some set ∧ w'.cell? ⟨w.heap.size, 2, none⟩ = some kidv ∧ w'.cell? ⟨w.heap.size, 3, none⟩ = some (.int .i64 mn) ∧ w'.cell? ⟨w.heap.size, 4, none⟩ = some (.int .i64 mx) ∧ w'.cell? ⟨w.heap.size, 5, none⟩ = some (.int .i64 mo) ∧ w'.cell? ⟨w.heap.size, 6, none⟩ = some (.int .i64 n) ∧ w'.cell? ⟨w.heap.size, 7, none⟩ = some (.bool neg) ∧ w'.cell? ⟨w.heap.size, 8, none⟩ = some (.int .i64 (caps : Int)) := by
      intro w' hb
      obtain ⟨z0, z1, z2, z3, z4, z5, z6, z7, z8, z9⟩ := hbox w' hb
      exact ⟨z0, z1, z2, z3, z4, z5, z6, z7, z8⟩
    have e2d := e2'.drew
    have hn2 := hnu' w2.drew e2.drew
    clear hnu'
    go_wp2_with fail
    go_region_held3 (fun w' => w'.cell? ⟨w.heap.size, 0, none⟩ = some (.int .i64 op) ∧ w'.cell? ⟨w.heap.size, 1, none⟩ = some set ∧ w'.cell? ⟨w.heap.size, 2, none⟩ = some kidv ∧ w'.cell? ⟨w.heap.size, 3, none⟩ = some (.int .i64 mn) ∧ w'.cell? ⟨w.heap.size, 4, none⟩ = some (.int .i64 mx) ∧ w'.cell? ⟨w.heap.size, 5, none⟩ = some (.int .i64 mo) ∧ w'.cell? ⟨w.heap.size, 6, none⟩ = some (.int .i64 n) ∧ w'.cell? ⟨w.heap.size, 7, none⟩ = some (.bool neg) ∧ w'.cell? ⟨w.heap.size, 8, none⟩ = some (.int .i64 (caps : Int)))
      (first
        | exact hS _ e2d
        | exact hS _ e3')
      (first
        | (go_at_call 42; (with_reducible refine hn2.mono ?_); clear hn2; rintro _ w3 ⟨v, l, rfl, hN3, hl3⟩; have e3' := e2d.trans (hN3.bel.mono (by have := e2d.size; omega)); have e3 := e2.drew.trans (hN3.bel.mono e2.drew.size); have hhas := has_walk (hN3.arg (by omega)) (caps : Int))
        | (go_at_call 41; (with_reducible refine hhas.mono ?_); clear hhas; rintro _ w4 ⟨b, rfl, rfl⟩))
    all_goals
      obtain ⟨-, -, -, -, -, -, -, -, z8, -⟩ := hbox _ e3'
      by_cases hplain : caps = 0 ∨ b = true
      · have hcb : (decide ((0 : Int) < (caps : Int)) = false) ∨ (0 < caps ∧ b = true) := by
          by_cases h0 : caps = 0
          · exact .inl (by simp; omega)
          · exact .inr ⟨by omega, hplain.resolve_left h0⟩
        have hend : ∀ (x : Bool), True := fun _ => trivial
        rcases hcb with h0 | ⟨h0, rfl⟩
        · have h0' : caps = 0 := by simpa using h0
          subst h0'
          by_cases hbig : 2048 < s.size
          · have hbigI : (2048 : Int) < (s.size : Int) := by omega
            go_wp2_with fail
            refine bodyPost_ret (results_tmp2 rfl _ _ _) rfl ?_
            first | exact ⟨_, ⟨_, rfl⟩, by decide, e3⟩ | exact ⟨_, _, rfl, by decide, e3⟩
          · have hbigI : ¬ (2048 : Int) < (s.size : Int) := by omega
            go_wp2_with fail
            refine bodyPost_ret (results_tmp2 rfl _ _ _) rfl ?_
            first | exact ⟨s, ⟨_, rfl⟩, by omega, e3⟩ | exact ⟨s, _, rfl, by omega, e3⟩
        · have h0I : (0 : Int) < (caps : Int) := by omega
          by_cases hbig : 2048 < s.size
          · have hbigI : (2048 : Int) < (s.size : Int) := by omega
            go_wp2_with fail
            refine bodyPost_ret (results_tmp2 rfl _ _ _) rfl ?_
            first | exact ⟨_, ⟨_, rfl⟩, by decide, e3⟩ | exact ⟨_, _, rfl, by decide, e3⟩
          · have hbigI : ¬ (2048 : Int) < (s.size : Int) := by omega
            go_wp2_with fail
            refine bodyPost_ret (results_tmp2 rfl _ _ _) rfl ?_
            first | exact ⟨s, ⟨_, rfl⟩, by omega, e3⟩ | exact ⟨s, _, rfl, by omega, e3⟩
      · have hb : b = false := by
          cases b with
          | false => rfl
          | true => exact absurd (.inr rfl) hplain
        subst hb
        have h0 : 0 < caps := by
          rcases Nat.eq_zero_or_pos caps with h | h
          · exact absurd (.inl h) hplain
          · exact h
        have h0I : (0 : Int) < (caps : Int) := by omega
        go_wp2_with fail
        refine (hdig _).mono ?_
        rintro _ w5 ⟨s5, rfl, hs5, rfl⟩
        have k1 : 3 + s5.size ≤ 9223372036854775807 := by omega
        have k2 : 3 + s5.size + 1 ≤ 9223372036854775807 := by omega
        have k3 : 3 + s5.size + 1 + s.size ≤ 9223372036854775807 := by omega
        by_cases hbig : 2048 < 3 + s5.size + 1 + s.size
        · have hbigI : (2048 : Int) < 3 + (s5.size : Int) + 1 + (s.size : Int) := by omega
          go_wp2_with fail
          refine bodyPost_ret (results_tmp2 rfl _ _ _) rfl ?_
          first | exact ⟨_, ⟨_, rfl⟩, by decide, e3⟩ | exact ⟨_, _, rfl, by decide, e3⟩
        · have hbigI : ¬ (2048 : Int) < 3 + (s5.size : Int) + 1 + (s.size : Int) := by omega
          go_wp2_with fail
          refine bodyPost_ret (results_tmp2 rfl _ _ _) rfl ?_
          first | exact ⟨_, ⟨_, rfl⟩, by simp [ByteArray.size_append', ByteArray.size_mk']; omega, e3⟩ | exact ⟨_, _, rfl, by simp [ByteArray.size_append', ByteArray.size_mk']; omega, e3⟩
  · have hcd : (!(c == 0)) = true := by simpa using hc
    go_wp2_with fail
    refine bodyPost_ret (results_tmp2 rfl _ _ _) rfl ?_
    first | exact ⟨_, ⟨c, rfl⟩, by decide, e1⟩ | exact ⟨_, c, rfl, by decide, e1⟩
end Go.Proofs.YtdacamjpcdbphaaGreatDoor
namespace Go.Proofs.YtdacamjpcdbphaaGreatDoor
open Go Go.RowKit

/-- rules in a row that is new -/
structure RulesAt (w wr : World) (v : Value) (rs : List Ru) : Prop where
  row : wr.ownsRow w.heap.size 59 3 v rs.length (rs.flatMap Ru.cells)
  bel : Below w.heap.size w wr
theorem RulesAt.next {w wr w' : World} {v : Value} {rs : List Ru} (h : RulesAt w wr v rs) (hb : Below wr.heap.size wr w') : RulesAt w w' v rs :=
  ⟨owns_bel h.row hb, h.bel.trans (hb.mono h.bel.size)⟩
theorem RulesAt.push {w wr w3 : World} {A : Option Addr} {c : Nat} {rs : List Ru} {r : Ru} {v3 : Value} {o : Obj} (h : RulesAt w wr (.slice A rs.length c) rs)
    (hrow : w3.ownsRow w.heap.size 59 3 v3 (rs.length + 1) (rs.flatMap Ru.cells ++ r.cells)) (hg : (wr.alloc o).grownBy w3 (Value.ownBlock (.slice A rs.length c))) :
    RulesAt w w3 v3 (rs ++ [r]) := by
  refine ⟨by rw [List.length_append, List.flatMap_append]; simpa using hrow, grown_bel h.bel h.row h.bel.size o hg⟩
theorem tab6 : ∀ k, k < 6 → ∃ z : Int, (#[Value.int .i64 64, .int .i64 0, .int .i64 127, .int .i64 64, .int .i64 80, .int .i64 12])[k]? = some (.int .i64 z) := by
  intro k hk
  match k, hk with
  | 0, _ => exact ⟨64, rfl⟩
  | 1, _ => exact ⟨0, rfl⟩
  | 2, _ => exact ⟨127, rfl⟩
  | 3, _ => exact ⟨64, rfl⟩
  | 4, _ => exact ⟨80, rfl⟩
  | 5, _ => exact ⟨12, rfl⟩
  | n + 6, h => exact absurd h (by omega)
/-- short names, texts that are printed -/
def Small (rs : List Ru) : Prop := ∀ r ∈ rs, r.name.length ≤ 4 ∧ r.text.length ≤ 2048
set_option maxHeartbeats 16000000 in
set_option maxRecDepth 1000000 in
theorem rules_walk {w : World} {x : Value} {l : List Int} (h : SlArg w x l) :
    Calls Tryz.prog 4 #[x, .int .i64 4] w fun e w' => ∃ v, e = .returned v ∧ ∃ rs, RulesAt w w' v rs ∧ 1 ≤ rs.length ∧ rs.length ≤ 4 ∧ Small rs := by
  obtain ⟨i0, hi0, hz0, hz1, hz2⟩ := info_parts' infoInt'
  obtain ⟨j0, hj0, hk0, hk1, hk2⟩ := info_parts' infoRef
  have hpk := fun (w' : World) (hb : Below w.heap.size w w') => pick_any (h.below hb)
  have hly : ¬ IntKind.i64.wrap ((l.length : Int) + 1) = 0 := by
    have := h.len
    rw [IntKind.wrap_i64]
    omega
  obtain ⟨A, c, rfl, -⟩ := h.val
  have hp0 := hpk w (Below.refl _ _) 0 4 (by omega) (by omega)
  clear h
  obtain ⟨n, hn⟩ : ∃ n, l.length = n := ⟨_, rfl⟩
  rw [hn] at hpk hly hp0 ⊢
  obtain ⟨y, hy⟩ : ∃ y, IntKind.i64.wrap ((n : Int) + 1) = y := ⟨_, rfl⟩
  rw [hy] at hly
  clear hn
  go_enter Tryz.func4, Tryz.ntmps4
  go_wp2_with fail
  refine hp0.mono ?_
  clear hp0
  rintro _ w1 ⟨m, hm, rfl, rfl⟩
  go_wp2_with fail
  go_loopw [5, 7] (fun ov iv wr => ∃ (i : Nat) (rs : List Ru), i ≤ m + 1 ∧ iv = .int .i64 i ∧ RulesAt w1 wr ov rs ∧ rs.length = i ∧ Small rs) (fun _ iv _ => 5 - (intOf iv).toNat)
  case atStart => exact ⟨0, [], by omega, rfl, ⟨World.ownsRow_nil _ _ _ _, Below.refl _ _⟩, rfl, fun r hr => by cases hr⟩
  case round =>
    obtain ⟨i, rs, hi, rfl, hR, hrs, hsm⟩ := hrel
    subst hrs
    have hrow0 := hR.row
    obtain ⟨Ao, co, rfl, _⟩ := row_form hrow0
    by_cases him : rs.length < 1 + m
    · have him1 : (rs.length : Int) < 1 + (m : Int) := by omega
      have hi4 : (rs.length : Int) ≤ 3 := by omega
      go_wp2_with fail
      obtain ⟨wo, rfl⟩ : ∃ x, x = wr := ⟨_, rfl⟩
      have hpk' : ∀ (w' : World), Below wo.heap.size wo w' → ∀ i : Int, Calls Tryz.prog 18 #[.slice A n c, .int .i64 i, .int .i64 1048576] w' fun e w2 => ∃ k : Nat, k < 1048576 ∧ e = .returned (.int .i64 (k : Int)) ∧ w2 = w' := fun w' hb i => hpk w' (hR.bel.trans (hb.mono hR.bel.size)) i 1048576 (by omega) (by omega)
      go_loopw [8, 9] (fun kv jv w2 => ∃ (k : List Int), k.length ≤ 30 ∧ jv = .int .i64 k.length ∧ NumsAt wo w2 kv k) (fun _ jv _ => 30 - (intOf jv).toNat)
      case atStart => exact ⟨[], by simp, rfl, World.ownsRow_nil _ _ _ _, (fun z hz => by cases hz), Below.refl _ _⟩
      case round =>
        obtain ⟨k, hk30, rfl, hN⟩ := hrel
        have hrowk := hN.row
        obtain ⟨Ak, ck, rfl, _⟩ := row_form hrowk
        by_cases hkl : k.length < 30
        · have hkl1 : (k.length : Int) < 30 := by omega
          obtain ⟨P, hP⟩ : ∃ P, rs.length * k.length = P := ⟨_, rfl⟩
          have hP90 : P ≤ 90 := by
            rw [← hP]
            exact Nat.le_trans (Nat.mul_le_mul (show rs.length ≤ 3 by omega) (show k.length ≤ 30 by omega)) (by omega)
          have hPI : (rs.length : Int) * (k.length : Int) = (P : Int) := by rw [← hP]; simp
          obtain ⟨r, hr⟩ : ∃ r, P % 5 = r := ⟨_, rfl⟩
          have hr5 : r < 5 := by omega
          have hrI : (P : Int).tmod 5 = (r : Int) := by rw [← hr]; rfl
          have hpk2 := hpk' wr hN.bel
          have HP := Lib.hid hP
          have HR := Lib.hid hr
          clear hP hr
          go_wp2_with fail
          refine (hpk2 _).mono ?_
          clear hpk2
          rintro _ w4 ⟨p, hp, rfl, rfl⟩
          have hrowA := row_chg hrowk ((Chg.refl (fun _ => False) w4).alloc (.cells #[.int .i64 ((p : Int) + (r : Int))] 3)) fun _ _ h => h
          have hseeA : Sees (w4.alloc (.cells #[.int .i64 ((p : Int) + (r : Int))] 3)) 1 (.slice (some ⟨w4.heap.size, 0, none⟩) 1 1) [.int .i64 ((p : Int) + (r : Int))] := sees_blk (Blk.made w4 3 _) rfl
          have h63 : k.length + 1 ≤ maxLen := by unfold maxLen; omega
          have hby : (k.length + 1) * 8 ≤ 140737488355328 := by omega
          have hbs : wo.heap.size ≤ (w4.alloc (.cells #[.int .i64 ((p : Int) + (r : Int))] 3)).heap.size := by have := hN.bel.size; simp; omega
          go_wp2_with (first
            | (at_builtin; refine wpList_append_sees rfl _ _ 22 rfl i0 _ 8 Tryz.underlying22 hi0 hz0 hz1 hz2 rfl (by decide) _ _ _ rfl hrowA _ 1 _ rfl hseeA rfl (by intro u hu; simp at hu; subst hu; rfl) h63 hby hbs ?_; intro v5 w5 hrow5 hgrow5 hown5)
            | go_in)
          have hA5 := hN.push (show 0 ≤ (p : Int) + (r : Int) ∧ (p : Int) + (r : Int) ≤ 2000000 by omega) hrow5 hgrow5
          go_roundw
          case rel => exact ⟨k ++ [(p : Int) + (r : Int)], by rw [List.length_append]; exact hkl, by simp, hA5⟩
          case measure => simp [intOf]; omega
        · have hke : k.length = 30 := by omega
          have hkl1 : ¬ (k.length : Int) < 30 := by omega
          have hpp := hpk' wr hN.bel
          have harg := hN.arg (by omega)
          have HKE := Lib.hid hke
          clear hke
          go_wp2_with fail
          have hbt := Blk.made wr 3 #[.int .i64 64, .int .i64 0, .int .i64 127, .int .i64 64, .int .i64 80, .int .i64 12]
          have hBt := (Below.refl _ wr).alloc (Nat.le_refl _) (.cells #[.int .i64 64, .int .i64 0, .int .i64 127, .int .i64 64, .int .i64 80, .int .i64 12] 3)
          obtain ⟨W, hW⟩ : ∃ x, wr.alloc (.cells #[.int .i64 64, .int .i64 0, .int .i64 127, .int .i64 64, .int .i64 80, .int .i64 12] 3) = x := ⟨_, rfl⟩
          rw [hW] at hbt hBt
          rw [hW]
          have harg2 := harg.below hBt
          have hBW := hN.bel.trans (hBt.mono hN.bel.size)
          refine (hpk W (hR.bel.trans (hBW.mono hR.bel.size)) _ 6 (by omega) (by omega)).mono ?_
          rintro _ w4 ⟨p, hp6, rfl, rfl⟩
          obtain ⟨uz, huz⟩ := tab6 p hp6
          have hcu := (hbt.at' p).trans huz
          have hpI : (p : Int) < 6 := by omega
          have hltW := hbt.lt
          have hpat := pattern_walk harg2 uz 9
          clear hbt huz hpp
          go_wp2_with fail
          refine hpat.mono ?_
          clear hpat hcu
          rintro _ w6 ⟨t, caps, rfl, hT, htn, hcap, hB6⟩
          have hB6' := hBW.trans (hB6.mono hBW.size)
          obtain ⟨As, cs, hset, -⟩ := hT.set.shape
          obtain ⟨Bk, dk, hkv, -⟩ := hT.kids.shape
          have hval : patV t caps false = .agg #[.int .i64 t.op, .slice As t.spans.length cs, .slice Bk t.kids.length dk, .int .i64 t.mn, .int .i64 t.mx, .int .i64 t.mo, .int .i64 t.n, .bool t.neg, .int .i64 (caps : Int), .bool false] := by unfold patV; rw [hset, hkv]
          rw [hval]
          have hb5 := Blk.made w6 53 #[.int .i64 0, .slice none 0 0, .slice none 0 0, .int .i64 0, .int .i64 0, .int .i64 0, .int .i64 0, .bool false, .int .i64 0, .bool false]
          have hC5 := (Chg.refl (fun _ => False) w6).alloc (.cells #[.int .i64 0, .slice none 0 0, .slice none 0 0, .int .i64 0, .int .i64 0, .int .i64 0, .int .i64 0, .bool false, .int .i64 0, .bool false] 53)
          obtain ⟨W6, hW6⟩ : ∃ x, w6.alloc (.cells #[.int .i64 0, .slice none 0 0, .slice none 0 0, .int .i64 0, .int .i64 0, .int .i64 0, .int .i64 0, .bool false, .int .i64 0, .bool false] 53) = x := ⟨_, rfl⟩
          rw [hW6] at hb5 hC5
          obtain ⟨z0, z1, z2, z3, z4, z5, z6, z7, z8, z9⟩ := hb5.ten
          obtain ⟨y0, y1, y2, y3, y4, y5, y6, y7, y8, y9⟩ := hb5.thaw10
          have hRl := hb5.lt
          have hC6 := (Chg.refl (fun b => b = w6.heap.size) W6).put10 (R := w6.heap.size) (.inr rfl) (.int .i64 t.op) (.slice As t.spans.length cs) (.slice Bk t.kids.length dk) (.int .i64 t.mn) (.int .i64 t.mx) (.int .i64 t.mo) (.int .i64 t.n) (.bool t.neg) (.int .i64 (caps : Int)) (.bool false)
          have hb6 := hb5.put10 (.int .i64 t.op) (.slice As t.spans.length cs) (.slice Bk t.kids.length dk) (.int .i64 t.mn) (.int .i64 t.mx) (.int .i64 t.mo) (.int .i64 t.n) (.bool t.neg) (.int .i64 (caps : Int)) (.bool false)
          obtain ⟨w7, hw7⟩ : ∃ x, (((((((((W6.setCell ⟨w6.heap.size, 0, none⟩ (.int .i64 t.op)).setCell ⟨w6.heap.size, 1, none⟩ (.slice As t.spans.length cs)).setCell ⟨w6.heap.size, 2, none⟩ (.slice Bk t.kids.length dk)).setCell ⟨w6.heap.size, 3, none⟩ (.int .i64 t.mn)).setCell ⟨w6.heap.size, 4, none⟩ (.int .i64 t.mx)).setCell ⟨w6.heap.size, 5, none⟩ (.int .i64 t.mo)).setCell ⟨w6.heap.size, 6, none⟩ (.int .i64 t.n)).setCell ⟨w6.heap.size, 7, none⟩ (.bool t.neg)).setCell ⟨w6.heap.size, 8, none⟩ (.int .i64 (caps : Int))).setCell ⟨w6.heap.size, 9, none⟩ (.bool false) = x := ⟨_, rfl⟩
          rw [hw7] at hb6 hC6
          have hC : Chg (fun _ => False) w6 w7 := hC5.trans hC6 fun i hi e => by have e' : i = w6.heap.size := e; omega
          have ht7 := hT.chg hC fun _ _ h => h
          have hB7 := hB6'.trans ((hC.to_below (Nat.le_refl _) fun _ _ h => h.elim).mono hB6'.size)
          have hpr := printP_walk ht7 htn caps hcap
          rw [hval] at hpr
          obtain ⟨x0, x1, x2, x3, x4, x5, x6, x7, x8, x9⟩ := hb6.ten
          go_wp2_with fail
          refine hpr.mono ?_
          clear hpr x0 x1 x2 x3 x4 x5 x6 x7 x8 x9 z0 z1 z2 z3 z4 z5 z6 z7 z8 z9 y0 y1 y2 y3 y4 y5 y6 y7 y8 y9
          rintro _ w8 ⟨st, cc, rfl, hst, hB8⟩
          have hB8' := hB7.trans (hB8.mono hB7.size)
          have hpq : ∀ (i : Int), Calls Tryz.prog 18 #[.slice A n c, .int .i64 i, .int .i64 5] w8 fun e w2 => ∃ k : Nat, k < 5 ∧ e = .returned (.int .i64 (k : Int)) ∧ w2 = w8 := fun i => hpk w8 (hR.bel.trans (hB8'.mono hR.bel.size)) i 5 (by omega) (by omega)
          have hR8 := hR.next hB8'
          clear hb5 hC5 hC6 hb6 hC hRl hw7 hW6 hltW
          go_wp2_with fail
          refine (hpq _).mono ?_
          clear hpq
          rintro _ w9 ⟨q, hq5, rfl, rfl⟩
          go_wp2_with fail
          have hdec := decimal_small w9 (7 * rs.length + q) (by omega)
          rw [show ((7 * rs.length + q : Nat) : Int) = 7 * (rs.length : Int) + (q : Int) by omega] at hdec
          refine hdec.mono ?_
          clear hdec
          rintro _ w10 ⟨sd, rfl, hsd, rfl⟩
          have k1 : 1 + sd.size ≤ 9223372036854775807 := by omega
          obtain ⟨nm, hnm⟩ : ∃ x, ({ data := #[114] } : ByteArray) ++ sd = x := ⟨_, rfl⟩
          have hnms : nm.size ≤ 4 := by rw [← hnm]; simp [ByteArray.size_append', ByteArray.size_mk']; omega
          obtain ⟨r, hr⟩ : ∃ r : Ru, r = ⟨toB nm, toB st, false⟩ := ⟨_, rfl⟩
          have hrc : r.cells = [.string nm, .string st, .bool false] := by rw [hr]; unfold Ru.cells; simp only [ofB_toB]
          have hrow8 := hR8.row
          have hrowA := row_chg hrow8 ((Chg.refl (fun _ => False) w10).alloc (.cells #[.string nm, .string st, .bool false] 59)) fun _ _ h => h
          have hseeA : Sees (w10.alloc (.cells #[.string nm, .string st, .bool false] 59)) 3 (.slice (some ⟨w10.heap.size, 0, none⟩) 1 1) r.cells := sees_blk (by rw [hrc]; exact Blk.made w10 59 _) rfl
          have h63 : rs.length + 1 ≤ maxLen := by unfold maxLen; omega
          have hby : (rs.length + 1) * 40 ≤ 140737488355328 := by omega
          have hbs : w1.heap.size ≤ (w10.alloc (.cells #[.string nm, .string st, .bool false] 59)).heap.size := by have := hR8.bel.size; simp; omega
          have h1c : ∀ u ∈ r.cells, u.oneCell' = true := by rw [hrc]; intro u hu; simp at hu; rcases hu with rfl | rfl | rfl <;> rfl
          go_wp2_with (first
            | (at_builtin; refine wpList_append_sees rfl _ _ 24 rfl j0 _ 40 Tryz.underlying24 hj0 hk0 hk1 hk2 rfl (by decide) _ _ _ rfl hrowA _ 1 _ rfl hseeA rfl h1c h63 hby hbs ?_; intro v5 w5 hrow5 hgrow5 hown5)
            | go_in)
          have hR5 := hR8.push (r := r) hrow5 hgrow5
          go_roundw
          case rel => exact ⟨rs.length + 1, rs ++ [r], by omega, by go_num, hR5, by simp, fun x hx => by
            rcases List.mem_append.1 hx with hx | hx
            · exact hsm x hx
            · have : x = r := by simpa using hx
              subst this
              rw [hr]
              exact ⟨by rw [toB_len]; exact hnms, by rw [toB_len]; exact hst⟩⟩
          case measure => simp [intOf]; omega
    · have him1 : ¬ (rs.length : Int) < 1 + (m : Int) := by omega
      go_wp2_with fail
      go_ret
      exact ⟨_, rfl, rs, hR, by omega, by omega, hsm⟩
end Go.Proofs.YtdacamjpcdbphaaGreatDoor
namespace Go.Proofs.YtdacamjpcdbphaaGreatDoor
open Go Go.RowKit

/-- a cell of a row stored anew -/
theorem row_setAt {w : World} {base : Nat} {e : TypeId} {size g c n : Nat} {xs : List Value} (h : w.ownsRow base e size (.slice (some ⟨g, 0, none⟩) n c) n xs) {j : Nat} (u : Value) :
    (w.setCell ⟨g, j, none⟩ u).ownsRow base e size (.slice (some ⟨g, 0, none⟩) n c) n (xs.set j u) := by
  refine ⟨by rw [List.length_set]; exact h.1, ?_⟩
  rcases h.2 with ⟨e1, -⟩ | ⟨g', cap, cur, e1, h1, h2, h3, h4, h5, h6⟩
  · cases e1
  · cases e1
    refine .inr ⟨g, c, cur.setIfInBounds j u, rfl, h1, ?_, h3, h4, by simpa using h5, ?_⟩
    · simp [World.setCell, Array.getElem?_modify, h2]
    · rw [Array.toList_setIfInBounds, List.take_set, h6]
theorem flat_set {rs : List Ru} {i k : Nat} {r : Ru} {u : Value} (hi : i < rs.length) (hk : k < 3) (hr : r.cells = rs[i].cells.set k u) : (rs.set i r).flatMap Ru.cells = (rs.flatMap Ru.cells).set (i * 3 + k) u := by
  induction rs generalizing i with
  | nil => simp at hi
  | cons a t ih =>
    cases i with
    | zero =>
      rw [List.set_cons_zero, List.flatMap_cons, List.flatMap_cons, hr, Nat.zero_mul, Nat.zero_add, List.set_append_left _ _ (by show k < 3; exact hk)]
      rfl
    | succ n =>
      have hl : a.cells.length = 3 := rfl
      rw [List.set_cons_succ, List.flatMap_cons, List.flatMap_cons, List.set_append_right _ _ (by rw [hl]; omega), hl, show (n + 1) * 3 + k - 3 = n * 3 + k by omega]
      rw [ih (by simpa using hi) (by simpa using hr)]
theorem Small.fits {rs : List Ru} (h : Small rs) (h4 : rs.length ≤ 4) : Fits rs := ⟨by omega, fun r hr => by have := h r hr; omega⟩
theorem Small.fits_set {rs : List Ru} (h : Small rs) (h4 : rs.length ≤ 4) {i : Nat} {r : Ru} (h1 : r.name.length ≤ 100) (h2 : r.text.length ≤ 10000) : Fits (rs.set i r) :=
  ⟨by rw [List.length_set]; omega, fun x hx => by
    rcases List.mem_or_eq_of_mem_set hx with hx | rfl
    · have := h x hx; omega
    · exact ⟨h1, h2⟩⟩
theorem RulesAt.set {w wr : World} {g c : Nat} {rs : List Ru} (h : RulesAt w wr (.slice (some ⟨g, 0, none⟩) rs.length c) rs) {i k : Nat} {r : Ru} {u : Value} (hi : i < rs.length) (hk : k < 3) (hr : r.cells = rs[i].cells.set k u) :
    RulesAt w (wr.setCell ⟨g, i * 3 + k, none⟩ u) (.slice (some ⟨g, 0, none⟩) rs.length c) (rs.set i r) := by
  have hlo := (World.ownsRow.lt h.row g rfl).1
  exact ⟨by rw [List.length_set, flat_set hi hk hr]; exact row_setAt h.row u, h.bel.setCell (p := ⟨g, i * 3 + k, none⟩) hlo u⟩
theorem row_thaw {w : World} {base : Nat} {e : TypeId} {size g c n : Nat} {xs : List Value} (h : w.ownsRow base e size (.slice (some ⟨g, 0, none⟩) n c) n xs) (j : Nat) : w.frozen? ⟨g, j, none⟩ = false := by
  rcases h.2 with ⟨e1, -⟩ | ⟨g', cap, cur, e1, h1, h2, h3, h4, h5, h6⟩
  · cases e1
  · cases e1
    exact Blk.thaw (show Blk w g e cur from h2) j
theorem row_ptr {w : World} {base : Nat} {e : TypeId} {size : Nat} {v : Value} {n : Nat} {xs : List Value} (h : w.ownsRow base e size v n xs) (hn : 0 < n) : ∃ g c, v = .slice (some ⟨g, 0, none⟩) n c := by
  obtain ⟨a, c, rfl, h2⟩ := owns_shape h
  obtain ⟨g, rfl⟩ := h2 (by omega)
  exact ⟨g, c, rfl⟩
theorem tab8 : ∀ k, k < 8 → ∃ st : ByteArray, st.size ≤ 17 ∧ (#[Value.string { data := #[] }, .string { data := #[97] }, .string { data := #[97, 98, 99, 100, 101, 102, 103, 104, 105, 106, 107, 108, 109, 110, 111, 112] }, .string { data := #[97, 98, 99, 100, 101, 102, 103, 104, 105, 106, 107, 108, 109, 110, 111, 112, 113] }, .string { data := #[57, 97] }, .string { data := #[97, 45, 57] }, .string { data := #[65] }, .string { data := #[97, 95] }])[k]? = some (.string st) := by
  intro k hk
  match k, hk with
  | 0, _ => exact ⟨{ data := #[] }, by decide, rfl⟩
  | 1, _ => exact ⟨{ data := #[97] }, by decide, rfl⟩
  | 2, _ => exact ⟨{ data := #[97, 98, 99, 100, 101, 102, 103, 104, 105, 106, 107, 108, 109, 110, 111, 112] }, by decide, rfl⟩
  | 3, _ => exact ⟨{ data := #[97, 98, 99, 100, 101, 102, 103, 104, 105, 106, 107, 108, 109, 110, 111, 112, 113] }, by decide, rfl⟩
  | 4, _ => exact ⟨{ data := #[57, 97] }, by decide, rfl⟩
  | 5, _ => exact ⟨{ data := #[97, 45, 57] }, by decide, rfl⟩
  | 6, _ => exact ⟨{ data := #[65] }, by decide, rfl⟩
  | 7, _ => exact ⟨{ data := #[97, 95] }, by decide, rfl⟩
  | n + 8, h => exact absurd h (by omega)
set_option maxHeartbeats 8000000 in
set_option maxRecDepth 1000000 in
theorem spoilt_walk {w : World} {v : Value} {rs : List Ru} (h0 : SeesR w v rs) (h1 : 1 ≤ rs.length) (h4 : rs.length ≤ 4) (hs : Small rs) (at' how : Int) (ha : -9223372036854775808 ≤ at' ∧ at' ≤ 9223372036854775807) (hw : -9223372036854775808 ≤ how ∧ how ≤ 9223372036854775807) (s : ByteArray) (hsz : s.size ≤ 30) :
    Calls Tryz.prog 5 #[v, .int .i64 at', .int .i64 how, .string s] w fun e w' => ∃ v', e = .returned v' ∧ ∃ rs', RulesAt w w' v' rs' ∧ Fits rs' := by
  obtain ⟨j0, hj0, hk0, hk1, hk2⟩ := info_parts' infoRef
  obtain ⟨va, vc, rfl, -, hva⟩ := h0.shape
  obtain ⟨i, hi, hie⟩ := arnd_bd at' (show 0 < rs.length by omega)
  have hat := fun w' => around_walk at' rs.length w' (by omega) ha.1 ha.2 (by omega)
  obtain ⟨k, hk, hke⟩ := arnd_bd how (show 0 < 8 by omega)
  have hhow := fun w' => around_walk how 8 w' (by omega) hw.1 hw.2 (by omega)
  rw [hie] at hat
  rw [hke] at hhow
  have h63 : 0 + rs.length ≤ maxLen := by unfold maxLen; omega
  have hby : (0 + rs.length) * 40 ≤ 140737488355328 := by omega
  have hone : ∀ u ∈ rs.flatMap Ru.cells, u.oneCell' = true := by
    intro u hu
    rw [List.mem_flatMap] at hu
    obtain ⟨r, -, hr⟩ := hu
    simp [Ru.cells] at hr
    rcases hr with rfl | rfl | rfl <;> rfl
  have hfl : (rs.flatMap Ru.cells).length = rs.length * 3 := flat_len Ru.cells 3 (fun _ => rfl) rs
  have hsee : Sees w 3 (.slice va rs.length vc) (rs.flatMap Ru.cells) := h0
  have hnil : w.ownsRow w.heap.size 59 3 (.slice none 0 0) 0 [] := World.ownsRow_nil _ _ _ _
  go_enter Tryz.func5, Tryz.ntmps5
  go_wp2_with (first
    | (at_builtin; refine wpList_append_sees rfl _ _ 24 rfl j0 _ 40 Tryz.underlying24 hj0 hk0 hk1 hk2 rfl (by decide) _ _ _ rfl hnil _ rs.length _ rfl hsee hfl hone h63 hby (Nat.le_refl _) ?_; intro v5 w5 hrow5 hgrow5 hown5; rw [Nat.zero_add, List.nil_append] at hrow5; obtain ⟨g, c5, rfl⟩ := row_ptr hrow5 h1; have hn0 : ((rs.length : Int) == 0) = false := beq_eq_false_iff_ne.2 (by omega))
    | fail)
  have hR5 : RulesAt w w5 (.slice (some ⟨g, 0, none⟩) rs.length c5) rs := ⟨hrow5, grown_bel0 (Below.refl _ w) hnil (Nat.le_refl _) hgrow5⟩
  clear hrow5 hgrow5 hown5 hnil hsee hva h0
  refine (hat _).mono ?_
  clear hat
  rintro _ w6 ⟨rfl, rfl⟩
  have hh := hhow w6
  clear hhow
  have hlt := World.ownsRow.lt hR5.row g rfl
  obtain ⟨a', c', e1, -, hcc⟩ := (SeesR.row hR5.row).shape
  cases e1
  obtain ⟨b', s', e2, -, hcell⟩ := hcc (by omega)
  cases e2
  obtain ⟨k0, k1, k2⟩ := hcell i hi
  obtain ⟨m0, -, -⟩ := hcell 0 (by omega)
  simp only [Nat.zero_add, Nat.zero_mul] at k0 k1 k2 m0
  have y0 := row_thaw hR5.row (i * 3)
  have y1 := row_thaw hR5.row (i * 3 + 1)
  have y2 := row_thaw hR5.row (i * 3 + 2)
  have hsi := hs _ (List.getElem_mem hi)
  have hs0 := hs _ (List.getElem_mem (show 0 < rs.length by omega))
  obtain ⟨x, hx⟩ : ∃ x, rs[i] = x := ⟨_, rfl⟩
  obtain ⟨x0, hx0⟩ : ∃ x, rs[0] = x := ⟨_, rfl⟩
  rw [hx] at k0 k1 k2 hsi
  rw [hx0] at m0 hs0
  have hiI : (i : Int) < (rs.length : Int) := by omega
  have hi0 : (0 : Int) < (rs.length : Int) := by omega
  have hset := fun (k : Nat) (r : Ru) (u : Value) (hk : k < 3) (hr : r.cells = x.cells.set k u) => hR5.set (i := i) (k := k) (r := r) (u := u) hi hk (by rw [hx]; exact hr)
  have HX := Lib.hid hx
  have HX0 := Lib.hid hx0
  have HS := Lib.hid hset
  obtain ⟨z7, hz7⟩ : ∃ z, at'.tdiv 7 = z := ⟨_, rfl⟩
  have hz7b : -9223372036854775808 ≤ z7 ∧ z7 ≤ 9223372036854775807 := by
    rw [← hz7]
    rcases Int.le_total 0 at' with h | h
    · rw [Int.tdiv_eq_ediv_of_nonneg h]; omega
    · have h2 := Int.neg_tdiv (a := at') (b := 7)
      rw [Int.tdiv_eq_ediv_of_nonneg (by omega)] at h2
      omega
  clear hcc hcell hx hx0 hset
  go_wp2_with fail
  refine (show Calls Tryz.prog 16 #[.int .i64 how, .int .i64 8] w6 _ from hh).mono ?_
  clear hh
  rintro _ w7 ⟨rfl, rfl⟩
  have hcase : k = 0 ∨ k = 1 ∨ k = 2 ∨ k = 3 ∨ k = 4 ∨ k = 5 ∨ k = 6 ∨ k = 7 := by omega
  clear hk hke
  rcases hcase with rfl | rfl | rfl | rfl | rfl | rfl | rfl | rfl
  · go_wp2_with fail
    go_ret
    have hset := HS.out 0 ⟨toB s, x.text, x.runes⟩ (.string s) (by omega) (by simp [Ru.cells, ofB_toB])
    exact ⟨_, rfl, _, hset, hs.fits_set h4 (by rw [toB_len]; omega) (by show x.text.length ≤ _; omega)⟩
  · go_wp2_with fail
    go_ret
    have hset := HS.out 0 ⟨x0.name, x.text, x.runes⟩ (.string (ofB x0.name)) (by omega) (by simp [Ru.cells])
    exact ⟨_, rfl, _, hset, hs.fits_set h4 (by show x0.name.length ≤ _; omega) (by show x.text.length ≤ _; omega)⟩
  · go_wp2_with fail
    go_ret
    have hset := HS.out 1 ⟨x.name, toB s, x.runes⟩ (.string s) (by omega) (by simp [Ru.cells, ofB_toB])
    exact ⟨_, rfl, _, hset, hs.fits_set h4 (by show x.name.length ≤ _; omega) (by show (toB s).length ≤ _; rw [toB_len]; omega)⟩
  · have hts : (ofB x.text).size = x.text.length := ofB_size _
    obtain ⟨tx, htx⟩ : ∃ t, ofB x.text = t := ⟨_, rfl⟩
    rw [htx] at k1 hts
    have j1 : tx.size + 1 ≤ 9223372036854775807 := by omega
    go_wp2_with fail
    go_ret
    have hset := HS.out 1 ⟨x.name, toB (tx ++ { data := #[41] }), x.runes⟩ (.string (tx ++ { data := #[41] })) (by omega) (by simp [Ru.cells, ofB_toB])
    exact ⟨_, rfl, _, hset, hs.fits_set h4 (by show x.name.length ≤ _; omega) (by show (toB _).length ≤ _; rw [toB_len]; simp [ByteArray.size_append', ByteArray.size_mk']; omega)⟩
  · go_wp2_with fail
    go_ret
    have hset := HS.out 2 ⟨x.name, x.text, !x.runes⟩ (.bool (!x.runes)) (by omega) (by simp [Ru.cells])
    exact ⟨_, rfl, _, hset, hs.fits_set h4 (by show x.name.length ≤ _; omega) (by show x.text.length ≤ _; omega)⟩
  · have hB := (Below.refl _ w7).alloc (Nat.le_refl _) (.cells #[.string { data := #[] }, .string { data := #[97] }, .string { data := #[97, 98, 99, 100, 101, 102, 103, 104, 105, 106, 107, 108, 109, 110, 111, 112] }, .string { data := #[97, 98, 99, 100, 101, 102, 103, 104, 105, 106, 107, 108, 109, 110, 111, 112, 113] }, .string { data := #[57, 97] }, .string { data := #[97, 45, 57] }, .string { data := #[65] }, .string { data := #[97, 95] }] 9)
    have hbt := Blk.made w7 9 #[.string { data := #[] }, .string { data := #[97] }, .string { data := #[97, 98, 99, 100, 101, 102, 103, 104, 105, 106, 107, 108, 109, 110, 111, 112] }, .string { data := #[97, 98, 99, 100, 101, 102, 103, 104, 105, 106, 107, 108, 109, 110, 111, 112, 113] }, .string { data := #[57, 97] }, .string { data := #[97, 45, 57] }, .string { data := #[65] }, .string { data := #[97, 95] }]
    obtain ⟨W, hW⟩ : ∃ x, w7.alloc (.cells #[.string { data := #[] }, .string { data := #[97] }, .string { data := #[97, 98, 99, 100, 101, 102, 103, 104, 105, 106, 107, 108, 109, 110, 111, 112] }, .string { data := #[97, 98, 99, 100, 101, 102, 103, 104, 105, 106, 107, 108, 109, 110, 111, 112, 113] }, .string { data := #[57, 97] }, .string { data := #[97, 45, 57] }, .string { data := #[65] }, .string { data := #[97, 95] }] 9) = x := ⟨_, rfl⟩
    rw [hW] at hB hbt
    obtain ⟨p, hp, hpe⟩ := arnd_bd z7 (show 0 < 8 by omega)
    have ha7 := around_walk z7 8 W (by omega) hz7b.1 hz7b.2 (by omega)
    rw [hpe] at ha7
    obtain ⟨st, hst, hcs⟩ := tab8 p hp
    have hcu := (hbt.at' p).trans hcs
    have hpI : (p : Int) < 8 := by omega
    have hR6 := hR5.next hB
    have y0 := row_thaw hR6.row (i * 3)
    obtain ⟨a', c', e1, -, hcc⟩ := (SeesR.row hR6.row).shape
    cases e1
    obtain ⟨b', s', e2, hltW, hcell⟩ := hcc (by omega)
    cases e2
    obtain ⟨k0, -, -⟩ := hcell i hi
    simp only [Nat.zero_add] at k0
    have hltt := hbt.lt
    clear hcs hbt hcell hcc
    go_wp2_with fail
    refine (show Calls Tryz.prog 16 #[.int .i64 z7, .int .i64 8] W _ from ha7).mono ?_
    rintro _ w8 ⟨rfl, rfl⟩
    go_wp2_with fail
    go_ret
    have hset := hR6.set (i := i) (k := 0) (r := ⟨toB st, x.text, x.runes⟩) (u := .string st) hi (by omega) (by rw [HX.out]; simp [Ru.cells, ofB_toB])
    exact ⟨_, rfl, _, hset, hs.fits_set h4 (by rw [toB_len]; omega) (by show x.text.length ≤ _; omega)⟩
  · obtain ⟨m3, hm3, hm3e⟩ := arnd_bd at' (show 0 < 3 by omega)
    have ha3 := fun w' => around_walk at' 3 w' (by omega) ha.1 ha.2 (by omega)
    rw [hm3e] at ha3
    have hfit0 := hs.fits h4
    go_wp2_with fail
    go_loopw [9, 11] (fun ov kv wr => ∃ rs' : List Ru, kv = .int .i64 rs'.length ∧ RulesAt w wr ov rs' ∧ Fits rs' ∧ rs'.length ≤ 510) (fun _ kv _ => 600 - (intOf kv).toNat)
    case atStart => exact ⟨rs, rfl, hR5, hfit0, by omega⟩
    case round =>
      obtain ⟨rs', rfl, hR, hF, hl'⟩ := hrel
      obtain ⟨Ap, cp, rfl, -⟩ := row_form hR.row
      have h3 := ha3 wr
      clear ha3
      go_wp2_with fail
      refine (show Calls Tryz.prog 16 #[.int .i64 at', .int .i64 3] wr _ from h3).mono ?_
      clear h3
      rintro _ w8 ⟨rfl, rfl⟩
      by_cases hgo : rs'.length < 499 + m3
      · have hgoI : (rs'.length : Int) < 499 + (m3 : Int) := by omega
        have hdec := decimal_small w8 rs'.length (by omega)
        go_wp2_with fail
        refine hdec.mono ?_
        clear hdec
        rintro _ w10 ⟨sd, rfl, hsd, rfl⟩
        have q1 : 1 + sd.size ≤ 9223372036854775807 := by omega
        obtain ⟨nm, hnm⟩ : ∃ x, ({ data := #[120] } : ByteArray) ++ sd = x := ⟨_, rfl⟩
        have hnms : nm.size ≤ 4 := by rw [← hnm]; simp [ByteArray.size_append', ByteArray.size_mk']; omega
        obtain ⟨r, hr⟩ : ∃ r : Ru, r = ⟨toB nm, toB { data := #[97] }, false⟩ := ⟨_, rfl⟩
        have hrc : r.cells = [.string nm, .string { data := #[97] }, .bool false] := by rw [hr]; unfold Ru.cells; simp only [ofB_toB]
        have hrow8 := hR.row
        have hrowA := row_chg hrow8 ((Chg.refl (fun _ => False) w10).alloc (.cells #[.string nm, .string { data := #[97] }, .bool false] 59)) fun _ _ h => h
        have hseeA : Sees (w10.alloc (.cells #[.string nm, .string { data := #[97] }, .bool false] 59)) 3 (.slice (some ⟨w10.heap.size, 0, none⟩) 1 1) r.cells := sees_blk (by rw [hrc]; exact Blk.made w10 59 _) rfl
        have h63 : rs'.length + 1 ≤ maxLen := by unfold maxLen; omega
        have hby : (rs'.length + 1) * 40 ≤ 140737488355328 := by omega
        have hbs : w.heap.size ≤ (w10.alloc (.cells #[.string nm, .string { data := #[97] }, .bool false] 59)).heap.size := by have := hR.bel.size; simp; omega
        have h1c : ∀ u ∈ r.cells, u.oneCell' = true := by rw [hrc]; intro u hu; simp at hu; rcases hu with rfl | rfl | rfl <;> rfl
        go_wp2_with (first
          | (at_builtin; refine wpList_append_sees rfl _ _ 24 rfl j0 _ 40 Tryz.underlying24 hj0 hk0 hk1 hk2 rfl (by decide) _ _ _ rfl hrowA _ 1 _ rfl hseeA rfl h1c h63 hby hbs ?_; intro v5 w9 hrow9 hgrow9 hown9)
          | fail)
        have hR9 := hR.push (r := r) hrow9 hgrow9
        go_roundw
        case rel => exact ⟨rs' ++ [r], by rw [List.length_append]; go_num, hR9, ⟨by rw [List.length_append]; show rs'.length + 1 ≤ _; omega, fun x hx => by
          rcases List.mem_append.1 hx with hx | hx
          · exact hF.each x hx
          · have : x = r := by simpa using hx
            subst this
            rw [hr]
            exact ⟨by show (toB nm).length ≤ _; rw [toB_len]; omega, by show (toB { data := #[97] }).length ≤ 10000; decide⟩⟩, by rw [List.length_append]; show rs'.length + 1 ≤ _; omega⟩
        case measure => simp [intOf]; omega
      · have hgoI : ¬ (rs'.length : Int) < 499 + (m3 : Int) := by omega
        go_wp2_with fail
        go_ret
        exact ⟨_, rfl, rs', hR, hF⟩
  · go_wp2_with fail
    go_loopw [12] (fun sv wr => ∃ st : ByteArray, sv = .string st ∧ 1 ≤ st.size ∧ st.size ≤ 4096 ∧ wr = w7) (fun sv _ => match sv with | .string st => 5000 - st.size | _ => 0)
    case atStart => exact ⟨_, rfl, by decide, by decide, rfl⟩
    case round =>
      obtain ⟨st, rfl, hst1, hst2, rfl⟩ := hrel
      by_cases hgo : st.size < 2048
      · have hgoI : (st.size : Int) < 2048 := by omega
        have q1 : st.size + st.size ≤ 9223372036854775807 := by omega
        go_wp2_with fail
        go_roundw
        case rel => exact ⟨st ++ st, rfl, by simp [ByteArray.size_append']; omega, by simp [ByteArray.size_append']; omega, by trivial⟩
        case measure =>
          show 5000 - (st ++ st).size < 5000 - st.size
          simp [ByteArray.size_append']
          omega
      · have hgoI : ¬ (st.size : Int) < 2048 := by omega
        have hB := (Below.refl _ wr).alloc (Nat.le_refl _) (.cells #[.string { data := #[] }, .string { data := #[98] }] 9)
        have hbt := Blk.made wr 9 #[.string { data := #[] }, .string { data := #[98] }]
        obtain ⟨W, hW⟩ : ∃ x, wr.alloc (.cells #[.string { data := #[] }, .string { data := #[98] }] 9) = x := ⟨_, rfl⟩
        rw [hW] at hB hbt
        obtain ⟨p, hp, hpe⟩ := arnd_bd z7 (show 0 < 2 by omega)
        have ha7 := around_walk z7 2 W (by omega) hz7b.1 hz7b.2 (by omega)
        rw [hpe] at ha7
        obtain ⟨st2, hst', hcs⟩ : ∃ st2 : ByteArray, st2.size ≤ 1 ∧ (#[Value.string { data := #[] }, .string { data := #[98] }])[p]? = some (.string st2) := by
          match p, hp with
          | 0, _ => exact ⟨{ data := #[] }, by decide, rfl⟩
          | 1, _ => exact ⟨{ data := #[98] }, by decide, rfl⟩
          | n + 2, h => exact absurd h (by omega)
        have hcu := (hbt.at' p).trans hcs
        have hpI : (p : Int) < 2 := by omega
        have hR6 := hR5.next hB
        have y1 := row_thaw hR6.row (i * 3 + 1)
        obtain ⟨a', c', e1, -, hcc⟩ := (SeesR.row hR6.row).shape
        cases e1
        obtain ⟨b', s', e2, hltW, hcell⟩ := hcc (by omega)
        cases e2
        obtain ⟨-, k1, -⟩ := hcell i hi
        simp only [Nat.zero_add] at k1
        have hltt := hbt.lt
        have q1 : st.size + st2.size ≤ 9223372036854775807 := by omega
        clear hcs hbt hcell hcc
        go_wp2_with fail
        refine (show Calls Tryz.prog 16 #[.int .i64 z7, .int .i64 2] W _ from ha7).mono ?_
        rintro _ w8 ⟨rfl, rfl⟩
        go_wp2_with fail
        go_ret
        have hset := hR6.set (i := i) (k := 1) (r := ⟨x.name, toB (st ++ st2), x.runes⟩) (u := .string (st ++ st2)) hi (by omega) (by rw [HX.out]; simp [Ru.cells, ofB_toB])
        exact ⟨_, rfl, _, hset, hs.fits_set h4 (by show x.name.length ≤ _; omega) (by show (toB _).length ≤ _; rw [toB_len]; simp [ByteArray.size_append']; omega)⟩
end Go.Proofs.YtdacamjpcdbphaaGreatDoor
