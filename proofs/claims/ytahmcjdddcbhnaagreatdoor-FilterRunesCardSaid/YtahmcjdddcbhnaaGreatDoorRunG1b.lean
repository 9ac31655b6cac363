/-
  A connection's ask, walked: for a piece, and for the end.
  The filter, walked: End where it is taken.
  The filter, walked: Data where it is taken.
  The filter, walked: Data and End where they are taken, whatever the connection's watch says.
  The filter, walked: Open where it is refused.
  The filter, walked: Remove where the version is not there or is in use.
  The filter, walked: Remove where the version is there and not in use, whichever connections there are and in whatever order they come.
  The filter, walked: Conns: the connections' numbers and versions, in the order of the numbers.
  Blocks put together into one symbolic state, and a call from there that is told numbers and elements of an input slice.
-/
import Derived.Test.YtahmcjdddcbhnaaGreatDoorRunG1a
import Derived.LoopN
import Derived.Test.YtahmcjdddcbhnaaGreatDoorRunG0c
import Derived.Test.YtahmcjdddcbhnaaGreatDoorRunG0b
import Derived.Deep.RegionLaw
import Derived.Laws.IdiomRangeMap
namespace Go.Proofs.YtahmcjdddcbhnaaGreatDoor
open Go Go.Ev Go.RowKit

end Go.Proofs.YtahmcjdddcbhnaaGreatDoor
namespace Go.Proofs.YtahmcjdddcbhnaaGreatDoor
open Go Go.Ev Go.RowKit Go.Imap

theorem map_not_blk {w : World} {mb db : Nat} {f : Nat → Option Value} {t : TypeId} {cs : Array Value} (h : IMap w mb f) (hb : Blk w db t cs) : db ≠ mb := by
  intro e
  subst e
  obtain ⟨ms, cl, h0, _⟩ := h
  have e2 := h0.symm.trans hb
  cases e2
theorem chg_setBlock' (w : World) (b : Nat) (o : Obj) : Chg (fun k => k = b) w (ChangeMaps.setBlock w b o) :=
  ⟨rfl, rfl, rfl, by simp [ChangeMaps.setBlock], fun k _ hk => by simp [ChangeMaps.setBlock, Ne.symm hk]⟩
section
variable {w : World} {g cm s cb vb mb bb sb k : Nat} {sh pe tk cu ver L : Int} {m1 rv wv : Value} {f : Nat → Option Value} {A B : Option Addr} {ac c : Nat} {ι : Emb}
end
end Go.Proofs.YtahmcjdddcbhnaaGreatDoor
namespace Go.Proofs.YtahmcjdddcbhnaaGreatDoor
open Go Go.Ev Go.RowKit Go.Imap

theorem infoByte : (Tryz.prog.info? 5).map (fun i => (i.zero, i.size, i.bytes)) = some (some (.int .u8 0), 1, 1) := by kernel_rfl
theorem row_not_map {w : World} {B size n mb : Nat} {e : TypeId} {v : Value} {xs : List Value} {f : Nat → Option Value} (h : w.ownsRow B e size v n xs) (hm : IMap w mb f) : ¬ v.ownBlock = some mb := fun he => by
  rcases h.2 with ⟨rfl, _⟩ | ⟨q, cap, cur, rfl, _, hb, _⟩
  · cases he
  cases he
  obtain ⟨ms, cl, h0, _⟩ := hm
  have := h0.symm.trans hb
  cases this
section
variable {w : World} {g cm cb vb mb ub bb sb k B0 L n s pc wc : Nat} {sh pe tk cu ver msh mpe mtk us SL : Int} {m1 rv : Value} {f : Nat → Option Value} {A B wA pA : Option Addr} {ac c : Nat} {ι : Emb}
end
end Go.Proofs.YtahmcjdddcbhnaaGreatDoor
namespace Go.Proofs.YtahmcjdddcbhnaaGreatDoor
open Go Go.Ev Go.RowKit Go.Imap

set_option maxHeartbeats 4000000 in
set_option maxRecDepth 1000000 in
theorem qlateC_walk {w : World} {g : Nat} {sh pe tk cu : Int} {m1 m2 : Value} (h : Cel w g #[.int .i64 sh, .int .i64 pe, .int .i64 tk, .int .i64 cu, m1, m2]) {t : Int} (ht : 0 ≤ t ∧ t ≤ 1099511627776 ∧ tk ≤ t) :
    Calls Tryz.prog 36 #[.pointer (some ⟨g, 0, none⟩), .int .i64 t] w fun e w' => e = .returned (.int .i64 0) ∧ w' = w := by
  have c2 := h.at' 2
  simp at c2
  have h1 : ¬ t < 0 := by omega
  have h2 : ¬ (1099511627776 : Int) < t := by omega
  have h3 : ¬ t < tk := by omega
  clear h ht
  go_enter Tryz.func36, Tryz.ntmps36
  go_wp2
  go_ret
  exact ⟨rfl, rfl⟩
theorem map_not_cel {w : World} {mb db : Nat} {f : Nat → Option Value} {cs : Array Value} (h : IMap w mb f) (hb : Cel w db cs) : db ≠ mb := by
  intro e
  subst e
  obtain ⟨ms, cl, h0, _⟩ := h
  obtain ⟨c, t, fr, h1, -⟩ := hb
  have e2 := h0.symm.trans h1
  cases e2
section
variable {w : World} {g cm cb vb B0 L n s pc wc : Nat} {sh pe tk cu ver : Int} {m1 xw : Value} {f : Nat → Option Value} {wA pA : Option Addr} {X Y : List UInt8} {R : Value → World → Prop}
set_option maxHeartbeats 8000000 in
set_option maxRecDepth 1000000 in
theorem qdata_gen (h : Cel w g #[.int .i64 sh, .int .i64 pe, .int .i64 tk, .int .i64 cu, m1, .map (some cm)]) (hm : IMap w cm f) {t : Int} (hs : s < 64) (hf : f s = some (.pointer (some ⟨cb, 0, none⟩))) (ht : 0 ≤ t ∧ t ≤ 1099511627776 ∧ tk ≤ t)
    (hc : Cel w cb #[.int .i64 ver, .pointer (some ⟨vb, 0, none⟩), .slice wA L wc, xw]) (hw : w.ownsRow B0 5 1 (.slice wA L wc) L (bv X)) (hXL : X.length = L) (hB0 : B0 ≤ w.heap.size)
    (hp : Sees w 1 (.slice pA n pc) (bv Y)) (hYn : Y.length = n) (hsum : L + n ≤ 65536) (hcg : cb ≠ g) (hgw : ¬ (Value.slice wA L wc).ownBlock = some g) (hcw : ¬ (Value.slice wA L wc).ownBlock = some cb)
    (hlg : ∀ b, Value.leads (.slice pA n pc) = some b → ¬ b = g)
    (hask : ∀ W5 A4 c4, Cel W5 g #[.int .i64 sh, .int .i64 pe, .int .i64 t, .int .i64 cu, m1, .map (some cm)] → IMap W5 cm f → Cel W5 cb #[.int .i64 ver, .pointer (some ⟨vb, 0, none⟩), .slice A4 (L + n) c4, xw] →
      W5.ownsRow B0 5 1 (.slice A4 (L + n) c4) (L + n) (bv (X ++ Y)) → ((Value.slice A4 (L + n) c4).ownBlock = (Value.slice wA L wc).ownBlock ∨ ∃ q, (Value.slice A4 (L + n) c4).ownBlock = some q ∧ w.heap.size ≤ q) →
      Chg (fun b => b = g ∨ b = cb ∨ (Value.slice wA L wc).ownBlock = some b) w W5 → W5.cell? ⟨w.heap.size, 0, none⟩ = some (.slice pA n pc) → w.heap.size < W5.heap.size →
      ¬ (Value.slice A4 (L + n) c4).ownBlock = some w.heap.size →
      Calls Tryz.prog 38 #[.pointer (some ⟨cb, 0, none⟩), .int .i64 t, .func (.func 39) #[] #[.pointer (some ⟨w.heap.size, 0, none⟩)]] W5 fun e w' => ∃ v, e = .returned v ∧ (∃ a b c, v = .slice a b c) ∧ R v w') :
    Calls Tryz.prog 21 #[.pointer (some ⟨g, 0, none⟩), .int .i64 (s : Int), .slice pA n pc, .int .i64 t] w fun e w' => ∃ v, e = .returned (.tuple #[v, .int .i64 0]) ∧ R v w' := by
  obtain ⟨i0, hi0, hz0, hz1, hz2⟩ := info_parts' infoByte
  obtain ⟨W0, hW0⟩ : ∃ x, w.alloc (.cells #[.slice pA n pc] 23) = x := ⟨_, rfl⟩
  have hBb : Below w.heap.size w W0 := by rw [← hW0]; exact (Below.refl _ _).alloc (Nat.le_refl _) _
  have pb : Blk W0 w.heap.size 23 #[.slice pA n pc] := by rw [← hW0]; exact Blk.made w _ _
  have hla := qlateC_walk (h.bel hBb h.lt) ht
  have c5 := (h.bel hBb h.lt).at' 5
  simp at c5
  have hlk := (hm.same (hBb.block _ hm.lt)).lookup2 Tryz.underlying78 Tryz.underlying3 (zeroConn W0) (x := (s : Int)) (by omega)
  have hat : atI f (s : Int) = some (.pointer (some ⟨cb, 0, none⟩)) := by unfold atI; rw [if_neg (by omega), Int.toNat_natCast]; exact hf
  rw [hat] at hlk
  simp only [Option.getD_some, Option.isSome_some] at hlk
  have hc0 := hc.bel hBb hc.lt
  have d2 := fun k => (hc0.bel (belowN W0 k) hc0.lt).at' 2
  have p0 := fun k => (pb.bel (belowN W0 k) pb.lt).at' 0
  have e2 := fun k => ((h.bel hBb h.lt).bel (belowN W0 k) (h.bel hBb h.lt).lt).at' 2
  have e2f := fun k => ((h.bel hBb h.lt).bel (belowN W0 k) (h.bel hBb h.lt).lt).thaw 2
  simp at d2 p0 e2
  have hwr : IntKind.i64.wrap (65536 - (L : Int)) = 65536 - (L : Int) := wrapS (by omega) (by omega)
  have hgt : ¬ (65536 : Int) - (L : Int) < (n : Int) := by omega
  have HO := Lib.hid (And.intro h (And.intro hm (And.intro hc (And.intro hw (And.intro hp (And.intro pb hBb))))))
  have HA := Lib.hid hask
  have HXL := Lib.hid (And.intro hXL hYn)
  clear h hm hf hat ht hc hc0 pb hw hp hask hXL
  go_enter Tryz.func21, Tryz.ntmps21
  go_wp2_with (first | (go_at_call 36; refine hla.mono ?_; clear hla; rintro _ w1 ⟨rfl, rfl⟩) | fail)
  go_quiet (fail)
  go_wp2_with fail
  obtain ⟨r1, r2, r3, r4, r5, r6, r7⟩ := HO.out
  obtain ⟨W2, hW2⟩ : ∃ x, (w1.drewN nq).setCell ⟨g, 2, none⟩ (.int .i64 t) = x := ⟨_, rfl⟩
  have hb1 : Below w.heap.size w (w1.drewN nq) := r7.trans ((belowN w1 nq).mono r7.size)
  have hC2 : Chg (fun b => b = g) w W2 := by rw [← hW2]; exact Chg.setCell (F := fun b => b = g) (Chg.of_below hb1) (p := ⟨g, 2, none⟩) (.inr rfl) _
  have hc2 := r3.chg hC2 hcg
  have hw2 := row_chg r4 hC2 fun b hb e => hgw (by rw [← e]; exact hb)
  have hp2 := r5.chg hC2 hlg
  have x2 := hc2.at' 2
  have x2f := hc2.thaw 2
  have pb2 : Blk W2 w.heap.size 23 #[.slice pA n pc] := by rw [← hW2]; exact (r6.bel (belowN w1 nq) r6.lt).away (p := ⟨g, 2, none⟩) (fun e : w.heap.size = g => absurd r1.lt (by omega)) _
  have p2 := pb2.at' 0
  have hcl := hc2.lt
  have hbs : B0 ≤ W2.heap.size := Nat.le_trans hB0 hC2.size
  simp at x2 p2
  rw [hW2]
  clear d2 p0 e2 e2f hlk c5 HO
  have hone : ∀ u ∈ bv Y, u.oneCell' = true := bv_one _
  have hm1 : (bv Y).length = n * 1 := by rw [bv_len, hYn, Nat.mul_one]
  go_region_law
    (refine step_append_sees (base := B0) (by rfl) _ _ _ (by rfl) i0 _ 1 Tryz.underlying23 hi0 hz0 hz1 hz2 rfl (by omega) (.slice wA L wc) L (bv X) (by rfl) (by first | exact hw2 | exact hw2.drew) (.slice pA n pc) n (bv Y) (by rfl) (by first | exact hp2 | exact hp2.bel (Below.refl _ _).drew) hm1 hone (by unfold maxLen; omega) (by omega) hbs ?_; intro v4 w4 hown4 hgrow4 hat4; obtain ⟨A4, c4, rfl, _⟩ := row_form hown4; have hfz4 := (hgrow4.frozen_far ⟨cb, 2, none⟩ hcl (fun e => hcw e.symm)).trans x2f; have hnz4 := hgrow4.cell_far ⟨cb, 2, none⟩ hcl (fun e => hcw e.symm))
  all_goals
    have hzd : W2.drew.heap.size = W2.heap.size := rfl
    have hG4 : Chg (fun b => (Value.slice wA L wc).ownBlock = some b) W2 w4 := ((Chg.refl _ W2).drew).grown hgrow4 fun k hk => .inr hk
    have hC4 : Chg (fun b => b = g ∨ b = cb ∨ (Value.slice wA L wc).ownBlock = some b) w w4 := (hC2.more fun _ _ e => .inl e).trans hG4 fun _ _ e => .inr (.inr e)
    obtain ⟨W5, hW5⟩ : ∃ x, w4.setCell ⟨cb, 2, none⟩ (.slice A4 (L + n) c4) = x := ⟨_, rfl⟩
    have hC5 : Chg (fun b => b = g ∨ b = cb ∨ (Value.slice wA L wc).ownBlock = some b) w W5 := by rw [← hW5]; exact hC4.setCell (p := ⟨cb, 2, none⟩) (.inr (.inr (.inl rfl))) _
    rw [hW5]
    have y5 : Cel W5 cb #[.int .i64 ver, .pointer (some ⟨vb, 0, none⟩), .slice A4 (L + n) c4, xw] := by
      rw [← hW5]
      have := (hc2.chg hG4 hcw).put 2 (.slice A4 (L + n) c4)
      simpa using this
    have g2 : Cel W2 g #[.int .i64 sh, .int .i64 pe, .int .i64 t, .int .i64 cu, m1, .map (some cm)] := by
      rw [← hW2]
      have := (r1.bel hb1 r1.lt).put 2 (.int .i64 t)
      simpa using this
    have g5 : Cel W5 g #[.int .i64 sh, .int .i64 pe, .int .i64 t, .int .i64 cu, m1, .map (some cm)] := by
      rw [← hW5]
      exact (g2.chg hG4 hgw).away (p := ⟨cb, 2, none⟩) hcg.symm _
    have m5 : IMap W5 cm f := r2.same (hC5.block cm r2.lt fun e => by
      rcases e with e | e | e
      · exact map_not_cel r2 r1 e.symm
      · exact map_not_cel r2 r3 e.symm
      · exact row_not_map r4 r2 e)
    have hat5 : (Value.slice A4 (L + n) c4).ownBlock = (Value.slice wA L wc).ownBlock ∨ ∃ q, (Value.slice A4 (L + n) c4).ownBlock = some q ∧ w.heap.size ≤ q := hat4.imp id fun ⟨q, h1, h2⟩ => ⟨q, h1, Nat.le_trans hC2.size h2⟩
    have hcw5 : ¬ (Value.slice A4 (L + n) c4).ownBlock = some cb := fun e => by
      rcases hat4 with h1 | ⟨q, h1, h2⟩
      · exact hcw (h1.symm.trans e)
      · rw [h1] at e; cases e; omega
    have w5r : W5.ownsRow B0 5 1 (.slice A4 (L + n) c4) (L + n) (bv (X ++ Y)) := by
      rw [bv_app, ← hW5]
      exact row_set hown4 (p := ⟨cb, 2, none⟩) hcw5 _
    have hqw : ¬ (Value.slice A4 (L + n) c4).ownBlock = some w.heap.size := fun e => by
      rcases hat4 with h1 | ⟨q, h1, h2⟩
      · exact Nat.lt_irrefl _ (World.ownsRow.lt r4 _ (h1.symm.trans e)).2
      · rw [h1] at e; cases e
        have := pb2.lt
        omega
    have pb5 : Blk W5 w.heap.size 23 #[.slice pA n pc] := by
      rw [← hW5]
      exact (pb2.chg hG4 fun e => Nat.lt_irrefl _ (World.ownsRow.lt r4 _ e).2).away (p := ⟨cb, 2, none⟩) (fun e : w.heap.size = cb => absurd r3.lt (by omega)) _
    have q5 := pb5.at' 0
    simp at q5
    have hask := HA.out W5 A4 c4 g5 m5 y5 w5r hat5 hC5 q5 pb5.lt hqw
    clear g5 m5 y5 w5r hat5 hC5 hC4 hG4 pb5 q5 r1 r2 r3 r4 r5 r6 r7 g2 hgw hcw hc2 hw2 hp2 x2 x2f pb2 p2 hfz4 hnz4 hgrow4 hown4 hat4 hC2 hb1 hcw5 hqw HA
    go_wp2_with (first | (go_at_call 38; refine hask.mono ?_; clear hask; rintro _ w6 ⟨v6, rfl, ⟨a6, b6, c6, rfl⟩, hR⟩) | fail)
    go_ret2
    exact ⟨_, rfl, hR⟩
end
section
variable {w : World} {g cm s cb vb : Nat} {sh pe tk cu ver : Int} {m1 wv xw : Value} {f : Nat → Option Value} {R : Value → World → Prop}
set_option maxHeartbeats 8000000 in
set_option maxRecDepth 1000000 in
theorem qend_gen (h : Cel w g #[.int .i64 sh, .int .i64 pe, .int .i64 tk, .int .i64 cu, m1, .map (some cm)]) (hm : IMap w cm f) {t : Int} (hs : s < 64) (hf : f s = some (.pointer (some ⟨cb, 0, none⟩))) (ht : 0 ≤ t ∧ t ≤ 1099511627776 ∧ tk ≤ t)
    (hc : Cel w cb #[.int .i64 ver, .pointer (some ⟨vb, 0, none⟩), wv, xw]) (hcg : cb ≠ g)
    (hask : ∀ W2, Cel W2 cb #[.int .i64 ver, .pointer (some ⟨vb, 0, none⟩), wv, xw] → Chg (fun b => b = g ∨ b = cm) w W2 → W2.cell? ⟨w.heap.size, 0, none⟩ = some (.pointer (some ⟨cb, 0, none⟩)) → w.heap.size < W2.heap.size →
      Calls Tryz.prog 38 #[.pointer (some ⟨cb, 0, none⟩), .int .i64 t, .func (.func 40) #[] #[.pointer (some ⟨w.heap.size, 0, none⟩)]] W2 fun e w' => ∃ v, e = .returned v ∧ (∃ a b c, v = .slice a b c) ∧ R v w') :
    Calls Tryz.prog 22 #[.pointer (some ⟨g, 0, none⟩), .int .i64 (s : Int), .int .i64 t] w fun e w' => ∃ v, e = .returned (.tuple #[v, .int .i64 0]) ∧ R v w' := by
  have hla := qlateC_walk h ht
  have c5 := h.at' 5
  have c2 := h.at' 2
  have f2 := h.thaw 2
  simp at c5 c2
  have hlk := hm.lookup2 Tryz.underlying78 Tryz.underlying3 (zeroConn w) (x := (s : Int)) (by omega)
  have hat : atI f (s : Int) = some (.pointer (some ⟨cb, 0, none⟩)) := by unfold atI; rw [if_neg (by omega), Int.toNat_natCast]; exact hf
  rw [hat] at hlk
  simp only [Option.getD_some, Option.isSome_some] at hlk
  obtain ⟨W0, hW0⟩ : ∃ x, w.alloc (.cells #[.pointer (some ⟨cb, 0, none⟩)] 108) = x := ⟨_, rfl⟩
  have hB0 : Below w.heap.size w W0 := by rw [← hW0]; exact (Below.refl _ _).alloc (Nat.le_refl _) _
  have qb : Blk W0 w.heap.size 108 #[.pointer (some ⟨cb, 0, none⟩)] := by rw [← hW0]; exact Blk.made w _ _
  obtain ⟨W1, hW1⟩ : ∃ x, W0.setCell ⟨g, 2, none⟩ (.int .i64 t) = x := ⟨_, rfl⟩
  have hg0 := h.bel hB0 h.lt
  have hgm := map_not_cel hm h
  have hC1 : Chg (fun b => b = g) w W1 := by rw [← hW1]; exact Chg.setCell (F := fun b => b = g) (Chg.of_below hB0) (p := ⟨g, 2, none⟩) (.inr rfl) _
  have hm1 : IMap W1 cm f := hm.same (hC1.block cm hm.lt fun e => hgm e.symm)
  have hg1 : Cel W1 g #[.int .i64 sh, .int .i64 pe, .int .i64 t, .int .i64 cu, m1, .map (some cm)] := by
    rw [← hW1]
    have := hg0.put 2 (.int .i64 t)
    simpa using this
  have qb1 : Blk W1 w.heap.size 108 #[.pointer (some ⟨cb, 0, none⟩)] := by rw [← hW1]; exact qb.away (p := ⟨g, 2, none⟩) (fun e : w.heap.size = g => absurd h.lt (by omega)) _
  obtain ⟨o, hrun, hm2⟩ := hm1.delete Tryz.underlying78 Tryz.underlying3 hs 0
  obtain ⟨W2, hW2⟩ : ∃ x, ChangeMaps.setBlock W1 cm o = x := ⟨_, rfl⟩
  rw [hW2] at hrun hm2
  have hC2' : Chg (fun b => b = cm) W1 W2 := by rw [← hW2]; exact chg_setBlock' _ _ _
  have hC2 : Chg (fun b => b = g ∨ b = cm) w W2 := (hC1.more fun _ _ e => .inl e).trans hC2' fun _ _ e => .inr e
  have qb2 := qb1.chg hC2' fun e => map_not_blk hm1 qb1 e
  have hc2 := hc.chg hC2 fun e => e.elim hcg (map_not_cel hm hc)
  have q0 := qb2.at' 0
  simp at q0
  have hask2 := hask W2 hc2 hC2 q0 qb2.lt
  have d5 := hg1.at' 5
  have e2 := hg0.at' 2
  have e2f := hg0.thaw 2
  simp at d5 e2
  clear hask hm2 hC2 hm1 hg1 hm h hc hc2 hC1 hC2' hg0 qb qb1 qb2 hf hat ht hB0
  go_enter Tryz.func22, Tryz.ntmps22
  go_wp2_with (first | (go_at_call 36; refine hla.mono ?_; clear hla; rintro _ w1 ⟨rfl, rfl⟩) | (go_at_call 38; refine hask2.mono ?_; clear hask2; rintro _ w3 ⟨v3, rfl, ⟨a3, b3, c3, rfl⟩, hR⟩) | fail)

  go_ret2
  exact ⟨_, rfl, hR⟩
end
end Go.Proofs.YtahmcjdddcbhnaaGreatDoor
namespace Go.Proofs.YtahmcjdddcbhnaaGreatDoor
open Go Go.RowKit Go.Imap

section
variable {w : World} {g cm : Nat} {sh pe tk cu : Int} {m1 : Value} {f : Nat → Option Value}
end
end Go.Proofs.YtahmcjdddcbhnaaGreatDoor
namespace Go.Proofs.YtahmcjdddcbhnaaGreatDoor
open Go Go.RowKit Go.Imap

section
variable {w : World} {g vm : Nat} {sh pe tk cu : Int} {m2 : Value} {f : Nat → Option Value}
end
end Go.Proofs.YtahmcjdddcbhnaaGreatDoor
namespace Go.Ev
open Go
section
variable {P : Program} {α β : Type}
end
end Go.Ev
namespace Go.Proofs.YtahmcjdddcbhnaaGreatDoor
open Go Go.Ev Go.RowKit Go.Imap

section
variable {w : World} {g vm cm : Nat} {sh pe tk cu : Int} {f fc : Nat → Option Value} {ver : Nat → Int}
end
end Go.Proofs.YtahmcjdddcbhnaaGreatDoor
namespace Go.Proofs.YtahmcjdddcbhnaaGreatDoor
open Go Go.Ev Go.RowKit Go.Imap

section
variable {w : World} {g cm : Nat} {sh pe tk cu : Int} {m1 : Value} {fc : Nat → Option Value} {cs : List CR}
end
end Go.Proofs.YtahmcjdddcbhnaaGreatDoor
namespace Go.Proofs.YtahmcjdddcbhnaaGreatDoor
open Go Go.Ev Go.RowKit

section
variable {ι : Emb} {H : Heap} {w w' : World}
/-- a block that is there, named -/
theorem hok_join (h : HOK Tryz.prog ι H w) {p : Pth} {b : Nat} {cs : Array Value} {l : List V} (hp : H.get p = none) (hι : ι p = none) (hc : Cel w b cs) (hl : l.length = cs.size) (hnew : ∀ q s, ι q ≠ some (b, s)) (hrel : V.rels ι l cs.toList) :
    ∃ ι', ι.le ι' ∧ HOK Tryz.prog ι' (Tr.set p (.cells l) H) w ∧ ι' p = some (b, 0) ∧ (∀ q, q ≠ p → ι' q = ι q) ∧ ι'.sym = ι.sym := by
  obtain ⟨c, t, fr, h1, h2, h3, h4⟩ := hc
  have hle : ι.le (upd ι p (b, 0) c.size) := upd_le hι fun q s hq => absurd hq (hnew q s)
  have ho : ∀ q, q ≠ p → upd ι p (b, 0) c.size q = ι q := fun q hq => upd_other (Ne.symm hq)
  have htk : c.toList.take l.length = cs.toList := by
    apply List.ext_getElem?
    intro i
    rw [List.getElem?_take, hl]
    split
    · rename_i hi
      have := h4 i hi
      simpa using this
    · rename_i hi
      rw [eq_comm, List.getElem?_eq_none]
      simpa using hi
  refine ⟨upd ι p (b, 0) c.size, hle, ⟨fun q o hq => ?_, fun q q' d s s' hq hq' hi hi' => ?_, fun q d s hq => ?_⟩, upd_same _ _ _ _, ho, rfl⟩
  · rw [Tr.get_set] at hq
    by_cases e : p = q
    · rw [if_pos e] at hq
      cases hq
      subst e
      refine ⟨b, 0, c, t, fr, upd_same _ _ _ _, h1, h2, ?_, upd_size _ _ _ _, rfl⟩
      rw [List.drop_zero, htk]
      exact V.rels.mono hle _ _ hrel
    · rw [if_neg e] at hq
      exact O.ok_mono (h.obj q o hq) hle fun _ _ _ _ => rfl
  · have live : ∀ q, q ≠ p → Live (Tr.set p (.cells l) H) q → Live H q := fun q hq hl => by
      obtain ⟨o, g1, g2⟩ := hl
      rw [Tr.get_set, if_neg (Ne.symm hq)] at g1
      exact ⟨o, g1, g2⟩
    by_cases e : q = p
    · by_cases e' : q' = p
      · rw [e, e']
      · subst e
        rw [upd_same] at hi
        cases hi
        rw [ho q' e'] at hi'
        exact absurd hi' (hnew _ _)
    · by_cases e' : q' = p
      · subst e'
        rw [upd_same] at hi'
        cases hi'
        rw [ho q e] at hi
        exact absurd hi (hnew _ _)
      · rw [ho q e] at hi
        rw [ho q' e'] at hi'
        exact h.inj q q' d s s' (live q e hq) (live q' e' hq') hi hi'
  · by_cases e : q = p
    · subst e
      rw [upd_same] at hq
      cases hq
      exact (Array.getElem?_eq_some_iff.1 h1).1
    · rw [ho q e] at hq
      exact h.lt q d s hq
/-- a name for a block that nothing is said of -/
theorem hok_name (h : HOK Tryz.prog ι H w) {p : Pth} {b s : Nat} (hp : H.get p = none) (hι : ι p = none) (hb : b < w.heap.size) :
    ∃ ι', ι.le ι' ∧ HOK Tryz.prog ι' H w ∧ ι' p = some (b, s) ∧ (∀ q, q ≠ p → ι' q = ι q) ∧ ι'.sym = ι.sym := by
  have hle : ι.le (upd ι p (b, s) (ι.size b)) := upd_le hι fun _ _ _ => rfl
  have ho : ∀ q, q ≠ p → upd ι p (b, s) (ι.size b) q = ι q := fun q hq => upd_other (Ne.symm hq)
  have hlp : ∀ q, Live H q → q ≠ p := fun q hl e => by
    obtain ⟨o, g1, g2⟩ := hl
    rw [e, hp] at g1
    cases g1
  refine ⟨upd ι p (b, s) (ι.size b), hle, ⟨fun q o hq => O.ok_mono (h.obj q o hq) hle fun _ _ _ _ => rfl, fun q q' d t t' hq hq' hi hi' => ?_, fun q d t hq => ?_⟩, upd_same _ _ _ _, ho, rfl⟩
  · rw [ho q (hlp q hq)] at hi
    rw [ho q' (hlp q' hq')] at hi'
    exact h.inj q q' d t t' hq hq' hi hi'
  · by_cases e : q = p
    · subst e
      rw [upd_same] at hq
      cases hq
      exact hb
    · rw [ho q e] at hq
      exact h.lt q d t hq
/-- a call from a symbolic state, what it is told being so -/
theorem call_told {Γ : Glo} {cal : Cal} (k : CalOK Tryz.prog Γ cal) {f : Nat} {args : List V} {v : V} {H' : Heap} {n m : Pth} {A A2 : List (Pth × O)} {ps : List Pth} {asg : Asg} {spec : Ev.Spec} {l0 : Asc} (h : cal.fn f args (hp A) m = .ok v H' n) (hfree : freeH H' ps = true) (hfit : fitF asg spec l0 A2 H' = true)
    {σ τ : Nat → Int} (hn : Num asg spec σ τ) (hs : ι.sym = σ) (hok : HOK Tryz.prog ι (hp A) w) (gok : GOK Γ ι (hp A) w) (hdom : ∀ p, ι p ≠ none → p ∈ names A ∨ p ∈ ps) {xs : Array Value} (hxs : V.rels ι args xs.toList) :
    Calls Tryz.prog f xs w fun e w' => ∃ x ι' ι2, e = .returned x ∧ V.rel ι' v x ∧ ι.le ι' ∧ Lies w' A2 τ ι2 ∧ Chg (foot ι A) w w' ∧ (∀ b, foot ι2 A2 b → foot ι A b ∨ w.heap.size ≤ b) ∧ ∀ e ∈ l0, ι2 e.1 = ι' e.2 := by
  obtain ⟨hmono, _, hk⟩ := k.fn _ _ _ _ _ _ _ h
  refine (hk ι w xs hok gok (fun p h1 h2 => ?_) hxs).mono fun e w' he => ?_
  · cases hp : ι p with
    | none => rfl
    | some z =>
      rcases hdom p (by rw [hp]; simp) with hm | hm
      · exact absurd h1 (hp_in hm)
      · exact absurd (freeH_ok hfree p hm) h2
  · obtain ⟨x, rfl, ι', hv, st⟩ := he
    obtain ⟨ι2, h1, h2, h3⟩ := fit_core hfit hn hs st
    refine ⟨x, ι', ι2, rfl, hv, st.ext, h1, ⟨st.os, st.tape, st.out, st.size, fun b hb hf => st.kept b hb fun p s hl' hp => hf ⟨p, s, hl', hp⟩⟩, fun b hb => ?_, h3⟩
    rcases h2 b hb with ⟨q, s, g1, g2⟩ | g
    · exact .inl ⟨q, s, g1, g2⟩
    · exact .inr g
end
end Go.Proofs.YtahmcjdddcbhnaaGreatDoor
