/-
  The rule zz: what newRule makes of it, and a stream of it, run by the kernel; NewBytes and watch, walked.
-/
import Derived.Test.YtahmcjdddcbhnaaGreatDoorErrG1a
namespace Go.Proofs.YtahmcjdddcbhnaaGreatDoor
open Go Go.Ev Go.RowKit

/-- the same, and the sizes are kept -/
theorem fit_core2 {H H' : Heap} {A2 : List (Pth × O)} {asg : Asg} {spec : Ev.Spec} {l0 : Asc} (hfit : fitF asg spec l0 A2 H' = true) {σ τ : Nat → Int} (hn : Num asg spec σ τ) {w w' : World} {ι ι' : Emb} (hs : ι.sym = σ) (st : Step Tryz.prog ι H w ι' H' w') :
    ∃ ι2, Lies w' A2 τ ι2 ∧ (∀ b, foot ι2 A2 b → (∃ q s, Live H q ∧ ι q = some (b, s)) ∨ w.heap.size ≤ b) ∧ (∀ e ∈ l0, ι2 e.1 = ι' e.2) ∧ ι2.size = ι'.size := by
  unfold fitF at hfit
  generalize hl : fitA H' A2 l0 = l at hfit
  generalize hzs : imgs l (names A2) = zs at hfit
  cases h2 : premtchS (mtchS asg spec zs l 40) l H' A2 <;> cases h3 : nodupP zs <;> cases h7 : subP (fstOf l) (names A2) <;> cases h6 : extA l l0 <;> simp only [h2, h3, h7, h6] at hfit <;> try (cases hfit; done)
  have hsym : ι'.sym = σ := st.ext.syms.trans hs
  have hn' : Num asg spec ι'.sym τ := by rw [hsym]; exact hn
  have hself := extA_ok h6
  have hz : ∀ q b s, q ∈ zs → ι' q = some (b, s) → s = 0 := fun q b s hq hb => by
    rw [← hzs] at hq
    have : ∀ ps : List Pth, q ∈ imgs l ps → ∃ p ∈ ps, asc l p = some q := by
      intro ps
      induction ps with
      | nil => intro hh; cases hh
      | cons x t ih =>
        intro hh
        have hi : imgs l (x :: t) = (match asc l x with | some q => q :: imgs l t | none => imgs l t) := rfl
        rw [hi] at hh
        cases hx : asc l x with
        | none => rw [hx] at hh; obtain ⟨p, g1, g2⟩ := ih hh; exact ⟨p, List.mem_cons_of_mem _ g1, g2⟩
        | some y =>
          rw [hx] at hh
          rcases List.mem_cons.1 hh with rfl | hh
          · exact ⟨x, List.mem_cons_self .., hx⟩
          · obtain ⟨p, g1, g2⟩ := ih hh; exact ⟨p, List.mem_cons_of_mem _ g1, g2⟩
    obtain ⟨p, g1, g2⟩ := this _ hq
    rw [names_eq] at g1
    obtain ⟨e, g3, rfl⟩ := List.mem_map.1 g1
    obtain ⟨q', o, e1, e2, e3⟩ := premtchS_ok h2 e g3
    rw [g2] at e1; cases e1
    have ho := st.hok.obj q o e2
    cases o with
    | cells c => obtain ⟨b', s', cs, el, fr, f1, f2, f3, f4, f5, f6⟩ := ho; rw [hb] at f1; cases f1; exact f6
    | map es kk => obtain ⟨b', es', f1, f2, f3⟩ := ho; rw [hb] at f1; cases f1; rfl
    | _ => exfalso; cases hx : e.2 <;> rw [hx] at e3 <;> cases e3
  have hmt := fun v x y => mtchS_ok (l := l) (ι := ι') hn' hz 40 v x y
  have hok2 : HOK Tryz.prog (viaS l τ ι') (hp A2) w' := fit_ok hmt h2 (by rw [hzs]; exact h3) st.hok
  refine ⟨viaS l τ ι', ⟨rfl, hok2, fun p hp => ?_⟩, ?_, fun e he => viaS_some (hself e he), rfl⟩
  · cases hv' : viaS l τ ι' p with
    | none => exact absurd hv' hp
    | some z =>
      obtain ⟨q, g1, _⟩ := viaS_inv hv'
      exact subP_ok h7 p (fstOf_mem g1)
  · rintro b ⟨p, t, ⟨o, hl1, hl2⟩, hp⟩
    obtain ⟨q, a, e1, e2, e3⟩ := premtchS_ok h2 _ (hp_mem hl1)
    have ha := (omtchS_ok (P := Tryz.prog) (w := w') hmt e3 e1 (st.hok.obj q a e2)).2
    rw [viaS_some e1] at hp
    by_cases hb : b < w.heap.size
    · obtain ⟨q', s', g1, g2⟩ := st.back q b t ⟨a, e2, ha⟩ hp hb
      exact .inl ⟨q', s', g1, g2⟩
    · exact .inr (by omega)
/-- what is only read -/
noncomputable def calR (l : List (Pth × List V)) : Cal := evCal (funIR Tryz.prog) ⟨fun _ => [], [], [], l⟩ 1000000 1000
/-- a call that makes the blocks A2 out of nothing but what it reads -/
noncomputable def made (ro : List (Pth × List V)) (f : Nat) (args : List V) (A2 : List (Pth × O)) (l0 : V → Asc) (pv : V → Bool) : Bool :=
  match (calR ro).fn f args .nil (nm 100) with
  | .ok v H' _ => (match pv v, freeH H' (ro.map (·.1)) with | true, true => fitF [] [] (l0 v) A2 H' | _, _ => false)
  | .bad => false
theorem made_ok {ro : List (Pth × List V)} {f : Nat} {args : List V} {A2 : List (Pth × O)} {l0 : V → Asc} {pv : V → Bool} (h : made ro f args A2 l0 pv = true) {w : World} {ι : Emb}
    (hro : RoIs ι ro w) (hdom : ∀ p, ι p ≠ none → p ∈ ro.map (·.1)) (hlt : ∀ p b s, ι p = some (b, s) → b < w.heap.size) {xs : Array Value} (hxs : V.rels ι args xs.toList) :
    Calls Tryz.prog f xs w fun e w' => ∃ x v ι' ι2, e = .returned x ∧ pv v = true ∧ V.rel ι' v x ∧ Lies w' A2 (fun _ => 0) ι2 ∧ Below w.heap.size w w' ∧ (∀ b, foot ι2 A2 b → w.heap.size ≤ b) ∧ (∀ e ∈ l0 v, ι2 e.1 = ι' e.2) ∧ ι2.size = ι'.size := by
  unfold made at h
  split at h
  · rename_i v H' n hc
    split at h
    · rename_i hp hfree
      obtain ⟨_, _, hk⟩ := (Go.Ev.cal_ok (Γ := ⟨fun _ => [], [], [], ro⟩) mix notNamed 1000).fn _ _ _ _ _ _ _ hc
      have noLive : ∀ p, ¬ Live (.nil : Heap) p := fun p hl => by obtain ⟨o, h1, _⟩ := hl; rw [Tr.get_nil] at h1; cases h1
      refine (hk ι w xs ⟨fun p o h => (by rw [Tr.get_nil] at h; cases h), fun p q b s s' h => absurd h (noLive p), hlt⟩ ⟨fun g i v h => (by simp at h), fun g h => absurd rfl h, fun e he => (by simp at he), fun e he => (by simp at he), fun e he => (by simp at he), fun e he => ?_⟩ (fun p _ h2 => ?_) hxs).mono fun e w1 he => ?_
      · obtain ⟨b, s, c, el, fr, h1, h2, h3⟩ := hro e he
        exact ⟨b, s, c, el, fr, h1, h2, h3, fun q t hl => absurd hl (noLive q)⟩
      · cases hp : ι p with
        | none => rfl
        | some z => exact absurd (freeH_ok hfree p (hdom p (by rw [hp]; simp))) h2
      · obtain ⟨x, rfl, ι', hv', st⟩ := he
        obtain ⟨ι2, h1, h2, h3, h4⟩ := fit_core2 h (num_none (σ := ι.sym) (τ := fun _ => 0)) rfl st
        refine ⟨x, v, ι', ι2, rfl, hp, hv', h1, ⟨st.os, st.tape, st.out, st.size, fun b hb => st.kept b hb fun p s hl => absurd hl (noLive p)⟩, fun b hb => ?_, h3, h4⟩
        rcases h2 b hb with ⟨q, s, g1, g2⟩ | g
        · exact absurd g1 (noLive q)
        · exact g
    · cases h
  · cases h
noncomputable section
def insZ : List V := [J 1, J 0, J 0, J 0, .sl (nm 2) 0 1 1 2, J 1, J 0, J 0, J 0, .sl (nm 3) 0 1 1 2, J 0, J 0, J 0, J 0, .nilsl]
/-- the program of the rule zz -/
def progZ : List (Pth × List V) := [(nm 1, insZ), (nm 2, [J 122, J 122]), (nm 3, [J 122, J 122])]
def progA : List (Pth × O) := [(nm 1, .cells insZ), (nm 2, .cells [J 122, J 122]), (nm 3, .cells [J 122, J 122])]
def isRuleZ (v : V) : Bool := match v with
  | .agg [.int .i64 2, .nilsl, .sl _ 0 2 2 8, .int .i64 0, .int .i64 0, .int .i64 0, .int .i64 0, .bool false, .int .i64 0, .bool false, .sl _ 0 3 3 5, .int .i64 0, .bool false, .bool true] => true
  | _ => false
def ruleL0 (v : V) : Asc := match v with
  | .agg [_, _, _, _, _, _, _, _, _, _, .sl p _ _ _ _, _, _, _] => [(nm 1, p)]
  | _ => []
def isStrZ (v : V) : Bool := match v with | .tup [.ptr _ 0, .int .i64 0] => true | _ => false
def strL0 (v : V) : Asc := match v with | .tup [.ptr p 0, _] => [(nm 1, p)] | _ => []
end
theorem run_newRule : made [] 34 [.agg [.str [97], .str [122, 122], .bool false]] progA ruleL0 isRuleZ = true := by decide +kernel
theorem run_stNew : made progZ 77 [.agg [.sl (nm 1) 0 3 3 5, J 0, .bool false]] (strZ 0) strL0 isStrZ = true := by decide +kernel
theorem progA_ro : inH (hp progA) progZ = true := by decide +kernel

/-- the rule's value -/
def ruleX (a2 : Option Addr) (c2 ib pc : Nat) : Value := .agg #[.int .i64 2, .slice none 0 0, .slice a2 2 c2, .int .i64 0, .int .i64 0, .int .i64 0, .int .i64 0, .bool false, .int .i64 0, .bool false, .slice (some ⟨ib, 0, none⟩) 3 pc, .int .i64 0, .bool false, .bool true]
def ruleC (a2 : Option Addr) (c2 ib pc : Nat) : List Value := [.int .i64 2, .slice none 0 0, .slice a2 2 c2, .int .i64 0, .int .i64 0, .int .i64 0, .int .i64 0, .bool false, .int .i64 0, .bool false, .slice (some ⟨ib, 0, none⟩) 3 pc, .int .i64 0, .bool false, .bool true]
/-- its program lies at block ib, from block lo on and ahead of block hi -/
structure ProgAt (w : World) (lo hi ib pc : Nat) : Prop where
  ex : ∃ ι : Emb, RoIs ι progZ w ∧ V.rel ι (.sl (nm 1) 0 3 3 5) (.slice (some ⟨ib, 0, none⟩) 3 pc) ∧ (∀ p, ι p ≠ none → p ∈ progZ.map (·.1)) ∧ ∀ p b s, ι p = some (b, s) → lo ≤ b ∧ b < hi
  hi : hi ≤ w.heap.size
theorem ProgAt.chg {F : Nat → Prop} {w w' : World} {lo hi ib pc : Nat} (h : ProgAt w lo hi ib pc) (hc : Chg F w w') (hf : ∀ b, lo ≤ b → b < hi → ¬ F b) : ProgAt w' lo hi ib pc := by
  obtain ⟨⟨ι, h1, h2, h3, h4⟩, h5⟩ := h
  exact ⟨⟨ι, h1.same fun e _ b s hb => hc.block b (Nat.lt_of_lt_of_le (h4 _ _ _ hb).2 h5) (hf b (h4 _ _ _ hb).1 (h4 _ _ _ hb).2), h2, h3, h4⟩, Nat.le_trans h5 hc.size⟩
theorem ProgAt.bel {w w' : World} {lo hi ib pc : Nat} (h : ProgAt w lo hi ib pc) (hb : Below w.heap.size w w') : ProgAt w' lo hi ib pc := h.chg (F := fun _ => False) (Chg.of_below hb) fun _ _ _ h => h
theorem newRule_walk (w : World) : Calls Tryz.prog 34 #[.agg #[.string ⟨#[97]⟩, .string ⟨#[122, 122]⟩, .bool false]] w fun e w' => ∃ a2 c2 ib pc, e = .returned (ruleX a2 c2 ib pc) ∧ ProgAt w' w.heap.size w'.heap.size ib pc ∧ Below w.heap.size w w' := by
  have hxs : V.rels (Emb.none fun _ => 0) [.agg [.str [97], .str [122, 122], .bool false]] (#[.agg #[.string ⟨#[97]⟩, .string ⟨#[122, 122]⟩, .bool false]] : Array Value).toList := by
    refine rels_cons ?_ rels_nil
    simp only [V.rel]
    exact ⟨_, rfl, rels_cons (by simp only [V.rel]; exact ⟨_, rfl, rfl⟩) (rels_cons (by simp only [V.rel]; exact ⟨_, rfl, rfl⟩) (rels_cons (by simp only [V.rel]) rels_nil))⟩
  refine (made_ok run_newRule (w := w) (ι := Emb.none fun _ => 0) (fun e he => by simp at he) (fun p hp => absurd rfl hp) (fun p b s hp => by cases hp) hxs).mono ?_
  rintro e w' ⟨x, v, ι', ι2, rfl, hp, hv, hL, hb, hnew, hr, hsz⟩
  unfold isRuleZ at hp
  split at hp
  · rename_i p2 p
    have e1 := hr (nm 1, p) (by simp [ruleL0])
    simp only [V.rel] at hv
    obtain ⟨cs, rfl, hc⟩ := hv
    obtain ⟨x0, t0, e0, h0, hc⟩ := rels_cons_inv hc
    obtain ⟨x1, t1, f1, h1, hc⟩ := rels_cons_inv hc
    obtain ⟨x2, t2, f2, h2, hc⟩ := rels_cons_inv hc
    obtain ⟨x3, t3, f3, h3, hc⟩ := rels_cons_inv hc
    obtain ⟨x4, t4, f4, h4, hc⟩ := rels_cons_inv hc
    obtain ⟨x5, t5, f5, h5, hc⟩ := rels_cons_inv hc
    obtain ⟨x6, t6, f6, h6, hc⟩ := rels_cons_inv hc
    obtain ⟨x7, t7, f7, h7, hc⟩ := rels_cons_inv hc
    obtain ⟨x8, t8, f8, h8, hc⟩ := rels_cons_inv hc
    obtain ⟨x9, t9, f9, h9, hc⟩ := rels_cons_inv hc
    obtain ⟨x10, t10, f10, h10, hc⟩ := rels_cons_inv hc
    obtain ⟨x11, t11, f11, h11, hc⟩ := rels_cons_inv hc
    obtain ⟨x12, t12, f12, h12, hc⟩ := rels_cons_inv hc
    obtain ⟨x13, t13, f13, h13, hc⟩ := rels_cons_inv hc
    have f14 := rels_nil_inv hc
    simp only [V.rel] at h0 h1 h2 h3 h4 h5 h6 h7 h8 h9 h10 h11 h12 h13
    obtain ⟨b2, s2, c2, _, rfl, _⟩ := h2
    obtain ⟨ib, is, pc, g1, rfl, g2, g3, g4⟩ := h10
    have g1' : ι2 (nm 1) = some (ib, is) := e1.trans g1
    have z := cells_zero hL.hok (p := nm 1) (l := insZ) (by rfl) g1'
    subst z
    refine ⟨some ⟨b2, s2 + 0, none⟩, c2, ib, pc, ?_, ⟨⟨ι2, hL.hok.ro progA_ro, ?_, fun q hq => ?_, fun q b s hq => ?_⟩, Nat.le_refl _⟩, hb⟩
    · congr 1
      unfold ruleX
      congr 1
      apply Array.toList_inj.1
      rw [e0, f1, f2, f3, f4, f5, f6, f7, f8, f9, f10, f11, f12, f13, f14, h0, h1, h3, h4, h5, h6, h7, h8, h9, h11, h12, h13]
    · simp only [V.rel]
      exact ⟨ib, 0, pc, g1', by simp, g2, by simp, fun h => by rw [hsz]; exact g4 h⟩
    · exact hL.dom q hq
    · have hq' := hL.dom q (by rw [hq]; simp)
      have hlive : Live (Ev.hp progA) q := by
        have : q = nm 1 ∨ q = nm 2 ∨ q = nm 3 := by simpa [names_eq, progA] using hq'
        rcases this with rfl | rfl | rfl
        · exact ⟨.cells insZ, rfl, by simp⟩
        · exact ⟨.cells [J 122, J 122], rfl, by simp⟩
        · exact ⟨.cells [J 122, J 122], rfl, by simp⟩
      exact ⟨hnew b ⟨q, s, hlive, hq⟩, hL.hok.lt q b s hq⟩
  · cases hp
theorem stNew_walk {w : World} {lo hi ib pc : Nat} (h : ProgAt w lo hi ib pc) : Calls Tryz.prog 77 #[.agg #[.slice (some ⟨ib, 0, none⟩) 3 pc, .int .i64 0, .bool false]] w fun e w' => ∃ sb ι, e = .returned (.tuple #[.pointer (some ⟨sb, 0, none⟩), .int .i64 0]) ∧ StrAt w' sb 0 0 ι ∧ (∀ b, foot ι (strZ 0) b → w.heap.size ≤ b) ∧ Below w.heap.size w w' := by
  obtain ⟨⟨ι, h1, h2, h3, h4⟩, h5⟩ := h
  have hxs : V.rels ι [.agg [.sl (nm 1) 0 3 3 5, J 0, .bool false]] (#[.agg #[.slice (some ⟨ib, 0, none⟩) 3 pc, .int .i64 0, .bool false]] : Array Value).toList := by
    refine rels_cons ?_ rels_nil
    rw [V.rel]
    exact ⟨_, rfl, rels_cons h2 (rels_cons (by simp only [J, V.rel]) (rels_cons (by simp only [V.rel]) rels_nil))⟩
  refine (made_ok run_stNew h1 h3 (fun p b s hp => Nat.lt_of_lt_of_le (h4 p b s hp).2 h5) hxs).mono ?_
  rintro e w' ⟨x, v, ι', ι2, rfl, hp, hv, hL, hb, hnew, hr, hsz⟩
  unfold isStrZ at hp
  split at hp
  · rename_i p
    have e1 := hr (nm 1, p) (by simp [strL0])
    simp only [V.rel] at hv
    obtain ⟨cs, rfl, hc⟩ := hv
    obtain ⟨x0, t0, e0, g0, hc⟩ := rels_cons_inv hc
    obtain ⟨x1, t1, f1, g1, hc⟩ := rels_cons_inv hc
    have f2 := rels_nil_inv hc
    simp only [V.rel] at g0 g1
    obtain ⟨sb, s, hq, rfl⟩ := g0
    have hq' : ι2 (nm 1) = some (sb, s) := e1.trans hq
    have z := cells_zero hL.hok (p := nm 1) (l := [.ptr (nm 2) 0, .nilsl, J 0, J 1, .bool false, .bool false]) (by rfl) hq'
    subst z
    refine ⟨sb, ι2, ?_, ⟨hL, hq', .inl ⟨rfl, rfl⟩⟩, hnew, hb⟩
    congr 2
    apply Array.toList_inj.1
    rw [e0, f1, f2, g1]
  · cases hp
set_option maxHeartbeats 4000000 in
set_option maxRecDepth 1000000 in
theorem newBytes_walk {w : World} {lo hi ib pc : Nat} (h : ProgAt w lo hi ib pc) : Calls Tryz.prog 51 #[.agg #[.slice (some ⟨ib, 0, none⟩) 3 pc, .int .i64 0, .bool false]] w fun e w' => ∃ bb sb ι, e = .returned (.tuple #[.pointer (some ⟨bb, 0, none⟩), .int .i64 0]) ∧ BytAt w' bb sb 0 0 ι none 0 ∧ (∀ b, BFt bb 0 ι b → w.heap.size ≤ b) ∧ Below w.heap.size w w' := by
  obtain ⟨W0, hW0⟩ : ∃ x, w.alloc (.cells #[.slice (some ⟨ib, 0, none⟩) 3 pc, .int .i64 0, .bool false] 102) = x := ⟨_, rfl⟩
  have hB0 : Below w.heap.size w W0 := by rw [← hW0]; exact (Below.refl _ _).alloc (Nat.le_refl _) _
  have qb : Blk W0 w.heap.size 102 #[.slice (some ⟨ib, 0, none⟩) 3 pc, .int .i64 0, .bool false] := by rw [← hW0]; exact Blk.made w _ _
  have q0 := qb.at' 0
  have q1 := qb.at' 1
  have q2 := qb.at' 2
  simp at q0 q1 q2
  have hst := stNew_walk (h.bel hB0)
  have HB := Lib.hid hB0
  clear h hB0 qb
  go_enter Tryz.func51, Tryz.ntmps51
  go_wp2_with (first
    | (go_at_call 77; refine hst.mono ?_; clear hst; rintro _ w1 ⟨sb, ι, rfl, hS, hF, hB1⟩)
    | fail)
  go_ret2
  have hb1 : Below w.heap.size w w1 := HB.out.trans (hB1.mono HB.out.size)
  have hal : Below w1.heap.size w1 (w1.alloc (.cells #[.pointer (some ⟨sb, 0, none⟩), .slice none 0 0] 198)) := (Below.refl _ _).alloc (Nat.le_refl _) _
  have hs1 := HB.out.size
  have hs2 := hB1.size
  refine ⟨w1.heap.size, sb, ι, rfl, ⟨Blk.made w1 _ _, hS.chg (F := fun _ => False) (Chg.of_below hal) (fun _ _ h => h), fun hf => Nat.lt_irrefl _ (hS.lies.lt hf)⟩, fun b hb => ?_, hb1.alloc hb1.size _⟩
  rcases hb with rfl | hb
  · omega
  · have := hF b hb
    omega
set_option maxHeartbeats 4000000 in
set_option maxRecDepth 1000000 in
theorem watch_walk {w : World} {lo hi ib pc c2 : Nat} {a2 : Option Addr} (h : ProgAt w lo hi ib pc) : Calls Tryz.prog 37 #[ruleX a2 c2 ib pc] w fun e w' => ∃ bb sb ι, e = .returned (flowV bb) ∧ BytAt w' bb sb 0 0 ι none 0 ∧ (∀ b, BFt bb 0 ι b → w.heap.size ≤ b) ∧ Below w.heap.size w w' := by
  unfold ruleX
  obtain ⟨W0, hW0⟩ : ∃ x, w.alloc (.cells #[.int .i64 2, .slice none 0 0, .slice a2 2 c2, .int .i64 0, .int .i64 0, .int .i64 0, .int .i64 0, .bool false, .int .i64 0, .bool false, .slice (some ⟨ib, 0, none⟩) 3 pc, .int .i64 0, .bool false, .bool true] 104) = x := ⟨_, rfl⟩
  have hB0 : Below w.heap.size w W0 := by rw [← hW0]; exact (Below.refl _ _).alloc (Nat.le_refl _) _
  have qb : Blk W0 w.heap.size 104 #[.int .i64 2, .slice none 0 0, .slice a2 2 c2, .int .i64 0, .int .i64 0, .int .i64 0, .int .i64 0, .bool false, .int .i64 0, .bool false, .slice (some ⟨ib, 0, none⟩) 3 pc, .int .i64 0, .bool false, .bool true] := by rw [← hW0]; exact Blk.made w _ _
  have q10 := qb.at' 10
  have q11 := qb.at' 11
  have q12 := qb.at' 12
  have q13 := qb.at' 13
  simp at q10 q11 q12 q13
  have hst := newBytes_walk (h.bel hB0)
  have HB := Lib.hid hB0
  clear h hB0 qb
  go_enter Tryz.func37, Tryz.ntmps37
  go_wp2_with (first
    | (go_at_call 51; refine hst.mono ?_; clear hst; rintro _ w1 ⟨bb, sb, ι, rfl, hS, hF, hB1⟩)
    | fail)
  go_ret
  have hs1 := HB.out.size
  exact ⟨bb, sb, ι, rfl, hS, fun b hb => by have := hF b hb; omega, HB.out.trans (hB1.mono hs1)⟩
/-- block rb holds the rule -/
structure RuleAt (w : World) (rb rc lo hi : Nat) : Prop where
  ex : ∃ a2 c2 ib pc, ProgAt w lo hi ib pc ∧ Sees w 14 (.slice (some ⟨rb, 0, none⟩) 1 rc) (ruleC a2 c2 ib pc)
/-- where it lies -/
def RFt2 (rb lo hi b : Nat) : Prop := b = rb ∨ (lo ≤ b ∧ b < hi)
section
variable {F : Nat → Prop} {w w' : World} {rb rc lo hi : Nat}
theorem RuleAt.lt (h : RuleAt w rb rc lo hi) {b : Nat} (hb : RFt2 rb lo hi b) : b < w.heap.size := by
  obtain ⟨a2, c2, ib, pc, h1, A, n, c, e, -, -, h3⟩ := h
  cases e
  rcases hb with rfl | ⟨-, hb⟩
  · obtain ⟨b', s, e, hlt, -⟩ := h3 (by omega)
    cases e
    exact hlt
  · exact Nat.lt_of_lt_of_le hb h1.hi
theorem RuleAt.chg (h : RuleAt w rb rc lo hi) (hc : Chg F w w') (hf : ∀ b, RFt2 rb lo hi b → ¬ F b) : RuleAt w' rb rc lo hi := by
  obtain ⟨a2, c2, ib, pc, h1, h2⟩ := h
  exact ⟨a2, c2, ib, pc, h1.chg hc fun b k1 k2 => hf b (.inr ⟨k1, k2⟩), h2.chg hc fun b hb => hf b (.inl (by cases hb; rfl))⟩
end
end Go.Proofs.YtahmcjdddcbhnaaGreatDoor
