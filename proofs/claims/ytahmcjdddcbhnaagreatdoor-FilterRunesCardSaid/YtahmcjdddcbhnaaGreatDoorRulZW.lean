/-
  The rule zz: what newRule makes of it, and a stream of it, run by the kernel; NewBytes and watch, walked.
-/
import Derived.Test.YtahmcjdddcbhnaaGreatDoorRunG1a
namespace Go.Proofs.YtahmcjdddcbhnaaGreatDoor
open Go Go.Ev Go.RowKit

/-- the same, and the sizes are kept -/
theorem fit_core2 {H H' : Heap} {A2 : List (Pth × O)} {asg : Asg} {spec : Ev.Spec} {l0 : Asc} (hfit : fitF asg spec l0 A2 H' = true) {σ τ : Nat → Int} (hn : Num asg spec σ τ) {w w' : World} {ι ι' : Emb} (hs : ι.sym = σ) (st : Step Tryz.prog ι H w ι' H' w') :
    ∃ ι2, Lies w' A2 τ ι2 ∧ (∀ b, foot ι2 A2 b → (∃ q s, Live H q ∧ ι q = some (b, s)) ∨ w.heap.size ≤ b) ∧ (∀ e ∈ l0, ι2 e.1 = ι' e.2) ∧ ι2.size = ι'.size := by
  unfold fitF at hfit
  generalize hl : fitA H' A2 l0 = l at hfit
  generalize hzs : imgs l (names A2) = zs at hfit
  cases h2 : premtchS (mtchS asg spec zs l 40) l H' A2 <;> cases h3 : nodupP zs <;> cases h7 : subP (fstOf l) (names A2) <;> cases h6 : extA l l0 <;> simp only [h2, h3, h7, h6] at hfit <;> try (cases hfit; done)
  have hsym : ι'.sym = σ := st.ext.syms.trans hs
  have hn' : Num asg spec ι'.sym τ := by rw [hsym]; exact hn
  have hself := extA_ok h6
  have hz : ∀ q b s, q ∈ zs → ι' q = some (b, s) → s = 0 := fun q b s hq hb => by
    rw [← hzs] at hq
    have : ∀ ps : List Pth, q ∈ imgs l ps → ∃ p ∈ ps, asc l p = some q := by
      intro ps
      induction ps with
      | nil => intro hh; cases hh
      | cons x t ih =>
        intro hh
        have hi : imgs l (x :: t) = (match asc l x with | some q => q :: imgs l t | none => imgs l t) := rfl
        rw [hi] at hh
        cases hx : asc l x with
        | none => rw [hx] at hh; obtain ⟨p, g1, g2⟩ := ih hh; exact ⟨p, List.mem_cons_of_mem _ g1, g2⟩
        | some y =>
          rw [hx] at hh
          rcases List.mem_cons.1 hh with rfl | hh
          · exact ⟨x, List.mem_cons_self .., hx⟩
          · obtain ⟨p, g1, g2⟩ := ih hh; exact ⟨p, List.mem_cons_of_mem _ g1, g2⟩
    obtain ⟨p, g1, g2⟩ := this _ hq
    rw [names_eq] at g1
    obtain ⟨e, g3, rfl⟩ := List.mem_map.1 g1
    obtain ⟨q', o, e1, e2, e3⟩ := premtchS_ok h2 e g3
    rw [g2] at e1; cases e1
    have ho := st.hok.obj q o e2
    cases o with
    | cells c => obtain ⟨b', s', cs, el, fr, f1, f2, f3, f4, f5, f6⟩ := ho; rw [hb] at f1; cases f1; exact f6
    | map es kk => obtain ⟨b', es', f1, f2, f3⟩ := ho; rw [hb] at f1; cases f1; rfl
    | _ => exfalso; cases hx : e.2 <;> rw [hx] at e3 <;> cases e3
  have hmt := fun v x y => mtchS_ok (l := l) (ι := ι') hn' hz 40 v x y
  have hok2 : HOK Tryz.prog (viaS l τ ι') (hp A2) w' := fit_ok hmt h2 (by rw [hzs]; exact h3) st.hok
  refine ⟨viaS l τ ι', ⟨rfl, hok2, fun p hp => ?_⟩, ?_, fun e he => viaS_some (hself e he), rfl⟩
  · cases hv' : viaS l τ ι' p with
    | none => exact absurd hv' hp
    | some z =>
      obtain ⟨q, g1, _⟩ := viaS_inv hv'
      exact subP_ok h7 p (fstOf_mem g1)
  · rintro b ⟨p, t, ⟨o, hl1, hl2⟩, hp⟩
    obtain ⟨q, a, e1, e2, e3⟩ := premtchS_ok h2 _ (hp_mem hl1)
    have ha := (omtchS_ok (P := Tryz.prog) (w := w') hmt e3 e1 (st.hok.obj q a e2)).2
    rw [viaS_some e1] at hp
    by_cases hb : b < w.heap.size
    · obtain ⟨q', s', g1, g2⟩ := st.back q b t ⟨a, e2, ha⟩ hp hb
      exact .inl ⟨q', s', g1, g2⟩
    · exact .inr (by omega)
/-- what is only read -/
noncomputable def calR (l : List (Pth × List V)) : Cal := evCal (funIR Tryz.prog) ⟨fun _ => [], [], [], l⟩ 1000000 1000
/-- a call that makes the blocks A2 out of nothing but what it reads -/
noncomputable def made (ro : List (Pth × List V)) (f : Nat) (args : List V) (A2 : List (Pth × O)) (l0 : V → Asc) (pv : V → Bool) : Bool :=
  match (calR ro).fn f args .nil (nm 100) with
  | .ok v H' _ => (match pv v, freeH H' (ro.map (·.1)) with | true, true => fitF [] [] (l0 v) A2 H' | _, _ => false)
  | .bad => false
theorem made_ok {ro : List (Pth × List V)} {f : Nat} {args : List V} {A2 : List (Pth × O)} {l0 : V → Asc} {pv : V → Bool} (h : made ro f args A2 l0 pv = true) {w : World} {ι : Emb}
    (hro : RoIs ι ro w) (hdom : ∀ p, ι p ≠ none → p ∈ ro.map (·.1)) (hlt : ∀ p b s, ι p = some (b, s) → b < w.heap.size) {xs : Array Value} (hxs : V.rels ι args xs.toList) :
    Calls Tryz.prog f xs w fun e w' => ∃ x v ι' ι2, e = .returned x ∧ pv v = true ∧ V.rel ι' v x ∧ Lies w' A2 (fun _ => 0) ι2 ∧ Below w.heap.size w w' ∧ (∀ b, foot ι2 A2 b → w.heap.size ≤ b) ∧ (∀ e ∈ l0 v, ι2 e.1 = ι' e.2) ∧ ι2.size = ι'.size := by
  unfold made at h
  split at h
  · rename_i v H' n hc
    split at h
    · rename_i hp hfree
      obtain ⟨_, _, hk⟩ := (Go.Ev.cal_ok (Γ := ⟨fun _ => [], [], [], ro⟩) mix notNamed 1000).fn _ _ _ _ _ _ _ hc
      have noLive : ∀ p, ¬ Live (.nil : Heap) p := fun p hl => by obtain ⟨o, h1, _⟩ := hl; rw [Tr.get_nil] at h1; cases h1
      refine (hk ι w xs ⟨fun p o h => (by rw [Tr.get_nil] at h; cases h), fun p q b s s' h => absurd h (noLive p), hlt⟩ ⟨fun g i v h => (by simp at h), fun g h => absurd rfl h, fun e he => (by simp at he), fun e he => (by simp at he), fun e he => (by simp at he), fun e he => ?_⟩ (fun p _ h2 => ?_) hxs).mono fun e w1 he => ?_
      · obtain ⟨b, s, c, el, fr, h1, h2, h3⟩ := hro e he
        exact ⟨b, s, c, el, fr, h1, h2, h3, fun q t hl => absurd hl (noLive q)⟩
      · cases hp : ι p with
        | none => rfl
        | some z => exact absurd (freeH_ok hfree p (hdom p (by rw [hp]; simp))) h2
      · obtain ⟨x, rfl, ι', hv', st⟩ := he
        obtain ⟨ι2, h1, h2, h3, h4⟩ := fit_core2 h (num_none (σ := ι.sym) (τ := fun _ => 0)) rfl st
        refine ⟨x, v, ι', ι2, rfl, hp, hv', h1, ⟨st.os, st.tape, st.out, st.size, fun b hb => st.kept b hb fun p s hl => absurd hl (noLive p)⟩, fun b hb => ?_, h3, h4⟩
        rcases h2 b hb with ⟨q, s, g1, g2⟩ | g
        · exact absurd g1 (noLive q)
        · exact g
    · cases h
  · cases h
noncomputable section
def insZ : List V := [J 1, J 0, J 0, J 0, .sl (nm 2) 0 1 1 2, J 1, J 0, J 0, J 0, .sl (nm 3) 0 1 1 2, J 0, J 0, J 0, J 0, .nilsl]
/-- the program of the rule zz -/
def progZ : List (Pth × List V) := [(nm 1, insZ), (nm 2, [J 122, J 122]), (nm 3, [J 122, J 122])]
def progA : List (Pth × O) := [(nm 1, .cells insZ), (nm 2, .cells [J 122, J 122]), (nm 3, .cells [J 122, J 122])]
def isRuleZ (v : V) : Bool := match v with
  | .agg [.int .i64 2, .nilsl, .sl _ 0 2 2 8, .int .i64 0, .int .i64 0, .int .i64 0, .int .i64 0, .bool false, .int .i64 0, .bool false, .sl _ 0 3 3 5, .int .i64 0, .bool false, .bool true] => true
  | _ => false
def ruleL0 (v : V) : Asc := match v with
  | .agg [_, _, _, _, _, _, _, _, _, _, .sl p _ _ _ _, _, _, _] => [(nm 1, p)]
  | _ => []
def isStrZ (v : V) : Bool := match v with | .tup [.ptr _ 0, .int .i64 0] => true | _ => false
def strL0 (v : V) : Asc := match v with | .tup [.ptr p 0, _] => [(nm 1, p)] | _ => []
end
def ruleC (a2 : Option Addr) (c2 ib pc : Nat) : List Value := [.int .i64 2, .slice none 0 0, .slice a2 2 c2, .int .i64 0, .int .i64 0, .int .i64 0, .int .i64 0, .bool false, .int .i64 0, .bool false, .slice (some ⟨ib, 0, none⟩) 3 pc, .int .i64 0, .bool false, .bool true]
/-- its program lies at block ib, from block lo on and ahead of block hi -/
structure ProgAt (w : World) (lo hi ib pc : Nat) : Prop where
  ex : ∃ ι : Emb, RoIs ι progZ w ∧ V.rel ι (.sl (nm 1) 0 3 3 5) (.slice (some ⟨ib, 0, none⟩) 3 pc) ∧ (∀ p, ι p ≠ none → p ∈ progZ.map (·.1)) ∧ ∀ p b s, ι p = some (b, s) → lo ≤ b ∧ b < hi
  hi : hi ≤ w.heap.size
theorem ProgAt.chg {F : Nat → Prop} {w w' : World} {lo hi ib pc : Nat} (h : ProgAt w lo hi ib pc) (hc : Chg F w w') (hf : ∀ b, lo ≤ b → b < hi → ¬ F b) : ProgAt w' lo hi ib pc := by
  obtain ⟨⟨ι, h1, h2, h3, h4⟩, h5⟩ := h
  exact ⟨⟨ι, h1.same fun e _ b s hb => hc.block b (Nat.lt_of_lt_of_le (h4 _ _ _ hb).2 h5) (hf b (h4 _ _ _ hb).1 (h4 _ _ _ hb).2), h2, h3, h4⟩, Nat.le_trans h5 hc.size⟩
theorem ProgAt.bel {w w' : World} {lo hi ib pc : Nat} (h : ProgAt w lo hi ib pc) (hb : Below w.heap.size w w') : ProgAt w' lo hi ib pc := h.chg (F := fun _ => False) (Chg.of_below hb) fun _ _ _ h => h
/-- block rb holds the rule -/
structure RuleAt (w : World) (rb rc lo hi : Nat) : Prop where
  ex : ∃ a2 c2 ib pc, ProgAt w lo hi ib pc ∧ Sees w 14 (.slice (some ⟨rb, 0, none⟩) 1 rc) (ruleC a2 c2 ib pc)
/-- where it lies -/
def RFt2 (rb lo hi b : Nat) : Prop := b = rb ∨ (lo ≤ b ∧ b < hi)
section
variable {F : Nat → Prop} {w w' : World} {rb rc lo hi : Nat}
theorem RuleAt.lt (h : RuleAt w rb rc lo hi) {b : Nat} (hb : RFt2 rb lo hi b) : b < w.heap.size := by
  obtain ⟨a2, c2, ib, pc, h1, A, n, c, e, -, -, h3⟩ := h
  cases e
  rcases hb with rfl | ⟨-, hb⟩
  · obtain ⟨b', s, e, hlt, -⟩ := h3 (by omega)
    cases e
    exact hlt
  · exact Nat.lt_of_lt_of_le hb h1.hi
theorem RuleAt.chg (h : RuleAt w rb rc lo hi) (hc : Chg F w w') (hf : ∀ b, RFt2 rb lo hi b → ¬ F b) : RuleAt w' rb rc lo hi := by
  obtain ⟨a2, c2, ib, pc, h1, h2⟩ := h
  exact ⟨a2, c2, ib, pc, h1.chg hc fun b k1 k2 => hf b (.inr ⟨k1, k2⟩), h2.chg hc fun b hb => hf b (.inl (by cases hb; rfl))⟩
end
end Go.Proofs.YtahmcjdddcbhnaaGreatDoor
