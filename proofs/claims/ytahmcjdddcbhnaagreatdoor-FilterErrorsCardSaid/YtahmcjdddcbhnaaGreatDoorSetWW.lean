/-
  The compiled set of the rule zz: compile by the evaluator; Rules walked; how many entries a map has.
-/
import Derived.Test.YtahmcjdddcbhnaaGreatDoorRulZW
import Derived.Test.YtahmcjdddcbhnaaGreatDoorScrWW
import Derived.Test.YtahmcjdddcbhnaaGreatDoorErrG0a
namespace Go.Imap
open Go Go.Maps Go.RowKit Go.WideMaps

theorem IMap.sizeK {f : Nat → Option Value} {K : Nat} (hK : ∀ s, f s ≠ none → s < K) {ms : Array MapEntry} (hnd : (ms.toList.map (·.key)).Nodup) (h1 : ∀ x ∈ ms.toList, ∃ s : Nat, s < 64 ∧ x.key = .int .i64 (s : Int) ∧ f s = some x.val) : ms.size ≤ K := by
  let g : Value → Nat := fun v => match v with | .int _ a => a.toNat | _ => 0
  have hl : (ms.toList.map fun x => g x.key).length ≤ K := by
    refine few_below K _ ?_ ?_
    · have e : (ms.toList.map fun x => g x.key) = (ms.toList.map (·.key)).map g := by rw [List.map_map]; rfl
      rw [e]
      refine List.Pairwise.map (R := fun a b => a ≠ b ∧ a ∈ ms.toList.map (·.key) ∧ b ∈ ms.toList.map (·.key)) g ?_ ?_
      · rintro a b ⟨hne, ha, hb⟩ he
        obtain ⟨x, hx, rfl⟩ := List.mem_map.1 ha
        obtain ⟨y, hy, rfl⟩ := List.mem_map.1 hb
        obtain ⟨s, hs, kx, _⟩ := h1 x hx
        obtain ⟨s', hs', ky, _⟩ := h1 y hy
        apply hne
        show x.key = y.key
        rw [kx, ky] at he ⊢
        simp [g] at he
        rw [he]
      · exact List.Pairwise.imp_of_mem (fun ha hb h => ⟨h, ha, hb⟩) hnd
    · intro a ha
      obtain ⟨x, hx, rfl⟩ := List.mem_map.1 ha
      obtain ⟨s, hs, kx, hv⟩ := h1 x hx
      have := hK s (by rw [hv]; simp)
      simp [kx, g]
      exact this
  simpa using hl
theorem IMap.len {P : Program} {w : World} {B K : Nat} {f : Nat → Option Value} {t k e : TypeId} (h : IMap w B f) (hK : ∀ s, f s ≠ none → s < K) (hK2 : K ≤ 1000) (ht : P.underlying t = some (.map k e)) : ∃ m : Nat, m ≤ K ∧ ∀ ty, (Builtin.len_ #[t] ty #[.map (some B)]).run P w = .ok (.int .i64 (m : Int)) w := by
  obtain ⟨ms, cl, hb, _, _, hnd, h1, h2⟩ := h
  have hm := IMap.sizeK hK hnd h1
  have hg : goInt (ms.size : Int) = .int .i64 (ms.size : Int) := rfl
  refine ⟨ms.size, hm, fun ty => ?_⟩
  simp [hg, Builtin.len_, run_underlying ht, MapKept.run_getObj_map hb, Result.andThen, Builtin.lenOf]
end Go.Imap
namespace Go.Proofs.YtahmcjdddcbhnaaGreatDoor
open Go Go.Ev Go.RowKit Go.Imap

/-- a set of the one rule zz -/
structure SetZ (w : World) (sb rb : Nat) : Prop where
  c0 : ∃ c, w.cell? ⟨sb, 0, none⟩ = some (.slice (some ⟨rb, 0, none⟩) 1 c)
  l0 : sb < w.heap.size
  l1 : rb < w.heap.size
  r0 : w.cell? ⟨rb, 0, none⟩ = some (.string ⟨#[97]⟩)
  r1 : w.cell? ⟨rb, 1, none⟩ = some (.string ⟨#[122, 122]⟩)
  r2 : w.cell? ⟨rb, 2, none⟩ = some (.bool false)
  r3 : ∃ pb o, w.cell? ⟨rb, 3, none⟩ = some (.pointer (some ⟨pb, o, none⟩))
theorem SetZ.chg {F : Nat → Prop} {w w' : World} {sb rb : Nat} (h : SetZ w sb rb) (hc : Chg F w w') (h1 : ¬ F sb) (h2 : ¬ F rb) : SetZ w' sb rb := by
  obtain ⟨⟨c, a⟩, l0, l1, b, d, e, ⟨pb, o, f⟩⟩ := h
  have hs := hc.size
  exact ⟨⟨c, (hc.cell (p := ⟨sb, 0, none⟩) l0 h1).trans a⟩, by omega, by omega, (hc.cell (p := ⟨rb, 0, none⟩) l1 h2).trans b, (hc.cell (p := ⟨rb, 1, none⟩) l1 h2).trans d, (hc.cell (p := ⟨rb, 2, none⟩) l1 h2).trans e, ⟨pb, o, (hc.cell (p := ⟨rb, 3, none⟩) l1 h2).trans f⟩⟩
theorem SetZ.bel {w w' : World} {sb rb : Nat} (h : SetZ w sb rb) (hb : Below w.heap.size w w') : SetZ w' sb rb := h.chg (F := fun _ => False) (Chg.of_below hb) (fun h => h) (fun h => h)
noncomputable section
def argA : List (Pth × O) := [(nm 1, .cells [.str [97], .str [122, 122], .bool false])]
def setA : List (Pth × O) := [(nm 21, .cells [.sl (nm 22) 0 1 1 4]), (nm 22, .cells [.str [97], .str [122, 122], .bool false, .ptr (nm 23) 0]), (nm 23, .cells [])]
def isPtr (v : V) : Bool := match v with | .ptr _ 0 => true | _ => false
def setL0 (v : V) : Asc := match v with | .ptr p _ => [(nm 21, p)] | _ => []
end
theorem run_compile : runs 14 [.sl (nm 1) 0 1 1 0] argA setA [] [] setL0 isPtr = true := by decide +kernel
theorem str_rel {ι : Emb} {s : List Nat} {x : Value} {d : ByteArray} (h : V.rel ι (.str s) x) (hd : d.data.toList.map UInt8.toNat = s) : x = .string d := by
  simp only [V.rel] at h
  obtain ⟨b, rfl, hb⟩ := h
  have e : b.data.toList.map UInt8.toNat = d.data.toList.map UInt8.toNat := hb.trans hd.symm
  have e2 : b.data.toList = d.data.toList := (List.map_inj_right (fun a b h => UInt8.toNat_inj.1 h)).1 e
  have e3 : b.data = d.data := Array.toList_inj.1 e2
  congr 1
  cases b; cases d; cases e3; rfl
theorem compile_walk {w : World} {q : Nat} (h : w.heap.size = q) {w0 : World} (hw : w0 = w.alloc (.cells #[.string ⟨#[97]⟩, .string ⟨#[122, 122]⟩, .bool false] 25)) :
    Calls Tryz.prog 14 #[.slice (some ⟨q, 0, none⟩) 1 1] w0 fun e w' => ∃ sb rb, e = .returned (.pointer (some ⟨sb, 0, none⟩)) ∧ SetZ w' sb rb ∧ w.heap.size ≤ sb ∧ w.heap.size ≤ rb ∧ Below w.heap.size w w' := by
  subst h
  subst hw
  have hL0 : Lies w [] (fun _ => 0) (Emb.none fun _ => 0) := ⟨rfl, HOK.nil _, fun p hp => absurd rfl hp⟩
  obtain ⟨ι, a, b, sz, -, d⟩ := hL0.add (p := nm 1) (by simp [names_eq]) (c := [.str [97], .str [122, 122], .bool false]) (cs := #[.string ⟨#[97]⟩, .string ⟨#[122, 122]⟩, .bool false]) 25 (rels_cons (by simp only [V.rel]; exact ⟨_, rfl, rfl⟩) (rels_cons (by simp only [V.rel]; exact ⟨_, rfl, rfl⟩) (rels_cons (by simp only [V.rel]) rels_nil)))
  have hxs : V.rels ι [.sl (nm 1) 0 1 1 0] (#[.slice (some ⟨w.heap.size, 0, none⟩) 1 1] : Array Value).toList := by
    refine rels_cons ?_ rels_nil
    simp only [V.rel]
    exact ⟨w.heap.size, 0, 1, b, by simp, Nat.le_refl _, fun _ => rfl, fun h => absurd rfl h⟩
  refine (runs_ok run_compile (num_none (τ := fun _ => 0)) a hxs).mono ?_
  rintro e w' ⟨x, v, ι', ι2, rfl, hpv, hv, hL2, hc, hf, hr⟩
  unfold isPtr at hpv
  split at hpv
  · rename_i p
    have e1 := (hr (nm 21, p) (by simp [setL0])).1
    simp only [V.rel] at hv
    obtain ⟨sb, s, hq, rfl⟩ := hv
    have hq' : ι2 (nm 21) = some (sb, s) := e1.trans hq
    have z := cells_zero hL2.hok (p := nm 21) (l := [.sl (nm 22) 0 1 1 4]) (by rfl) hq'
    subst z
    obtain ⟨y0, c0, r0⟩ := hL2.cell (p := nm 21) (c := [.sl (nm 22) 0 1 1 4]) (by rfl) hq' (j := 0) rfl
    simp only [V.rel] at r0
    obtain ⟨rb, s, cc, hp2, rfl, -, -, -⟩ := r0
    have z := cells_zero hL2.hok (p := nm 22) (l := [.str [97], .str [122, 122], .bool false, .ptr (nm 23) 0]) (by rfl) hp2
    subst z
    have hcell := fun j v h => hL2.cell (p := nm 22) (c := [.str [97], .str [122, 122], .bool false, .ptr (nm 23) 0]) (by rfl) hp2 (j := j) (v := v) h
    obtain ⟨x0, d0, t0⟩ := hcell 0 _ rfl
    obtain ⟨x1, d1, t1⟩ := hcell 1 _ rfl
    obtain ⟨x2, d2, t2⟩ := hcell 2 _ rfl
    obtain ⟨x3, d3, t3⟩ := hcell 3 _ rfl
    have k0 := str_rel (d := ⟨#[97]⟩) t0 rfl
    have k1 := str_rel (d := ⟨#[122, 122]⟩) t1 rfl
    simp only [V.rel] at t2 t3
    obtain ⟨pb, o, -, rfl⟩ := t3
    subst k0 k1 t2
    have hd : ∀ b, foot ι argA b → w.heap.size ≤ b := fun b hb => by
      rcases d b hb with h | h
      · obtain ⟨p, t, ⟨o, h1, _⟩, _⟩ := h
        rw [show Ev.hp [] = (.nil : Heap) from rfl, Tr.get_nil] at h1
        cases h1
      · omega
    have hfoot : ∀ b, foot ι2 setA b → w.heap.size ≤ b := fun b hb => by
      rcases hf b hb with h | h
      · exact hd b h
      · rw [World.size_alloc] at h; omega
    have hbel : Below w.heap.size w w' := ((Chg.refl (fun b => w.heap.size ≤ b) w).alloc _ |>.trans (hc.more fun b _ hb => hd b hb) fun _ _ h => h).to_below (Nat.le_refl _) fun b _ h => h
    have m1 : Live (Ev.hp setA) (nm 21) := ⟨.cells [.sl (nm 22) 0 1 1 4], rfl, by simp⟩
    have m2 : Live (Ev.hp setA) (nm 22) := ⟨.cells [.str [97], .str [122, 122], .bool false, .ptr (nm 23) 0], rfl, by simp⟩
    exact ⟨sb, rb, rfl, ⟨⟨cc, by simpa using c0⟩, hL2.hok.lt _ _ _ hq', hL2.hok.lt _ _ _ hp2, d0, d1, d2, ⟨pb, o + 0, d3⟩⟩, hfoot sb ⟨_, 0, m1, hq'⟩, hfoot rb ⟨_, 0, m2, hp2⟩, hbel⟩
  · cases hpv
theorem infoRule : (Tryz.prog.info? 82).map (fun i => (i.zero, i.size, i.bytes)) = some (some (.agg #[.string ByteArray.empty, .string ByteArray.empty, .bool false]), 3, 40) := by kernel_rfl
set_option maxHeartbeats 4000000 in
set_option maxRecDepth 1000000 in
theorem rules_walk {w : World} {sb rb : Nat} (h : SetZ w sb rb) : Calls Tryz.prog 33 #[.pointer (some ⟨sb, 0, none⟩)] w fun e w' => ∃ v, e = .returned v ∧ w'.ownsRow w.heap.size 82 3 v 1 [.string ⟨#[97]⟩, .string ⟨#[122, 122]⟩, .bool false] ∧ Below w.heap.size w w' := by
  obtain ⟨i0, hi0, hz0, hz1, hz2⟩ := info_parts' infoRule
  obtain ⟨⟨c, c0⟩, l0, l1, r0, r1, r2, ⟨pb, o, r3⟩⟩ := h
  obtain ⟨W0, hW0⟩ : ∃ x, w.alloc (.cells #[.string ⟨#[97]⟩, .string ⟨#[122, 122]⟩, .bool false, .pointer (some ⟨pb, o, none⟩)] 143) = x := ⟨_, rfl⟩
  have hB0 : Below w.heap.size w W0 := by rw [← hW0]; exact (Below.refl _ _).alloc (Nat.le_refl _) _
  have qb : Blk W0 w.heap.size 143 #[.string ⟨#[97]⟩, .string ⟨#[122, 122]⟩, .bool false, .pointer (some ⟨pb, o, none⟩)] := by rw [← hW0]; exact Blk.made w _ _
  have q0 := qb.at' 0
  have q1 := qb.at' 1
  have q2 := qb.at' 2
  simp at q0 q1 q2
  have hso := sees_one W0 82 #[.string ⟨#[97]⟩, .string ⟨#[122, 122]⟩, .bool false] (size := 3) rfl
  have hsz : w.heap.size ≤ W0.heap.size := hB0.size
  have n63 : 0 + 1 ≤ maxLen := by unfold maxLen; omega
  have hone : ∀ u ∈ (#[.string ⟨#[97]⟩, .string ⟨#[122, 122]⟩, .bool false] : Array Value).toList, u.oneCell' = true := by intro u hu; simp at hu; rcases hu with rfl | rfl | rfl <;> rfl
  go_enter Tryz.func33, Tryz.ntmps33
  go_wp2_with fail
  refine wp_loop_rounds 2 ?_
  rw [rounds_succ]
  go_wp2_with (first
    | (at_builtin; refine wpList_append_sees (base := w.heap.size) rfl _ _ 81 rfl i0 _ 40 Tryz.underlying81 hi0 hz0 hz1 hz2 rfl (by decide) (.slice none 0 0) 0 [] rfl (World.ownsRow_nil _ _ _ _) _ 1 _ rfl hso rfl hone n63 (by omega) (by simp; omega) ?_; intro v3 w3 hrow3 hgrow3 hown3)
    | fail)
  have hb3 : Below w.heap.size w w3 := (hB0.alloc hB0.size _).grown hgrow3 (by simp; omega) fun k hk => by cases hk
  rw [rounds_succ]
  go_wp2_with fail
  go_ret
  exact ⟨_, rfl, by simpa using hrow3, hb3⟩
end Go.Proofs.YtahmcjdddcbhnaaGreatDoor
