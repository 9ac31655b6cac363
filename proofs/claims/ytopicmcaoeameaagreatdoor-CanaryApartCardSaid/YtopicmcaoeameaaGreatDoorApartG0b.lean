/-
  slices.Sorted(maps.Keys(m)) at string keys: the library's contracts, laid at this dump.
  The canary's Verdict and Counts, walked.
  The canary's See, walked.
  First at a plan of the list and the text [97, x], evaluated: by classes of x.
  A call of a plan that holds a machine, out of an evaluation.
  The rules that are made from numbers: Pick, Few and rules, walked.
  The texts that are made from numbers: Text and texts, walked.
  Plan.First, walked, where no engine is the oracle: over what its runs give at each position.
  slices.Clone of a plan's runs, walked.
  What a plan's runs give at one position of a text: out of evaluations, by classes of the symbols that are read.
-/
import Derived.Test.YtopicmcaoeameaaGreatDoorApartG0a
import Derived.Shelf.SlIter.Nil
import Derived.Shelf.SlIter.Sorted
import Derived.Shelf.SortM.Plain
import Derived.Shelf.SortM.SortNone
import Derived.Ground.GgzProg
import Derived.Ground.SlgmProg
import Derived.Tactics
import Derived.Tactics2
import Derived.StillTactics
import Derived.WalkKit
import Derived.Deep.AppendLies
import Derived.Laws.OwnMore
namespace Go.Proofs
open Go.RowKit Go.Maps Go.Sort Go.Shelf

def YtopicmcaoeameaaGreatDoor.keysA_ren : Go.Shelf.Ren := ⟨fun | 7 => 25 | 10 => 37 | n => n, fun | 23 => 59 | 26 => 9 | 3 => 4 | 28 => 66 | 0 => 0 | 27 => 65 | 33 => 95 | 4 => 4 | n => n, fun | n => n⟩
theorem YtopicmcaoeameaaGreatDoor.keysA : Go.Proofs.SlLaysZ.n7 Tryz.prog YtopicmcaoeameaaGreatDoor.keysA_ren :=
  { mixed := by kernel_rfl
    f7 := ⟨Tryz.f25.name, by decide, Tryz.func25.trans (congrArg some (by kernel_rfl))⟩
    f10 := ⟨Tryz.f37.name, by decide, Tryz.func37.trans (congrArg some (by kernel_rfl))⟩
    t0 := Tryz.underlying0
    a0 := Tryz.isAgg0
    z0 := Tryz.sizeOf0
    v0 := Tryz.zeroValue0
    t4 := Tryz.underlying4
    a4 := Tryz.isAgg4
    z4 := Tryz.sizeOf4
    v4 := Tryz.zeroValue4
    t23 := Tryz.underlying59
    a23 := Tryz.isAgg59
    z23 := Tryz.sizeOf59
    v23 := Tryz.zeroValue59
    t26 := Tryz.underlying9
    a26 := Tryz.isAgg9
    z26 := Tryz.sizeOf9
    v26 := Tryz.zeroValue9
    t27 := Tryz.underlying65
    a27 := Tryz.isAgg65
    z27 := Tryz.sizeOf65
    v27 := Tryz.zeroValue65
    t28 := Tryz.underlying66
    a28 := Tryz.isAgg66
    z28 := Tryz.sizeOf66
    v28 := Tryz.zeroValue66
    t33 := Tryz.underlying95
    a33 := Tryz.isAgg95
    z33 := Tryz.sizeOf95
    v33 := Tryz.zeroValue95 }
def YtopicmcaoeameaaGreatDoor.sortedA_ren : Go.Shelf.Ren := ⟨fun | 6 => 24 | 8 => 35 | 9 => 36 | 11 => 50 | 13 => 52 | 12 => 51 | 23 => 80 | 24 => 81 | 14 => 71 | 15 => 72 | 16 => 73 | 17 => 74 | 18 => 75 | 19 => 76 | 20 => 77 | 21 => 78 | 22 => 79 | 25 => 99 | 26 => 100 | 27 => 101 | 28 => 102 | 29 => 103 | 30 => 104 | 31 => 136 | n => n, fun | 26 => 9 | 28 => 66 | 24 => 58 | 0 => 0 | 3 => 3 | 37 => 130 | 48 => 169 | 50 => 171 | 4 => 4 | 40 => 161 | 39 => 160 | 45 => 166 | 5 => 5 | 9 => 9 | 51 => 204 | 55 => 208 | 57 => 233 | 58 => 234 | 33 => 95 | n => n, fun | n => n⟩
theorem YtopicmcaoeameaaGreatDoor.sortedA : Go.Proofs.SlLaysZ.n6 Tryz.prog YtopicmcaoeameaaGreatDoor.sortedA_ren :=
  { mixed := by kernel_rfl
    f6 := ⟨Tryz.f24.name, by decide, Tryz.func24.trans (congrArg some (by kernel_rfl))⟩
    f8 := ⟨Tryz.f35.name, by decide, Tryz.func35.trans (congrArg some (by kernel_rfl))⟩
    f11 := ⟨Tryz.f50.name, by decide, Tryz.func50.trans (congrArg some (by kernel_rfl))⟩
    t0 := Tryz.underlying0
    a0 := Tryz.isAgg0
    z0 := Tryz.sizeOf0
    v0 := Tryz.zeroValue0
    t24 := Tryz.underlying58
    a24 := Tryz.isAgg58
    z24 := Tryz.sizeOf58
    v24 := Tryz.zeroValue58
    t26 := Tryz.underlying9
    a26 := Tryz.isAgg9
    z26 := Tryz.sizeOf9
    v26 := Tryz.zeroValue9
    t28 := Tryz.underlying66
    a28 := Tryz.isAgg66
    z28 := Tryz.sizeOf66
    v28 := Tryz.zeroValue66
    i26 := by kernel_rfl }
def YtopicmcaoeameaaGreatDoor.sortA_ren : Go.Shelf.Ren := ⟨fun | 6 => 36 | 8 => 52 | 9 => 51 | 19 => 80 | 20 => 81 | 21 => 71 | 22 => 72 | 23 => 73 | 24 => 74 | 25 => 75 | 26 => 76 | 27 => 77 | 28 => 78 | 29 => 79 | 36 => 99 | 31 => 100 | 32 => 101 | 37 => 102 | 38 => 103 | 39 => 104 | 41 => 136 | n => n, fun | 27 => 58 | 29 => 9 | 3 => 3 | 32 => 130 | 26 => 58 | 0 => 0 | 44 => 169 | 46 => 171 | 4 => 4 | 36 => 161 | 35 => 160 | 41 => 166 | 5 => 5 | 9 => 9 | 53 => 204 | 57 => 208 | 63 => 233 | 64 => 234 | n => n, fun | n => n⟩
theorem YtopicmcaoeameaaGreatDoor.sortA : Go.Proofs.SlLaysM.n6 Tryz.prog YtopicmcaoeameaaGreatDoor.sortA_ren :=
  { mixed := by kernel_rfl
    f6 := ⟨Tryz.f36.name, by decide, Tryz.func36.trans (congrArg some (by kernel_rfl))⟩
    f8 := Tryz.func52.trans (congrArg some (by kernel_rfl))
    f9 := ⟨Tryz.f51.name, by decide, Tryz.func51.trans (congrArg some (by kernel_rfl))⟩
    f19 := Tryz.func80.trans (congrArg some (by kernel_rfl))
    f20 := Tryz.func81.trans (congrArg some (by kernel_rfl))
    f21 := ⟨Tryz.f71.name, by decide, Tryz.func71.trans (congrArg some (by kernel_rfl))⟩
    f22 := ⟨Tryz.f72.name, by decide, Tryz.func72.trans (congrArg some (by kernel_rfl))⟩
    f23 := ⟨Tryz.f73.name, by decide, Tryz.func73.trans (congrArg some (by kernel_rfl))⟩
    f24 := ⟨Tryz.f74.name, by decide, Tryz.func74.trans (congrArg some (by kernel_rfl))⟩
    f25 := ⟨Tryz.f75.name, by decide, Tryz.func75.trans (congrArg some (by kernel_rfl))⟩
    f26 := ⟨Tryz.f76.name, by decide, Tryz.func76.trans (congrArg some (by kernel_rfl))⟩
    f27 := ⟨Tryz.f77.name, by decide, Tryz.func77.trans (congrArg some (by kernel_rfl))⟩
    f28 := ⟨Tryz.f78.name, by decide, Tryz.func78.trans (congrArg some (by kernel_rfl))⟩
    f29 := ⟨Tryz.f79.name, by decide, Tryz.func79.trans (congrArg some (by kernel_rfl))⟩
    f31 := Tryz.func100.trans (congrArg some (by kernel_rfl))
    f32 := Tryz.func101.trans (congrArg some (by kernel_rfl))
    f36 := ⟨Tryz.f99.name, by decide, Tryz.func99.trans (congrArg some (by kernel_rfl))⟩
    f37 := ⟨Tryz.f102.name, by decide, Tryz.func102.trans (congrArg some (by kernel_rfl))⟩
    f38 := ⟨Tryz.f103.name, by decide, Tryz.func103.trans (congrArg some (by kernel_rfl))⟩
    f39 := ⟨Tryz.f104.name, by decide, Tryz.func104.trans (congrArg some (by kernel_rfl))⟩
    f41 := ⟨Tryz.f136.name, by decide, Tryz.func136.trans (congrArg some (by kernel_rfl))⟩
    t0 := Tryz.underlying0
    a0 := Tryz.isAgg0
    z0 := Tryz.sizeOf0
    v0 := Tryz.zeroValue0
    t3 := Tryz.underlying3
    a3 := Tryz.isAgg3
    z3 := Tryz.sizeOf3
    v3 := Tryz.zeroValue3
    t4 := Tryz.underlying4
    a4 := Tryz.isAgg4
    z4 := Tryz.sizeOf4
    v4 := Tryz.zeroValue4
    t5 := Tryz.underlying5
    a5 := Tryz.isAgg5
    z5 := Tryz.sizeOf5
    v5 := Tryz.zeroValue5
    t9 := Tryz.underlying9
    a9 := Tryz.isAgg9
    z9 := Tryz.sizeOf9
    v9 := Tryz.zeroValue9
    t26 := Tryz.underlying58
    a26 := Tryz.isAgg58
    z26 := Tryz.sizeOf58
    v26 := Tryz.zeroValue58
    t27 := Tryz.underlying58
    a27 := Tryz.isAgg58
    z27 := Tryz.sizeOf58
    v27 := Tryz.zeroValue58
    t29 := Tryz.underlying9
    a29 := Tryz.isAgg9
    z29 := Tryz.sizeOf9
    v29 := Tryz.zeroValue9
    t32 := Tryz.underlying130
    a32 := Tryz.isAgg130
    z32 := Tryz.sizeOf130
    v32 := Tryz.zeroValue130
    t35 := Tryz.underlying160
    a35 := Tryz.isAgg160
    z35 := Tryz.sizeOf160
    v35 := Tryz.zeroValue160
    t36 := Tryz.underlying161
    a36 := Tryz.isAgg161
    z36 := Tryz.sizeOf161
    v36 := Tryz.zeroValue161
    t41 := Tryz.underlying166
    a41 := Tryz.isAgg166
    z41 := Tryz.sizeOf166
    v41 := Tryz.zeroValue166
    t44 := Tryz.underlying169
    a44 := Tryz.isAgg169
    z44 := Tryz.sizeOf169
    v44 := Tryz.zeroValue169
    t46 := Tryz.underlying171
    a46 := Tryz.isAgg171
    z46 := Tryz.sizeOf171
    v46 := Tryz.zeroValue171
    t53 := Tryz.underlying204
    a53 := Tryz.isAgg204
    z53 := Tryz.sizeOf204
    v53 := Tryz.zeroValue204
    t57 := Tryz.underlying208
    a57 := Tryz.isAgg208
    z57 := Tryz.sizeOf208
    v57 := Tryz.zeroValue208
    t63 := Tryz.underlying233
    a63 := Tryz.isAgg233
    z63 := Tryz.sizeOf233
    v63 := Tryz.zeroValue233
    t64 := Tryz.underlying234
    a64 := Tryz.isAgg234
    z64 := Tryz.sizeOf234
    v64 := Tryz.zeroValue234 }

namespace YtopicmcaoeameaaGreatDoor
open Go.Ev Go.Smap Go.WideMaps
/-- slices.Sort's two contracts at this dump, at the fence that asks nothing -/
theorem sortsA (m : Nat) : AnyZ.SortsIn Tryz.prog YtopicmcaoeameaaGreatDoor.sortedA_ren Fence.wide m :=
  ⟨fun blk off cap ss W hH hblk hsz => callsIn_wide.2 (AnyM.slices_Sort_string YtopicmcaoeameaaGreatDoor.sortA blk off cap ss W hH hblk hsz),
   fun p cap W => callsIn_wide.2 (AnyM.slices_Sort_string_none YtopicmcaoeameaaGreatDoor.sortA p cap W)⟩
/-- how an element of the map reads: not at all -/
def anyElem (_ : Value) : Option (DataW Unit × List MemPlace) := some (.lit (.bool true), [])
theorem owns_of {w : World} {b cl : Nat} {ms : Array MapEntry} {ks : List ByteArray} (hb : w.heap[b]? = some (.map ms cl)) (hk : ms.toList.map (·.key) = ks.map Value.string) (hnd : ks.Nodup)
    (hr : ∀ c ∈ ks, c.size ≤ maxLen) (h1 : ∀ x ∈ ms.toList, x.born < cl) (h2 : (ms.toList.map (·.born)).Nodup) (hl : ks.length ≤ 1000000) :
    ∃ D : DataW Unit, w.ownsMap Tryz.prog 9 anyElem b ms.size D ∧ (strKeys D).Perm (ks.map fun c => c.data.toList) ∧ Maps.size D = ks.length := by
  have hlen : ms.size = ks.length := by
    have := congrArg List.length hk
    simpa using this
  have hkey : ∀ x ∈ ms.toList, ∃ c ∈ ks, x.key = .string c := fun x hx => by
    have : x.key ∈ ms.toList.map (·.key) := List.mem_map.2 ⟨x, hx, rfl⟩
    rw [hk] at this
    obtain ⟨c, hc, e⟩ := List.mem_map.1 this
    exact ⟨c, hc, e.symm⟩
  have hrd : ∀ x ∈ ms.toList, ∀ c, c ∈ ks → x.key = .string c → WideElems.rd Tryz.prog 9 anyElem x = some (.string c.data.toList, .lit (.bool true)) := fun x _ c hc he => by
    have hkey : keyOf Tryz.prog 9 x.key = some (.string c.data.toList) := by
      rw [he]
      exact keyOf_string_mk Tryz.underlying9 (hr c hc)
    simp [WideElems.rd, hkey, anyElem]
  have hrg : ms.toList.map (WideElems.rg Tryz.prog 9 anyElem) = ks.map fun c => ((.string c.data.toList, .lit (.bool true)) : Lit × DataW Unit) := by
    have : ∀ (l : List MapEntry) (ks' : List ByteArray), (∀ x ∈ l, x ∈ ms.toList) → (∀ c ∈ ks', c ∈ ks) → l.map (·.key) = ks'.map Value.string → l.map (WideElems.rg Tryz.prog 9 anyElem) = ks'.map fun c => ((.string c.data.toList, .lit (.bool true)) : Lit × DataW Unit) := by
      intro l
      induction l with
      | nil => intro ks' _ _ h; cases ks' with
        | nil => rfl
        | cons c t => simp at h
      | cons x t ih =>
        intro ks' hm hc h
        cases ks' with
        | nil => simp at h
        | cons c t' =>
          simp only [List.map_cons, List.cons.injEq] at h ⊢
          refine ⟨?_, ih t' (fun y hy => hm y (List.mem_cons_of_mem _ hy)) (fun y hy => hc y (List.mem_cons_of_mem _ hy)) h.2⟩
          simp [WideElems.rg, hrd x (hm x (List.mem_cons_self ..)) c (hc c (List.mem_cons_self ..)) h.1]
    exact this _ _ (fun _ h => h) (fun _ h => h) hk
  refine ⟨_, ⟨ms, cl, hb, ⟨?_, ⟨h1, h2, ?_⟩, fun x hx => ?_⟩, Nat.le_refl _, rfl⟩, ?_, ?_⟩
  · rw [hlen]; unfold maxLen; omega
  · rw [hk]
    exact List.Pairwise.map _ (fun a b hab e => hab (by cases e; rfl)) hnd
  · obtain ⟨c, hc, he⟩ := hkey x hx
    exact ⟨_, hrd x hx c hc he⟩
  · rw [hrg]
    show ((List.foldr DataW.insert [] (ks.map fun c => ((.string c.data.toList, .lit (.bool true)) : Lit × DataW Unit))).map fun p => strOf p.1).Perm (ks.map fun c => c.data.toList)
    refine ((WideShapes.sorted_perm _).map _).trans ?_
    rw [List.map_map]
    exact List.Perm.refl _
  · rw [hrg]
    show (List.foldr DataW.insert [] (ks.map fun c => ((.string c.data.toList, .lit (.bool true)) : Lit × DataW Unit))).length = ks.length
    rw [(WideShapes.sorted_perm _).length_eq, List.length_map]
/-- the keys of a map, as strings -/
theorem keys_of {w : World} {B n : Nat} {f : ByteArray → Option Value} (h : IsMap w B n f) (hn : n ≤ 1000000) :
    ∃ (ms : Array MapEntry) (D : DataW Unit) (ks : List ByteArray), w.ownsMap Tryz.prog 9 anyElem B ms.size D ∧ (strKeys D).Perm (ks.map fun c => c.data.toList) ∧ Maps.size D = ks.length ∧ ks.length ≤ n ∧ (∀ s ∈ ks, s.size ≤ maxLen ∧ f s ≠ none) ∧ (∀ s, f s ≠ none → s ∈ ks) ∧ ks.Nodup := by
  obtain ⟨ms, cl, hb, hsz, hb1, hb2, hnd, h1, h2⟩ := h
  let g : MapEntry → ByteArray := fun x => match x.key with | .string s => s | _ => ByteArray.empty
  have hg : ∀ x ∈ ms.toList, x.key = .string (g x) := fun x hx => by
    obtain ⟨s, _, hk, _⟩ := h1 x hx
    show x.key = .string (match x.key with | .string s => s | _ => ByteArray.empty)
    rw [hk]
  have hk : ms.toList.map (·.key) = (ms.toList.map g).map Value.string := by
    rw [List.map_map]
    exact List.map_congr_left hg
  have hks : ∀ s ∈ ms.toList.map g, s.size ≤ maxLen ∧ f s ≠ none := fun s hs => by
    obtain ⟨x, hx, rfl⟩ := List.mem_map.1 hs
    obtain ⟨s, hs, hk, hf⟩ := h1 x hx
    have : g x = s := by have := (hg x hx).symm.trans hk; cases this; rfl
    rw [this, hf]
    exact ⟨hs, by simp⟩
  have hnd' : (ms.toList.map g).Nodup := by
    rw [hk] at hnd
    exact List.Pairwise.of_map Value.string (fun a b hab e => hab (by rw [e])) hnd
  obtain ⟨D, hD1, hD2, hD3⟩ := owns_of hb hk hnd' (fun c hc => (hks c hc).1) hb1 hb2 (by simp; omega)
  refine ⟨ms, D, ms.toList.map g, hD1, hD2, hD3, by simpa using hsz, hks, fun s hs => ?_, hnd'⟩
  cases hfs : f s with
  | none => exact absurd hfs hs
  | some v =>
    obtain ⟨x, hx, hxk⟩ := h2 s v hfs
    have : g x = s := by have := (hg x hx).symm.trans hxk; cases this; rfl
    exact List.mem_map.2 ⟨x, hx, this⟩
set_option maxHeartbeats 1000000 in
/-- slices.Sorted(maps.Keys(m)): the keys, sorted, in new memory -/
theorem sorted_keys {w : World} {bq B n : Nat} {f : ByteArray → Option Value} (hq : w.cell? ⟨bq, 0, none⟩ = some (.map (some B))) (hlt : bq < w.heap.size) (h : IsMap w B n f) (hn : n ≤ 1000) :
    Calls Tryz.prog 24 #[.func (.func 37) #[] #[.pointer (some ⟨bq, 0, none⟩)]] w fun e w' => ∃ (v : Value) (ns : List ByteArray), e = .returned v ∧ w'.ownsRow w.heap.size 9 1 v ns.length (ns.map Value.string) ∧ ns.length ≤ n ∧
      (∀ s ∈ ns, s.size ≤ maxLen ∧ f s ≠ none) ∧ (∀ s, f s ≠ none → s ∈ ns) ∧ ns.Pairwise (fun a b => a.data.toList ≤ b.data.toList) ∧ ns.Nodup ∧ Below w.heap.size w w' := by
  obtain ⟨ms, D, ks, hown, hperm, hsz, hkn, hks, hkf, hknd⟩ := keys_of h (by omega)
  have hseq : SeqGives Fence.wide 2 Tryz.prog 37 #[.pointer (some ⟨bq, 0, none⟩)] encStr (fun ss => ss.Perm (strKeys D)) (Maps.size D) w :=
    AnyZ.keys_gives (ρ := YtopicmcaoeameaaGreatDoor.keysA_ren) { YtopicmcaoeameaaGreatDoor.keysA with } Fence.wide _ trivial rfl (by omega) bq B _ D w hlt hq hown
  have cS := AnyZ.sorted_in YtopicmcaoeameaaGreatDoor.sortedA Fence.wide 5 trivial trivial trivial trivial rfl (by omega) (sortsA _) (enters_of Tryz.func36 (by kernel_rfl) rfl) 37 #[.pointer (some ⟨bq, 0, none⟩)] trivial (enters_of Tryz.func37 (by kernel_rfl) rfl) _ _ (by rw [hsz]; unfold maxLen; omega) (by rw [hsz]; omega) _ hseq
  change CallsIn _ _ Tryz.prog 24 _ _ _ at cS
  refine (callsIn_wide.1 cS).mono ?_
  rintro e w' ⟨v, ss, rfl, hS, hrow, hnil, hb⟩
  have tr : ∀ a b c : List UInt8, decide (a ≤ b) = true → decide (b ≤ c) = true → decide (a ≤ c) = true := fun a b c h1 h2 => decide_eq_true (List.le_trans (of_decide_eq_true h1) (of_decide_eq_true h2))
  have to : ∀ a b : List UInt8, (decide (a ≤ b) || decide (b ≤ a)) = true := fun a b => by simp only [Bool.or_eq_true, decide_eq_true_eq]; exact List.le_total a b
  have hp : (ss.mergeSort fun x y => decide (x ≤ y)).Perm (ks.map fun c => c.data.toList) := (List.mergeSort_perm ss _).trans (hS.trans hperm)
  have hl : ss.length = ks.length := by rw [(hS.trans hperm).length_eq, List.length_map]
  refine ⟨v, (ss.mergeSort fun x y => decide (x ≤ y)).map fun l => ⟨l.toArray⟩, rfl, ?_, ?_, fun s hs => ?_, fun s hs => ?_, ?_, ?_, hb⟩
  · rw [List.length_map, List.length_mergeSort, List.map_map]
    exact hrow
  · rw [List.length_map, List.length_mergeSort, hl]; exact hkn
  · obtain ⟨l, hl, rfl⟩ := List.mem_map.1 hs
    obtain ⟨c, hc, rfl⟩ := List.mem_map.1 (hp.mem_iff.1 hl)
    exact hks c hc
  · exact List.mem_map.2 ⟨s.data.toList, hp.mem_iff.2 (List.mem_map.2 ⟨s, hkf s hs, rfl⟩), rfl⟩
  · refine List.Pairwise.map _ (fun a b h => ?_) (List.pairwise_mergeSort tr to ss)
    simpa using h
  · have h1 : (ks.map fun c => c.data.toList).Nodup := List.Pairwise.map _ (fun a b hab e => hab (ByteArray.ext (Array.toList_inj.1 e))) hknd
    refine List.Pairwise.map _ (fun a b hab e => hab ?_) (hp.nodup_iff.2 h1)
    injection e with e
    simpa using congrArg Array.toList e
set_option maxHeartbeats 1000000 in
theorem sorted_list {w : World} {bq bm cl : Nat} {ms : Array MapEntry} {ks : List ByteArray} (hq : w.cell? ⟨bq, 0, none⟩ = some (.map (some bm))) (hlt : bq < w.heap.size) (hb : w.heap[bm]? = some (.map ms cl)) (hk : ms.toList.map (·.key) = ks.map Value.string) (hnd : ks.Nodup)
    (hr : ∀ c ∈ ks, c.size ≤ maxLen) (h1 : ∀ x ∈ ms.toList, x.born < cl) (h2 : (ms.toList.map (·.born)).Nodup) (hl : ks.length ≤ 1000) :
    Calls Tryz.prog 24 #[.func (.func 37) #[] #[.pointer (some ⟨bq, 0, none⟩)]] w fun e w' => ∃ (v : Value) (ns : List ByteArray), e = .returned v ∧ w'.ownsRow w.heap.size 9 1 v ns.length (ns.map Value.string) ∧ (ns.map fun c => c.data.toList).Perm (ks.map fun c => c.data.toList) ∧
      (ns.map fun c => c.data.toList).Pairwise (fun a b => a ≤ b) ∧ Below w.heap.size w w' := by
  obtain ⟨D, hown, hperm, hsz⟩ := owns_of hb hk hnd hr h1 h2 (by omega)
  have hseq : SeqGives Fence.wide 2 Tryz.prog 37 #[.pointer (some ⟨bq, 0, none⟩)] encStr (fun ss => ss.Perm (strKeys D)) (Maps.size D) w :=
    AnyZ.keys_gives (ρ := YtopicmcaoeameaaGreatDoor.keysA_ren) { YtopicmcaoeameaaGreatDoor.keysA with } Fence.wide _ trivial rfl (by omega) bq bm _ D w hlt hq hown
  have cS := AnyZ.sorted_in YtopicmcaoeameaaGreatDoor.sortedA Fence.wide 5 trivial trivial trivial trivial rfl (by omega) (sortsA _) (enters_of Tryz.func36 (by kernel_rfl) rfl) 37 #[.pointer (some ⟨bq, 0, none⟩)] trivial (enters_of Tryz.func37 (by kernel_rfl) rfl) _ _ (by rw [hsz]; unfold maxLen; omega) (by rw [hsz]; omega) _ hseq
  change CallsIn _ _ Tryz.prog 24 _ _ _ at cS
  refine (callsIn_wide.1 cS).mono ?_
  rintro e w' ⟨v, ss, rfl, hS, hrow, hnil, hbel⟩
  have tr : ∀ a b c : List UInt8, decide (a ≤ b) = true → decide (b ≤ c) = true → decide (a ≤ c) = true := fun a b c h1 h2 => decide_eq_true (List.le_trans (of_decide_eq_true h1) (of_decide_eq_true h2))
  have to : ∀ a b : List UInt8, (decide (a ≤ b) || decide (b ≤ a)) = true := fun a b => by simp only [Bool.or_eq_true, decide_eq_true_eq]; exact List.le_total a b
  have hp : (ss.mergeSort fun x y => decide (x ≤ y)).Perm (ks.map fun c => c.data.toList) := (List.mergeSort_perm ss _).trans (hS.trans hperm)
  have hid : ((ss.mergeSort fun x y => decide (x ≤ y)).map fun l => (⟨l.toArray⟩ : ByteArray)).map (fun c => c.data.toList) = ss.mergeSort fun x y => decide (x ≤ y) := by
    rw [List.map_map]
    exact (List.map_congr_left fun a _ => rfl).trans (List.map_id _)
  refine ⟨v, (ss.mergeSort fun x y => decide (x ≤ y)).map fun l => ⟨l.toArray⟩, rfl, ?_, ?_, ?_, hbel⟩
  · rw [List.length_map, List.length_mergeSort, List.map_map]
    exact hrow
  · rw [hid]; exact hp
  · rw [hid]
    exact (List.pairwise_mergeSort tr to ss).imp fun h => by simpa using h
theorem keys_call (mb : Option Nat) (W : World) : Calls Tryz.prog 25 #[.map mb] W fun e w' => e = .returned (.func (.func 37) #[] #[.pointer (some ⟨W.heap.size, 0, none⟩)]) ∧ w' = W.alloc (.cells #[.map mb] 59) :=
  callsIn_wide.1 (AnyZ.keys_in (ρ := YtopicmcaoeameaaGreatDoor.keysA_ren) YtopicmcaoeameaaGreatDoor.keysA Fence.wide 5 trivial rfl mb W)
end YtopicmcaoeameaaGreatDoor
end Go.Proofs
namespace Go.Proofs.YtopicmcaoeameaaGreatDoor
open Go Go.Ev Go.RowKit

/-- the canary's verdict -/
def verdict (most enough compared unlike : Int) : Int := if most < unlike then 2 else if enough ≤ compared then 1 else 0
set_option maxRecDepth 1000000 in
theorem verdict_walk {cb : Nat} {w : World} {m e c u : Int} (k3 : w.cell? ⟨cb, 3, none⟩ = some (.int .i64 m)) (k4 : w.cell? ⟨cb, 4, none⟩ = some (.int .i64 e)) (k6 : w.cell? ⟨cb, 6, none⟩ = some (.int .i64 c)) (k7 : w.cell? ⟨cb, 7, none⟩ = some (.int .i64 u)) :
    Calls Tryz.prog 19 #[.pointer (some ⟨cb, 0, none⟩)] w fun ed w' => ed = .returned (.int .i64 (verdict m e c u)) ∧ Below w.heap.size w w' := by
  obtain ⟨X, hX⟩ : ∃ X, verdict m e c u = X := ⟨_, rfl⟩
  rw [hX]
  have HX : Hid (verdict m e c u = X) := hX
  clear hX
  go_enter Tryz.func19, Tryz.ntmps19
  by_cases h1 : m < u
  · have hx : X = 2 := by rw [← HX.out, verdict, if_pos h1]
    subst hx
    go_wp2_with fail
    go_region
    all_goals (try go_wp2)
    all_goals (go_ret; exact ⟨rfl, (Below.refl _ _).drew⟩)
  · by_cases h2 : e ≤ c
    · have hx : X = 1 := by rw [← HX.out, verdict, if_neg h1, if_pos h2]
      subst hx
      go_wp2_with fail
      go_region
      all_goals (try go_wp2)
      all_goals (try go_region)
      all_goals (try go_wp2)
      all_goals (go_ret; exact ⟨rfl, (Below.refl _ _).drew.drew⟩)
    · have hx : X = 0 := by rw [← HX.out, verdict, if_neg h1, if_neg h2]
      subst hx
      go_wp2_with fail
      go_region
      all_goals (try go_wp2)
      all_goals (try go_region)
      all_goals (try go_wp2)
      all_goals (go_ret; exact ⟨rfl, (Below.refl _ _).drew.drew⟩)
set_option maxRecDepth 1000000 in
theorem counts_walk {cb : Nat} {w : World} {s c u : Int} (k5 : w.cell? ⟨cb, 5, none⟩ = some (.int .i64 s)) (k6 : w.cell? ⟨cb, 6, none⟩ = some (.int .i64 c)) (k7 : w.cell? ⟨cb, 7, none⟩ = some (.int .i64 u)) :
    Calls Tryz.prog 17 #[.pointer (some ⟨cb, 0, none⟩)] w fun ed w' => ed = .returned (.tuple #[.int .i64 s, .int .i64 c, .int .i64 u]) ∧ Below w.heap.size w w' := by
  go_enter Tryz.func17, Tryz.ntmps17
  go_wp2_with fail
  go_region
  all_goals (try go_wp2)
  all_goals (go_ret3; exact ⟨rfl, (Below.refl _ _).drew⟩)
end Go.Proofs.YtopicmcaoeameaaGreatDoor
namespace Go.Proofs.YtopicmcaoeameaaGreatDoor
open Go Go.Ev Go.RowKit Go.Smap

/-- See, where the verdict is no longer open -/
theorem verdict_range (m e c u : Int) : verdict m e c u = 0 ∨ verdict m e c u = 1 ∨ verdict m e c u = 2 := by
  unfold verdict; split
  · exact .inr (.inr rfl)
  · split
    · exact .inr (.inl rfl)
    · exact .inl rfl
set_option maxRecDepth 1000000 in
theorem see_shut {cb : Nat} {w : World} {m e c u : Int} (k3 : w.cell? ⟨cb, 3, none⟩ = some (.int .i64 m)) (k4 : w.cell? ⟨cb, 4, none⟩ = some (.int .i64 e)) (k6 : w.cell? ⟨cb, 6, none⟩ = some (.int .i64 c)) (k7 : w.cell? ⟨cb, 7, none⟩ = some (.int .i64 u))
    (hv : verdict m e c u ≠ 0) (t : Value) (fuel : Int) :
    Calls Tryz.prog 12 #[.pointer (some ⟨cb, 0, none⟩), t, .int .i64 fuel] w fun ed w' => ed = .returned (.tuple #[.bool false, .bool false, .int .i64 20]) ∧ Below w.heap.size w w' := by
  have hvw := verdict_walk k3 k4 k6 k7
  obtain ⟨V, hV⟩ : ∃ V, verdict m e c u = V := ⟨_, rfl⟩
  rw [hV] at hvw hv
  clear hV
  go_enter Tryz.func12, Tryz.ntmps12
  go_wp2_with (first
    | (go_at_call 19; refine hvw.mono ?_; rintro _ w1 ⟨rfl, hb1⟩)
    | go_in)
  go_ret3
  exact ⟨rfl, hb1⟩
/-- a canary's fields -/
structure Can where
  b1 : Nat
  b2 : Nat
  every : Int
  most : Int
  enough : Int
  seen : Int
  compared : Int
  unlike : Int
  names : Value
  allowed : Value
  cases : Value
def Can.cells (C : Can) : Array Value := #[.pointer (some ⟨C.b1, 0, none⟩), .pointer (some ⟨C.b2, 0, none⟩), .int .i64 C.every, .int .i64 C.most, .int .i64 C.enough, .int .i64 C.seen, .int .i64 C.compared, .int .i64 C.unlike, C.names, C.allowed, C.cases]
/-- block cb is the canary C -/
def CanAt (w : World) (cb : Nat) (C : Can) : Prop := w.heap[cb]? = some (.cells C.cells 69 (0, 0))
theorem CanAt.cell {w : World} {cb : Nat} {C : Can} (h : CanAt w cb C) (o : Nat) : w.cell? ⟨cb, o, none⟩ = C.cells[o]? := by simp [World.cell?, show w.heap[cb]? = _ from h]
theorem CanAt.frozen {w : World} {cb : Nat} {C : Can} (h : CanAt w cb C) (o : Nat) : w.frozen? ⟨cb, o, none⟩ = false := by simp [World.frozen?, show w.heap[cb]? = _ from h]
theorem CanAt.lt {w : World} {cb : Nat} {C : Can} (h : CanAt w cb C) : cb < w.heap.size := (Array.getElem?_eq_some_iff.1 h).1
theorem CanAt.below {w w' : World} {cb : Nat} {C : Can} (h : CanAt w cb C) (hb : Below w.heap.size w w') : CanAt w' cb C := (hb.block cb h.lt).trans h
theorem CanAt.set {w : World} {cb : Nat} {C C' : Can} (h : CanAt w cb C) (o : Nat) (v : Value) (hc : C.cells.setIfInBounds o v = C'.cells) : CanAt (w.setCell ⟨cb, o, none⟩ v) cb C' := by
  unfold CanAt at h ⊢
  rw [← hc]
  show (w.heap.modify cb _)[cb]? = _
  rw [Array.getElem?_modify, if_pos rfl, h]
  rfl
theorem CanAt.bel {M : Nat → Prop} {w w' : World} {cb : Nat} {C : Can} (h : CanAt w cb C) (hm : ¬ M cb) (hb : Bel M w.heap.size w w') : CanAt w' cb C := (hb.block cb h.lt hm).trans h
/-- but for block cb, and what the machines M hold, all that was there is as it was -/
structure BelBut (M : Nat → Prop) (cb : Nat) (w w' : World) : Prop where
  os : w'.os = w.os
  tape : w'.tape = w.tape
  output : w'.output = w.output
  size : w.heap.size ≤ w'.heap.size
  block : ∀ k, k < w.heap.size → k ≠ cb → ¬ M k → w'.heap[k]? = w.heap[k]?
  mach : ∀ k, k < w.heap.size → M k → SameM (w.heap[k]?) (w'.heap[k]?)
theorem BelBut.of {M : Nat → Prop} {cb : Nat} {w w' : World} (h : Bel M w.heap.size w w') : BelBut M cb w w' := ⟨h.os, h.tape, h.output, h.size, fun k hk _ hm => h.block k hk hm, h.mach⟩
theorem BelBut.set {M : Nat → Prop} {cb : Nat} {w w' : World} (h : BelBut M cb w w') (hm : ¬ M cb) (o : Nat) (v : Value) : BelBut M cb w (w'.setCell ⟨cb, o, none⟩ v) :=
  ⟨h.os, h.tape, h.output, by simp [World.setCell]; exact h.size, fun k hk hne hk2 => (Below.heap_setCell _ _ _ _ hne).trans (h.block k hk hne hk2),
    fun k hk hk2 => by rw [Below.heap_setCell _ _ _ _ (show k ≠ cb from fun e => hm (e ▸ hk2))]; exact h.mach k hk hk2⟩
theorem BelBut.drew {M : Nat → Prop} {cb : Nat} {w w' : World} (h : BelBut M cb w w') : BelBut M cb w w'.drew := ⟨h.os, h.tape, h.output, h.size, h.block, h.mach⟩
/-- where cb is new, that is nothing of what was there -/
theorem Bel.but {M : Nat → Prop} {B cb : Nat} {a w w' : World} (h : Bel M B a w) (k : BelBut M cb w w') (hB : B ≤ w.heap.size) (hcb : B ≤ cb) : Bel M B a w' :=
  h.trans ⟨k.os, k.tape, k.output, k.size, fun i hi hm => k.block i (by omega) (by omega) hm, fun i hi hm => k.mach i (by omega) hm⟩
set_option maxHeartbeats 4000000 in
set_option maxRecDepth 1000000 in
theorem see_skip {cb : Nat} {w : World} {C : Can} (h : CanAt w cb C) (hv : verdict C.most C.enough C.compared C.unlike = 0) (h0 : 0 ≤ C.seen) (h1 : 1 ≤ C.every) (hs : C.seen ≤ 1000000) (hm : C.seen % C.every ≠ 0) (t : Value) (fuel : Int) :
    Calls Tryz.prog 12 #[.pointer (some ⟨cb, 0, none⟩), t, .int .i64 fuel] w fun ed w' => ed = .returned (.tuple #[.bool false, .bool false, .int .i64 0]) ∧ But cb w w' ∧ CanAt w' cb { C with seen := C.seen + 1 } := by
  obtain ⟨b1, b2, every, most, enough, seen, compared, unlike, names, allowed, cases⟩ := C
  have hvw := verdict_walk (h.cell 3) (h.cell 4) (h.cell 6) (h.cell 7)
  simp only at hv h0 h1 hs hm hvw
  rw [hv] at hvw
  clear hv
  have hz : every ≠ 0 := by omega
  have hm2 : (seen % every != 0) = true := by simpa using hm
  go_enter Tryz.func12, Tryz.ntmps12
  go_wp2_with (first
    | (go_at_call 19; refine hvw.mono ?_; rintro _ w1 ⟨rfl, hb1⟩; have hC := h.below hb1; have c5 : w1.cell? ⟨cb, 5, none⟩ = some (.int .i64 seen) := hC.cell 5; have c2 : w1.cell? ⟨cb, 2, none⟩ = some (.int .i64 every) := hC.cell 2; have f5 := hC.frozen 5)
    | go_in)
  go_region
  all_goals (try go_wp2)
  all_goals (go_ret3; exact ⟨rfl, ((But.of hb1).set 5 _).drew, hC.set 5 _ rfl⟩)
set_option maxHeartbeats 4000000 in
set_option maxRecDepth 1000000 in
/-- a text that is compared, with an error -/
theorem see_err {M : Nat → Prop} {cb : Nat} {w : World} {C : Can} (h : CanAt w cb C) (hv : verdict C.most C.enough C.compared C.unlike = 0) (h0 : 0 ≤ C.seen) (h1 : 1 ≤ C.every) (hm : C.seen % C.every = 0) (t : Value) (fuel er : Int) (her : er ≠ 0)
    (hcmp : ∀ w1, Below w.heap.size w w1 → Calls Tryz.prog 28 #[.pointer (some ⟨cb, 0, none⟩), t, .int .i64 fuel] w1 fun e w' => Bel M w1.heap.size w1 w' ∧ e = .returned (.tuple #[.slice none 0 0, .int .i64 er])) :
    Calls Tryz.prog 12 #[.pointer (some ⟨cb, 0, none⟩), t, .int .i64 fuel] w fun ed w' => ed = .returned (.tuple #[.bool false, .bool false, .int .i64 er]) ∧ Bel M w.heap.size w w' := by
  obtain ⟨b1, b2, every, most, enough, seen, compared, unlike, names, allowed, cases⟩ := C
  have hvw := verdict_walk (h.cell 3) (h.cell 4) (h.cell 6) (h.cell 7)
  simp only at hv h0 h1 hm hvw
  rw [hv] at hvw
  clear hv
  have hz : every ≠ 0 := by omega
  have hm2 : (seen % every != 0) = false := by simpa using hm
  clear hm
  go_enter Tryz.func12, Tryz.ntmps12
  go_wp2_with (first
    | (go_at_call 19; refine hvw.mono ?_; rintro _ w1 ⟨rfl, hb1⟩; have hC := h.below hb1; have c5 : w1.cell? ⟨cb, 5, none⟩ = some (.int .i64 seen) := hC.cell 5; have c2 : w1.cell? ⟨cb, 2, none⟩ = some (.int .i64 every) := hC.cell 2)
    | go_in)
  go_region
  all_goals go_wp2_with (first
    | (go_at_call 28; refine (hcmp _ hb1.drew).mono ?_; rintro _ w2 ⟨hb2, rfl⟩)
    | go_in)
  all_goals (go_ret3; exact ⟨rfl, (Bel.of hb1.drew).trans (hb2.mono hb1.size)⟩)
set_option maxHeartbeats 4000000 in
set_option maxRecDepth 1000000 in
/-- a text that is compared, and at which nothing differs -/
theorem see_same {M : Nat → Prop} {cb : Nat} {w : World} {C : Can} (hcm : ¬ M cb) (h : CanAt w cb C) (hv : verdict C.most C.enough C.compared C.unlike = 0) (h0 : 0 ≤ C.seen) (h1 : 1 ≤ C.every) (hs : C.seen ≤ 1000000) (h0c : 0 ≤ C.compared) (hsc : C.compared ≤ 1000000) (hm : C.seen % C.every = 0) (t : Value) (fuel : Int)
    (hcmp : ∀ w1, Below w.heap.size w w1 → Calls Tryz.prog 28 #[.pointer (some ⟨cb, 0, none⟩), t, .int .i64 fuel] w1 fun e w' => Bel M w1.heap.size w1 w' ∧ ∃ va vc, e = .returned (.tuple #[.slice va 0 vc, .int .i64 0])) :
    Calls Tryz.prog 12 #[.pointer (some ⟨cb, 0, none⟩), t, .int .i64 fuel] w fun ed w' => ed = .returned (.tuple #[.bool true, .bool true, .int .i64 0]) ∧ BelBut M cb w w' ∧ CanAt w' cb { C with seen := C.seen + 1, compared := C.compared + 1 } := by
  obtain ⟨b1, b2, every, most, enough, seen, compared, unlike, names, allowed, cases⟩ := C
  have hvw := verdict_walk (h.cell 3) (h.cell 4) (h.cell 6) (h.cell 7)
  simp only at hv h0 h1 hs h0c hsc hm hvw
  rw [hv] at hvw
  clear hv
  have hz : every ≠ 0 := by omega
  have hm2 : (seen % every != 0) = false := by simpa using hm
  clear hm
  go_enter Tryz.func12, Tryz.ntmps12
  go_wp2_with (first
    | (go_at_call 19; refine hvw.mono ?_; rintro _ w1 ⟨rfl, hb1⟩; have hC := h.below hb1; have c5 : w1.cell? ⟨cb, 5, none⟩ = some (.int .i64 seen) := hC.cell 5; have c2 : w1.cell? ⟨cb, 2, none⟩ = some (.int .i64 every) := hC.cell 2)
    | go_in)
  go_region
  all_goals go_wp2_with (first
    | (go_at_call 28; refine (hcmp _ hb1.drew).mono ?_; rintro _ w2 ⟨hb2, va, vc, rfl⟩; have hC2 := CanAt.bel (w := w1.drew) hC hcm hb2; have c5' : w2.cell? ⟨cb, 5, none⟩ = some (.int .i64 seen) := hC2.cell 5; have c6' : w2.cell? ⟨cb, 6, none⟩ = some (.int .i64 compared) := hC2.cell 6; have f5 := hC2.frozen 5; have f6 := hC2.frozen 6)
    | go_in)
  all_goals (refine wp_loop_rounds 1 ?_; rw [rounds_succ])
  all_goals go_wp2_with fail
  all_goals (try go_region)
  all_goals (try go_wp2_with fail)
  all_goals go_ret3
  all_goals exact ⟨rfl, ((BelBut.of ((Bel.of hb1.drew).trans (hb2.mono hb1.size))).set hcm 5 _).set hcm 6 _, (hC2.set (C' := ⟨b1, b2, every, most, enough, seen + 1, compared, unlike, names, allowed, cases⟩) 5 _ rfl).set 6 _ rfl⟩
end Go.Proofs.YtopicmcaoeameaaGreatDoor
namespace Go.Proofs.YtopicmcaoeameaaGreatDoor
open Go Go.Ev Go.RowKit

/-- a text's cell: a number between two bounds -/
def cellV (i : Nat) (c : Int × Int) : V := match ieq c.1 c.2 with | true => .int .i64 c.1 | false => .sym i .i64 c.1 c.2
/-- the classes of numbers that First tells apart here -/
def bnd (c : Nat) : Int × Int := match c with | 0 => (-9223372036854775808, -1) | 1 => (0, 96) | 2 => (97, 97) | 3 => (98, 98) | 4 => (99, 99) | 5 => (100, 255) | _ => (256, 9223372036854775807)
def cls (x : Int) : Nat := if x < 0 then 0 else if x < 97 then 1 else if x = 97 then 2 else if x = 98 then 3 else if x = 99 then 4 else if x < 256 then 5 else 6
theorem cls_lt (x : Int) : cls x < 7 := by
  unfold cls
  repeat' split
  all_goals omega
noncomputable def cellsX (c : Nat) : List V := [.int .i64 97, cellV 1 (bnd c)]
noncomputable def gloF (k c : Nat) : Glo := ⟨fun _ => [], [], [], plan k ++ [(nT, cellsX c)]⟩
/-- what First gives: start, end, found, error -/
noncomputable def firstV (k c f : Nat) : Option (Int × Int × Bool × Int) :=
  match (calOf (gloF k c)).fn 30 [.ptr (root k) 0, .sl nT 0 2 2 1, .int .i64 f, .int .i64 2000] .nil n1 with
  | .ok (.tup [.agg [.int .i64 s, .int .i64 e, v], .bool ok, .int .i64 err]) H _ => (match freeH H (nT :: (plan k).map (·.1)) with | true => (match isSl v with | true => some (s, e, ok, err) | false => none) | false => none)
  | _ => none
/-- is the machine as it was, but for what a run leaves? -/
noncomputable def machOK (H : Heap) : Bool := match H.get nMach with
  | some (.cells l) => (match veq 1000 (.agg (l.take 14)) (.agg (mach0.take 14)) with | true => Nat.beq l.length 19 | false => false)
  | _ => false
noncomputable def gloM (c : Nat) : Glo := ⟨fun _ => [], [], [], ro3 ++ [(nT, cellsX c)]⟩
noncomputable def HM : Heap := (Tr.nil : Heap).set nMach (O.cells mach0)
/-- what First gives at the text of rules 3, whose plan holds a machine -/
noncomputable def firstM (c f : Nat) : Option (Int × Int × Bool × Int) :=
  match (calOf (gloM c)).fn 30 [.ptr (root 3) 0, .sl nT 0 2 2 1, .int .i64 f, .int .i64 2000] HM n1 with
  | .ok (.tup [.agg [.int .i64 s, .int .i64 e, v], .bool ok, .int .i64 err]) H _ => (match freeH H (nT :: ro3.map (·.1)) with | true => (match isSl v with | true => (match machOK H with | true => some (s, e, ok, err) | false => none) | false => none) | false => none)
  | _ => none
noncomputable def firstR (k c f : Nat) : Option (Int × Int × Bool × Int) := match Nat.beq k 3 with | true => firstM c f | false => firstV k c f
/-- First gives something, within the text if it finds -/
noncomputable def chkF (k c f : Nat) : Bool := match firstR k c f with
  | some (s, _, ok, err) => (match ieq err 0 with | true => (match ok with | true => decide ((f : Int) ≤ s) && decide (s ≤ 2) | false => true) | false => true)
  | none => false
noncomputable def chkFs (k f : Nat) : Bool := chkF k 0 f && (chkF k 1 f && (chkF k 2 f && (chkF k 3 f && (chkF k 4 f && (chkF k 5 f && chkF k 6 f)))))
theorem chkFs_at {k f : Nat} (h : chkFs k f = true) : ∀ c, c < 7 → chkF k c f = true := by
  unfold chkFs at h
  simp only [Bool.and_eq_true] at h
  obtain ⟨h0, h1, h2, h3, h4, h5, h6⟩ := h
  intro c hc
  match c, hc with
  | 0, _ => exact h0
  | 1, _ => exact h1
  | 2, _ => exact h2
  | 3, _ => exact h3
  | 4, _ => exact h4
  | 5, _ => exact h5
  | 6, _ => exact h6
  | n + 7, h => exact absurd h (by omega)
end Go.Proofs.YtopicmcaoeameaaGreatDoor
namespace Go.Proofs.YtopicmcaoeameaaGreatDoor
open Go Go.Ev Go.RowKit

theorem plU_closed : (plL (nameOf (planU 3)) mach0 = true ∧ (ro3.all fun e => plL (nameOf (planU 3)) e.2) = true) ∧ nameOf (planU 3) nT = false ∧ nameOf (planU 3) (root 3) = true ∧ nameOf ro3 nMach = false := by decide +kernel
theorem HM_get (p : Pth) : HM.get p = if nMach = p then some (O.cells mach0) else none := by
  unfold HM
  rw [Tr.get_set]
  split
  · rfl
  · rw [Tr.get_nil]
theorem live_HM {p : Pth} (h : Live HM p) : p = nMach := by
  obtain ⟨o, h1, _⟩ := h
  rw [HM_get] at h1
  split at h1
  · rename_i e; exact e.symm
  · cases h1
theorem machOK_get {H : Heap} (h : machOK H = true) : ∃ l, H.get nMach = some (.cells l) ∧ l.take 14 = mach0.take 14 ∧ l.length = 19 := by
  unfold machOK at h
  split at h
  · rename_i l hl
    split at h
    · rename_i hv
      have := veq_eq _ _ _ hv
      injection this with this
      exact ⟨l, hl, this, Nat.eq_of_beq_eq_true h⟩
    · cases h
  · cases h
theorem rels_take {ι : Emb} : ∀ (n : Nat) (l : List V) (xs : List Value), V.rels ι l xs → V.rels ι (l.take n) (xs.take n)
  | 0, _, _, _ => rels_nil
  | n + 1, [], xs, h => by rw [rels_nil_inv h]; exact rels_nil
  | n + 1, v :: l, xs, h => by
    obtain ⟨x, t, rfl, hx, ht⟩ := rels_cons_inv h
    exact rels_cons hx (rels_take n l t ht)
/-- cells that mean just one value -/
def rigid : V → Bool | .int _ _ => true | .bool _ => true | .nilsl => true | .sl _ _ _ _ e => Nat.blt 0 e | _ => false
theorem rigid_eq {ι ι' : Emb} (hle : ι.le ι') {v : V} (hv : rigid v = true) {x y : Value} (h1 : V.rel ι v x) (h2 : V.rel ι' v y) : y = x := by
  cases v <;> simp only [rigid] at hv <;> try (cases hv; done)
  · exact (show y = _ from h2).trans (show x = _ from h1).symm
  · exact (show y = _ from h2).trans (show x = _ from h1).symm
  · exact (show y = _ from h2).trans (show x = _ from h1).symm
  · obtain ⟨b, s, c, p1, rfl, q1, q2, q3⟩ := h1
    obtain ⟨b', s', c', p1', rfl, q1', q2', q3'⟩ := h2
    have hp := hle.name _ _ p1
    rw [p1'] at hp
    cases hp
    rename_i p o m c0 e
    have he : 0 < e := by simpa using hv
    have a1 := q3 (by omega)
    have a2 := q3' (by omega)
    rw [hle.same _ _ _ p1, ← a1] at a2
    have : c' * e = c * e := by omega
    have := Nat.eq_of_mul_eq_mul_right he this
    subst this
    rfl
theorem rigids_eq {ι ι' : Emb} (hle : ι.le ι') : ∀ (l : List V) (xs ys : List Value), l.all rigid = true → V.rels ι l xs → V.rels ι' l ys → ys = xs
  | [], xs, ys, _, h1, h2 => by rw [rels_nil_inv h1, rels_nil_inv h2]
  | v :: l, xs, ys, h, h1, h2 => by
    obtain ⟨x, t, rfl, hx, ht⟩ := rels_cons_inv h1
    obtain ⟨y, u, rfl, hy, hu⟩ := rels_cons_inv h2
    simp only [List.all_cons, Bool.and_eq_true] at h
    rw [rigid_eq hle h.1 hx hy, rigids_eq hle l t u h.2 ht hu]
theorem mach_rigid : (mach0.take 14).all rigid = true := by decide +kernel
/-- a call that reads what was laid, and an input's cells, and runs the machine -/
theorem callMach {P : Program} {cal : Cal} {cells : List V} (k : CalOK P ⟨fun _ => [], [], [], ro3 ++ [(nT, cells)]⟩ cal) {f : Nat} {args : List V} {v : V} {H : Heap} {n m : Pth}
    (h : cal.fn f args HM m = .ok v H n) (hfree : freeH H (nT :: ro3.map (·.1)) = true) (hm : machOK H = true) {lo hi b mb : Nat} {w : World} (hw : Laid1 3 lo hi w b mb)
    {tb off : Nat} (htb : tb < lo ∨ hi ≤ tb) {c : Array Value} {el : TypeId} {fr : Nat × Nat} (hb : w.heap[tb]? = some (.cells c el fr)) (hle : off + cells.length ≤ c.size) (σ : Nat → Int) (tsz : Nat)
    (hc : ∀ ι : Emb, ι.sym = σ → V.rels ι cells ((c.toList.drop off).take cells.length)) (xs : Array Value)
    (hxs : ∀ ι : Emb, ι (root 3) = some (b, 0) → ι nT = some (tb, off) → ι.size tb = tsz → ι.sym = σ → V.rels ι args xs.toList) :
    Calls P f xs w fun e w1 => ∃ x ι', e = .returned x ∧ V.rel ι' v x ∧ Bel (fun k => k = mb) w.heap.size w w1 := by
  obtain ⟨ι, hro, hr, hin, hma⟩ := hw
  obtain ⟨hm1, mc, mel, mfr, hm2, hm3, hm4⟩ := hma rfl
  obtain ⟨⟨cl1, cl2⟩, hT, hroot, hnm⟩ := plU_closed
  have hmn : nameOf (planU 3) nMach = true := nameOf_iff.2 ⟨(nMach, mach0), List.mem_cons_self .., rfl⟩
  let ι' : Emb := ⟨fun p => if nT = p then some (tb, off) else if nameOf (planU 3) p = true then ι p else none, fun x => if x = tb then tsz else ι.size x, σ⟩
  have eT : ι' nT = some (tb, off) := by show (if nT = nT then some (tb, off) else if nameOf (planU 3) nT = true then ι nT else none) = _; rw [if_pos rfl]
  have eN : ∀ p, nameOf (planU 3) p = true → ι' p = ι p := fun p hp => by
    have hne : nT ≠ p := fun e => by rw [e, hp] at hT; cases hT
    show (if nT = p then some (tb, off) else if nameOf (planU 3) p = true then ι p else none) = _
    rw [if_neg hne, if_pos hp]
  have hmem : ∀ p, nameOf (planU 3) p = true → ∀ c s, ι p = some (c, s) → c ≠ tb := fun p hp c s hc e => by
    obtain ⟨x, hx, rfl⟩ := nameOf_iff.1 hp
    obtain ⟨l1, l2, _⟩ := hin x hx c s hc
    rw [e] at l1 l2
    rcases htb with h | h
    · exact Nat.not_le_of_lt h l1
    · exact Nat.not_le_of_lt l2 h
  have hmove : ∀ p b s, nameOf (planU 3) p = true → ι p = some (b, s) → ι' p = some (b, s) ∧ ι'.size b = ι.size b := fun p x s hp hx =>
    ⟨(eN p hp).trans hx, by show (if x = tb then tsz else ι.size x) = _; rw [if_neg (hmem p hp x s hx)]⟩
  have hlt : ∀ p b s, ι' p = some (b, s) → b < w.heap.size := fun p x s hx => by
    by_cases e : nT = p
    · subst e
      rw [eT] at hx
      cases hx
      exact (Array.getElem?_eq_some_iff.1 hb).1
    · by_cases hp : nameOf (planU 3) p = true
      · rw [eN p hp] at hx
        obtain ⟨y, hy, rfl⟩ := nameOf_iff.1 hp
        obtain ⟨b', s', c', el', fr', h1, h2, _⟩ := hro y hy
        rw [hx] at h1
        cases h1
        exact (Array.getElem?_eq_some_iff.1 h2).1
      · have : ι' p = none := by show (if nT = p then some (tb, off) else if nameOf (planU 3) p = true then ι p else none) = _; rw [if_neg e, if_neg hp]
        rw [this] at hx; cases hx
  have eM : ι' nMach = some (mb, 0) := (eN _ hmn).trans hm1
  have hmtb : mb ≠ tb := hmem nMach hmn mb 0 hm1
  have hmlt : mb < w.heap.size := (Array.getElem?_eq_some_iff.1 hm2).1
  have hmr : V.rels ι' mach0 ((mc.toList.drop 0).take mach0.length) := by
    obtain ⟨b', s', c', el', fr', h1, h2, h3⟩ := hro (nMach, mach0) (List.mem_cons_self ..)
    rw [hm1] at h1
    cases h1
    rw [hm2] at h2
    cases h2
    exact V.rels.move hmove _ _ cl1 h3
  have hsz : ι'.size mb = mc.size := by show (if mb = tb then tsz else ι.size mb) = _; rw [if_neg hmtb]; exact hm4
  have hHOK : HOK P ι' HM w := by
    refine ⟨fun p o ho => ?_, fun p q b s s' hp hq _ _ => (live_HM hp).trans (live_HM hq).symm, hlt⟩
    rw [HM_get] at ho
    split at ho
    · rename_i e
      subst e
      cases ho
      exact ⟨mb, 0, mc, mel, mfr, eM, hm2, hm3, hmr, hsz, rfl⟩
    · cases ho
  have hro' : ∀ e ∈ ro3, ∃ b s c el fr, ι' e.1 = some (b, s) ∧ w.heap[b]? = some (Obj.cells c el fr) ∧ V.rels ι' e.2 ((c.toList.drop s).take e.2.length) ∧ b ≠ mb := fun e he => by
    have he' : e ∈ planU 3 := List.mem_cons_of_mem _ he
    obtain ⟨b', s', c', el', fr', h1, h2, h3⟩ := hro e he'
    have hn : nameOf (planU 3) e.1 = true := nameOf_iff.2 ⟨e, he', rfl⟩
    refine ⟨b', s', c', el', fr', (eN _ hn).trans h1, h2, V.rels.move hmove _ _ (by have := List.all_eq_true.1 cl2 e he; exact this) h3, fun eb => ?_⟩
    have := ((hin e he' b' s' h1).2.2.1 eb).2
    have h5 : nameOf ro3 nMach = true := nameOf_iff.2 ⟨e, he, this⟩
    rw [hnm] at h5
    cases h5
  obtain ⟨_, _, hk⟩ := k.fn _ _ _ _ _ _ _ h
  refine (hk ι' w xs hHOK ⟨fun g i v h => by simp at h, fun g h => absurd rfl h, fun e he => by simp at he, fun e he => by simp at he, fun e he => by simp at he, fun e he => ?_⟩ (fun p h1 h2 => ?_)
    (hxs ι' ((eN _ hroot).trans hr) eT (by show (if tb = tb then tsz else ι.size tb) = _; rw [if_pos rfl]) rfl)).mono fun e w1 he => ?_
  · rcases List.mem_append.1 he with he | he
    · obtain ⟨b', s', c', el', fr', h1, h2, h3, h4⟩ := hro' e he
      refine ⟨b', s', c', el', fr', h1, h2, h3, fun q t hl hq => ?_⟩
      rw [live_HM hl, eM] at hq
      cases hq
      exact h4 rfl
    · simp only [List.mem_singleton] at he
      subst he
      refine ⟨tb, off, c, el, fr, eT, hb, hc ι' rfl, fun q t hl hq => ?_⟩
      rw [live_HM hl, eM] at hq
      cases hq
      exact hmtb rfl
  · cases hp : ι' p with
    | none => rfl
    | some z =>
      exfalso
      by_cases e : nT = p
      · subst e
        exact h2 (freeH_ok hfree nT (List.mem_cons_self ..))
      · by_cases hn : nameOf (planU 3) p = true
        · obtain ⟨y, hy, rfl⟩ := nameOf_iff.1 hn
          rcases List.mem_cons.1 (show y ∈ (nMach, mach0) :: ro3 from hy) with rfl | hy'
          · rw [HM_get, if_pos rfl] at h1
            cases h1
          · exact h2 (freeH_ok hfree y.1 (List.mem_cons_of_mem _ (List.mem_map.2 ⟨y, hy', rfl⟩)))
        · have : ι' p = none := by show (if nT = p then some (tb, off) else if nameOf (planU 3) p = true then ι p else none) = _; rw [if_neg e, if_neg hn]
          rw [this] at hp; cases hp
  · obtain ⟨x, rfl, ι'', hv', hs⟩ := he
    refine ⟨x, ι'', rfl, hv', hs.os, hs.tape, hs.out, hs.size, fun b hb hne => hs.kept b hb fun p s hl hp => ?_, fun b hb e => ?_⟩
    · rw [live_HM hl, eM] at hp
      cases hp
      exact hne rfl
    · subst e
      obtain ⟨l, hl1, hl2, hl3⟩ := machOK_get hm
      obtain ⟨b', s', c', el', fr', h1, h2, h3, h4, h5, h6⟩ := hs.hok.obj _ _ hl1
      rw [hs.ext.name _ _ eM] at h1
      cases h1
      have hsz' : c'.size = mc.size := by rw [← h5, hs.ext.same _ _ _ eM, hsz]
      refine .inr ⟨mc, c', mel, el', mfr, fr', hm2, h2, h3, hsz', fun i hi => ?_⟩
      have hm19 : mach0.length = 19 := rfl
      have r1 := rels_take 14 _ _ hmr
      have r2 := rels_take 14 _ _ h4
      rw [hl2] at r2
      have heq := rigids_eq hs.ext _ _ _ mach_rigid r1 r2
      rw [hl3, hm19, List.drop_zero, List.drop_zero, List.take_take, List.take_take] at heq
      have := congrArg (fun l => l[i]?) heq
      simp only [List.getElem?_take] at this
      rw [if_pos (by omega), if_pos (by omega), Array.getElem?_toList, Array.getElem?_toList] at this
      exact this
end Go.Proofs.YtopicmcaoeameaaGreatDoor
namespace Go.Proofs.YtopicmcaoeameaaGreatDoor
open Go Go.Ev Go.RowKit

/-- an argument that is a slice of numbers -/
structure SlArg (w : World) (x : Value) (l : List Int) : Prop where
  val : ∃ a c, x = .slice a l.length c ∧ (l ≠ [] → ∃ b off, a = some ⟨b, off, none⟩ ∧ b < w.heap.size ∧ ∀ (i : Nat) (z : Int), l[i]? = some z → w.cell? ⟨b, off + i, none⟩ = some (.int .i64 z))
  len : l.length ≤ 9223372036854775807
  bd : ∀ z ∈ l, -9223372036854775808 ≤ z ∧ z ≤ 9223372036854775807
theorem SlArg.below {w w' : World} {x : Value} {l : List Int} (h : SlArg w x l) (hb : Below w.heap.size w w') : SlArg w' x l := by
  obtain ⟨a, c, hx, h1⟩ := h.val
  refine ⟨⟨a, c, hx, fun hl => ?_⟩, h.len, h.bd⟩
  obtain ⟨b, off, ha, hb1, h2⟩ := h1 hl
  exact ⟨b, off, ha, Nat.lt_of_lt_of_le hb1 hb.size, fun i z hz => (hb.cell (p := ⟨b, off + i, none⟩) hb1).trans (h2 i z hz)⟩
set_option maxRecDepth 1000000 in
theorem around_walk (z : Int) (m : Nat) (w : World) (hm : 0 < m) (h1 : -9223372036854775808 ≤ z) (h2 : z ≤ 9223372036854775807) (h3 : (m : Int) ≤ 1000000) :
    Calls Tryz.prog 18 #[.int .i64 z, .int .i64 (m : Int)] w fun e w' => e = .returned (.int .i64 (arnd z m)) ∧ w' = w := by
  go_enter Tryz.func18, Tryz.ntmps18
  go_wp2
  · rename_i hn
    go_ret
    refine ⟨?_, rfl⟩
    unfold arnd
    rw [if_pos hn, ← Int.neg_tmod, Int.tmod_eq_emod_of_nonneg (by omega)]; rfl
  · rename_i hn
    go_ret
    refine ⟨?_, rfl⟩
    unfold arnd
    rw [if_neg (by omega)]; rfl
def pickZ (l : List Int) (i m : Nat) : Int := match l[i]? with | some z => arnd z m | none => 0
theorem pickZ_bd (l : List Int) (i : Nat) {m : Nat} (hm : 0 < m) : 0 ≤ pickZ l i m ∧ pickZ l i m < m := by
  unfold pickZ
  split
  · unfold arnd
    exact ⟨Int.emod_nonneg _ (by omega), Int.emod_lt_of_pos _ (by omega)⟩
  · omega
set_option maxRecDepth 1000000 in
theorem pick_walk {w : World} {x : Value} {l : List Int} (h : SlArg w x l) (i m : Nat) (hi : i ≤ 1000) (hm : 0 < m) (hm2 : (m : Int) ≤ 1000000) :
    Calls Tryz.prog 41 #[x, .int .i64 (i : Int), .int .i64 (m : Int)] w fun e w' => e = .returned (.int .i64 (pickZ l i m)) ∧ Below w.heap.size w w' := by
  obtain ⟨a, c, rfl, h1⟩ := h.val
  have hlen := h.len
  obtain ⟨X, hX⟩ : ∃ X, pickZ l i m = X := ⟨_, rfl⟩
  rw [hX]
  by_cases hil : i < l.length
  · obtain ⟨b, off, rfl, hb, h2⟩ := h1 (by intro e; rw [e] at hil; simp at hil)
    have hc := h2 i l[i] (List.getElem?_eq_getElem hil)
    have hbd := h.bd l[i] (List.getElem_mem hil)
    have hx : X = arnd l[i] m := by rw [← hX, pickZ, List.getElem?_eq_getElem hil]
    subst hx
    clear hX
    obtain ⟨z, hz⟩ : ∃ z, l[i] = z := ⟨_, rfl⟩
    rw [hz] at hc hbd ⊢
    clear hz h1 h2
    have ha := fun w' => around_walk z m w' hm hbd.1 hbd.2 hm2
    go_enter Tryz.func41, Tryz.ntmps41
    go_wp2_with (first
      | (go_at_call 18; refine (ha _).mono ?_; rintro _ w1 ⟨rfl, rfl⟩)
      | go_in)
    go_ret
    exact ⟨rfl, Below.refl _ _⟩
  · have hx : X = 0 := by rw [← hX, pickZ, List.getElem?_eq_none (by omega)]
    subst hx
    clear hX
    go_enter Tryz.func41, Tryz.ntmps41
    go_wp2_with fail
    go_ret
    exact ⟨rfl, Below.refl _ _⟩
end Go.Proofs.YtopicmcaoeameaaGreatDoor
namespace Go.Proofs.YtopicmcaoeameaaGreatDoor
open Go Go.Ev Go.RowKit Go.Smap

/-- Text's table of symbols -/
def syms : List Int := [97, 97, 97, 98, 98, 99, 97, 98, 10, 32, 65, 200]
theorem sym_at {w : World} {B q : Nat} (h : w.heap[B]? = some (.cells #[.int .i64 97, .int .i64 97, .int .i64 97, .int .i64 98, .int .i64 98, .int .i64 99, .int .i64 97, .int .i64 98, .int .i64 10, .int .i64 32, .int .i64 65, .int .i64 200] 3 (0, 0))) (hq : q < 12) :
    ∃ s, w.cell? ⟨B, q, none⟩ = some (.int .i64 s) ∧ s ∈ syms := by
  have hc : w.cell? ⟨B, q, none⟩ = (#[Value.int .i64 97, .int .i64 97, .int .i64 97, .int .i64 98, .int .i64 98, .int .i64 99, .int .i64 97, .int .i64 98, .int .i64 10, .int .i64 32, .int .i64 65, .int .i64 200])[q]? := by
    simp [World.cell?, h]
  match q, hq with
  | 0, _ => exact ⟨_, hc, by decide⟩
  | 1, _ => exact ⟨_, hc, by decide⟩
  | 2, _ => exact ⟨_, hc, by decide⟩
  | 3, _ => exact ⟨_, hc, by decide⟩
  | 4, _ => exact ⟨_, hc, by decide⟩
  | 5, _ => exact ⟨_, hc, by decide⟩
  | 6, _ => exact ⟨_, hc, by decide⟩
  | 7, _ => exact ⟨_, hc, by decide⟩
  | 8, _ => exact ⟨_, hc, by decide⟩
  | 9, _ => exact ⟨_, hc, by decide⟩
  | 10, _ => exact ⟨_, hc, by decide⟩
  | 11, _ => exact ⟨_, hc, by decide⟩
  | n + 12, h => exact absurd h (by omega)
theorem info3 : (Tryz.prog.info? 3).map (fun i => (i.zero, i.size, i.bytes)) = some (some (.int .i64 0), 1, 8) := by kernel_rfl
set_option maxHeartbeats 8000000 in
set_option maxRecDepth 1000000 in
theorem text_walk {w : World} {v : Value} {l : List Int} (h : SlArg w v l) (most : Nat) (hmo : most ≤ 5) :
    Calls Tryz.prog 27 #[v, .int .i64 (most : Int)] w fun e w' => ∃ (v' : Value) (t : List Int), e = .returned v' ∧ w'.ownsRow w.heap.size 3 1 v' t.length (t.map (Value.int .i64)) ∧ t.length = min l.length most ∧ (∀ x ∈ t, x ∈ syms) ∧ Below w.heap.size w w' := by
  obtain ⟨i0, hi0, hz0, hz1, hz2⟩ := info_parts info3
  have hll := h.len
  obtain ⟨va, vc, rfl, _⟩ := h.val
  go_enter Tryz.func27, Tryz.ntmps27
  go_wp2
  go_loopw [5, 6] (fun v' i wr => ∃ (j : Nat) (t : List Int), j ≤ min l.length most ∧ t.length = j ∧ i = .int .i64 j ∧ wr.ownsRow w.heap.size 3 1 v' j (t.map (Value.int .i64)) ∧ (∀ x ∈ t, x ∈ syms) ∧ Below w.heap.size w wr) (fun _ i _ => min l.length most - (intOf i).toNat)
  case atStart => exact ⟨0, [], Nat.zero_le _, rfl, rfl, World.ownsRow_nil _ _ _ _, fun x hx => by simp at hx, Below.refl _ _⟩
  case round =>
    obtain ⟨j, t, hj, ht, rfl, hown, hsy, hbel⟩ := hrel
    have hsz := hbel.size
    by_cases hjl : j < min l.length most
    · have hj1 : j < l.length := by omega
      have hj2 : j < most := by omega
      obtain ⟨pa, pb⟩ := pickZ_bd l j (m := 12) (by omega)
      obtain ⟨p, hp⟩ : ∃ p : Nat, pickZ l j 12 = p := Int.eq_ofNat_of_zero_le pa
      have hp12 : p < 12 := by omega
      have hpk := fun o => pick_walk (h.below (hbel.alloc hsz o)) j 12 (by omega) (by omega) (by omega)
      rw [hp] at hpk
      simp only [Int.cast_ofNat_Int] at hpk
      clear hp pa pb
      go_wp2_with (first
        | (go_at_call 41; refine (hpk _).mono ?_; rintro _ w1 ⟨rfl, hb1⟩; have htab := (hb1.block wr.heap.size (by simp)).trans (heap_alloc_new wr _); obtain ⟨s, hs, hsm⟩ := sym_at htab hp12; have hown1 := owns_below (hown.alloc _) hb1; have hs1 := hb1.size)
        | (at_builtin; refine wpList_append_own _ rfl _ _ 22 rfl w.heap.size 3 i0 _ 1 8 Tryz.underlying22 hi0 hz0 hz1 hz2 rfl (by decide) _ _ _ rfl (hown1.alloc _) ⟨w1.heap.size, 0, none⟩ 1 1 [.int .i64 s] rfl rfl ?c1 ?c2 ?c3 ?c4 ?c5 ?_)
        | go_in)
      case c1 =>
        intro l' u hl
        exact new_cells w1 _ 3 rfl rfl hl
      case c2 => intro u hu; simp at hu; subst hu; rfl
      case c3 => unfold maxLen; omega
      case c4 => omega
      case c5 => simp at hs1 ⊢; omega
      · intro v' w2 hown2 hgrow _
        simp at hs1
        have hlt := World.ownsRow.lt hown
        have hb2 : Below w.heap.size w w2 := (((hbel.alloc hsz _).trans (hb1.mono (by simp; omega))).alloc (by omega) _).grown hgrow (by simp; omega) fun x hx => (hlt x hx).1
        have hown3 : w2.ownsRow w.heap.size 3 1 v' (j + 1) ((t ++ [s]).map (Value.int .i64)) := by simpa using hown2
        clear hgrow hown2 hown1 hown
        go_wp2
        go_roundw
        case rel => exact ⟨j + 1, t ++ [s], hjl, by simp [ht], by go_num, hown3, fun x hx => by
          rcases List.mem_append.1 hx with hx | hx
          · exact hsy x hx
          · simp only [List.mem_singleton] at hx; subst hx; exact hsm, hb2⟩
        case measure => simp [intOf]; omega
    · have hje : j = min l.length most := by omega
      by_cases hj1 : j < l.length
      · have hj2 : ¬ j < most := by omega
        go_wp2_with fail
        go_ret
        exact ⟨_, t, rfl, by rw [ht]; exact hown, by omega, hsy, hbel⟩
      · go_wp2_with fail
        go_ret
        exact ⟨_, t, rfl, by rw [ht]; exact hown, by omega, hsy, hbel⟩
/-- an argument that is a slice of numbers, its capacity said -/
structure SlCap (w : World) (x : Value) (l : List Int) : Prop where
  arg : SlArg w x l
  cap : ∃ a c, x = .slice a l.length c ∧ l.length ≤ c ∧ c ≤ 9223372036854775807
/-- a list of texts: each one's value and symbols -/
structure TextsAt (w : World) (base : Nat) (v : Value) (ts : List (Value × List Int)) : Prop where
  row : w.ownsRow base 22 1 v ts.length (ts.map (·.1))
  each : ∀ p ∈ ts, w.ownsRow base 3 1 p.1 p.2.length (p.2.map (Value.int .i64)) ∧ 1 ≤ p.2.length ∧ p.2.length ≤ 5 ∧ (∀ x ∈ p.2, x ∈ syms) ∧ ∃ a c, p.1 = .slice a p.2.length c
theorem rows_apart {w : World} {b1 b2 n m : Nat} {V p : Value} {X Y : List Value} (h1 : w.ownsRow b1 22 1 V n X) (h2 : w.ownsRow b2 3 1 p m Y) : p.ownBlock = none ∨ p.ownBlock ≠ V.ownBlock := by
  rcases h2.2 with ⟨rfl, _⟩ | ⟨g, cap, cur, rfl, _, h3, _⟩
  · exact .inl rfl
  · exact .inr (not_row h1 h3 (by decide))
theorem info22 : (Tryz.prog.info? 22).map (fun i => (i.zero, i.size, i.bytes)) = some (some (.slice none 0 0), 1, 24) := by kernel_rfl
set_option maxHeartbeats 8000000 in
set_option maxRecDepth 1000000 in
theorem texts_walk {w : World} {v : Value} {l : List Int} (hc : SlCap w v l) :
    Calls Tryz.prog 11 #[v] w fun e w' => ∃ (v' : Value) (ts : List (Value × List Int)), e = .returned v' ∧ TextsAt w' w.heap.size v' ts ∧ ts.length ≤ 10 ∧ Below w.heap.size w w' := by
  obtain ⟨i0, hi0, hz0, hz1, hz2⟩ := info_parts info22
  have h := hc.arg
  obtain ⟨va, vc, rfl, hlc, hc63⟩ := hc.cap
  have hll := h.len
  obtain ⟨a', c', e', hcell⟩ := h.val
  cases e'
  go_enter Tryz.func11, Tryz.ntmps11
  go_wp2
  go_loopw [3, 4] (fun v' i wr => ∃ (j : Nat) (ts : List (Value × List Int)), j ≤ min l.length 10 ∧ ts.length = j ∧ i = .int .i64 j ∧ TextsAt wr w.heap.size v' ts ∧ Below w.heap.size w wr) (fun _ i _ => min l.length 10 - (intOf i).toNat)
  case atStart => exact ⟨0, [], Nat.zero_le _, rfl, rfl, ⟨World.ownsRow_nil _ _ _ _, fun p hp => by simp at hp⟩, Below.refl _ _⟩
  case round =>
    obtain ⟨j, ts, hj, hts, rfl, hT, hbel⟩ := hrel
    have hsz := hbel.size
    by_cases hjl : j < min l.length 10
    · have hj1 : j < l.length := by omega
      have hj2 : j < 10 := by omega
      obtain ⟨b, off, rfl, hb, hcl⟩ := hcell (by intro e; rw [e] at hj1; simp at hj1)
      have hsub : SlArg w (.slice (some ⟨b, off + j, none⟩) (l.length - j) (vc - j)) (l.drop j) := by
        refine ⟨⟨_, _, by rw [List.length_drop], fun _ => ⟨b, off + j, rfl, hb, fun i z hz => ?_⟩⟩, by rw [List.length_drop]; omega, fun z hz => h.bd z (List.mem_of_mem_drop hz)⟩
        rw [List.getElem?_drop] at hz
        have := hcl (j + i) z hz
        rw [Nat.add_assoc]
        exact this
      have htx := text_walk (hsub.below hbel) (1 + j % 5) (by omega)
      have hrow := hT.row
      rw [hts] at hrow
      go_wp2_with (first
        | (go_at_call 27; refine htx.mono ?_; rintro _ w1 ⟨v1, t, rfl, hown1, hlen1, hsy1, hb1⟩; have hl5 : 1 ≤ t.length ∧ t.length ≤ 5 := (by { rw [hlen1, List.length_drop]; omega }); clear hlen1; obtain ⟨a1, k1, rfl, _⟩ := owns_shape hown1; have hrow1 := owns_below hrow hb1; have hs1 := hb1.size)
        | (at_builtin; refine wpList_append_own _ rfl _ _ 35 rfl w.heap.size 22 i0 _ 1 24 Tryz.underlying35 hi0 hz0 hz1 hz2 rfl (by decide) _ _ _ rfl (hrow1.alloc _) ⟨w1.heap.size, 0, none⟩ 1 1 [.slice a1 t.length k1] rfl rfl ?c1 ?c2 ?c3 ?c4 ?c5 ?_)
        | go_in)
      case c1 =>
        intro l' u hl
        exact new_cells w1 _ 22 rfl rfl hl
      case c2 => intro u hu; simp at hu; subst hu; rfl
      case c3 => unfold maxLen; omega
      case c4 => omega
      case c5 => simp; omega
      · intro v' w2 hown2 hgrow _
        have hlt := World.ownsRow.lt hrow
        have hb2 : Below w.heap.size w w2 := ((hbel.trans (hb1.mono hsz)).alloc (by omega) _).grown hgrow (by simp; omega) fun x hx => (hlt x hx).1
        have hT2 : TextsAt w2 w.heap.size v' (ts ++ [(.slice a1 t.length k1, t)]) := by
          refine ⟨by simpa [hts] using hown2, fun p hp => ?_⟩
          rcases List.mem_append.1 hp with hp | hp
          · obtain ⟨q1, q2⟩ := hT.each p hp
            exact ⟨((owns_below q1 hb1).alloc _).kept hgrow (rows_apart hrow1 (owns_below q1 hb1)), q2⟩
          · simp only [List.mem_singleton] at hp
            subst hp
            exact ⟨((owns_base hown1 hsz).alloc _).kept hgrow (rows_apart hrow1 hown1), hl5.1, hl5.2, hsy1, a1, k1, rfl⟩
        clear hgrow hown2 hown1 hrow1
        go_wp2
        go_roundw
        case rel => exact ⟨j + 1, _, hjl, by simp [hts], by go_num, hT2, hb2⟩
        case measure => simp [intOf]; omega
    · have hje : j = min l.length 10 := by omega
      by_cases hj1 : j < l.length
      · have hj2 : ¬ j < 10 := by omega
        go_wp2_with fail
        go_ret
        exact ⟨_, ts, rfl, hT, by omega, hbel⟩
      · go_wp2_with fail
        go_ret
        exact ⟨_, ts, rfl, hT, by omega, hbel⟩
end Go.Proofs.YtopicmcaoeameaaGreatDoor
namespace Go.Proofs.YtopicmcaoeameaaGreatDoor
open Go Go.Ev Go.RowKit

theorem results_cell_row2 {fn : Func} {p u q : Tmp} (h : fn.results = #[.cell p 84, .tmp u, .tmp q]) (tmps : Array Value) (w : World) (g : Nat) (t : TypeId) (cs : Array Value) (fr : Nat × Nat)
    (hp : tmps.getD p undef = .pointer (some ⟨g, 0, none⟩)) (hg : w.heap[g]? = some (.cells cs t fr)) (hi : (Tryz.prog.info? 84).map (·.size) = some cs.size) :
    (results fn tmps).run Tryz.prog w = .ok (.tuple #[.agg cs, tmps.getD u undef, tmps.getD q undef]) w := by
  have hp' : tmps[p]?.getD undef = .pointer (some ⟨g, 0, none⟩) := by simpa using hp
  simp [results, h, hp', asAddr, run_loadVar_row w g t 84 cs fr _ hg Tryz.underlying84 rfl hi]
theorem set3 {w : World} {b : Nat} {x0 x1 x2 : Value} {t : TypeId} {fr : Nat × Nat} (h : w.heap[b]? = some (.cells #[x0, x1, x2] t fr)) (v0 v1 v2 : Value) : (((w.setCell ⟨b, 0, none⟩ v0).setCell ⟨b, 1, none⟩ v1).setCell ⟨b, 2, none⟩ v2).heap[b]? = some (.cells #[v0, v1, v2] t fr) := by
  simp [World.setCell, Array.getElem?_modify, h]
theorem size84 : (Tryz.prog.info? 84).map (·.size) = some 3 := by kernel_rfl
/-- what First gives, by what the runs give at each position: found, end -/
def goR (R : Nat → Bool × Int) (n f : Nat) : FR := if f ≤ n then (if (R f).1 = true then ⟨f, (R f).2, true, 0⟩ else goR R n (f + 1)) else ⟨0, 0, false, 0⟩
termination_by n + 1 - f
theorem goR_err (R : Nat → Bool × Int) (n : Nat) : ∀ (d f : Nat), n + 1 - f ≤ d → (goR R n f).err = 0 ∧ ((goR R n f).ok = true → (f : Int) ≤ (goR R n f).s ∧ (goR R n f).s ≤ n)
  | 0, f, h => by
    rw [goR, if_neg (by omega)]
    exact ⟨rfl, fun h => by cases h⟩
  | d + 1, f, h => by
    rw [goR]
    split
    · split
      · exact ⟨rfl, fun _ => ⟨Int.le_refl _, by show (f : Int) ≤ n; omega⟩⟩
      · obtain ⟨h1, h2⟩ := goR_err R n d (f + 1) (by omega)
        exact ⟨h1, fun h => by have := h2 h; omega⟩
    · exact ⟨rfl, fun h => by cases h⟩
set_option maxHeartbeats 16000000 in
set_option maxRecDepth 1000000 in
theorem first_walk {M : Nat → Prop} {pb g1 g2 m c1 c2 c3 n tc from' : Nat} {ta : Option Addr} {w : World} {es : List Int} {pv rv0 : Value} {OK : World → Value → Prop} {R : Nat → Bool × Int} (hMw : ∀ k, M k → k < w.heap.size) (hpb : pb < w.heap.size) (hpm : ¬ M pb) (hg1 : g1 < w.heap.size) (hg1m : ¬ M g1)
    (k0 : w.cell? ⟨pb, 0, none⟩ = some (.bool false)) (k1 : w.cell? ⟨pb, 1, none⟩ = some (.slice (some ⟨g1, g2, none⟩) es.length c1)) (k3 : w.cell? ⟨pb, 3, none⟩ = some rv0) (hes : ∀ (i : Nat) (e : Int), es[i]? = some e → e ≠ 5 ∧ w.cell? ⟨g1, g2 + i, none⟩ = some (.int .i64 e)) (hel : es.length ≤ 100)
    (hte : ∀ w', Below w.heap.size w w' → Calls Tryz.prog 45 #[.bool false, .slice ta n tc, .int .i64 from', .int .i64 2000] w' fun e w1 => e = .returned (.int .i64 0) ∧ Below w'.heap.size w' w1)
    (hcl : ∀ w', Below w.heap.size w w' → Calls Tryz.prog 46 #[rv0] w' fun e w1 => ∃ rv, e = .returned rv ∧ Below w'.heap.size w' w1 ∧ OK w1 rv)
    (hOK : ∀ w1 w2 rv, OK w1 rv → Bel M w1.heap.size w1 w2 → OK w2 rv)
    (hn : n ≤ 1000) (hf : from' ≤ n)
    (hpos : ∀ at' ≤ n, ∀ w' rv, Bel M w.heap.size w w' → OK w' rv → Calls Tryz.prog 48 #[rv, .slice ta n tc, .int .i64 at', .int .i64 2000] w' fun e w1 => ∃ s e' ca cm cc, e = .returned (.tuple #[.agg #[.int .i64 s, .int .i64 e', .slice ca cm cc], .bool (R at').1, .int .i64 0]) ∧ ((R at').1 = true → s = at' ∧ e' = (R at').2) ∧ Bel M w'.heap.size w' w1) :
    Calls Tryz.prog 30 #[.pointer (some ⟨pb, 0, none⟩), .slice ta n tc, .int .i64 from', .int .i64 2000] w fun e w1 =>
      ∃ ca cm cc, e = .returned (.tuple #[.agg #[.int .i64 (goR R n from').s, .int .i64 (goR R n from').e, .slice ca cm cc], .bool (goR R n from').ok, .int .i64 (goR R n from').err]) ∧ Bel M w.heap.size w w1 := by
  obtain ⟨X, hX⟩ : ∃ X, goR R n from' = X := ⟨_, rfl⟩
  rw [hX]
  have HX : Hid (goR R n from' = X) := hX
  clear hX
  have hA : Below w.heap.size w (w.alloc (.cells #[.int .i64 0, .int .i64 0, .slice none 0 0] 84)) := (Below.refl _ _).alloc (Nat.le_refl _) _
  have hte0 := hte _ hA
  have k0' := (hA.cell (p := ⟨pb, 0, none⟩) hpb).trans k0
  go_enter Tryz.func30, Tryz.ntmps30
  go_wp2_with (first
    | (go_at_call 45; refine hte0.mono ?_; clear hte0; rintro _ w1 ⟨rfl, hb1⟩; have hB1 : Below w.heap.size w w1 := hA.trans (hb1.mono hA.size); have k3' := (hB1.cell (p := ⟨pb, 3, none⟩) hpb).trans k3; have hcl1 := hcl w1 hB1)
    | (go_at_call 46; refine hcl1.mono ?_; clear hcl1; rintro _ w2 ⟨rv, rfl, hb2, hok2⟩; have hB2 : Below w.heap.size w w2 := hB1.trans (hb2.mono hB1.size); have k1' := (hB2.cell (p := ⟨pb, 1, none⟩) hpb).trans k1))
  have s1 := hb1.size
  have s2 := hb2.size
  simp at s1
  have hres2 : w2.heap[w.heap.size]? = some (.cells #[.int .i64 0, .int .i64 0, .slice none 0 0] 84 (0, 0)) := (hb2.block _ (by omega)).trans ((hb1.block _ (by simp)).trans (heap_alloc_new w _))
  go_loopw [41] (fun i wr => ∃ j : Nat, j ≤ es.length ∧ i = .int .i64 j ∧ wr = w2) (fun i _ => es.length - (intOf i).toNat)
  case atStart => exact ⟨0, Nat.zero_le _, rfl, by first | rfl | trivial⟩
  case round =>
    obtain ⟨j, hj, rfl, rfl⟩ := hrel
    by_cases hjl : j < es.length
    · obtain ⟨hne, hce⟩ := hes j es[j] (List.getElem?_eq_getElem hjl)
      have hce' := (hB2.cell (p := ⟨g1, g2 + j, none⟩) hg1).trans hce
      obtain ⟨e0, he0⟩ : ∃ e0, es[j] = e0 := ⟨_, rfl⟩
      rw [he0] at hne hce'
      clear he0 hce
      go_wp2_with fail
      go_roundw
      case rel => exact ⟨j + 1, hjl, by go_num, by first | rfl | trivial⟩
      case measure => simp [intOf]; omega
    · have hje : j = es.length := by omega
      subst hje
      go_wp2_with fail
      go_loopw [15] (fun i wr => ∃ a : Nat, from' ≤ a ∧ a ≤ n + 1 ∧ i = .int .i64 a ∧ Bel M w.heap.size w wr ∧ wr.heap[w.heap.size]? = some (.cells #[.int .i64 0, .int .i64 0, .slice none 0 0] 84 (0, 0)) ∧ OK wr rv ∧ Hid (goR R n from' = goR R n a) ∧ w.heap.size + 1 ≤ wr.heap.size) (fun i _ => n + 1 - (intOf i).toNat)
      case atStart => exact ⟨from', Nat.le_refl _, by omega, rfl, Bel.of hB2, hres2, hok2, rfl, by omega⟩
      case round =>
        obtain ⟨a, ha1, ha2, rfl, hbel, hres, hok, hgo, hsz⟩ := hrel
        by_cases han : a ≤ n
        · have hp := hpos a han _ _ hbel hok
          have hM0 : ¬ M w.heap.size := fun e => Nat.lt_irrefl _ (hMw _ e)
          obtain ⟨q, hq⟩ : ∃ q, (R a).1 = q := ⟨_, rfl⟩
          rw [hq] at hp
          cases q with
          | true =>
            have hx : X = ⟨a, (R a).2, true, 0⟩ := by
              rw [← HX.out, hgo.out, goR, if_pos han, if_pos hq]
            go_wp2_with (first
              | (go_at_call 48; refine hp.mono ?_; clear hp; rintro _ w3 ⟨s, e', ca, cm, cc, rfl, hval, hb3⟩; have hres3 := (hb3.block _ (Array.getElem?_eq_some_iff.1 hres).1 hM0).trans hres; have hs3 := hb3.size; have h4 : ∀ o, (w3.alloc o).heap[w.heap.size]? = some (.cells #[.int .i64 0, .int .i64 0, .slice none 0 0] 84 (0, 0)) := (fun o => (Below.heap_alloc _ _ _ (by omega)).trans hres3); have r0 : ∀ o, (w3.alloc o).cell? ⟨w.heap.size, 0, none⟩ = some (.int .i64 0) := (fun o => by { simp only [World.cell?, h4 o]; rfl }); have r1 : ∀ o, (w3.alloc o).cell? ⟨w.heap.size, 1, none⟩ = some (.int .i64 0) := (fun o => by { simp only [World.cell?, h4 o]; rfl }); have r2 : ∀ o, (w3.alloc o).cell? ⟨w.heap.size, 2, none⟩ = some (.slice none 0 0) := (fun o => by { simp only [World.cell?, h4 o]; rfl }); have f0 : ∀ o i, (w3.alloc o).frozen? ⟨w.heap.size, i, none⟩ = false := (fun o i => by { simp [World.frozen?, h4 o] })))
            obtain ⟨rfl, rfl⟩ := hval (by first | exact hq | trivial | rfl)
            refine bodyPost_ret (results_cell_row2 rfl _ _ w.heap.size 84 _ (0, 0) rfl (set3 (h4 _) _ _ _) size84) rfl ?_
            rw [hx]
            exact ⟨ca, cm, cc, rfl, ((((hbel.trans (hb3.mono (by omega))).alloc (by omega) _).setCell (Nat.le_refl _) _).setCell (Nat.le_refl _) _).setCell (Nat.le_refl _) _⟩
          | false =>
            go_wp2_with (first
              | (go_at_call 48; refine hp.mono ?_; clear hp; rintro _ w3 ⟨s, e', ca, cm, cc, rfl, hval, hb3⟩; have hres3 := (hb3.block _ (Array.getElem?_eq_some_iff.1 hres).1 hM0).trans hres; have hs3 := hb3.size; have h4 : ∀ o, (w3.alloc o).heap[w.heap.size]? = some (.cells #[.int .i64 0, .int .i64 0, .slice none 0 0] 84 (0, 0)) := (fun o => (Below.heap_alloc _ _ _ (by omega)).trans hres3); have r0 : ∀ o, (w3.alloc o).cell? ⟨w.heap.size, 0, none⟩ = some (.int .i64 0) := (fun o => by { simp only [World.cell?, h4 o]; rfl }); have r1 : ∀ o, (w3.alloc o).cell? ⟨w.heap.size, 1, none⟩ = some (.int .i64 0) := (fun o => by { simp only [World.cell?, h4 o]; rfl }); have r2 : ∀ o, (w3.alloc o).cell? ⟨w.heap.size, 2, none⟩ = some (.slice none 0 0) := (fun o => by { simp only [World.cell?, h4 o]; rfl }); have f0 : ∀ o i, (w3.alloc o).frozen? ⟨w.heap.size, i, none⟩ = false := (fun o i => by { simp [World.frozen?, h4 o] })))
            refine ⟨⟨a + 1, by omega, by omega, by go_num, (hbel.trans (hb3.mono (by omega))).alloc (by omega) _, h4 _, hOK _ _ _ hok (hb3.alloc (by omega) _), ?_, by simp; omega⟩, by simp [intOf]; omega⟩
            show _ = _
            rw [hgo.out]
            conv => lhs; rw [goR]
            rw [if_pos han, if_neg (by rw [hq]; decide)]
        · have hx : X = ⟨0, 0, false, 0⟩ := by
            rw [← HX.out, hgo.out, goR, if_neg han]
          have r0 : wr.cell? ⟨w.heap.size, 0, none⟩ = some (.int .i64 0) := by simp only [World.cell?, hres]; rfl
          have r1 : wr.cell? ⟨w.heap.size, 1, none⟩ = some (.int .i64 0) := by simp only [World.cell?, hres]; rfl
          have r2 : wr.cell? ⟨w.heap.size, 2, none⟩ = some (.slice none 0 0) := by simp only [World.cell?, hres]; rfl
          have f0 : ∀ i, wr.frozen? ⟨w.heap.size, i, none⟩ = false := fun i => by simp [World.frozen?, hres]
          go_wp2_with fail
          refine bodyPost_ret (results_cell_row2 rfl _ _ w.heap.size 84 _ (0, 0) rfl (set3 hres _ _ _) size84) rfl ?_
          rw [hx]
          exact ⟨none, 0, 0, rfl, ((hbel.setCell (Nat.le_refl _) _).setCell (Nat.le_refl _) _).setCell (Nat.le_refl _) _⟩
end Go.Proofs.YtopicmcaoeameaaGreatDoor
namespace Go.Proofs.YtopicmcaoeameaaGreatDoor
open Go Go.Ev Go.RowKit

theorem info123 : (Tryz.prog.info? 123).map (fun i => (i.zero, i.size, i.bytes)) = some (some .nilFunc, 1, 8) := by kernel_rfl
set_option maxHeartbeats 8000000 in
set_option maxRecDepth 1000000 in
theorem clone_walk {w : World} {b o m cap : Nat} {xs : List Value} (hm : xs.length = m) (hm0 : 0 < m) (hm2 : m ≤ 100) (hx : ∀ (j : Nat) (x : Value), xs[j]? = some x → w.cell? ⟨b, o + j, none⟩ = some x) (h1 : ∀ x ∈ xs, x.oneCell' = true) (hb : b < w.heap.size) :
    Calls Tryz.prog 46 #[.slice (some ⟨b, o, none⟩) m cap] w fun e w' => ∃ v, e = .returned v ∧ w'.ownsRow w.heap.size 123 1 v m xs ∧ Below w.heap.size w w' := by
  obtain ⟨i0, hi0, hz0, hz1, hz2⟩ := info_parts info123
  have heq : (binOp BinOp.eql 119 (.slice (some ⟨b, o, none⟩) m cap) (.slice none 0 0)).run Tryz.prog w = .ok (.bool false) w := by kernel_rfl
  have hA : Below w.heap.size w (w.alloc (.cells #[] 123)) := (Below.refl _ _).alloc (Nat.le_refl _) _
  have hown : (w.alloc (.cells #[] 123)).ownsRow w.heap.size 123 1 (.slice (some ⟨w.heap.size, 0, none⟩) 0 0) 0 [] := World.ownsRow_lit w #[] 0 (Nat.le_refl _) (by unfold maxLen; omega) rfl
  have hnews : ∀ j u, xs[j]? = some u → (w.alloc (.cells #[] 123)).cell? ((⟨b, o, none⟩ : Addr).add j) = some u := fun j u hu => by
    have e : (⟨b, o, none⟩ : Addr).add j = ⟨b, o + j, none⟩ := by
      unfold Addr.add
      split <;> simp_all
    rw [e]
    exact (hA.cell (p := ⟨b, o + j, none⟩) hb).trans (hx j u hu)
  go_enter Tryz.func46, Tryz.ntmps46
  go_wp2_with (at_builtin; refine wpList_append_own _ rfl _ _ 119 rfl w.heap.size 123 i0 _ 1 8 Tryz.underlying119 hi0 hz0 hz1 hz2 rfl (by decide) _ 0 [] rfl hown ⟨b, o, none⟩ m cap xs rfl (by omega) hnews h1 (by unfold maxLen; omega) (by omega) (by simp) ?_; intro v' w2 hown2 hgrow _)
  go_ret
  refine ⟨_, rfl, by simpa using hown2, hA.grown hgrow (by simp) fun k hk => ?_⟩
  have e : w.heap.size = k := Option.some.inj hk
  omega
end Go.Proofs.YtopicmcaoeameaaGreatDoor
namespace Go.Proofs.YtopicmcaoeameaaGreatDoor
open Go Go.Ev Go.RowKit

/-- the runs' name -/
def nR : Pth := nm 998
/-- the runs of the plan k, as plan.New leaves them -/
def runsOf (k : Nat) : List V := match k with
  | 0 => [.fn 153 [] [.ptr (nm 225) 0]]
  | 1 => [.fn 153 [] [.ptr (nm 225) 0]]
  | 2 => [.fn 153 [] [.ptr (nm 345) 0]]
  | 3 => [.fn 145 [] [.ptr (nm 299) 0]]
  | 4 => [.fn 153 [] [.ptr (nm 270) 0]]
  | 5 => [.fn 150 [] [.ptr (nm 315) 0]]
  | 6 => [.fn 158 [] [.ptr (nm 264) 0]]
  | 7 => [.fn 153 [] [.ptr (nm 271) 0], .fn 153 [] [.ptr (nm 409) 0]]
  | 8 => [.fn 153 [] [.ptr (nm 306) 0]]
  | 9 => [.fn 153 [] [.ptr (nm 176) 0]]
  | 10 => [.fn 153 [] [.ptr (nm 249) 0]]
  | _ => [.fn 153 [] [.ptr (nm 306) 0]]
/-- the classes of symbols that the rule k tells apart -/
def clz (k : Nat) : List (Int × Int) := match k with
  | 1 => [(0, 97), (98, 98), (99, 255)]
  | 2 => [(0, 96), (97, 97), (98, 98), (99, 255)]
  | 4 => [(0, 98), (99, 99), (100, 255)]
  | 7 => [(0, 96), (97, 97), (98, 98), (99, 255)]
  | 9 => [(0, 255)]
  | 10 => [(0, 96), (97, 98), (99, 255)]
  | 11 => [(0, 97), (98, 98), (99, 255)]
  | _ => [(0, 96), (97, 97), (98, 255)]
def clsAt (k c : Nat) : Int × Int := ((clz k)[c]?).getD (0, 255)
/-- a text's cells from i on: d of them, those ahead of at anything, then those of the classes pre, then anything -/
def cellsP (k : Nat) (at' : Nat) (pre : List Nat) : Nat → Nat → List V
  | 0, _ => []
  | d + 1, i => (match Nat.blt i at' with
    | true => .sym i .i64 0 255
    | false => match pre[i - at']? with
      | some c => cellV i (clsAt k c)
      | none => .sym i .i64 0 255) :: cellsP k at' pre d (i + 1)
noncomputable def gloP (k n at' : Nat) (pre : List Nat) : Glo := ⟨fun _ => [], [], [], plan k ++ [(nR, runsOf k), (nT, cellsP k at' pre n 0)]⟩
/-- what the runs give at the position: end, found -/
noncomputable def evalP (k n at' : Nat) (pre : List Nat) : Option (Int × Bool) :=
  match (calOf (gloP k n at' pre)).fn 48 [.sl nR 0 (runsOf k).length (runsOf k).length 1, .sl nT 0 n n 1, .int .i64 at', .int .i64 2000] .nil n1 with
  | .ok (.tup [.agg [.int .i64 s, .int .i64 e, v], .bool ok, .int .i64 err]) H _ => (match freeH H (nT :: nR :: (plan k).map (·.1)), isSl v, ieq err 0 with
    | true, true, true => (match ok with | true => (match ieq s at' with | true => some (e, true) | false => none) | false => some (e, false))
    | _, _, _ => none)
  | _ => none
/-- the tree of classes, as deep as it must be -/
def treeG (E : List Nat → Option (Int × Bool)) (m : Nat) : Nat → List Nat → Bool
  | 0, pre => (match E pre with | some _ => true | none => false)
  | d + 1, pre => (match E pre with
    | some _ => true
    | none => (List.range m).all fun c => treeG E m d (pre ++ [c]))
noncomputable def tree (k n at' : Nat) : Bool := treeG (evalP k n at') (clz k).length (n - at') []
set_option maxRecDepth 100000 in
theorem pos_facts : ∀ k < 12, k ≠ 3 → (plL (nameOf (plan k)) (runsOf k) = true ∧ closedRo (plan k) = true) ∧ nameOf (plan k) nT = false ∧ nameOf (plan k) nR = false := by decide +kernel
/-- do the symbols of t from at on lie in the classes pre? -/
def InP (k : Nat) (t : List Int) (at' : Nat) (pre : List Nat) : Prop := ∀ i c, pre[i]? = some c → ∃ x, t[at' + i]? = some x ∧ (clsAt k c).1 ≤ x ∧ x ≤ (clsAt k c).2
theorem cls_three {k : Nat} {a b c d e f x : Int} (hc : clz k = [(a, b), (c, d), (e, f)]) (h : (a ≤ x ∧ x ≤ b) ∨ (c ≤ x ∧ x ≤ d) ∨ (e ≤ x ∧ x ≤ f)) : ∃ c, c < (clz k).length ∧ (clsAt k c).1 ≤ x ∧ x ≤ (clsAt k c).2 := by
  unfold clsAt
  rw [hc]
  rcases h with h | h | h
  · exact ⟨0, by simp, h⟩
  · exact ⟨1, by simp, h⟩
  · exact ⟨2, by simp, h⟩
theorem cls_four {k : Nat} {a b c d e f g i x : Int} (hc : clz k = [(a, b), (c, d), (e, f), (g, i)]) (h : (a ≤ x ∧ x ≤ b) ∨ (c ≤ x ∧ x ≤ d) ∨ (e ≤ x ∧ x ≤ f) ∨ (g ≤ x ∧ x ≤ i)) : ∃ c, c < (clz k).length ∧ (clsAt k c).1 ≤ x ∧ x ≤ (clsAt k c).2 := by
  unfold clsAt
  rw [hc]
  rcases h with h | h | h | h
  · exact ⟨0, by simp, h⟩
  · exact ⟨1, by simp, h⟩
  · exact ⟨2, by simp, h⟩
  · exact ⟨3, by simp, h⟩
theorem cls_of : ∀ (k : Nat), k < 12 → ∀ (x : Int), 0 ≤ x → x ≤ 255 → ∃ c, c < (clz k).length ∧ (clsAt k c).1 ≤ x ∧ x ≤ (clsAt k c).2
  | 0, _, x, h0, h1 => cls_three (k := 0) rfl (by omega)
  | 1, _, x, h0, h1 => cls_three (k := 1) rfl (by omega)
  | 2, _, x, h0, h1 => cls_four (k := 2) rfl (by omega)
  | 3, _, x, h0, h1 => cls_three (k := 3) rfl (by omega)
  | 4, _, x, h0, h1 => cls_three (k := 4) rfl (by omega)
  | 5, _, x, h0, h1 => cls_three (k := 5) rfl (by omega)
  | 6, _, x, h0, h1 => cls_three (k := 6) rfl (by omega)
  | 7, _, x, h0, h1 => cls_four (k := 7) rfl (by omega)
  | 8, _, x, h0, h1 => cls_three (k := 8) rfl (by omega)
  | 9, _, x, h0, h1 => ⟨0, by decide, h0, h1⟩
  | 10, _, x, h0, h1 => cls_three (k := 10) rfl (by omega)
  | 11, _, x, h0, h1 => cls_three (k := 11) rfl (by omega)
  | n + 12, h, _, _, _ => absurd h (by omega)
theorem treeG_ok {E : List Nat → Option (Int × Bool)} {k n at' : Nat} (hk : k < 12) {t : List Int} (hb : ∀ x ∈ t, 0 ≤ x ∧ x ≤ 255) (hn : t.length = n) : ∀ (d : Nat) (pre : List Nat), treeG E (clz k).length d pre = true → InP k t at' pre → at' + pre.length + d = n → ∃ pre' r, InP k t at' pre' ∧ E pre' = some r
  | 0, pre, h, hi, _ => by
    have h' : (match E pre with | some _ => true | none => false) = true := h
    obtain ⟨e, hE⟩ : ∃ e, E pre = e := ⟨_, rfl⟩
    rw [hE] at h'
    cases e with
    | some r => exact ⟨pre, r, hi, hE⟩
    | none => cases h'
  | d + 1, pre, h, hi, hl => by
    have h' : (match E pre with
      | some _ => true
      | none => (List.range (clz k).length).all fun c => treeG E (clz k).length d (pre ++ [c])) = true := h
    obtain ⟨e, hE⟩ : ∃ e, E pre = e := ⟨_, rfl⟩
    rw [hE] at h'
    cases e with
    | some r => exact ⟨pre, r, hi, hE⟩
    | none =>
      have hlt : at' + pre.length < t.length := by omega
      obtain ⟨c, hc, h1, h2⟩ := cls_of k hk t[at' + pre.length] (hb _ (List.getElem_mem hlt)).1 (hb _ (List.getElem_mem hlt)).2
      have := List.all_eq_true.1 h' c (List.mem_range.2 hc)
      refine treeG_ok hk hb hn d (pre ++ [c]) this (fun i c' hi' => ?_) (by simp; omega)
      rcases Nat.lt_or_ge i pre.length with hil | hil
      · rw [List.getElem?_append_left hil] at hi'
        exact hi i c' hi'
      · rw [List.getElem?_append_right hil] at hi'
        have h0 : i - pre.length = 0 := by
          rcases Nat.eq_zero_or_pos (i - pre.length) with h | h
          · exact h
          · rw [List.getElem?_eq_none (by simp; omega)] at hi'; cases hi'
        rw [h0] at hi'
        have hie : i = pre.length := by omega
        subst hie
        simp at hi'
        subst hi'
        exact ⟨_, List.getElem?_eq_getElem hlt, h1, h2⟩
theorem tree_ok {k n at' : Nat} (h : tree k n at' = true) (hk : k < 12) {t : List Int} (hb : ∀ x ∈ t, 0 ≤ x ∧ x ≤ 255) (hn : t.length = n) (ha : at' ≤ n) : ∃ pre r, InP k t at' pre ∧ evalP k n at' pre = some r :=
  treeG_ok hk hb hn (n - at') [] h (fun i c hi => by simp at hi) (by simp; omega)
end Go.Proofs.YtopicmcaoeameaaGreatDoor
