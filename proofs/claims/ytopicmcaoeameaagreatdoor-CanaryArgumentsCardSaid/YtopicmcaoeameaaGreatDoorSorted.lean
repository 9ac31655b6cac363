/-
  slices.Sorted(maps.Keys(m)) at string keys: the library's contracts, laid at this dump.
-/
import Derived.Test.YtopicmcaoeameaaGreatDoorSmap
import Derived.Test.YtopicmcaoeameaaGreatDoorBase
import Derived.Shelf.SlIter.Nil
import Derived.Shelf.SlIter.Sorted
import Derived.Shelf.SortM.Plain
import Derived.Shelf.SortM.SortNone
import Derived.Ground.GgzProg
import Derived.Ground.SlgmProg
namespace Go.Proofs
open Go.RowKit Go.Maps Go.Sort Go.Shelf

def YtopicmcaoeameaaGreatDoor.keysA_ren : Go.Shelf.Ren := ⟨fun | 7 => 25 | 10 => 37 | n => n, fun | 23 => 59 | 26 => 9 | 3 => 4 | 28 => 66 | 0 => 0 | 27 => 65 | 33 => 95 | 4 => 4 | n => n, fun | n => n⟩
theorem YtopicmcaoeameaaGreatDoor.keysA : Go.Proofs.SlLaysZ.n7 Tryz.prog YtopicmcaoeameaaGreatDoor.keysA_ren :=
  { mixed := by kernel_rfl
    f7 := ⟨Tryz.f25.name, by decide, Tryz.func25.trans (congrArg some (by kernel_rfl))⟩
    f10 := ⟨Tryz.f37.name, by decide, Tryz.func37.trans (congrArg some (by kernel_rfl))⟩
    t0 := Tryz.underlying0
    a0 := Tryz.isAgg0
    z0 := Tryz.sizeOf0
    v0 := Tryz.zeroValue0
    t4 := Tryz.underlying4
    a4 := Tryz.isAgg4
    z4 := Tryz.sizeOf4
    v4 := Tryz.zeroValue4
    t23 := Tryz.underlying59
    a23 := Tryz.isAgg59
    z23 := Tryz.sizeOf59
    v23 := Tryz.zeroValue59
    t26 := Tryz.underlying9
    a26 := Tryz.isAgg9
    z26 := Tryz.sizeOf9
    v26 := Tryz.zeroValue9
    t27 := Tryz.underlying65
    a27 := Tryz.isAgg65
    z27 := Tryz.sizeOf65
    v27 := Tryz.zeroValue65
    t28 := Tryz.underlying66
    a28 := Tryz.isAgg66
    z28 := Tryz.sizeOf66
    v28 := Tryz.zeroValue66
    t33 := Tryz.underlying95
    a33 := Tryz.isAgg95
    z33 := Tryz.sizeOf95
    v33 := Tryz.zeroValue95 }
def YtopicmcaoeameaaGreatDoor.sortedA_ren : Go.Shelf.Ren := ⟨fun | 6 => 24 | 8 => 35 | 9 => 36 | 11 => 50 | 13 => 52 | 12 => 51 | 23 => 80 | 24 => 81 | 14 => 71 | 15 => 72 | 16 => 73 | 17 => 74 | 18 => 75 | 19 => 76 | 20 => 77 | 21 => 78 | 22 => 79 | 25 => 99 | 26 => 100 | 27 => 101 | 28 => 102 | 29 => 103 | 30 => 104 | 31 => 136 | n => n, fun | 26 => 9 | 28 => 66 | 24 => 58 | 0 => 0 | 3 => 3 | 37 => 130 | 48 => 169 | 50 => 171 | 4 => 4 | 40 => 161 | 39 => 160 | 45 => 166 | 5 => 5 | 9 => 9 | 51 => 204 | 55 => 208 | 57 => 233 | 58 => 234 | 33 => 95 | n => n, fun | n => n⟩
theorem YtopicmcaoeameaaGreatDoor.sortedA : Go.Proofs.SlLaysZ.n6 Tryz.prog YtopicmcaoeameaaGreatDoor.sortedA_ren :=
  { mixed := by kernel_rfl
    f6 := ⟨Tryz.f24.name, by decide, Tryz.func24.trans (congrArg some (by kernel_rfl))⟩
    f8 := ⟨Tryz.f35.name, by decide, Tryz.func35.trans (congrArg some (by kernel_rfl))⟩
    f11 := ⟨Tryz.f50.name, by decide, Tryz.func50.trans (congrArg some (by kernel_rfl))⟩
    t0 := Tryz.underlying0
    a0 := Tryz.isAgg0
    z0 := Tryz.sizeOf0
    v0 := Tryz.zeroValue0
    t24 := Tryz.underlying58
    a24 := Tryz.isAgg58
    z24 := Tryz.sizeOf58
    v24 := Tryz.zeroValue58
    t26 := Tryz.underlying9
    a26 := Tryz.isAgg9
    z26 := Tryz.sizeOf9
    v26 := Tryz.zeroValue9
    t28 := Tryz.underlying66
    a28 := Tryz.isAgg66
    z28 := Tryz.sizeOf66
    v28 := Tryz.zeroValue66
    i26 := by kernel_rfl }
def YtopicmcaoeameaaGreatDoor.sortA_ren : Go.Shelf.Ren := ⟨fun | 6 => 36 | 8 => 52 | 9 => 51 | 19 => 80 | 20 => 81 | 21 => 71 | 22 => 72 | 23 => 73 | 24 => 74 | 25 => 75 | 26 => 76 | 27 => 77 | 28 => 78 | 29 => 79 | 36 => 99 | 31 => 100 | 32 => 101 | 37 => 102 | 38 => 103 | 39 => 104 | 41 => 136 | n => n, fun | 27 => 58 | 29 => 9 | 3 => 3 | 32 => 130 | 26 => 58 | 0 => 0 | 44 => 169 | 46 => 171 | 4 => 4 | 36 => 161 | 35 => 160 | 41 => 166 | 5 => 5 | 9 => 9 | 53 => 204 | 57 => 208 | 63 => 233 | 64 => 234 | n => n, fun | n => n⟩
theorem YtopicmcaoeameaaGreatDoor.sortA : Go.Proofs.SlLaysM.n6 Tryz.prog YtopicmcaoeameaaGreatDoor.sortA_ren :=
  { mixed := by kernel_rfl
    f6 := ⟨Tryz.f36.name, by decide, Tryz.func36.trans (congrArg some (by kernel_rfl))⟩
    f8 := Tryz.func52.trans (congrArg some (by kernel_rfl))
    f9 := ⟨Tryz.f51.name, by decide, Tryz.func51.trans (congrArg some (by kernel_rfl))⟩
    f19 := Tryz.func80.trans (congrArg some (by kernel_rfl))
    f20 := Tryz.func81.trans (congrArg some (by kernel_rfl))
    f21 := ⟨Tryz.f71.name, by decide, Tryz.func71.trans (congrArg some (by kernel_rfl))⟩
    f22 := ⟨Tryz.f72.name, by decide, Tryz.func72.trans (congrArg some (by kernel_rfl))⟩
    f23 := ⟨Tryz.f73.name, by decide, Tryz.func73.trans (congrArg some (by kernel_rfl))⟩
    f24 := ⟨Tryz.f74.name, by decide, Tryz.func74.trans (congrArg some (by kernel_rfl))⟩
    f25 := ⟨Tryz.f75.name, by decide, Tryz.func75.trans (congrArg some (by kernel_rfl))⟩
    f26 := ⟨Tryz.f76.name, by decide, Tryz.func76.trans (congrArg some (by kernel_rfl))⟩
    f27 := ⟨Tryz.f77.name, by decide, Tryz.func77.trans (congrArg some (by kernel_rfl))⟩
    f28 := ⟨Tryz.f78.name, by decide, Tryz.func78.trans (congrArg some (by kernel_rfl))⟩
    f29 := ⟨Tryz.f79.name, by decide, Tryz.func79.trans (congrArg some (by kernel_rfl))⟩
    f31 := Tryz.func100.trans (congrArg some (by kernel_rfl))
    f32 := Tryz.func101.trans (congrArg some (by kernel_rfl))
    f36 := ⟨Tryz.f99.name, by decide, Tryz.func99.trans (congrArg some (by kernel_rfl))⟩
    f37 := ⟨Tryz.f102.name, by decide, Tryz.func102.trans (congrArg some (by kernel_rfl))⟩
    f38 := ⟨Tryz.f103.name, by decide, Tryz.func103.trans (congrArg some (by kernel_rfl))⟩
    f39 := ⟨Tryz.f104.name, by decide, Tryz.func104.trans (congrArg some (by kernel_rfl))⟩
    f41 := ⟨Tryz.f136.name, by decide, Tryz.func136.trans (congrArg some (by kernel_rfl))⟩
    t0 := Tryz.underlying0
    a0 := Tryz.isAgg0
    z0 := Tryz.sizeOf0
    v0 := Tryz.zeroValue0
    t3 := Tryz.underlying3
    a3 := Tryz.isAgg3
    z3 := Tryz.sizeOf3
    v3 := Tryz.zeroValue3
    t4 := Tryz.underlying4
    a4 := Tryz.isAgg4
    z4 := Tryz.sizeOf4
    v4 := Tryz.zeroValue4
    t5 := Tryz.underlying5
    a5 := Tryz.isAgg5
    z5 := Tryz.sizeOf5
    v5 := Tryz.zeroValue5
    t9 := Tryz.underlying9
    a9 := Tryz.isAgg9
    z9 := Tryz.sizeOf9
    v9 := Tryz.zeroValue9
    t26 := Tryz.underlying58
    a26 := Tryz.isAgg58
    z26 := Tryz.sizeOf58
    v26 := Tryz.zeroValue58
    t27 := Tryz.underlying58
    a27 := Tryz.isAgg58
    z27 := Tryz.sizeOf58
    v27 := Tryz.zeroValue58
    t29 := Tryz.underlying9
    a29 := Tryz.isAgg9
    z29 := Tryz.sizeOf9
    v29 := Tryz.zeroValue9
    t32 := Tryz.underlying130
    a32 := Tryz.isAgg130
    z32 := Tryz.sizeOf130
    v32 := Tryz.zeroValue130
    t35 := Tryz.underlying160
    a35 := Tryz.isAgg160
    z35 := Tryz.sizeOf160
    v35 := Tryz.zeroValue160
    t36 := Tryz.underlying161
    a36 := Tryz.isAgg161
    z36 := Tryz.sizeOf161
    v36 := Tryz.zeroValue161
    t41 := Tryz.underlying166
    a41 := Tryz.isAgg166
    z41 := Tryz.sizeOf166
    v41 := Tryz.zeroValue166
    t44 := Tryz.underlying169
    a44 := Tryz.isAgg169
    z44 := Tryz.sizeOf169
    v44 := Tryz.zeroValue169
    t46 := Tryz.underlying171
    a46 := Tryz.isAgg171
    z46 := Tryz.sizeOf171
    v46 := Tryz.zeroValue171
    t53 := Tryz.underlying204
    a53 := Tryz.isAgg204
    z53 := Tryz.sizeOf204
    v53 := Tryz.zeroValue204
    t57 := Tryz.underlying208
    a57 := Tryz.isAgg208
    z57 := Tryz.sizeOf208
    v57 := Tryz.zeroValue208
    t63 := Tryz.underlying233
    a63 := Tryz.isAgg233
    z63 := Tryz.sizeOf233
    v63 := Tryz.zeroValue233
    t64 := Tryz.underlying234
    a64 := Tryz.isAgg234
    z64 := Tryz.sizeOf234
    v64 := Tryz.zeroValue234 }

namespace YtopicmcaoeameaaGreatDoor
open Go.Ev Go.Smap Go.WideMaps
/-- slices.Sort's two contracts at this dump, at the fence that asks nothing -/
theorem sortsA (m : Nat) : AnyZ.SortsIn Tryz.prog YtopicmcaoeameaaGreatDoor.sortedA_ren Fence.wide m :=
  ⟨fun blk off cap ss W hH hblk hsz => callsIn_wide.2 (AnyM.slices_Sort_string YtopicmcaoeameaaGreatDoor.sortA blk off cap ss W hH hblk hsz),
   fun p cap W => callsIn_wide.2 (AnyM.slices_Sort_string_none YtopicmcaoeameaaGreatDoor.sortA p cap W)⟩
/-- how an element of the map reads: not at all -/
def anyElem (_ : Value) : Option (DataW Unit × List MemPlace) := some (.lit (.bool true), [])
theorem owns_of {w : World} {b cl : Nat} {ms : Array MapEntry} {ks : List ByteArray} (hb : w.heap[b]? = some (.map ms cl)) (hk : ms.toList.map (·.key) = ks.map Value.string) (hnd : ks.Nodup)
    (hr : ∀ c ∈ ks, c.size ≤ maxLen) (h1 : ∀ x ∈ ms.toList, x.born < cl) (h2 : (ms.toList.map (·.born)).Nodup) (hl : ks.length ≤ 1000000) :
    ∃ D : DataW Unit, w.ownsMap Tryz.prog 9 anyElem b ms.size D ∧ (strKeys D).Perm (ks.map fun c => c.data.toList) ∧ Maps.size D = ks.length := by
  have hlen : ms.size = ks.length := by
    have := congrArg List.length hk
    simpa using this
  have hkey : ∀ x ∈ ms.toList, ∃ c ∈ ks, x.key = .string c := fun x hx => by
    have : x.key ∈ ms.toList.map (·.key) := List.mem_map.2 ⟨x, hx, rfl⟩
    rw [hk] at this
    obtain ⟨c, hc, e⟩ := List.mem_map.1 this
    exact ⟨c, hc, e.symm⟩
  have hrd : ∀ x ∈ ms.toList, ∀ c, c ∈ ks → x.key = .string c → WideElems.rd Tryz.prog 9 anyElem x = some (.string c.data.toList, .lit (.bool true)) := fun x _ c hc he => by
    have hkey : keyOf Tryz.prog 9 x.key = some (.string c.data.toList) := by
      rw [he]
      exact keyOf_string_mk Tryz.underlying9 (hr c hc)
    simp [WideElems.rd, hkey, anyElem]
  have hrg : ms.toList.map (WideElems.rg Tryz.prog 9 anyElem) = ks.map fun c => ((.string c.data.toList, .lit (.bool true)) : Lit × DataW Unit) := by
    have : ∀ (l : List MapEntry) (ks' : List ByteArray), (∀ x ∈ l, x ∈ ms.toList) → (∀ c ∈ ks', c ∈ ks) → l.map (·.key) = ks'.map Value.string → l.map (WideElems.rg Tryz.prog 9 anyElem) = ks'.map fun c => ((.string c.data.toList, .lit (.bool true)) : Lit × DataW Unit) := by
      intro l
      induction l with
      | nil => intro ks' _ _ h; cases ks' with
        | nil => rfl
        | cons c t => simp at h
      | cons x t ih =>
        intro ks' hm hc h
        cases ks' with
        | nil => simp at h
        | cons c t' =>
          simp only [List.map_cons, List.cons.injEq] at h ⊢
          refine ⟨?_, ih t' (fun y hy => hm y (List.mem_cons_of_mem _ hy)) (fun y hy => hc y (List.mem_cons_of_mem _ hy)) h.2⟩
          simp [WideElems.rg, hrd x (hm x (List.mem_cons_self ..)) c (hc c (List.mem_cons_self ..)) h.1]
    exact this _ _ (fun _ h => h) (fun _ h => h) hk
  refine ⟨_, ⟨ms, cl, hb, ⟨?_, ⟨h1, h2, ?_⟩, fun x hx => ?_⟩, Nat.le_refl _, rfl⟩, ?_, ?_⟩
  · rw [hlen]; unfold maxLen; omega
  · rw [hk]
    exact List.Pairwise.map _ (fun a b hab e => hab (by cases e; rfl)) hnd
  · obtain ⟨c, hc, he⟩ := hkey x hx
    exact ⟨_, hrd x hx c hc he⟩
  · rw [hrg]
    show ((List.foldr DataW.insert [] (ks.map fun c => ((.string c.data.toList, .lit (.bool true)) : Lit × DataW Unit))).map fun p => strOf p.1).Perm (ks.map fun c => c.data.toList)
    refine ((WideShapes.sorted_perm _).map _).trans ?_
    rw [List.map_map]
    exact List.Perm.refl _
  · rw [hrg]
    show (List.foldr DataW.insert [] (ks.map fun c => ((.string c.data.toList, .lit (.bool true)) : Lit × DataW Unit))).length = ks.length
    rw [(WideShapes.sorted_perm _).length_eq, List.length_map]
/-- the keys of a map, as strings -/
theorem keys_of {w : World} {B n : Nat} {f : ByteArray → Option Value} (h : IsMap w B n f) (hn : n ≤ 1000000) :
    ∃ (ms : Array MapEntry) (D : DataW Unit) (ks : List ByteArray), w.ownsMap Tryz.prog 9 anyElem B ms.size D ∧ (strKeys D).Perm (ks.map fun c => c.data.toList) ∧ Maps.size D = ks.length ∧ ks.length ≤ n ∧ (∀ s ∈ ks, s.size ≤ maxLen ∧ f s ≠ none) ∧ ∀ s, f s ≠ none → s ∈ ks := by
  obtain ⟨ms, cl, hb, hsz, hb1, hb2, hnd, h1, h2⟩ := h
  let g : MapEntry → ByteArray := fun x => match x.key with | .string s => s | _ => ByteArray.empty
  have hg : ∀ x ∈ ms.toList, x.key = .string (g x) := fun x hx => by
    obtain ⟨s, _, hk, _⟩ := h1 x hx
    show x.key = .string (match x.key with | .string s => s | _ => ByteArray.empty)
    rw [hk]
  have hk : ms.toList.map (·.key) = (ms.toList.map g).map Value.string := by
    rw [List.map_map]
    exact List.map_congr_left hg
  have hks : ∀ s ∈ ms.toList.map g, s.size ≤ maxLen ∧ f s ≠ none := fun s hs => by
    obtain ⟨x, hx, rfl⟩ := List.mem_map.1 hs
    obtain ⟨s, hs, hk, hf⟩ := h1 x hx
    have : g x = s := by have := (hg x hx).symm.trans hk; cases this; rfl
    rw [this, hf]
    exact ⟨hs, by simp⟩
  have hnd' : (ms.toList.map g).Nodup := by
    rw [hk] at hnd
    exact List.Pairwise.of_map Value.string (fun a b hab e => hab (by rw [e])) hnd
  obtain ⟨D, hD1, hD2, hD3⟩ := owns_of hb hk hnd' (fun c hc => (hks c hc).1) hb1 hb2 (by simp; omega)
  refine ⟨ms, D, ms.toList.map g, hD1, hD2, hD3, by simpa using hsz, hks, fun s hs => ?_⟩
  cases hfs : f s with
  | none => exact absurd hfs hs
  | some v =>
    obtain ⟨x, hx, hxk⟩ := h2 s v hfs
    have : g x = s := by have := (hg x hx).symm.trans hxk; cases this; rfl
    exact List.mem_map.2 ⟨x, hx, this⟩
set_option maxHeartbeats 1000000 in
/-- slices.Sorted(maps.Keys(m)): the keys, sorted, in new memory -/
theorem sorted_keys {w : World} {bq B n : Nat} {f : ByteArray → Option Value} (hq : w.cell? ⟨bq, 0, none⟩ = some (.map (some B))) (hlt : bq < w.heap.size) (h : IsMap w B n f) (hn : n ≤ 1000) :
    Calls Tryz.prog 24 #[.func (.func 37) #[] #[.pointer (some ⟨bq, 0, none⟩)]] w fun e w' => ∃ (v : Value) (ns : List ByteArray), e = .returned v ∧ w'.ownsRow w.heap.size 9 1 v ns.length (ns.map Value.string) ∧ ns.length ≤ n ∧
      (∀ s ∈ ns, s.size ≤ maxLen ∧ f s ≠ none) ∧ (∀ s, f s ≠ none → s ∈ ns) ∧ ns.Pairwise (fun a b => a.data.toList ≤ b.data.toList) ∧ Below w.heap.size w w' := by
  obtain ⟨ms, D, ks, hown, hperm, hsz, hkn, hks, hkf⟩ := keys_of h (by omega)
  have hseq : SeqGives Fence.wide 2 Tryz.prog 37 #[.pointer (some ⟨bq, 0, none⟩)] encStr (fun ss => ss.Perm (strKeys D)) (Maps.size D) w :=
    AnyZ.keys_gives (ρ := YtopicmcaoeameaaGreatDoor.keysA_ren) { YtopicmcaoeameaaGreatDoor.keysA with } Fence.wide _ trivial rfl (by omega) bq B _ D w hlt hq hown
  have cS := AnyZ.sorted_in YtopicmcaoeameaaGreatDoor.sortedA Fence.wide 5 trivial trivial trivial trivial rfl (by omega) (sortsA _) (enters_of Tryz.func36 (by kernel_rfl) rfl) 37 #[.pointer (some ⟨bq, 0, none⟩)] trivial (enters_of Tryz.func37 (by kernel_rfl) rfl) _ _ (by rw [hsz]; unfold maxLen; omega) (by rw [hsz]; omega) _ hseq
  change CallsIn _ _ Tryz.prog 24 _ _ _ at cS
  refine (callsIn_wide.1 cS).mono ?_
  rintro e w' ⟨v, ss, rfl, hS, hrow, hnil, hb⟩
  have tr : ∀ a b c : List UInt8, decide (a ≤ b) = true → decide (b ≤ c) = true → decide (a ≤ c) = true := fun a b c h1 h2 => decide_eq_true (List.le_trans (of_decide_eq_true h1) (of_decide_eq_true h2))
  have to : ∀ a b : List UInt8, (decide (a ≤ b) || decide (b ≤ a)) = true := fun a b => by simp only [Bool.or_eq_true, decide_eq_true_eq]; exact List.le_total a b
  have hp : (ss.mergeSort fun x y => decide (x ≤ y)).Perm (ks.map fun c => c.data.toList) := (List.mergeSort_perm ss _).trans (hS.trans hperm)
  have hl : ss.length = ks.length := by rw [(hS.trans hperm).length_eq, List.length_map]
  refine ⟨v, (ss.mergeSort fun x y => decide (x ≤ y)).map fun l => ⟨l.toArray⟩, rfl, ?_, ?_, fun s hs => ?_, fun s hs => ?_, ?_, hb⟩
  · rw [List.length_map, List.length_mergeSort, List.map_map]
    exact hrow
  · rw [List.length_map, List.length_mergeSort, hl]; exact hkn
  · obtain ⟨l, hl, rfl⟩ := List.mem_map.1 hs
    obtain ⟨c, hc, rfl⟩ := List.mem_map.1 (hp.mem_iff.1 hl)
    exact hks c hc
  · exact List.mem_map.2 ⟨s.data.toList, hp.mem_iff.2 (List.mem_map.2 ⟨s, hkf s hs, rfl⟩), rfl⟩
  · refine List.Pairwise.map _ (fun a b h => ?_) (List.pairwise_mergeSort tr to ss)
    simpa using h
set_option maxHeartbeats 1000000 in
theorem sorted_list {w : World} {bq bm cl : Nat} {ms : Array MapEntry} {ks : List ByteArray} (hq : w.cell? ⟨bq, 0, none⟩ = some (.map (some bm))) (hlt : bq < w.heap.size) (hb : w.heap[bm]? = some (.map ms cl)) (hk : ms.toList.map (·.key) = ks.map Value.string) (hnd : ks.Nodup)
    (hr : ∀ c ∈ ks, c.size ≤ maxLen) (h1 : ∀ x ∈ ms.toList, x.born < cl) (h2 : (ms.toList.map (·.born)).Nodup) (hl : ks.length ≤ 1000) :
    Calls Tryz.prog 24 #[.func (.func 37) #[] #[.pointer (some ⟨bq, 0, none⟩)]] w fun e w' => ∃ (v : Value) (ns : List ByteArray), e = .returned v ∧ w'.ownsRow w.heap.size 9 1 v ns.length (ns.map Value.string) ∧ (ns.map fun c => c.data.toList).Perm (ks.map fun c => c.data.toList) ∧
      (ns.map fun c => c.data.toList).Pairwise (fun a b => a ≤ b) ∧ Below w.heap.size w w' := by
  obtain ⟨D, hown, hperm, hsz⟩ := owns_of hb hk hnd hr h1 h2 (by omega)
  have hseq : SeqGives Fence.wide 2 Tryz.prog 37 #[.pointer (some ⟨bq, 0, none⟩)] encStr (fun ss => ss.Perm (strKeys D)) (Maps.size D) w :=
    AnyZ.keys_gives (ρ := YtopicmcaoeameaaGreatDoor.keysA_ren) { YtopicmcaoeameaaGreatDoor.keysA with } Fence.wide _ trivial rfl (by omega) bq bm _ D w hlt hq hown
  have cS := AnyZ.sorted_in YtopicmcaoeameaaGreatDoor.sortedA Fence.wide 5 trivial trivial trivial trivial rfl (by omega) (sortsA _) (enters_of Tryz.func36 (by kernel_rfl) rfl) 37 #[.pointer (some ⟨bq, 0, none⟩)] trivial (enters_of Tryz.func37 (by kernel_rfl) rfl) _ _ (by rw [hsz]; unfold maxLen; omega) (by rw [hsz]; omega) _ hseq
  change CallsIn _ _ Tryz.prog 24 _ _ _ at cS
  refine (callsIn_wide.1 cS).mono ?_
  rintro e w' ⟨v, ss, rfl, hS, hrow, hnil, hbel⟩
  have tr : ∀ a b c : List UInt8, decide (a ≤ b) = true → decide (b ≤ c) = true → decide (a ≤ c) = true := fun a b c h1 h2 => decide_eq_true (List.le_trans (of_decide_eq_true h1) (of_decide_eq_true h2))
  have to : ∀ a b : List UInt8, (decide (a ≤ b) || decide (b ≤ a)) = true := fun a b => by simp only [Bool.or_eq_true, decide_eq_true_eq]; exact List.le_total a b
  have hp : (ss.mergeSort fun x y => decide (x ≤ y)).Perm (ks.map fun c => c.data.toList) := (List.mergeSort_perm ss _).trans (hS.trans hperm)
  have hid : ((ss.mergeSort fun x y => decide (x ≤ y)).map fun l => (⟨l.toArray⟩ : ByteArray)).map (fun c => c.data.toList) = ss.mergeSort fun x y => decide (x ≤ y) := by
    rw [List.map_map]
    exact (List.map_congr_left fun a _ => rfl).trans (List.map_id _)
  refine ⟨v, (ss.mergeSort fun x y => decide (x ≤ y)).map fun l => ⟨l.toArray⟩, rfl, ?_, ?_, ?_, hbel⟩
  · rw [List.length_map, List.length_mergeSort, List.map_map]
    exact hrow
  · rw [hid]; exact hp
  · rw [hid]
    exact (List.pairwise_mergeSort tr to ss).imp fun h => by simpa using h
theorem keys_call (mb : Option Nat) (W : World) : Calls Tryz.prog 25 #[.map mb] W fun e w' => e = .returned (.func (.func 37) #[] #[.pointer (some ⟨W.heap.size, 0, none⟩)]) ∧ w' = W.alloc (.cells #[.map mb] 59) :=
  callsIn_wide.1 (AnyZ.keys_in (ρ := YtopicmcaoeameaaGreatDoor.keysA_ren) YtopicmcaoeameaaGreatDoor.keysA Fence.wide 5 trivial rfl mb W)
end YtopicmcaoeameaaGreatDoor
end Go.Proofs
