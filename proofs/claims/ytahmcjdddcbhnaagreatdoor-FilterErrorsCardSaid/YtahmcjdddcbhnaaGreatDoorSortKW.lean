/-
  slices.Sorted(maps.Keys(m)) of the connections: the library's contracts, laid at this dump.
-/
import Derived.Test.YtahmcjdddcbhnaaGreatDoorSortIW
import Derived.Test.YtahmcjdddcbhnaaGreatDoorEvD
import Derived.Shelf.SlIterI.Nil
import Derived.Shelf.SlIterI.Sorted
import Derived.Ground.GgzProg
namespace Go.Proofs
open Go.RowKit Go.Maps Go.Sort Go.Shelf

def YtahmcjdddcbhnaaGreatDoor.keysA_ren : Go.Shelf.Ren := ⟨fun | 7 => 42 | 10 => 56 | n => n, fun | 23 => 78 | 26 => 3 | 3 => 108 | 28 => 75 | 0 => 0 | 27 => 74 | 33 => 125 | 4 => 4 | n => n, fun | n => n⟩
theorem YtahmcjdddcbhnaaGreatDoor.keysA : Go.Proofs.SlLaysZI.n7 Tryz.prog YtahmcjdddcbhnaaGreatDoor.keysA_ren :=
  { mixed := by kernel_rfl
    f7 := ⟨Tryz.f42.name, by decide, Tryz.func42.trans (congrArg some (by kernel_rfl))⟩
    f10 := ⟨Tryz.f56.name, by decide, Tryz.func56.trans (congrArg some (by kernel_rfl))⟩
    t0 := Tryz.underlying0
    a0 := Tryz.isAgg0
    z0 := Tryz.sizeOf0
    v0 := Tryz.zeroValue0
    t4 := Tryz.underlying4
    a4 := Tryz.isAgg4
    z4 := Tryz.sizeOf4
    v4 := Tryz.zeroValue4
    t23 := Tryz.underlying78
    a23 := Tryz.isAgg78
    z23 := Tryz.sizeOf78
    v23 := Tryz.zeroValue78
    t26 := Tryz.underlying3
    a26 := Tryz.isAgg3
    z26 := Tryz.sizeOf3
    v26 := Tryz.zeroValue3
    t27 := Tryz.underlying74
    a27 := Tryz.isAgg74
    z27 := Tryz.sizeOf74
    v27 := Tryz.zeroValue74
    t28 := Tryz.underlying75
    a28 := Tryz.isAgg75
    z28 := Tryz.sizeOf75
    v28 := Tryz.zeroValue75
    t33 := Tryz.underlying125
    a33 := Tryz.isAgg125
    z33 := Tryz.sizeOf125
    v33 := Tryz.zeroValue125 }
def YtahmcjdddcbhnaaGreatDoor.sortedA_ren : Go.Shelf.Ren := ⟨fun | 6 => 41 | 8 => 54 | 9 => 55 | 11 => 78 | 13 => 80 | 12 => 79 | 23 => 113 | 24 => 114 | 14 => 104 | 15 => 105 | 16 => 106 | 17 => 107 | 18 => 108 | 19 => 109 | 20 => 110 | 21 => 111 | 22 => 112 | 25 => 139 | 26 => 140 | 27 => 141 | 28 => 142 | 29 => 143 | 30 => 144 | 31 => 169 | n => n, fun | 26 => 3 | 28 => 75 | 24 => 22 | 0 => 0 | 3 => 3 | 37 => 159 | 48 => 244 | 50 => 246 | 4 => 4 | 40 => 237 | 39 => 236 | 45 => 209 | 5 => 5 | 9 => 9 | 51 => 264 | 55 => 268 | 57 => 301 | 58 => 127 | 33 => 125 | n => n, fun | n => n⟩
theorem YtahmcjdddcbhnaaGreatDoor.sortedA : Go.Proofs.SlLaysZI.n6 Tryz.prog YtahmcjdddcbhnaaGreatDoor.sortedA_ren :=
  { mixed := by kernel_rfl
    f6 := ⟨Tryz.f41.name, by decide, Tryz.func41.trans (congrArg some (by kernel_rfl))⟩
    f8 := ⟨Tryz.f54.name, by decide, Tryz.func54.trans (congrArg some (by kernel_rfl))⟩
    f11 := ⟨Tryz.f78.name, by decide, Tryz.func78.trans (congrArg some (by kernel_rfl))⟩
    t0 := Tryz.underlying0
    a0 := Tryz.isAgg0
    z0 := Tryz.sizeOf0
    v0 := Tryz.zeroValue0
    t24 := Tryz.underlying22
    a24 := Tryz.isAgg22
    z24 := Tryz.sizeOf22
    v24 := Tryz.zeroValue22
    t26 := Tryz.underlying3
    a26 := Tryz.isAgg3
    z26 := Tryz.sizeOf3
    v26 := Tryz.zeroValue3
    t28 := Tryz.underlying75
    a28 := Tryz.isAgg75
    z28 := Tryz.sizeOf75
    v28 := Tryz.zeroValue75
    i26 := by kernel_rfl }

namespace YtahmcjdddcbhnaaGreatDoor
open Go.Ev
/-- slices.Sort's two contracts at this dump, at the fence that asks nothing -/
theorem sortsA (m : Nat) : AnyZI.SortsIn Tryz.prog YtahmcjdddcbhnaaGreatDoor.sortedA_ren Fence.wide m :=
  ⟨fun blk off cap ss W hH hblk hsz => callsIn_wide.2 (AnyM.slices_Sort_int YtahmcjdddcbhnaaGreatDoor.sortA blk off cap ss W hH hblk hsz),
   fun p cap W => callsIn_wide.2 (AnyM.slices_Sort_int_none YtahmcjdddcbhnaaGreatDoor.sortA p cap W)⟩
/-- how an element of the map reads: not at all -/
def anyElem (_ : Value) : Option (DataW Unit × List MemPlace) := some (.lit (.bool true), [])
theorem owns_of {w : World} {b cl : Nat} {ms : Array MapEntry} {ks : List Int} (hb : w.heap[b]? = some (.map ms cl)) (hk : ms.toList.map (·.key) = ks.map (Value.int .i64)) (hnd : ks.Nodup)
    (hr : ∀ c ∈ ks, IntKind.i64.min ≤ c ∧ c ≤ IntKind.i64.max) (h1 : ∀ x ∈ ms.toList, x.born < cl) (h2 : (ms.toList.map (·.born)).Nodup) (hl : ks.length ≤ 1000000) :
    ∃ D : DataW Unit, w.ownsMap Tryz.prog 3 anyElem b ms.size D ∧ (intKeys D).Perm ks ∧ Maps.size D = ks.length := by
  have hlen : ms.size = ks.length := by
    have := congrArg List.length hk
    simpa using this
  have hkey : ∀ x ∈ ms.toList, ∃ c ∈ ks, x.key = .int .i64 c := fun x hx => by
    have : x.key ∈ ms.toList.map (·.key) := List.mem_map.2 ⟨x, hx, rfl⟩
    rw [hk] at this
    obtain ⟨c, hc, e⟩ := List.mem_map.1 this
    exact ⟨c, hc, e.symm⟩
  have hrd : ∀ x ∈ ms.toList, ∀ c, c ∈ ks → x.key = .int .i64 c → WideElems.rd Tryz.prog 3 anyElem x = some (.int .i64 c, .lit (.bool true)) := fun x _ c hc he => by
    have hw : (Lit.int .i64 c).wf = true := by simp only [Lit.wf, Bool.and_eq_true, decide_eq_true_eq]; exact hr c hc
    have hkey : keyOf Tryz.prog 3 x.key = some (.int .i64 c) := by
      rw [he]
      simp [keyOf, Tryz.underlying3, mapKey, hw]
    simp [WideElems.rd, hkey, anyElem]
  have hrg : ms.toList.map (WideElems.rg Tryz.prog 3 anyElem) = ks.map fun c => ((.int .i64 c, .lit (.bool true)) : Lit × DataW Unit) := by
    have : ∀ (l : List MapEntry) (ks' : List Int), (∀ x ∈ l, x ∈ ms.toList) → (∀ c ∈ ks', c ∈ ks) → l.map (·.key) = ks'.map (Value.int .i64) → l.map (WideElems.rg Tryz.prog 3 anyElem) = ks'.map fun c => ((.int .i64 c, .lit (.bool true)) : Lit × DataW Unit) := by
      intro l
      induction l with
      | nil => intro ks' _ _ h; cases ks' with
        | nil => rfl
        | cons c t => simp at h
      | cons x t ih =>
        intro ks' hm hc h
        cases ks' with
        | nil => simp at h
        | cons c t' =>
          simp only [List.map_cons, List.cons.injEq] at h ⊢
          refine ⟨?_, ih t' (fun y hy => hm y (List.mem_cons_of_mem _ hy)) (fun y hy => hc y (List.mem_cons_of_mem _ hy)) h.2⟩
          simp [WideElems.rg, hrd x (hm x (List.mem_cons_self ..)) c (hc c (List.mem_cons_self ..)) h.1]
    exact this _ _ (fun _ h => h) (fun _ h => h) hk
  refine ⟨_, ⟨ms, cl, hb, ⟨?_, ⟨h1, h2, ?_⟩, fun x hx => ?_⟩, Nat.le_refl _, rfl⟩, ?_, ?_⟩
  · rw [hlen]; unfold maxLen; omega
  · rw [hk]
    exact List.Pairwise.map _ (fun a b hab e => hab (by cases e; rfl)) hnd
  · obtain ⟨c, hc, he⟩ := hkey x hx
    exact ⟨_, hrd x hx c hc he⟩
  · rw [hrg]
    show ((List.foldr DataW.insert [] (ks.map fun c => ((.int .i64 c, .lit (.bool true)) : Lit × DataW Unit))).map fun p => Go.intOf p.1).Perm ks
    refine ((WideShapes.sorted_perm _).map _).trans ?_
    rw [List.map_map]
    have : ((fun p : Lit × DataW Unit => Go.intOf p.1) ∘ fun c : Int => ((.int .i64 c, .lit (.bool true)) : Lit × DataW Unit)) = id := rfl
    rw [this, List.map_id]
  · rw [hrg]
    show (List.foldr DataW.insert [] (ks.map fun c => ((.int .i64 c, .lit (.bool true)) : Lit × DataW Unit))).length = ks.length
    rw [(WideShapes.sorted_perm _).length_eq, List.length_map]
theorem sortI_merge (l : List Int) {ss : List Int} (h : ss.Perm l) : ss.mergeSort (fun x y => decide (x ≤ y)) = sortI l := by
  have tr : ∀ a b c : Int, leI a b = true → leI b c = true → leI a c = true := fun a b c h1 h2 => by simp only [leI, decide_eq_true_eq] at *; exact Int.le_trans h1 h2
  have to : ∀ a b : Int, (leI a b || leI b a) = true := fun a b => by simp only [leI, Bool.or_eq_true, decide_eq_true_eq]; exact Int.le_total a b
  refine List.Perm.eq_of_pairwise (le := fun a b => a ≤ b) (fun a b _ _ h1 h2 => Int.le_antisymm h1 h2) ((List.pairwise_mergeSort tr to ss).imp fun h => by simpa [leI] using h) (sortI_sorted l) (((List.mergeSort_perm ss leI).trans h).trans (sortI_perm l).symm)
set_option maxHeartbeats 1000000 in
theorem sorted_keys : SortedI Tryz.prog 41 56 3 := by
  intro bq bm cl ms ks w hq hlt hm hk hnd hr h1 h2 hl
  obtain ⟨D, hown, hperm, hsz⟩ := owns_of hm hk hnd hr h1 h2 hl
  have hseq : SeqGives Fence.wide 2 Tryz.prog 56 #[.pointer (some ⟨bq, 0, none⟩)] encZ (fun ss => ss.Perm (intKeys D)) (Maps.size D) w :=
    AnyZI.keys_gives (ρ := YtahmcjdddcbhnaaGreatDoor.keysA_ren) { YtahmcjdddcbhnaaGreatDoor.keysA with } Fence.wide _ trivial rfl (by omega) bq bm _ D w hlt hq hown
  have cS := AnyZI.sorted_in YtahmcjdddcbhnaaGreatDoor.sortedA Fence.wide 5 trivial trivial trivial trivial rfl (by omega) (sortsA _) (enters_of Tryz.func55 (by kernel_rfl) rfl) 56 #[.pointer (some ⟨bq, 0, none⟩)] trivial (enters_of Tryz.func56 (by kernel_rfl) rfl) _ _ (by rw [hsz]; unfold maxLen; omega) (by rw [hsz]; omega) _ hseq
  change CallsIn _ _ Tryz.prog 41 _ _ _ at cS
  refine (callsIn_wide.1 cS).mono ?_
  rintro e w' ⟨v, ss, rfl, hS, hrow, hnil, hb⟩
  have hp : ss.Perm ks := hS.trans hperm
  rw [sortI_merge ks hp, hp.length_eq] at hrow
  refine ⟨v, rfl, hrow, ?_, hb⟩
  rw [hnil]
  constructor
  · rintro rfl; exact List.length_eq_zero_iff.1 hp.length_eq.symm
  · rintro rfl; exact List.length_eq_zero_iff.1 hp.length_eq
end YtahmcjdddcbhnaaGreatDoor
end Go.Proofs
