/-
  slices.Sorted(maps.Keys(m)) of the connections: the library's contracts, laid at this dump.
-/
import Derived.Test.YtilgladlepnanaaGreatDoorRemove
import Derived.Test.YtilgladlepnanaaGreatDoorEv40
import Derived.Shelf.SlIterI.Nil
import Derived.Shelf.SlIterI.Sorted
import Derived.Shelf.SortM.Plain
import Derived.Shelf.SortM.SortNone
import Derived.Ground.GgzProg
import Derived.Ground.SlgmProg
namespace Go.Proofs
open Go.RowKit Go.Maps Go.Sort Go.Shelf

def YtilgladlepnanaaGreatDoor.keysA_ren : Go.Shelf.Ren := ⟨fun | 7 => 20 | 10 => 33 | n => n, fun | 23 => 40 | 26 => 3 | 3 => 47 | 28 => 80 | 0 => 0 | 27 => 79 | 33 => 119 | 4 => 4 | n => n, fun | n => n⟩
theorem YtilgladlepnanaaGreatDoor.keysA : Go.Proofs.SlLaysZI.n7 Tryz.prog YtilgladlepnanaaGreatDoor.keysA_ren :=
  { mixed := by kernel_rfl
    f7 := ⟨Tryz.f20.name, by decide, Tryz.func20.trans (congrArg some (by kernel_rfl))⟩
    f10 := ⟨Tryz.f33.name, by decide, Tryz.func33.trans (congrArg some (by kernel_rfl))⟩
    t0 := Tryz.underlying0
    a0 := Tryz.isAgg0
    z0 := Tryz.sizeOf0
    v0 := Tryz.zeroValue0
    t4 := Tryz.underlying4
    a4 := Tryz.isAgg4
    z4 := Tryz.sizeOf4
    v4 := Tryz.zeroValue4
    t23 := Tryz.underlying40
    a23 := Tryz.isAgg40
    z23 := Tryz.sizeOf40
    v23 := Tryz.zeroValue40
    t26 := Tryz.underlying3
    a26 := Tryz.isAgg3
    z26 := Tryz.sizeOf3
    v26 := Tryz.zeroValue3
    t27 := Tryz.underlying79
    a27 := Tryz.isAgg79
    z27 := Tryz.sizeOf79
    v27 := Tryz.zeroValue79
    t28 := Tryz.underlying80
    a28 := Tryz.isAgg80
    z28 := Tryz.sizeOf80
    v28 := Tryz.zeroValue80
    t33 := Tryz.underlying119
    a33 := Tryz.isAgg119
    z33 := Tryz.sizeOf119
    v33 := Tryz.zeroValue119 }
def YtilgladlepnanaaGreatDoor.sortedA_ren : Go.Shelf.Ren := ⟨fun | 6 => 19 | 8 => 31 | 9 => 32 | 11 => 55 | 13 => 57 | 12 => 56 | 23 => 91 | 24 => 92 | 14 => 82 | 15 => 83 | 16 => 84 | 17 => 85 | 18 => 86 | 19 => 87 | 20 => 88 | 21 => 89 | 22 => 90 | 25 => 117 | 26 => 118 | 27 => 119 | 28 => 120 | 29 => 121 | 30 => 122 | 31 => 147 | n => n, fun | 26 => 3 | 28 => 80 | 24 => 77 | 0 => 0 | 3 => 3 | 37 => 168 | 48 => 212 | 50 => 214 | 4 => 4 | 40 => 206 | 39 => 205 | 45 => 177 | 5 => 5 | 9 => 9 | 51 => 232 | 55 => 236 | 57 => 269 | 58 => 270 | 33 => 119 | n => n, fun | n => n⟩
theorem YtilgladlepnanaaGreatDoor.sortedA : Go.Proofs.SlLaysZI.n6 Tryz.prog YtilgladlepnanaaGreatDoor.sortedA_ren :=
  { mixed := by kernel_rfl
    f6 := ⟨Tryz.f19.name, by decide, Tryz.func19.trans (congrArg some (by kernel_rfl))⟩
    f8 := ⟨Tryz.f31.name, by decide, Tryz.func31.trans (congrArg some (by kernel_rfl))⟩
    f11 := ⟨Tryz.f55.name, by decide, Tryz.func55.trans (congrArg some (by kernel_rfl))⟩
    t0 := Tryz.underlying0
    a0 := Tryz.isAgg0
    z0 := Tryz.sizeOf0
    v0 := Tryz.zeroValue0
    t24 := Tryz.underlying77
    a24 := Tryz.isAgg77
    z24 := Tryz.sizeOf77
    v24 := Tryz.zeroValue77
    t26 := Tryz.underlying3
    a26 := Tryz.isAgg3
    z26 := Tryz.sizeOf3
    v26 := Tryz.zeroValue3
    t28 := Tryz.underlying80
    a28 := Tryz.isAgg80
    z28 := Tryz.sizeOf80
    v28 := Tryz.zeroValue80
    i26 := by kernel_rfl }
def YtilgladlepnanaaGreatDoor.sortA_ren : Go.Shelf.Ren := ⟨fun | 5 => 32 | 8 => 57 | 7 => 56 | 19 => 91 | 20 => 92 | 10 => 82 | 11 => 83 | 12 => 84 | 13 => 85 | 14 => 86 | 15 => 87 | 16 => 88 | 17 => 89 | 18 => 90 | 30 => 117 | 31 => 118 | 32 => 119 | 33 => 120 | 34 => 121 | 35 => 122 | 40 => 147 | n => n, fun | 23 => 77 | 25 => 3 | 3 => 3 | 32 => 168 | 22 => 77 | 0 => 0 | 44 => 212 | 46 => 214 | 4 => 4 | 36 => 206 | 35 => 205 | 41 => 177 | 5 => 5 | 9 => 9 | 53 => 232 | 57 => 236 | 63 => 269 | 64 => 270 | n => n, fun | n => n⟩
theorem YtilgladlepnanaaGreatDoor.sortA : Go.Proofs.SlLaysM.n5 Tryz.prog YtilgladlepnanaaGreatDoor.sortA_ren :=
  { mixed := by kernel_rfl
    f5 := ⟨Tryz.f32.name, by decide, Tryz.func32.trans (congrArg some (by kernel_rfl))⟩
    f7 := ⟨Tryz.f56.name, by decide, Tryz.func56.trans (congrArg some (by kernel_rfl))⟩
    f8 := Tryz.func57.trans (congrArg some (by kernel_rfl))
    f10 := ⟨Tryz.f82.name, by decide, Tryz.func82.trans (congrArg some (by kernel_rfl))⟩
    f11 := ⟨Tryz.f83.name, by decide, Tryz.func83.trans (congrArg some (by kernel_rfl))⟩
    f12 := ⟨Tryz.f84.name, by decide, Tryz.func84.trans (congrArg some (by kernel_rfl))⟩
    f13 := ⟨Tryz.f85.name, by decide, Tryz.func85.trans (congrArg some (by kernel_rfl))⟩
    f14 := ⟨Tryz.f86.name, by decide, Tryz.func86.trans (congrArg some (by kernel_rfl))⟩
    f15 := ⟨Tryz.f87.name, by decide, Tryz.func87.trans (congrArg some (by kernel_rfl))⟩
    f16 := ⟨Tryz.f88.name, by decide, Tryz.func88.trans (congrArg some (by kernel_rfl))⟩
    f17 := ⟨Tryz.f89.name, by decide, Tryz.func89.trans (congrArg some (by kernel_rfl))⟩
    f18 := ⟨Tryz.f90.name, by decide, Tryz.func90.trans (congrArg some (by kernel_rfl))⟩
    f19 := Tryz.func91.trans (congrArg some (by kernel_rfl))
    f20 := Tryz.func92.trans (congrArg some (by kernel_rfl))
    f30 := ⟨Tryz.f117.name, by decide, Tryz.func117.trans (congrArg some (by kernel_rfl))⟩
    f31 := Tryz.func118.trans (congrArg some (by kernel_rfl))
    f32 := Tryz.func119.trans (congrArg some (by kernel_rfl))
    f33 := ⟨Tryz.f120.name, by decide, Tryz.func120.trans (congrArg some (by kernel_rfl))⟩
    f34 := ⟨Tryz.f121.name, by decide, Tryz.func121.trans (congrArg some (by kernel_rfl))⟩
    f35 := ⟨Tryz.f122.name, by decide, Tryz.func122.trans (congrArg some (by kernel_rfl))⟩
    f40 := ⟨Tryz.f147.name, by decide, Tryz.func147.trans (congrArg some (by kernel_rfl))⟩
    t0 := Tryz.underlying0
    a0 := Tryz.isAgg0
    z0 := Tryz.sizeOf0
    v0 := Tryz.zeroValue0
    t3 := Tryz.underlying3
    a3 := Tryz.isAgg3
    z3 := Tryz.sizeOf3
    v3 := Tryz.zeroValue3
    t4 := Tryz.underlying4
    a4 := Tryz.isAgg4
    z4 := Tryz.sizeOf4
    v4 := Tryz.zeroValue4
    t5 := Tryz.underlying5
    a5 := Tryz.isAgg5
    z5 := Tryz.sizeOf5
    v5 := Tryz.zeroValue5
    t9 := Tryz.underlying9
    a9 := Tryz.isAgg9
    z9 := Tryz.sizeOf9
    v9 := Tryz.zeroValue9
    t22 := Tryz.underlying77
    a22 := Tryz.isAgg77
    z22 := Tryz.sizeOf77
    v22 := Tryz.zeroValue77
    t23 := Tryz.underlying77
    a23 := Tryz.isAgg77
    z23 := Tryz.sizeOf77
    v23 := Tryz.zeroValue77
    t25 := Tryz.underlying3
    a25 := Tryz.isAgg3
    z25 := Tryz.sizeOf3
    v25 := Tryz.zeroValue3
    t32 := Tryz.underlying168
    a32 := Tryz.isAgg168
    z32 := Tryz.sizeOf168
    v32 := Tryz.zeroValue168
    t35 := Tryz.underlying205
    a35 := Tryz.isAgg205
    z35 := Tryz.sizeOf205
    v35 := Tryz.zeroValue205
    t36 := Tryz.underlying206
    a36 := Tryz.isAgg206
    z36 := Tryz.sizeOf206
    v36 := Tryz.zeroValue206
    t41 := Tryz.underlying177
    a41 := Tryz.isAgg177
    z41 := Tryz.sizeOf177
    v41 := Tryz.zeroValue177
    t44 := Tryz.underlying212
    a44 := Tryz.isAgg212
    z44 := Tryz.sizeOf212
    v44 := Tryz.zeroValue212
    t46 := Tryz.underlying214
    a46 := Tryz.isAgg214
    z46 := Tryz.sizeOf214
    v46 := Tryz.zeroValue214
    t53 := Tryz.underlying232
    a53 := Tryz.isAgg232
    z53 := Tryz.sizeOf232
    v53 := Tryz.zeroValue232
    t57 := Tryz.underlying236
    a57 := Tryz.isAgg236
    z57 := Tryz.sizeOf236
    v57 := Tryz.zeroValue236
    t63 := Tryz.underlying269
    a63 := Tryz.isAgg269
    z63 := Tryz.sizeOf269
    v63 := Tryz.zeroValue269
    t64 := Tryz.underlying270
    a64 := Tryz.isAgg270
    z64 := Tryz.sizeOf270
    v64 := Tryz.zeroValue270 }

namespace YtilgladlepnanaaGreatDoor
open Go.Ev
/-- slices.Sort's two contracts at this dump, at the fence that asks nothing -/
theorem sortsA (m : Nat) : AnyZI.SortsIn Tryz.prog YtilgladlepnanaaGreatDoor.sortedA_ren Fence.wide m :=
  ⟨fun blk off cap ss W hH hblk hsz => callsIn_wide.2 (AnyM.slices_Sort_int YtilgladlepnanaaGreatDoor.sortA blk off cap ss W hH hblk hsz),
   fun p cap W => callsIn_wide.2 (AnyM.slices_Sort_int_none YtilgladlepnanaaGreatDoor.sortA p cap W)⟩
/-- how an element of the map reads: not at all -/
def anyElem (_ : Value) : Option (DataW Unit × List MemPlace) := some (.lit (.bool true), [])
theorem owns_of {w : World} {b cl : Nat} {ms : Array MapEntry} {ks : List Int} (hb : w.heap[b]? = some (.map ms cl)) (hk : ms.toList.map (·.key) = ks.map (Value.int .i64)) (hnd : ks.Nodup)
    (hr : ∀ c ∈ ks, IntKind.i64.min ≤ c ∧ c ≤ IntKind.i64.max) (h1 : ∀ x ∈ ms.toList, x.born < cl) (h2 : (ms.toList.map (·.born)).Nodup) (hl : ks.length ≤ 1000000) :
    ∃ D : DataW Unit, w.ownsMap Tryz.prog 3 anyElem b ms.size D ∧ (intKeys D).Perm ks ∧ Maps.size D = ks.length := by
  have hlen : ms.size = ks.length := by
    have := congrArg List.length hk
    simpa using this
  have hkey : ∀ x ∈ ms.toList, ∃ c ∈ ks, x.key = .int .i64 c := fun x hx => by
    have : x.key ∈ ms.toList.map (·.key) := List.mem_map.2 ⟨x, hx, rfl⟩
    rw [hk] at this
    obtain ⟨c, hc, e⟩ := List.mem_map.1 this
    exact ⟨c, hc, e.symm⟩
  have hrd : ∀ x ∈ ms.toList, ∀ c, c ∈ ks → x.key = .int .i64 c → WideElems.rd Tryz.prog 3 anyElem x = some (.int .i64 c, .lit (.bool true)) := fun x _ c hc he => by
    have hw : (Lit.int .i64 c).wf = true := by simp only [Lit.wf, Bool.and_eq_true, decide_eq_true_eq]; exact hr c hc
    have hkey : keyOf Tryz.prog 3 x.key = some (.int .i64 c) := by
      rw [he]
      simp [keyOf, Tryz.underlying3, mapKey, hw]
    simp [WideElems.rd, hkey, anyElem]
  have hrg : ms.toList.map (WideElems.rg Tryz.prog 3 anyElem) = ks.map fun c => ((.int .i64 c, .lit (.bool true)) : Lit × DataW Unit) := by
    have : ∀ (l : List MapEntry) (ks' : List Int), (∀ x ∈ l, x ∈ ms.toList) → (∀ c ∈ ks', c ∈ ks) → l.map (·.key) = ks'.map (Value.int .i64) → l.map (WideElems.rg Tryz.prog 3 anyElem) = ks'.map fun c => ((.int .i64 c, .lit (.bool true)) : Lit × DataW Unit) := by
      intro l
      induction l with
      | nil => intro ks' _ _ h; cases ks' with
        | nil => rfl
        | cons c t => simp at h
      | cons x t ih =>
        intro ks' hm hc h
        cases ks' with
        | nil => simp at h
        | cons c t' =>
          simp only [List.map_cons, List.cons.injEq] at h ⊢
          refine ⟨?_, ih t' (fun y hy => hm y (List.mem_cons_of_mem _ hy)) (fun y hy => hc y (List.mem_cons_of_mem _ hy)) h.2⟩
          simp [WideElems.rg, hrd x (hm x (List.mem_cons_self ..)) c (hc c (List.mem_cons_self ..)) h.1]
    exact this _ _ (fun _ h => h) (fun _ h => h) hk
  refine ⟨_, ⟨ms, cl, hb, ⟨?_, ⟨h1, h2, ?_⟩, fun x hx => ?_⟩, Nat.le_refl _, rfl⟩, ?_, ?_⟩
  · rw [hlen]; unfold maxLen; omega
  · rw [hk]
    exact List.Pairwise.map _ (fun a b hab e => hab (by cases e; rfl)) hnd
  · obtain ⟨c, hc, he⟩ := hkey x hx
    exact ⟨_, hrd x hx c hc he⟩
  · rw [hrg]
    show ((List.foldr DataW.insert [] (ks.map fun c => ((.int .i64 c, .lit (.bool true)) : Lit × DataW Unit))).map fun p => Go.intOf p.1).Perm ks
    refine ((WideShapes.sorted_perm _).map _).trans ?_
    rw [List.map_map]
    have : ((fun p : Lit × DataW Unit => Go.intOf p.1) ∘ fun c : Int => ((.int .i64 c, .lit (.bool true)) : Lit × DataW Unit)) = id := rfl
    rw [this, List.map_id]
  · rw [hrg]
    show (List.foldr DataW.insert [] (ks.map fun c => ((.int .i64 c, .lit (.bool true)) : Lit × DataW Unit))).length = ks.length
    rw [(WideShapes.sorted_perm _).length_eq, List.length_map]
theorem sortI_merge (l : List Int) {ss : List Int} (h : ss.Perm l) : ss.mergeSort (fun x y => decide (x ≤ y)) = sortI l := by
  have tr : ∀ a b c : Int, leI a b = true → leI b c = true → leI a c = true := fun a b c h1 h2 => by simp only [leI, decide_eq_true_eq] at *; exact Int.le_trans h1 h2
  have to : ∀ a b : Int, (leI a b || leI b a) = true := fun a b => by simp only [leI, Bool.or_eq_true, decide_eq_true_eq]; exact Int.le_total a b
  refine List.Perm.eq_of_pairwise (le := fun a b => a ≤ b) (fun a b _ _ h1 h2 => Int.le_antisymm h1 h2) ((List.pairwise_mergeSort tr to ss).imp fun h => by simpa [leI] using h) (sortI_sorted l) (((List.mergeSort_perm ss leI).trans h).trans (sortI_perm l).symm)
set_option maxHeartbeats 1000000 in
theorem sorted_keys : SortedI Tryz.prog 19 33 3 := by
  intro bq bm cl ms ks w hq hlt hm hk hnd hr h1 h2 hl
  obtain ⟨D, hown, hperm, hsz⟩ := owns_of hm hk hnd hr h1 h2 hl
  have hseq : SeqGives Fence.wide 2 Tryz.prog 33 #[.pointer (some ⟨bq, 0, none⟩)] encZ (fun ss => ss.Perm (intKeys D)) (Maps.size D) w :=
    AnyZI.keys_gives (ρ := YtilgladlepnanaaGreatDoor.keysA_ren) { YtilgladlepnanaaGreatDoor.keysA with } Fence.wide _ trivial rfl (by omega) bq bm _ D w hlt hq hown
  have cS := AnyZI.sorted_in YtilgladlepnanaaGreatDoor.sortedA Fence.wide 5 trivial trivial trivial trivial rfl (by omega) (sortsA _) (enters_of Tryz.func32 (by kernel_rfl) rfl) 33 #[.pointer (some ⟨bq, 0, none⟩)] trivial (enters_of Tryz.func33 (by kernel_rfl) rfl) _ _ (by rw [hsz]; unfold maxLen; omega) (by rw [hsz]; omega) _ hseq
  change CallsIn _ _ Tryz.prog 19 _ _ _ at cS
  refine (callsIn_wide.1 cS).mono ?_
  rintro e w' ⟨v, ss, rfl, hS, hrow, hnil, hb⟩
  have hp : ss.Perm ks := hS.trans hperm
  rw [sortI_merge ks hp, hp.length_eq] at hrow
  refine ⟨v, rfl, hrow, ?_, hb⟩
  rw [hnil]
  constructor
  · rintro rfl; exact List.length_eq_zero_iff.1 hp.length_eq.symm
  · rintro rfl; exact List.length_eq_zero_iff.1 hp.length_eq
end YtilgladlepnanaaGreatDoor
end Go.Proofs
