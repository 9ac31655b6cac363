/-
  slices.Sort at ints: the library's contract, laid at this dump.
-/
import Derived.Test.YtahmcjdddcbhnaaGreatDoorProg
import Derived.KernelRfl
import Derived.Shelf.SortM.Plain
import Derived.Shelf.SortM.SortNone
import Derived.Ground.SlgmProg
namespace Go.Proofs
open Go.RowKit Go.Sort Go.Shelf

def YtahmcjdddcbhnaaGreatDoor.sortA_ren : Go.Shelf.Ren := ⟨fun | 5 => 55 | 7 => 79 | 8 => 80 | 10 => 104 | 11 => 105 | 12 => 106 | 13 => 107 | 14 => 108 | 15 => 109 | 16 => 110 | 17 => 111 | 18 => 112 | 19 => 113 | 20 => 114 | 30 => 139 | 31 => 140 | 32 => 141 | 33 => 142 | 34 => 143 | 35 => 144 | 40 => 169 | n => n, fun | 23 => 22 | 25 => 3 | 3 => 3 | 32 => 159 | 22 => 22 | 0 => 0 | 44 => 244 | 46 => 246 | 4 => 4 | 36 => 237 | 35 => 236 | 41 => 209 | 5 => 5 | 9 => 9 | 53 => 264 | 57 => 268 | 63 => 301 | 64 => 127 | n => n, fun | n => n⟩
theorem YtahmcjdddcbhnaaGreatDoor.sortA : Go.Proofs.SlLaysM.n5 Tryz.prog YtahmcjdddcbhnaaGreatDoor.sortA_ren :=
  { mixed := by kernel_rfl
    f5 := ⟨Tryz.f55.name, by decide, Tryz.func55.trans (congrArg some (by kernel_rfl))⟩
    f7 := ⟨Tryz.f79.name, by decide, Tryz.func79.trans (congrArg some (by kernel_rfl))⟩
    f8 := Tryz.func80.trans (congrArg some (by kernel_rfl))
    f10 := ⟨Tryz.f104.name, by decide, Tryz.func104.trans (congrArg some (by kernel_rfl))⟩
    f11 := ⟨Tryz.f105.name, by decide, Tryz.func105.trans (congrArg some (by kernel_rfl))⟩
    f12 := ⟨Tryz.f106.name, by decide, Tryz.func106.trans (congrArg some (by kernel_rfl))⟩
    f13 := ⟨Tryz.f107.name, by decide, Tryz.func107.trans (congrArg some (by kernel_rfl))⟩
    f14 := ⟨Tryz.f108.name, by decide, Tryz.func108.trans (congrArg some (by kernel_rfl))⟩
    f15 := ⟨Tryz.f109.name, by decide, Tryz.func109.trans (congrArg some (by kernel_rfl))⟩
    f16 := ⟨Tryz.f110.name, by decide, Tryz.func110.trans (congrArg some (by kernel_rfl))⟩
    f17 := ⟨Tryz.f111.name, by decide, Tryz.func111.trans (congrArg some (by kernel_rfl))⟩
    f18 := ⟨Tryz.f112.name, by decide, Tryz.func112.trans (congrArg some (by kernel_rfl))⟩
    f19 := Tryz.func113.trans (congrArg some (by kernel_rfl))
    f20 := Tryz.func114.trans (congrArg some (by kernel_rfl))
    f30 := ⟨Tryz.f139.name, by decide, Tryz.func139.trans (congrArg some (by kernel_rfl))⟩
    f31 := Tryz.func140.trans (congrArg some (by kernel_rfl))
    f32 := Tryz.func141.trans (congrArg some (by kernel_rfl))
    f33 := ⟨Tryz.f142.name, by decide, Tryz.func142.trans (congrArg some (by kernel_rfl))⟩
    f34 := ⟨Tryz.f143.name, by decide, Tryz.func143.trans (congrArg some (by kernel_rfl))⟩
    f35 := ⟨Tryz.f144.name, by decide, Tryz.func144.trans (congrArg some (by kernel_rfl))⟩
    f40 := ⟨Tryz.f169.name, by decide, Tryz.func169.trans (congrArg some (by kernel_rfl))⟩
    t0 := Tryz.underlying0
    a0 := Tryz.isAgg0
    z0 := Tryz.sizeOf0
    v0 := Tryz.zeroValue0
    t3 := Tryz.underlying3
    a3 := Tryz.isAgg3
    z3 := Tryz.sizeOf3
    v3 := Tryz.zeroValue3
    t4 := Tryz.underlying4
    a4 := Tryz.isAgg4
    z4 := Tryz.sizeOf4
    v4 := Tryz.zeroValue4
    t5 := Tryz.underlying5
    a5 := Tryz.isAgg5
    z5 := Tryz.sizeOf5
    v5 := Tryz.zeroValue5
    t9 := Tryz.underlying9
    a9 := Tryz.isAgg9
    z9 := Tryz.sizeOf9
    v9 := Tryz.zeroValue9
    t22 := Tryz.underlying22
    a22 := Tryz.isAgg22
    z22 := Tryz.sizeOf22
    v22 := Tryz.zeroValue22
    t23 := Tryz.underlying22
    a23 := Tryz.isAgg22
    z23 := Tryz.sizeOf22
    v23 := Tryz.zeroValue22
    t25 := Tryz.underlying3
    a25 := Tryz.isAgg3
    z25 := Tryz.sizeOf3
    v25 := Tryz.zeroValue3
    t32 := Tryz.underlying159
    a32 := Tryz.isAgg159
    z32 := Tryz.sizeOf159
    v32 := Tryz.zeroValue159
    t35 := Tryz.underlying236
    a35 := Tryz.isAgg236
    z35 := Tryz.sizeOf236
    v35 := Tryz.zeroValue236
    t36 := Tryz.underlying237
    a36 := Tryz.isAgg237
    z36 := Tryz.sizeOf237
    v36 := Tryz.zeroValue237
    t41 := Tryz.underlying209
    a41 := Tryz.isAgg209
    z41 := Tryz.sizeOf209
    v41 := Tryz.zeroValue209
    t44 := Tryz.underlying244
    a44 := Tryz.isAgg244
    z44 := Tryz.sizeOf244
    v44 := Tryz.zeroValue244
    t46 := Tryz.underlying246
    a46 := Tryz.isAgg246
    z46 := Tryz.sizeOf246
    v46 := Tryz.zeroValue246
    t53 := Tryz.underlying264
    a53 := Tryz.isAgg264
    z53 := Tryz.sizeOf264
    v53 := Tryz.zeroValue264
    t57 := Tryz.underlying268
    a57 := Tryz.isAgg268
    z57 := Tryz.sizeOf268
    v57 := Tryz.zeroValue268
    t63 := Tryz.underlying301
    a63 := Tryz.isAgg301
    z63 := Tryz.sizeOf301
    v63 := Tryz.zeroValue301
    t64 := Tryz.underlying127
    a64 := Tryz.isAgg127
    z64 := Tryz.sizeOf127
    v64 := Tryz.zeroValue127 }
end Go.Proofs
