/-
  slices.SortFunc of pairs: the library's contract, laid at this dump; stream.sorted leaves pairs whose starts grow as they are.
  The tables, out of the row's condition.
-/
import Derived.Test.YtahmcjdddcbhnaaGreatDoorRunG2a
import Derived.Test.YtahmcjdddcbhnaaGreatDoorRunG1a
import Derived.Shelf.SlSortCmp.WholeK
import Derived.Test.YtahmcjdddcbhnaaGreatDoorFstWW
import Derived.Test.YtahmcjdddcbhnaaGreatDoorRows
import Derived.Lib.LaidU8T
namespace Go.Proofs
open Go.RowKit Go.Sort Go.Shelf
def YtahmcjdddcbhnaaGreatDoor.sortF_ren : Go.Shelf.Ren := ⟨fun | 6 => 367 | 14 => 375 | 15 => 80 | 20 => 381 | 21 => 382 | 22 => 383 | 23 => 384 | 24 => 385 | 25 => 386 | 26 => 387 | 27 => 388 | 28 => 113 | 29 => 114 | 46 => 390 | 47 => 140 | 48 => 141 | 49 => 391 | 50 => 392 | 57 => 394 | n => n, fun | 0 => 0 | 3 => 3 | 4 => 4 | 5 => 5 | 9 => 9 | 22 => 63 | 24 => 65 | 25 => 537 | 39 => 159 | 45 => 236 | 46 => 237 | 50 => 209 | 53 => 244 | 55 => 246 | 66 => 264 | 70 => 268 | 76 => 301 | 77 => 127 | n => n, fun | n => n⟩
theorem YtahmcjdddcbhnaaGreatDoor.sortF : Go.Proofs.SlLaysF0.n6 Tryz.prog YtahmcjdddcbhnaaGreatDoor.sortF_ren :=
  { mixed := by kernel_rfl
    f6 := ⟨Tryz.f367.name, by decide, Tryz.func367.trans (congrArg some (by kernel_rfl))⟩
    f14 := ⟨Tryz.f375.name, by decide, Tryz.func375.trans (congrArg some (by kernel_rfl))⟩
    f15 := Tryz.func80.trans (congrArg some (by kernel_rfl))
    f20 := ⟨Tryz.f381.name, by decide, Tryz.func381.trans (congrArg some (by kernel_rfl))⟩
    f21 := ⟨Tryz.f382.name, by decide, Tryz.func382.trans (congrArg some (by kernel_rfl))⟩
    f22 := ⟨Tryz.f383.name, by decide, Tryz.func383.trans (congrArg some (by kernel_rfl))⟩
    f23 := ⟨Tryz.f384.name, by decide, Tryz.func384.trans (congrArg some (by kernel_rfl))⟩
    f24 := ⟨Tryz.f385.name, by decide, Tryz.func385.trans (congrArg some (by kernel_rfl))⟩
    f25 := ⟨Tryz.f386.name, by decide, Tryz.func386.trans (congrArg some (by kernel_rfl))⟩
    f26 := ⟨Tryz.f387.name, by decide, Tryz.func387.trans (congrArg some (by kernel_rfl))⟩
    f27 := ⟨Tryz.f388.name, by decide, Tryz.func388.trans (congrArg some (by kernel_rfl))⟩
    f28 := Tryz.func113.trans (congrArg some (by kernel_rfl))
    f29 := Tryz.func114.trans (congrArg some (by kernel_rfl))
    f46 := ⟨Tryz.f390.name, by decide, Tryz.func390.trans (congrArg some (by kernel_rfl))⟩
    f47 := Tryz.func140.trans (congrArg some (by kernel_rfl))
    f48 := Tryz.func141.trans (congrArg some (by kernel_rfl))
    f49 := ⟨Tryz.f391.name, by decide, Tryz.func391.trans (congrArg some (by kernel_rfl))⟩
    f50 := ⟨Tryz.f392.name, by decide, Tryz.func392.trans (congrArg some (by kernel_rfl))⟩
    f57 := ⟨Tryz.f394.name, by decide, Tryz.func394.trans (congrArg some (by kernel_rfl))⟩
    t0 := Tryz.underlying0
    a0 := Tryz.isAgg0
    z0 := Tryz.sizeOf0
    v0 := Tryz.zeroValue0
    t3 := Tryz.underlying3
    a3 := Tryz.isAgg3
    z3 := Tryz.sizeOf3
    v3 := Tryz.zeroValue3
    t4 := Tryz.underlying4
    a4 := Tryz.isAgg4
    z4 := Tryz.sizeOf4
    v4 := Tryz.zeroValue4
    t5 := Tryz.underlying5
    a5 := Tryz.isAgg5
    z5 := Tryz.sizeOf5
    v5 := Tryz.zeroValue5
    t9 := Tryz.underlying9
    a9 := Tryz.isAgg9
    z9 := Tryz.sizeOf9
    v9 := Tryz.zeroValue9
    t22 := Tryz.underlying63
    a22 := Tryz.isAgg63
    z22 := Tryz.sizeOf63
    v22 := Tryz.zeroValue63
    t25 := Tryz.underlying537
    a25 := Tryz.isAgg537
    z25 := Tryz.sizeOf537
    v25 := Tryz.zeroValue537
    t39 := Tryz.underlying159
    a39 := Tryz.isAgg159
    z39 := Tryz.sizeOf159
    v39 := Tryz.zeroValue159
    t45 := Tryz.underlying236
    a45 := Tryz.isAgg236
    z45 := Tryz.sizeOf236
    v45 := Tryz.zeroValue236
    t46 := Tryz.underlying237
    a46 := Tryz.isAgg237
    z46 := Tryz.sizeOf237
    v46 := Tryz.zeroValue237
    t50 := Tryz.underlying209
    a50 := Tryz.isAgg209
    z50 := Tryz.sizeOf209
    v50 := Tryz.zeroValue209
    t53 := Tryz.underlying244
    a53 := Tryz.isAgg244
    z53 := Tryz.sizeOf244
    v53 := Tryz.zeroValue244
    t55 := Tryz.underlying246
    a55 := Tryz.isAgg246
    z55 := Tryz.sizeOf246
    v55 := Tryz.zeroValue246
    t66 := Tryz.underlying264
    a66 := Tryz.isAgg264
    z66 := Tryz.sizeOf264
    v66 := Tryz.zeroValue264
    t70 := Tryz.underlying268
    a70 := Tryz.isAgg268
    z70 := Tryz.sizeOf268
    v70 := Tryz.zeroValue268
    t76 := Tryz.underlying301
    a76 := Tryz.isAgg301
    z76 := Tryz.sizeOf301
    v76 := Tryz.zeroValue301
    t77 := Tryz.underlying127
    a77 := Tryz.isAgg127
    z77 := Tryz.sizeOf127
    v77 := Tryz.zeroValue127 }
namespace YtahmcjdddcbhnaaGreatDoor
open Go.Ev
/-- within the bounds -/
def cl (x : Int) : Int := max 0 (min x 65536)
theorem cl_bd (x : Int) : 0 ≤ cl x ∧ cl x ≤ 65536 := by unfold cl; omega
theorem cl_id {x : Int} (h : 0 ≤ x ∧ x ≤ 65536) : cl x = x := by unfold cl; omega
/-- a pair's two cells -/
def encP (x : Int) : List Value := [.int .i64 (cl x), .int .i64 (cl x + 1)]
theorem ltP (x y : Int) : ltOf (fun x y : Int => cl x - cl y) x y = decide (cl x < cl y) := by
  unfold ltOf
  by_cases h : cl x < cl y
  · rw [decide_eq_true h]
    exact decide_eq_true (show cl x - cl y < 0 by omega)
  · rw [decide_eq_false h]
    exact decide_eq_false (show ¬ (cl x - cl y < 0) by omega)
theorem swoP : SWO (ltOf fun x y : Int => cl x - cl y) where
  irrefl x := by rw [ltP]; simp
  trans x y z h1 h2 := by rw [ltP] at *; simp at *; omega
  ntrans x y z h1 h2 := by rw [ltP] at *; simp at *; omega
set_option maxHeartbeats 1000000 in
theorem closP {a b : Int} (ha : 0 ≤ a ∧ a ≤ 65536) (hb : 0 ≤ b ∧ b ≤ 65536) (W : World) : Calls Tryz.prog 368 #[.agg #[.int .i64 a, .int .i64 (a + 1)], .agg #[.int .i64 b, .int .i64 (b + 1)]] W fun e w' => e = .returned (.int .i64 (a - b)) ∧ ∃ q os', w' = grow (W.drewN q) os' := by
  have hw : IntKind.i64.wrap (a - b) = a - b := wrapS (by omega) (by omega)
  go_enter Tryz.func368, Tryz.ntmps368
  go_wp2
  go_ret
  exact ⟨rfl, 0, _, by rw [alloc_eq_grow, alloc_eq_grow, grow_grow]; rfl⟩
theorem cmpLaysP (blk off size : Nat) (w : World) : CmpLays Tryz.prog 368 #[] encP 2 (fun x y => cl x - cl y) blk off size w :=
  fun _ _ _ _ x y => closP (cl_bd x) (cl_bd y) _
theorem flat_pairs (l : List Int) (h : ∀ a ∈ l, 0 ≤ a ∧ a ≤ 65536) (j : Nat) (hj : j < l.length * 2) : (pairsV l)[j]? = some ((encP (l[j / 2]'(by omega)))[j % 2]!) := by
  induction l generalizing j with
  | nil => simp at hj
  | cons a t ih =>
    have ha := h a (List.mem_cons_self ..)
    have e : pairsV (a :: t) = [.int .i64 a, .int .i64 (a + 1)] ++ pairsV t := rfl
    rw [e]
    match j, hj with
    | 0, _ => simp [encP, cl_id ha]
    | 1, _ => simp [encP, cl_id ha]
    | j + 2, hj =>
      rw [List.getElem?_append_right (by simp)]
      have := ih (fun b hb => h b (List.mem_cons_of_mem _ hb)) j (by simp at hj; omega)
      simp only [List.length_cons, List.length_nil, Nat.add_sub_cancel]
      rw [this]
      have e1 : (j + 2) / 2 = j / 2 + 1 := by omega
      have e2 : (j + 2) % 2 = j % 2 := by omega
      simp only [e1, e2, List.getElem_cons_succ]
theorem perm_same {l l' : List Int} (hup : l.Pairwise (· < ·)) (hp : l'.Perm l) (hs : l'.Pairwise (· ≤ ·)) : l' = l :=
  List.Perm.eq_of_pairwise (le := fun a b => a ≤ b) (fun _a _b _ _ h1 h2 => Int.le_antisymm h1 h2) hs (hup.imp fun h => Int.le_of_lt h) hp
set_option maxHeartbeats 2000000 in
theorem sorted_ok : SortedOk := by
  intro w v ρ hv hth hup hbd hlen hnil
  by_cases hz : ρ = []
  · rw [hnil hz]
    exact sorted_nil w
  obtain ⟨A, n, c, rfl, h1, h2, h3⟩ := hv
  have hn : ρ.length = n := by rw [pairsV_len] at h1; omega
  have hn0 : n ≠ 0 := fun e => hz (List.length_eq_zero_iff.1 (hn.trans e))
  obtain ⟨b, s, rfl, hb, hcc⟩ := h3 hn0
  have hth' : ∀ o u, w.cell? ⟨b, o, none⟩ = some u → w.frozen? ⟨b, o, none⟩ = false := hth b (by cases n with | zero => exact absurd rfl hn0 | succ m => rfl)
  have hH : HoldsK encP 2 w b s ρ.toArray := by
    intro j hj
    rw [size_flatK] at hj
    have hj' : j < ρ.length * 2 := by simpa using hj
    have hc := hcc j _ (flat_pairs ρ hbd j hj')
    rw [get_flatK _ _ _ _ hj]
    have hg : (encP ρ.toArray[j / 2]!)[j % 2]! = (encP (ρ[j / 2]'(by omega)))[j % 2]! := by
      rw [getElem!_pos ρ.toArray (j / 2) (by simp; omega)]
      simp
    rw [hg]
    exact ⟨hc, hth' _ _ hc⟩
  have eg : ∀ args w, (callFunc 368 args).run Tryz.prog w = .ok (.enter 368 args) w := enters_of Tryz.func368 (by kernel_rfl) rfl
  have hcon := AnyQ.slices_SortFunc YtahmcjdddcbhnaaGreatDoor.sortF 2 Tryz.isAgg65 Tryz.sizeOf65 encP (fun _ => rfl) (fun x v hv => by simp [encP] at hv; rcases hv with rfl | rfl <;> rfl) (fun x y => cl x - cl y) swoP 368 #[] b s c ρ.toArray w eg (cmpLaysP b s ρ.toArray.size w) hH hb (by simp; omega)
  change Calls Tryz.prog 367 _ _ _ at hcon
  have hrs : ρ.toArray.size = n := by simpa using hn
  rw [hrs] at hcon
  have HH := Lib.hid hH
  clear hH h3 hcc hth hth' h1
  go_enter Tryz.func356, Tryz.ntmps356
  go_wp2_with (first | (go_at_call 367; refine hcon.mono ?_; clear hcon; rintro _ w1 ⟨rfl, d', m, os, hp, hs, hw1⟩) | fail)
  go_ret
  refine ⟨rfl, ?_⟩
  obtain ⟨p1, -, p3⟩ := hp
  have hd'n : d'.size = n := p1.trans hrs
  have hpl : d'.toList.Perm ρ := by
    have e1 : (d'.extract 0 n).toList = d'.toList := by rw [← hd'n]; simp
    have e2 : (ρ.toArray.extract 0 n).toList = ρ := by rw [← hrs]; simp
    rw [e1, e2] at p3
    exact p3
  have hsl : d'.toList.Pairwise (· ≤ ·) := by
    rw [List.pairwise_iff_getElem]
    intro i j hi hj hij
    have hi' : i < d'.size := by simpa using hi
    have hj' : j < d'.size := by simpa using hj
    have := hs i j (Nat.zero_le _) hij (by omega)
    rw [ltP, getElem!_pos d' i hi', getElem!_pos d' j hj'] at this
    have h4 := of_decide_eq_false this
    have m1 := hbd _ (hpl.mem_iff.1 (List.getElem_mem hi))
    have m2 := hbd _ (hpl.mem_iff.1 (List.getElem_mem hj))
    simp only [Array.getElem_toList] at m1 m2 ⊢
    rw [cl_id m1, cl_id m2] at h4
    omega
  have hdd : d' = ρ.toArray := Array.toList_inj.1 (by rw [perm_same hup hpl hsl])
  have hw2 : sortWorldK encP 2 w b s m d' os = grow (Sort.ahead w m) os := by
    rw [hdd]
    unfold sortWorldK
    rw [putRowK_self encP 2 (Sort.ahead w m) b s ρ.toArray HH.out]
  first | rw [hw2] | (rw [hw1, hw2])
  exact ⟨rfl, rfl, rfl, by simp [Sort.ahead], fun k hk => heap_grow_old _ _ hk⟩
end YtahmcjdddcbhnaaGreatDoor
end Go.Proofs
namespace Go.Proofs.YtahmcjdddcbhnaaGreatDoor
open Go Go.RowKit Go.Shelf Go.Lib Go.Proofs

def u8_ren : Go.Shelf.Ren := ⟨fun n => n, fun | 5 => 5 | 119 => 270 | 138 => 272 | 139 => 273 | n => n, fun | 3 => 1 | 4 => 2 | n => n⟩
theorem firstSame : Go.Pinned.utf8First = Lib.firstData := by kernel_rfl
theorem acceptSame : (Rows.laid_unicode_utf8_acceptRanges : DataW Unit) = Lib.acceptData := by kernel_rfl
set_option maxRecDepth 100000 in
theorem tabs_of_laid {W : World} (hL : laidMet Tryz.prog Rows.filterRunesRow.laid W) : Tabs W :=
  utf8Tabs_of_readsT (P := Tryz.prog) (ρ := u8_ren) ⟨Tryz.underlying5, Tryz.underlying270, Tryz.underlying272, Tryz.underlying273⟩
    ⟨by kernel_rfl, by kernel_rfl, by kernel_rfl, by kernel_rfl, by kernel_rfl, by kernel_rfl, by kernel_rfl⟩
    (firstSame ▸ Lib.laidMet.reads hL (.tail _ (.tail _ (.head _)))) (acceptSame ▸ Lib.laidMet.reads hL (.head _))
theorem formsN : Tryz.prog.globalNamed "rexmill/text.forms" = some 0 := by kernel_rfl
theorem formsY : (Tryz.prog.globals[0]?).map (·.type) = some 72 := by kernel_rfl
theorem cellsInt3 : Tryz.prog.cellsOf 3 = 1 := by kernel_rfl
theorem cellsForm : Tryz.prog.cellsOf 71 = 4 := by kernel_rfl
theorem formEl (i : Nat) (hi : i < 4) : ∃ a b c d : Int, (match (Rows.laid_rexmill_text_forms : DataW Unit) with | .agg ds => ds[i]? | _ => none) = some (.agg ([a, b, c, d].map fun z => .lit (.int .i64 z))) ∧ formsL[4 * i]? = some a ∧ formsL[4 * i + 1]? = some b ∧ formsL[4 * i + 2]? = some c ∧ formsL[4 * i + 3]? = some d := by
  match i, hi with
  | 0, _ => exact ⟨0, 127, 0, 0, rfl, rfl, rfl, rfl, rfl⟩
  | 1, _ => exact ⟨128, 2047, 192, 1, rfl, rfl, rfl, rfl, rfl⟩
  | 2, _ => exact ⟨2048, 65535, 224, 2, rfl, rfl, rfl, rfl, rfl⟩
  | 3, _ => exact ⟨65536, 1114111, 240, 3, rfl, rfl, rfl, rfl, rfl⟩
set_option maxRecDepth 100000 in
theorem forms_of_laid {W : World} (hL : laidMet Tryz.prog Rows.filterRunesRow.laid W) : Forms W := by
  intro i v hv
  obtain ⟨g, t, cs, fuel, p, hg, hty, hvar, hd⟩ := Lib.laidMet.reads hL (.tail _ (.head _))
  obtain rfl := Option.some.inj (formsN.symm.trans hg)
  obtain rfl := Option.some.inj (formsY.symm.trans hty)
  have hi : i < 16 := by have := (List.getElem?_eq_some_iff.1 hv).1; exact this
  obtain ⟨a, b, c, d, h1, h2, h3, h4, h5⟩ := formEl (i / 4) (by omega)
  obtain ⟨fuel', dd, q, hdi, he⟩ := array_elem Tryz.underlying72 hd (i / 4) (by omega)
  obtain rfl := Option.some.inj (h1.symm.trans hdi)
  rw [cellsForm] at he
  have hcs := ints_of_struct Tryz.underlying71 (fun j f hj => by
    match j, hj with
    | 0, hj => simp at hj; subst hj; exact ⟨Tryz.underlying3, rfl, cellsInt3⟩
    | 1, hj => simp at hj; subst hj; exact ⟨Tryz.underlying3, rfl, cellsInt3⟩
    | 2, hj => simp at hj; subst hj; exact ⟨Tryz.underlying3, rfl, cellsInt3⟩
    | 3, hj => simp at hj; subst hj; exact ⟨Tryz.underlying3, rfl, cellsInt3⟩
    | j + 4, hj => simp at hj) (by rw [cellsForm]; rfl) he
  rw [World.var?_cell hg hvar i, ← Array.getElem?_toList]
  have e0 := congrArg (·[i % 4]?) hcs
  simp only [List.getElem?_take, List.getElem?_drop] at e0
  have hm : i % 4 < 4 := Nat.mod_lt _ (by omega)
  rw [if_pos hm, show i / 4 * 4 + i % 4 = i by omega] at e0
  rw [e0]
  have h6 : i = 4 * (i / 4) + i % 4 := by omega
  generalize i % 4 = r at *
  match r, hm with
  | 0, _ => rw [h6, Nat.add_zero, h2] at hv; cases hv; rfl
  | 1, _ => rw [h6, h3] at hv; cases hv; rfl
  | 2, _ => rw [h6, h4] at hv; cases hv; rfl
  | 3, _ => rw [h6, h5] at hv; cases hv; rfl
end Go.Proofs.YtahmcjdddcbhnaaGreatDoor
