/-
  A verified evaluator, part 11: indexing, fields, slices of slices, conversions, lengths, comparisons.
-/
import Derived.Test.YtilgladlepnanaaGreatDoorEv10
import Derived.Laws.StructEq
import Derived.Laws.BytesArg
namespace Go.Ev
noncomputable section
open Go

section
variable {P : Program} {Γ : Glo} {ι : Emb} {H H' : Heap} {w : World} {ρ : Operand → Value} {L : List V} {R : Regs} {r : Operand → Src} {cal : Cal} {n n' : Pth} {v : V} {o : Oper}

theorem addr_add' (a : Addr) (b o m : Nat) (h : a = ⟨b, o, none⟩) : a.add m = ⟨b, o + m, none⟩ := by subst h; exact addr_add b o m
theorem ok_xaddr (c : Cxt P Γ ι H w ρ L R r) {t : TypeId} {x i : Operand} (ho : o.op = .indexAddr t x i) (he : evI (opI P r (.indexAddr t x i)) cal Γ L R H n = .ok v H' n') :
    OpOK P ρ o w (Post P ι H w H' v) := by
  unfold opI at he
  have hi := c.hs i
  have hx := c.hs x
  cases hu : P.underlying t with
  | none => simp [hu] at he; cases he
  | some d =>
    cases d <;> simp only [hu] at he <;> try (cases he; done)
    case slice e =>
      cases hsz : sizeT P e with
      | none => simp [hsz] at he; cases he
      | some k =>
        have he' : evXaddr (.sl k) (r x) (r i) cal Γ L R H n = .ok v H' n' := by simp only [hsz] at he; exact he
        unfold evXaddr at he'
        cases hbi : src L R (r i) <;> simp [hbi] at he'
        rename_i ik m
        cases m <;> simp at he'
        rename_i j
        cases hbx : src L R (r x) <;> simp [hbx] at he'
        rename_i p off m cp ex
        cases hlt : Nat.blt j m with
        | false => simp [hlt] at he'
        | true =>
          simp [hlt] at he'
          obtain ⟨rfl, rfl, rfl⟩ := he'
          rw [hbi] at hi; rw [hbx] at hx
          simp only [V.rel] at hi hx
          obtain ⟨b, s, c', hp, hxe, _⟩ := hx
          have hjm := blt_lt hlt
          refine OpOK.same c (s := Instr.indexAt t (ρ x) (ρ i)) (x := .pointer (some ⟨b, s + (off + j * k), none⟩)) (by unfold execOp; rw [ho]) ?_ (by simp only [V.rel]; exact ⟨b, s, hp, rfl⟩)
          unfold Instr.indexAt
          rw [hi, hxe]
          simp only [asIntOf]
          rw [run_ok_bind (run_ofPure _)]
          simp only []
          rw [run_ok_bind (run_underlying hu w)]
          simp only []
          rw [run_ok_bind (run_ofPure _)]
          simp only []
          rw [run_ok_bind (run_underlying hu w)]
          simp only []
          have hc1 : (0 ≤ Int.ofNat j ∧ Int.ofNat j < (m : Int)) := by simp only [Int.ofNat_eq_natCast]; omega
          rw [if_pos hc1, run_ok_bind (run_sizeOf hsz), addr_add]
          simp [run_ofPure, Nat.add_assoc]
    case array m e =>
      cases hsz : sizeT P e with
      | none => simp [hsz] at he; cases he
      | some k =>
        have he' : evXaddr (.arr m k) (r x) (r i) cal Γ L R H n = .ok v H' n' := by simp only [hsz] at he; exact he
        unfold evXaddr at he'
        cases hbi : src L R (r i) <;> simp [hbi] at he'
        rename_i ik mm
        cases mm <;> simp at he'
        rename_i j
        cases hlt : Nat.blt j m with
        | false => simp [hlt] at he'
        | true =>
          simp only [hlt] at he'
          obtain ⟨h1, rfl, rfl⟩ := ret_some he'
          obtain ⟨a, hxe, hv⟩ := addrPlus_ok h1 hx
          rw [hbi] at hi
          simp only [V.rel] at hi
          have hjm := blt_lt hlt
          refine OpOK.same c (s := Instr.indexAt t (ρ x) (ρ i)) (x := .pointer (some (a.add (j * k)))) (by unfold execOp; rw [ho]) ?_ hv
          unfold Instr.indexAt
          rw [hi, hxe]
          simp only [asIntOf]
          rw [run_ok_bind (run_ofPure _)]
          simp only []
          rw [run_ok_bind (run_underlying hu w)]
          simp only [Instr.sureAddr]
          rw [run_ok_bind (run_ofPure a), run_ok_bind (run_ofPure _)]
          simp only []
          rw [run_ok_bind (run_underlying hu w)]
          simp only []
          have hc1 : (0 ≤ Int.ofNat j ∧ Int.ofNat j < (m : Int)) := by simp only [Int.ofNat_eq_natCast]; omega
          rw [if_pos hc1, run_ok_bind (run_sizeOf hsz)]
          simp [run_ofPure]
theorem part_ok {t : TypeId} {b : Bool} {k : Nat} {cs : Array Value} {l : List V} {off : Nat} (hag : aggT P t = some b) (hsz : sizeT P t = some k) (hl : V.rels ι l cs.toList) (h : partOf l off k b = some v) :
    ∃ y, (part t cs off).run P w = .ok y w ∧ V.rel ι v y := by
  unfold partOf at h
  unfold part
  cases b with
  | true =>
    simp only [takeN_eq, dropN_eq] at h
    by_cases hk : k ≤ (l.drop off).length
    · rw [if_pos hk] at h
      simp at h; subst h
      refine ⟨.agg (cs.extract off (off + k)), ?_, ?_⟩
      · rw [run_ok_bind (run_isAgg hag)]
        simp only [if_true]
        rw [run_ok_bind (run_sizeOf hsz)]; rfl
      · simp only [V.rel]
        refine ⟨_, rfl, ?_⟩
        have := rels_take k (rels_drop off hl)
        rw [Array.toList_extract, List.extract_eq_take_drop]
        simpa using this
    · rw [if_neg hk] at h; simp at h
  | false =>
    simp only [nth_eq] at h
    obtain ⟨y, hy, hv⟩ := rels_get hl h
    refine ⟨y, ?_, hv⟩
    rw [run_ok_bind (run_isAgg hag)]
    have hy' : cs[off]? = some y := by simpa using hy
    simp only [Bool.false_eq_true, if_false, hy']; rfl
theorem ok_field (c : Cxt P Γ ι H w ρ L R r) {t : TypeId} {x : Operand} {f : Nat} (ho : o.op = .field t x f) (he : evI (opI P r (.field t x f)) cal Γ L R H n = .ok v H' n') :
    OpOK P ρ o w (Post P ι H w H' v) := by
  unfold opI at he
  cases hu : P.underlying t with
  | none => simp [hu] at he; cases he
  | some d =>
    cases d <;> simp only [hu] at he <;> try (cases he; done)
    rename_i fs
    cases hf : fs[f]? with
    | none => simp [hf] at he; cases he
    | some g =>
      cases hag : aggT P g.type with
      | none => simp [hf, hag] at he; cases he
      | some b =>
        cases hsz : sizeT P g.type with
        | none => simp [hf, hag, hsz] at he; cases he
        | some m =>
          have he' : evField (r x) g.offset m b cal Γ L R H n = .ok v H' n' := by simp only [hf, hag, hsz] at he; exact he
          unfold evField at he'
          have hx := c.hs x
          cases hbx : src L R (r x) <;> simp [hbx] at he'
          obtain ⟨h1, rfl, rfl⟩ := ret_some he'
          rw [hbx] at hx; simp only [V.rel] at hx
          obtain ⟨cs, hxe, hl⟩ := hx
          obtain ⟨y, hrun, hv⟩ := part_ok (w := w) hag hsz hl h1
          refine OpOK.same c (s := Instr.field t (ρ x) f) (by unfold execOp; rw [ho]) ?_ hv
          unfold Instr.field
          rw [run_ok_bind (run_underlying hu w)]
          simp only [hf, hxe, asAgg]
          rw [run_ok_bind (run_ofPure cs)]
          exact hrun
theorem ok_index (c : Cxt P Γ ι H w ρ L R r) {t : TypeId} {x i : Operand} (ho : o.op = .index t x i) (he : evI (opI P r (.index t x i)) cal Γ L R H n = .ok v H' n') :
    OpOK P ρ o w (Post P ι H w H' v) := by
  unfold opI at he
  have hi := c.hs i
  have hx := c.hs x
  cases hu : P.underlying t with
  | none => simp [hu] at he; cases he
  | some d =>
    cases d <;> simp only [hu] at he <;> try (cases he; done)
    case string =>
      have he' : evIdxs (r x) (r i) cal Γ L R H n = .ok v H' n' := he
      unfold evIdxs at he'
      cases hbi : src L R (r i) <;> simp [hbi] at he'
      rename_i ik m
      cases m <;> simp at he'
      rename_i j
      cases hbx : src L R (r x) <;> simp [hbx] at he'
      rename_i s
      rw [nth_eq] at he'
      cases hj : s[j]? with
      | none => simp [hj] at he'
      | some b =>
        simp [hj] at he'
        obtain ⟨rfl, rfl, rfl⟩ := he'
        rw [hbi] at hi; rw [hbx] at hx
        simp only [V.rel] at hi hx
        obtain ⟨bs, hxe, rfl⟩ := hx
        rw [List.getElem?_map] at hj
        cases hb : bs.data.toList[j]? with
        | none => simp [hb] at hj
        | some y =>
          simp [hb] at hj
          subst hj
          refine OpOK.same c (s := Instr.index t (ρ x) (ρ i)) (x := .int .u8 (y.toNat : Int)) (by unfold execOp; rw [ho]) ?_ (by simp [V.rel])
          have hy : bs[j]? = some y := by
            have h2 := List.getElem?_eq_some_iff.1 hb
            obtain ⟨h3, h4⟩ := h2
            have h5 : j < bs.size := by simpa using h3
            have : bs[j]? = some bs[j] := by simp [h5]
            rw [this]
            congr 1
          unfold Instr.index
          rw [hi, hxe]
          simp only [asIntOf]
          rw [run_ok_bind (run_ofPure _)]
          simp only []
          rw [run_ok_bind (run_underlying hu w)]
          have h0 : (0 ≤ Int.ofNat j) := by simp only [Int.ofNat_eq_natCast]; omega
          have e1 : (Int.ofNat j).toNat = j := rfl
          simp only [if_pos h0, e1, hy]; rfl
    case array m e =>
      cases hsz : sizeT P e with
      | none => simp [hsz] at he; cases he
      | some k =>
        cases hag : aggT P e with
        | none => simp [hsz, hag] at he; cases he
        | some b =>
          have he' : evIdxa m k b (r x) (r i) cal Γ L R H n = .ok v H' n' := by simp only [hsz, hag] at he; exact he
          unfold evIdxa at he'
          cases hbi : src L R (r i) <;> simp [hbi] at he'
          rename_i ik mm
          cases mm <;> simp at he'
          rename_i j
          cases hbx : src L R (r x) <;> simp [hbx] at he'
          rename_i l
          cases hlt : Nat.blt j m with
          | false => simp [hlt] at he'
          | true =>
            simp only [hlt] at he'
            obtain ⟨h1, rfl, rfl⟩ := ret_some he'
            rw [hbi] at hi; rw [hbx] at hx
            simp only [V.rel] at hi hx
            obtain ⟨cs, hxe, hl⟩ := hx
            obtain ⟨y, hrun, hv⟩ := part_ok (w := w) hag hsz hl h1
            have hjm := blt_lt hlt
            refine OpOK.same c (s := Instr.index t (ρ x) (ρ i)) (by unfold execOp; rw [ho]) ?_ hv
            unfold Instr.index
            rw [hi, hxe]
            simp only [asIntOf]
            rw [run_ok_bind (run_ofPure _)]
            simp only []
            rw [run_ok_bind (run_underlying hu w)]
            simp only []
            have hc1 : (0 ≤ Int.ofNat j ∧ Int.ofNat j < (m : Int)) := by simp only [Int.ofNat_eq_natCast]; omega
            rw [if_pos hc1, run_ok_bind (run_sizeOf hsz)]
            exact hrun

/- s[lo:hi:mx] -/
theorem bound_some {d : Nat} {s : Option Operand} {a : Nat} (hs : ∀ x, V.rel ι (src L R (r x)) (ρ x)) (h : bound? L R d (s.map r) = some a) :
    (s = none ∧ a = d) ∨ ∃ y k, s = some y ∧ ρ y = .int k (a : Int) := by
  cases s with
  | none => simp [bound?] at h; exact .inl ⟨rfl, h.symm⟩
  | some y =>
    right
    simp only [Option.map_some, bound?] at h
    have hy := hs y
    cases hb : src L R (r y) <;> simp [hb] at h
    rename_i k m
    cases m <;> simp at h
    subst h
    rw [hb] at hy; simp only [V.rel] at hy
    exact ⟨y, k, rfl, hy⟩
theorem run_sliceBound {x : Value} {k : IntKind} {a y : Nat} {code : BoundsCode} (hx : x = .int k (a : Int)) (h : a ≤ y) : (Instr.sliceBound x y code).run P w = .ok a w := by
  unfold Instr.sliceBound
  rw [hx]
  simp only [asIntOf]
  rw [run_ok_bind (run_ofPure _)]
  simp only []
  rw [if_pos (by omega)]; simp [run_ofPure]
theorem run_sliceBounds (hs : ∀ x, V.rel ι (src L R (r x)) (ρ x)) {isSlice : Bool} {m cp a b d : Nat} {lo hi mx : Option Operand}
    (hlo : bound? L R 0 (lo.map r) = some a) (hhi : bound? L R m (hi.map r) = some b) (hmx : bound? L R cp (mx.map r) = some d)
    (h1 : a ≤ b) (h2 : b ≤ d) (h3 : d ≤ cp) (hmh : mx = none ∨ hi.isSome = true) (cap' : Nat) (hcap : mx = none ∨ cp ≤ cap') (hcp : mx = none → b ≤ cap') :
    (Instr.sliceBounds isSlice m cap' (lo.map ρ) (hi.map ρ) (mx.map ρ)).run P w = .ok (a, b, if mx.isSome then d else cap') w := by
  unfold Instr.sliceBounds
  rcases bound_some hs hlo with ⟨rfl, rfl⟩ | ⟨yl, kl, rfl, el⟩ <;> rcases bound_some hs hhi with ⟨rfl, rfl⟩ | ⟨yh, kh, rfl, eh⟩ <;> rcases bound_some hs hmx with ⟨rfl, rfl⟩ | ⟨ym, km, rfl, em⟩
  · simp [Sem.run_bind, run_ofPure, Result.andThen]
  · simp at hmh
  · simp only [Option.map_none, Option.map_some]
    rw [run_ok_bind (run_ofPure _)]
    try simp only []
    rw [run_ok_bind (run_sliceBound eh (hcp rfl))]
    try simp only []
    rw [run_ok_bind (run_ofPure _)]; rfl
  · simp only [Option.map_none, Option.map_some]
    rw [run_ok_bind (run_sliceBound em (by rcases hcap with h | h; cases h; omega))]
    try simp only []
    rw [run_ok_bind (run_sliceBound eh h2)]
    try simp only []
    rw [run_ok_bind (run_ofPure _)]; rfl
  · simp only [Option.map_none, Option.map_some]
    rw [run_ok_bind (run_ofPure _)]
    try simp only []
    rw [run_ok_bind (run_ofPure _)]
    try simp only []
    rw [run_ok_bind (run_sliceBound el h1)]; rfl
  · simp at hmh
  · simp only [Option.map_none, Option.map_some]
    rw [run_ok_bind (run_ofPure _)]
    try simp only []
    rw [run_ok_bind (run_sliceBound eh (hcp rfl))]
    try simp only []
    rw [run_ok_bind (run_sliceBound el h1)]; rfl
  · simp only [Option.map_some]
    rw [run_ok_bind (run_sliceBound em (by rcases hcap with h | h; cases h; omega))]
    try simp only []
    rw [run_ok_bind (run_sliceBound eh h2)]
    try simp only []
    rw [run_ok_bind (run_sliceBound el h1)]; rfl
end
end
end Go.Ev
