/-
  append of what a slice reads as, inside a region whose order is drawn.
  The meter, walked: New, for one rule.
  A slice of what a slice reads as: 's[:j]' and 's[j:]', whatever lies behind.
  The reference's filter, walked: open.
  The reference's filter, walked: Do.
  The reference's filter, walked: Do, an install.
  The reference's filter, walked: Do, a piece of data and an end.
  The reference's filter, walked: Do, an end.
  The reference's filter: Do, any operation; what holds of it throughout.
  The reference's filter: what may be said of it is kept by every operation.
-/
import Derived.Test.YtahmcjdddcbhnaaGreatDoorErrG0a
import Derived.Deep.AppendLies
import Derived.Deep.QuietTactic
import Derived.BigQuiet
import Derived.Deep.RegionLaw
namespace Go.Proofs.YtahmcjdddcbhnaaGreatDoor
open Go Go.RowKit

section
variable {P : Program} {w : World} {base : Nat} {e : TypeId} {size : Nat}
theorem step_append_sees {ops : Array Oper} {o : Oper} {a : Act} {K : Act → World → Prop} {Q : Exit → Act → World → Prop} {E : Prop} (hgd : o.guard = none) (s x : Operand) (t : TypeId)
    (ho : o.op = .call { callee := .builtin .append, args := #[s, x], argTypes := #[t, t] })
    (i : TypeInfo) (z : Value) (bytes : Nat) (ht : P.underlying t = some (.slice e)) (hi : P.info? e = some i) (hz : i.zero = some z)
    (hsize : i.size = size) (hby : i.bytes = bytes) (hzs : z.cells.size = size) (hsz : 0 < size)
    (v : Value) (n : Nat) (xs : List Value) (hs : a.eval s = v) (hown : w.ownsRow base e size v n xs)
    (u : Value) (m : Nat) (news : List Value) (hx : a.eval x = u) (hrow : Sees w size u news) (hm : news.length = m * size) (h1 : ∀ u ∈ news, u.oneCell' = true)
    (h63 : n + m ≤ maxLen) (hbytes : (n + m) * bytes ≤ 140737488355328) (hbase : base ≤ w.heap.size)
    (h : ∀ v' w', w'.ownsRow base e size v' (n + m) (xs ++ news) → w.grownBy w' v.ownBlock → (v'.ownBlock = v.ownBlock ∨ ∃ g, v'.ownBlock = some g ∧ w.heap.size ≤ g) → K (a.put o.dst v') w') :
    if Region.wanted o (yielded ops a.tmps) = true then Oper.wp P o a w K Q else E := by
  have key : ∃ v' w', (Builtin.append_ #[t, t] o.type #[v, u]).run P w = .ok v' w' ∧ w'.ownsRow base e size v' (n + m) (xs ++ news) ∧ w.grownBy w' v.ownBlock ∧ (v'.ownBlock = v.ownBlock ∨ ∃ g, v'.ownBlock = some g ∧ w.heap.size ≤ g) := by
    obtain ⟨A, m', c, rfl, k1, k2, k3⟩ := hrow
    have hmm : m' = m := Nat.eq_of_mul_eq_mul_right hsz (k1.symm.trans hm)
    subst hmm
    cases A with
    | none =>
      have hm0 : m' = 0 := by
        rcases Nat.eq_zero_or_pos m' with h0 | h0
        · exact h0
        · obtain ⟨b, s, hb, _⟩ := k3 (by omega)
          cases hb
      subst hm0
      have hn : news = [] := List.length_eq_zero_iff.1 (by simpa using k1)
      subst hn
      refine ⟨v, w, ?_, by simpa using hown, grown_refl _ _, .inl rfl⟩
      rcases hown.2 with ⟨rfl, rfl⟩ | ⟨g, cap, cur, rfl, _, _, hnc, _⟩
      · simp [Builtin.append_, run_underlying ht, sizeOf, typeInfo, hi, Builtin.lenOf, Builtin.firstCells]
      · simp [Builtin.append_, run_underlying ht, sizeOf, typeInfo, hi, Builtin.lenOf, Builtin.firstCells, hnc, storeCells]
    | some ad =>
      have hcells : ∀ j u, news[j]? = some u → w.cell? (ad.add j) = some u := by
        intro j u hj
        have hlen := (List.getElem?_eq_some_iff.1 hj).1
        obtain ⟨b, s, hb, _, hc⟩ := k3 (fun e => by subst e; rw [Nat.zero_mul] at k1; omega)
        cases hb
        rw [add_flat]
        exact hc j u hj
      obtain ⟨v', w', h2, h3, h4, _, h5⟩ := run_append_own_at w base t o.type e i z size bytes ht hi hz hsize hby hzs hsz v n xs hown ad m' c news k1 hcells h1 h63 hbytes hbase
      exact ⟨v', w', h2, h3, h4, h5.imp id fun h => ⟨_, h, Nat.le_refl _⟩⟩
  obtain ⟨v', w', hr, h3, h4, h5⟩ := key
  have hw : Region.wanted o (yielded ops a.tmps) = true := by simp [Region.wanted, hgd]
  rw [if_pos hw]
  unfold Oper.wp execOp
  simp only [ho, resolve, invoke, builtin, Sem.run_bind, Sem.run_pure, Result.andThen_ok, List.map_toArray, List.map_cons, List.map_nil, hs, hx, hr]
  exact h v' w' h3 h4 h5
end
end Go.Proofs.YtahmcjdddcbhnaaGreatDoor
namespace Go.Proofs.YtahmcjdddcbhnaaGreatDoor
open Go Go.RowKit

set_option maxHeartbeats 4000000 in
set_option maxRecDepth 1000000 in
theorem mtnew_walk {w : World} {sh pe : Int} (hs : 0 ≤ sh ∧ sh ≤ 1099511627776) (hp : 1 ≤ pe ∧ pe ≤ 1099511627776) :
    Calls Tryz.prog 35 #[.int .i64 1, .int .i64 sh, .int .i64 pe] w fun e w' => e = .returned (.tuple #[.pointer (some ⟨w.heap.size + 1, 0, none⟩), .int .i64 0]) ∧ MtAt w' (w.heap.size + 1) w.heap.size sh pe 0 0 ∧ Below w.heap.size w w' := by
  have o1 := out_no (x := 1) (lo := 1) (hi := 500) (by omega) (by omega) w
  have o2 := out_no (x := sh) (lo := 0) (hi := 1099511627776) hs.1 hs.2 w
  have o3 := out_no (x := pe) (lo := 1) (hi := 1099511627776) hp.1 hp.2 w
  obtain ⟨W1, hW1⟩ : ∃ x, w.alloc (.cells #[.int .i64 0] 3) = x := ⟨_, rfl⟩
  have hs1 : W1.heap.size = w.heap.size + 1 := by rw [← hW1]; simp
  have ub : Blk W1 w.heap.size 3 #[.int .i64 0] := by rw [← hW1]; exact Blk.made w _ _
  have hmk : (Instr.makeSlice 22 (.int .i64 1) (.int .i64 1)).run Tryz.prog w = .ok (.slice (some ⟨w.heap.size, 0, none⟩) 1 1) W1 := by rw [← hW1]; kernel_rfl
  have hB : Below w.heap.size w W1 := by rw [← hW1]; exact (Below.refl _ _).alloc (Nat.le_refl _) _
  have hb := Blk.made W1 151 #[.int .i64 sh, .int .i64 pe, .int .i64 0, .slice (some ⟨w.heap.size, 0, none⟩) 1 1]
  rw [hs1] at hb
  have HM := Lib.hid (show MtAt (W1.alloc (.cells #[.int .i64 sh, .int .i64 pe, .int .i64 0, .slice (some ⟨w.heap.size, 0, none⟩) 1 1] 151)) (w.heap.size + 1) w.heap.size sh pe 0 0 from ⟨hb, ub.alloc _, hs, hp, ⟨by omega, by omega⟩, ⟨by omega, hs.1⟩⟩)
  have HB := Lib.hid (hB.alloc hB.size (.cells #[.int .i64 sh, .int .i64 pe, .int .i64 0, .slice (some ⟨w.heap.size, 0, none⟩) 1 1] 151))
  have HS := Lib.hid hs1
  clear hb ub hB hs1 hs hp hW1
  go_enter Tryz.func35, Tryz.ntmps35
  go_wp2_with (first
    | (go_at_call 52; refine o1.mono ?_; clear o1; rintro _ w1 ⟨rfl, rfl⟩)
    | (go_at_call 52; refine o2.mono ?_; clear o2; rintro _ w1 ⟨rfl, rfl⟩)
    | (go_at_call 52; refine o3.mono ?_; clear o3; rintro _ w1 ⟨rfl, rfl⟩)
    | fail)
  go_ret2
  refine ⟨?_, HM.out, HB.out⟩
  rw [← HS.out]
  rfl
end Go.Proofs.YtahmcjdddcbhnaaGreatDoor
namespace Go.Proofs.YtahmcjdddcbhnaaGreatDoor
open Go Go.RowKit

section
variable {α : Type} {w : World} {A : Option Addr} {n cp m : Nat} {l : List α}
theorem Sees.takeF (c : α → List Value) (hm : ∀ a, (c a).length = m) (h : Sees w m (.slice A n cp) (l.flatMap c)) (h0 : 0 < m) (j : Nat) (hj : j ≤ n) : Sees w m (.slice A j cp) ((l.take j).flatMap c) := by
  obtain ⟨A', n', cp', hv, h1, h2, h3⟩ := h
  cases hv
  have hn : n = l.length := by
    rw [flat_len c m hm] at h1
    exact (Nat.eq_of_mul_eq_mul_right h0 h1).symm
  subst hn
  refine ⟨_, _, _, rfl, by rw [flat_len c m hm, List.length_take, Nat.min_eq_left hj], by omega, fun hn => ?_⟩
  obtain ⟨b, s, hb, hlt, hcell⟩ := h3 (by omega)
  refine ⟨b, s, hb, hlt, fun k u hk => hcell k u ?_⟩
  have e : l.flatMap c = (l.take j).flatMap c ++ (l.drop j).flatMap c := by rw [← List.flatMap_append, List.take_append_drop]
  rw [e, List.getElem?_append_left (List.getElem?_eq_some_iff.1 hk).1]
  exact hk
theorem Sees.dropF (c : α → List Value) (hm : ∀ a, (c a).length = m) (h0 : 0 < m) (h : Sees w m (.slice A n cp) (l.flatMap c)) (j : Nat) (hj : j ≤ n) : Sees w m (.slice (if cp = j then A else A.map (·.add (j * m))) (n - j) (cp - j)) ((l.drop j).flatMap c) := by
  obtain ⟨A', n', cp', hv, h1, h2, h3⟩ := h
  cases hv
  have hn : n = l.length := by
    rw [flat_len c m hm] at h1
    exact (Nat.eq_of_mul_eq_mul_right h0 h1).symm
  subst hn
  refine ⟨_, _, _, rfl, by rw [flat_len c m hm, List.length_drop], by omega, fun hn => ?_⟩
  obtain ⟨b', s', hb, hlt, hcell⟩ := h3 (by omega)
  subst hb
  rw [if_neg (by omega)]
  refine ⟨b', s' + j * m, by simp [add_flat], hlt, fun k u hk => ?_⟩
  have e : l.flatMap c = (l.take j).flatMap c ++ (l.drop j).flatMap c := by rw [← List.flatMap_append, List.take_append_drop]
  have hlen : ((l.take j).flatMap c).length = j * m := by rw [flat_len c m hm, List.length_take, Nat.min_eq_left hj]
  have := hcell (j * m + k) u (by rw [e, List.getElem?_append_right (by omega), hlen, Nat.add_sub_cancel_left]; exact hk)
  rw [Nat.add_assoc]
  exact this
end
section
variable {P : Program} {w : World} {e : TypeId} {m n cp J : Nat} {A : Option Addr}
theorem wpList_sliceTo {ops : Array Oper} {rest : List Oper} {o : Oper} {a : Act} {Q : Exit → Act → World → Prop} (hgd : o.guard = none) (x j : Operand) (t : TypeId)
    (ho : o.op = .slice t x none (some j) none) (i : TypeInfo) (ht : P.underlying t = some (.slice e)) (hi : P.info? e = some i) (hsz : i.size = m)
    (hx : a.eval x = .slice A n cp) (hj : a.eval j = .int .i64 (J : Int)) (hle : J ≤ cp) (h : wpList P ops Q rest (a.put o.dst (.slice A J cp)) w) :
    wpList P ops Q (o :: rest) a w := by
  refine wpList_plain hgd fun K hK => ?_
  unfold Oper.wp execOp
  have hr : (Instr.sliceAt t (a.eval x) none (some (a.eval j)) none).run P w = .ok (.slice A J cp) w := by
    rw [hx, hj]
    simp [Instr.sliceAt, Instr.slice, run_underlying ht, Instr.sliceBounds, Instr.sliceBound, asIntOf, sizeOf, typeInfo, hi, hle]
    intro _
    cases A with
    | none => rfl
    | some d => cases d; simp [Addr.add]
  simp only [ho, Option.map_none, Option.map_some, Sem.run_bind, hr, Result.andThen_ok, Sem.run_pure]
  exact hK _ _ h
theorem wpList_sliceFrom {ops : Array Oper} {rest : List Oper} {o : Oper} {a : Act} {Q : Exit → Act → World → Prop} (hgd : o.guard = none) (x j : Operand) (t : TypeId)
    (ho : o.op = .slice t x (some j) none none) (i : TypeInfo) (ht : P.underlying t = some (.slice e)) (hi : P.info? e = some i) (hsz : i.size = m)
    (hx : a.eval x = .slice A n cp) (hj : a.eval j = .int .i64 (J : Int)) (hle : J ≤ n) (B : Option Addr) (hB : (if cp = J then A else A.map (·.add (J * m))) = B) (h : wpList P ops Q rest (a.put o.dst (.slice B (n - J) (cp - J))) w) :
    wpList P ops Q (o :: rest) a w := by
  refine wpList_plain hgd fun K hK => ?_
  unfold Oper.wp execOp
  have hr : (Instr.sliceAt t (a.eval x) (some (a.eval j)) none none).run P w = .ok (.slice B (n - J) (cp - J)) w := by
    rw [hx, hj, ← hB]
    simp [Instr.sliceAt, Instr.slice, run_underlying ht, Instr.sliceBounds, Instr.sliceBound, asIntOf, sizeOf, typeInfo, hi, hle, hsz]
  simp only [ho, Option.map_none, Option.map_some, Sem.run_bind, hr, Result.andThen_ok, Sem.run_pure]
  exact hK _ _ h
end
end Go.Proofs.YtahmcjdddcbhnaaGreatDoor
namespace Go.Proofs.YtahmcjdddcbhnaaGreatDoor
open Go Go.RowKit

theorem infoConn : (Tryz.prog.info? 67).map (fun i => (i.zero, i.size, i.bytes)) = some (some (.agg #[.int .i64 0, .int .i64 0, .int .i64 0]), 3, 24) := by kernel_rfl
theorem cells_one (l : List CR) : ∀ u ∈ l.flatMap CR.cells, u.oneCell' = true := by
  intro u hu
  rw [List.mem_flatMap] at hu
  obtain ⟨c, -, hc⟩ := hu
  unfold CR.cells at hc
  simp at hc
  rcases hc with rfl | rfl | rfl <;> rfl
theorem pos_at {cs : List CR} {n : Int} {j : Nat} (hj : j ≤ cs.length) (h : ∀ i, ∀ hi : i < cs.length, i < j → cs[i].num < n) (h2 : j = cs.length ∨ ∃ hj : j < cs.length, ¬ cs[j].num < n) : pos cs n = j := by
  unfold pos
  rcases h2 with rfl | ⟨hj, h2⟩
  · rw [List.findIdx_eq_length]
    intro x hx
    obtain ⟨i, hi, rfl⟩ := List.mem_iff_getElem.1 hx
    simpa using h i hi hi
  · rw [List.findIdx_eq hj]
    refine ⟨by simpa using h2, fun i hi => ?_⟩
    have := h i (by omega) hi
    simpa using this
theorem row_nil {w : World} {B size n : Nat} {e : TypeId} {A : Option Addr} {k cp : Nat} {xs : List Value} (h : w.ownsRow B e size (.slice A k cp) n xs) : (A = none ∧ n = 0 ∧ cp = 0) ∨ ∃ b s, A = some ⟨b, s, none⟩ := by
  rcases h.2 with ⟨hv, h0⟩ | ⟨g, cap, cur, hv, _⟩
  · cases hv
    exact .inl ⟨rfl, h0, rfl⟩
  · cases hv
    exact .inr ⟨g, 0, rfl⟩
theorem pos_le (cs : List CR) (n : Int) : pos cs n ≤ cs.length := List.findIdx_le_length
theorem ropen_end {w w' : World} {B g N : Nat} {v1 v2 : Value} {s : RF} (h : RAt w B g v1 v2 s) (hB : B ≤ w.heap.size) (hb : Below w.heap.size w w') {A : Option Addr} {c : Nat} {l : List CR}
    (hr : w'.ownsRow w.heap.size 67 3 (.slice A N c) l.length (l.flatMap CR.cells)) (t : Int) :
    RPost w B g v1 v2 { s with cs := l, tick := t } ((w'.setCell ⟨g, 1, none⟩ (.slice A N c)).setCell ⟨g, 3, none⟩ (.int .i64 t)) := by
  refine ⟨⟨v1, .slice A N c, ⟨?_, ?_, ?_, h.lo⟩, fun k hk => ?_⟩, ((Chg.of_below hb).setCell (.inr (.inl rfl)) _).setCell (.inr (.inl rfl)) _⟩
  · have := ((h.blk.bel hb h.blk.lt).put 1 (.slice A N c)).put 3 (.int .i64 t)
    simpa using this
  · have h1 := (h.bel hb).row1
    have hne := row_blk h1 (h.blk.bel hb h.blk.lt) (by decide)
    exact row_set (row_set h1 (p := ⟨g, 1, none⟩) hne _) (p := ⟨g, 3, none⟩) hne _
  · have hne := row_blk hr (h.blk.bel hb h.blk.lt) (by decide)
    exact row_base (row_set (row_set hr (p := ⟨g, 1, none⟩) hne _) (p := ⟨g, 3, none⟩) hne _) hB
  · rcases hk with rfl | hk | hk
    · exact .inl (.inl rfl)
    · exact .inl (.inr (.inl hk))
    · exact .inr (World.ownsRow.lt hr k hk).1
set_option maxHeartbeats 8000000 in
set_option maxRecDepth 1000000 in
theorem ropen_walk {w : World} {B g : Nat} {v1 v2 : Value} {s : RF} (h : RAt w B g v1 v2 s) (hB : B ≤ w.heap.size) (hl2 : s.cs.length ≤ 1000000) (n t : Int) :
    Calls Tryz.prog 30 #[.pointer (some ⟨g, 0, none⟩), .int .i64 n, .int .i64 t] w fun e w' => e = .returned (.int .i64 (s.opn n t).1) ∧ RPost w B g v1 v2 (s.opn n t).2 w' := by
  obtain ⟨i0, hi0, hz0, hz1, hz2⟩ := info_parts' infoConn
  have hla := rlate_walk h t
  have hfi := find_walk h hl2 n
  have c1 := h.blk.at' 1
  have c2 := h.blk.at' 2
  simp at c1 c2
  have hsame := RPost.same h
  unfold RF.opn
  by_cases h1 : n < 0
  · rw [if_pos (.inl h1)]
    go_enter Tryz.func30, Tryz.ntmps30
    go_wp2_with fail
    go_ret
    exact ⟨rfl, hsame⟩
  by_cases h2 : 1099511627776 < n
  · rw [if_pos (.inr h2)]
    go_enter Tryz.func30, Tryz.ntmps30
    go_wp2_with fail
    go_ret
    exact ⟨rfl, hsame⟩
  rw [if_neg (by omega)]
  obtain ⟨le, hle⟩ : ∃ x, lateE s.tick t = x := ⟨_, rfl⟩
  rw [hle] at hla ⊢
  by_cases h3 : le = 0
  case neg =>
    rw [if_pos h3]
    have hlb : (le == 0) = false := beq_eq_false_iff_ne.2 h3
    clear hle
    go_enter Tryz.func30, Tryz.ntmps30
    go_wp2_with (first | (go_at_call 31; refine hla.mono ?_; rintro _ w1 ⟨rfl, rfl⟩) | fail)
    go_ret
    exact ⟨rfl, hsame⟩
  rw [if_neg (fun hh => hh h3)]
  subst h3
  clear hle
  by_cases h4 : idx s.cs n < s.cs.length
  · rw [if_pos h4]
    have he : findE s.cs n = (idx s.cs n : Int) := if_pos h4
    rw [he] at hfi
    obtain ⟨k, hk⟩ : ∃ x : Int, (idx s.cs n : Int) = x := ⟨_, rfl⟩
    have hk0 : 0 ≤ k := by omega
    rw [hk] at hfi
    clear he hk
    go_enter Tryz.func30, Tryz.ntmps30
    go_wp2_with (first | (go_at_call 31; refine hla.mono ?_; rintro _ w1 ⟨rfl, rfl⟩) | (go_at_call 32; refine hfi.mono ?_; rintro _ w1 ⟨rfl, rfl⟩) | fail)
    go_ret
    exact ⟨rfl, hsame⟩
  rw [if_neg h4]
  have he : findE s.cs n = -1 := if_neg h4
  rw [he] at hfi
  clear he h4
  by_cases h5 : s.use < 0
  · rw [if_pos h5]
    go_enter Tryz.func30, Tryz.ntmps30
    go_wp2_with (first | (go_at_call 31; refine hla.mono ?_; rintro _ w1 ⟨rfl, rfl⟩) | (go_at_call 32; refine hfi.mono ?_; rintro _ w1 ⟨rfl, rfl⟩) | fail)
    go_ret
    exact ⟨rfl, hsame⟩
  rw [if_neg h5]
  by_cases h6 : 64 ≤ s.cs.length
  · rw [if_pos h6]
    have h6' : (64 : Int) ≤ (s.cs.length : Int) := by omega
    obtain ⟨A, cp, rfl, hcp, h3⟩ := h.conns
    clear h h3
    go_enter Tryz.func30, Tryz.ntmps30
    go_wp2_with (first | (go_at_call 31; refine hla.mono ?_; rintro _ w1 ⟨rfl, rfl⟩) | (go_at_call 32; refine hfi.mono ?_; rintro _ w1 ⟨rfl, rfl⟩) | fail)
    go_ret
    exact ⟨rfl, hsame⟩
  rw [if_neg h6]
  have h6' : ¬ (64 : Int) ≤ (s.cs.length : Int) := by omega
  have hA := Lib.hid h
  have hS := Lib.hid h.sees2
  obtain ⟨A, cp, rfl, hcp, h3⟩ := h.conns
  clear h hsame
  go_enter Tryz.func30, Tryz.ntmps30
  go_wp2_with (first | (go_at_call 31; refine hla.mono ?_; clear hla; rintro _ w1 ⟨rfl, rfl⟩) | (go_at_call 32; refine hfi.mono ?_; clear hfi; rintro _ w1 ⟨rfl, rfl⟩) | fail)
  go_loopw [8] (fun iv wr => ∃ j : Nat, j ≤ s.cs.length ∧ iv = .int .i64 j ∧ wr = w1 ∧ Hid (∀ i, ∀ hi : i < s.cs.length, i < j → s.cs[i].num < n)) (fun iv _ => s.cs.length - (intOf iv).toNat)
  case atStart => exact ⟨0, Nat.zero_le _, rfl, rfl, Lib.hid fun i _ h => absurd h (by omega)⟩
  case round =>
    obtain ⟨j, hj, rfl, rfl, hno⟩ := hrel
    have hj0 : (0 : Int) ≤ (j : Int) := Int.natCast_nonneg _
    have hcut : (j = s.cs.length ∨ ∃ hj : j < s.cs.length, ¬ s.cs[j].num < n) → pos s.cs n = j := fun hh => pos_at hj hno.out hh
    have HC := Lib.hid hcut
    clear hcut
    by_cases hjl : j < s.cs.length
    · obtain ⟨b, off, hbo, hb, hcc⟩ := h3 (by omega)
      obtain ⟨d0, -, -⟩ := hcc j hjl
      obtain ⟨y, hy⟩ : ∃ y, s.cs[j].num = y := ⟨_, rfl⟩
      rw [hy] at d0
      have HY := Lib.hid hy
      have hj1 : (j : Int) < (s.cs.length : Int) := by omega
      clear hy hcc h3
      by_cases he : y < n
      · subst hbo
        go_wp2_with fail
        go_roundw
        case rel => exact ⟨j + 1, hjl, by go_num, trivial, Lib.hid fun i hi h1 => by
          rcases Nat.lt_or_ge i j with h' | h'
          · exact hno.out i hi h'
          · obtain rfl : i = j := by omega
            rw [HY.out]; exact he⟩
        case measure => simp [intOf]; omega
      · have hp := HC.out (.inr ⟨hjl, by rw [HY.out]; exact he⟩)
        subst hbo
        have HP := Lib.hid hp
        have hx := hS.out
        have hs1 := hx.takeF CR.cells (fun _ => rfl) (by omega) j hj
        have hs2 := hx.dropF CR.cells (fun _ => rfl) (by omega) j hj
        obtain ⟨A2, hA2⟩ : ∃ x, (if cp = j then some ⟨b, off, none⟩ else (some ⟨b, off, none⟩ : Option Addr).map (·.add (j * 3))) = x := ⟨_, rfl⟩
        rw [hA2] at hs2
        clear hp hx hno HC
        obtain ⟨xs1, hxs1⟩ : ∃ x, (s.cs.take j).flatMap CR.cells = x := ⟨_, rfl⟩
        obtain ⟨xs2, hxs2⟩ : ∃ x, (s.cs.drop j).flatMap CR.cells = x := ⟨_, rfl⟩
        have hm1 : xs1.length = j * 3 := by rw [← hxs1, flat_len CR.cells 3 (fun _ => rfl), List.length_take, Nat.min_eq_left hj]
        have hm2 : xs2.length = (s.cs.length - j) * 3 := by rw [← hxs2, flat_len CR.cells 3 (fun _ => rfl), List.length_drop]
        have ho1 : ∀ u ∈ xs1, u.oneCell' = true := by rw [← hxs1]; exact cells_one _
        have ho2 : ∀ u ∈ xs2, u.oneCell' = true := by rw [← hxs2]; exact cells_one _
        rw [hxs1] at hs1
        rw [hxs2] at hs2
        have HX := Lib.hid (And.intro hxs1 hxs2)
        have HA := Lib.hid hA2
        have hjc : j ≤ cp := Nat.le_trans hj hcp
        clear hxs1 hxs2 hA2
        go_wp2_with (first
          | (with_reducible show wpList _ _ _ (Oper.mk _ (.slice _ _ none _ _) _ _ _ _ :: _) _ _; refine wpList_sliceTo rfl _ _ 49 rfl i0 Tryz.underlying49 hi0 hz1 rfl rfl hjc ?_)
          | (with_reducible show wpList _ _ _ (Oper.mk _ (.slice _ _ (some _) _ _) _ _ _ _ :: _) _ _; refine wpList_sliceFrom rfl _ _ 49 rfl i0 Tryz.underlying49 hi0 hz1 rfl rfl hj A2 HA.out ?_)
          | (at_builtin; refine wpList_append_sees (base := wr.heap.size) rfl _ _ 49 rfl i0 _ 24 Tryz.underlying49 hi0 hz0 hz1 hz2 rfl (by decide) (.slice none 0 0) 0 [] rfl (World.ownsRow_nil _ _ _ _) _ j xs1 rfl hs1 hm1 ho1 (by unfold maxLen; omega) (by omega) (Nat.le_refl _) ?_; clear hs1; intro va wa hra hga hoa
             rw [Nat.zero_add, List.nil_append] at hra
             have hba : Below wr.heap.size wr wa := (Below.refl _ _).grown hga (Nat.le_refl _) (fun k hk => by cases hk)
             have c1' := Lib.hid c1
             have c1a := (hba.cell (p := ⟨g, 1, none⟩) hA.out.blk.lt).trans c1
             have c2a := (hba.cell (p := ⟨g, 2, none⟩) hA.out.blk.lt).trans c2
             have hsa := sees_one wa 67 #[.int .i64 n, .int .i64 s.use, .int .i64 0] (size := 3) rfl
             obtain ⟨Aa, ca, rfl, _⟩ := row_form hra
             clear c1 c2 hga hoa)
          | (at_builtin; refine wpList_append_sees (base := wr.heap.size) rfl _ _ 49 rfl i0 _ 24 Tryz.underlying49 hi0 hz0 hz1 hz2 rfl (by decide) (.slice Aa j ca) j xs1 rfl (hra.alloc _) _ 1 _ rfl hsa rfl (by intro u hu; simp at hu; rcases hu with rfl | rfl | rfl <;> rfl) (by unfold maxLen; omega) (by omega) (by simp; exact Nat.le_succ_of_le hba.size) ?_; clear hsa; intro vb wb hrb hgb hob
             have hbb : Below wr.heap.size wr wb := grown_bel0 (hba.alloc hba.size _) (hra.alloc _) (by simp; exact Nat.le_succ_of_le hba.size) hgb
             have c1b := (hbb.cell (p := ⟨g, 1, none⟩) hA.out.blk.lt).trans c1'.out
             obtain ⟨Ab, cb, rfl, _⟩ := row_form hrb
             have hs2b := hs2.bel hbb
             clear c1a c2a hs2 hgb hob)
          | (at_builtin; refine wpList_append_sees (base := wr.heap.size) rfl _ _ 49 rfl i0 _ 24 Tryz.underlying49 hi0 hz0 hz1 hz2 rfl (by decide) (.slice Ab (j + 1) cb) (j + 1) _ rfl hrb _ (s.cs.length - j) xs2 rfl hs2b hm2 ho2 (by unfold maxLen; omega) (by omega) hbb.size ?_; clear hs2b; intro vc wc hrc hgc hoc
             have hbc : Below wr.heap.size wr wc := grown_bel0 hbb hrb hbb.size hgc
             have c1c := (hbc.cell (p := ⟨g, 1, none⟩) hA.out.blk.lt).trans c1'.out
             have c3c := (hbc.cell (p := ⟨g, 3, none⟩) hA.out.blk.lt).trans (hA.out.blk.at' 3)
             simp only [List.getElem?_toArray, List.getElem?_cons_succ, List.getElem?_cons_zero] at c3c
             have f1c := (hbc.frozen (p := ⟨g, 1, none⟩) hA.out.blk.lt).trans (hA.out.blk.thaw 1)
             have f3c := (hbc.frozen (p := ⟨g, 3, none⟩) hA.out.blk.lt).trans (hA.out.blk.thaw 3)
             obtain ⟨Ac, cc, rfl, _⟩ := row_form hrc
             clear c1b hgc hoc)
          | fail)
        go_ret
        have hrow2 : wc.ownsRow wr.heap.size 67 3 (.slice Ac (j + 1 + (s.cs.length - j)) cc) (s.cs.take (pos s.cs n) ++ [(⟨n, s.use, 0⟩ : CR)] ++ s.cs.drop (pos s.cs n)).length ((s.cs.take (pos s.cs n) ++ [(⟨n, s.use, 0⟩ : CR)] ++ s.cs.drop (pos s.cs n)).flatMap CR.cells) := by
          have e : (s.cs.take (pos s.cs n) ++ [(⟨n, s.use, 0⟩ : CR)] ++ s.cs.drop (pos s.cs n)).length = j + 1 + (s.cs.length - j) := by rw [HP.out]; simp; omega
          rw [e, HP.out, List.flatMap_append, List.flatMap_append, HX.out.1, HX.out.2, List.flatMap_singleton]
          exact hrc
        have hz := ropen_end hA.out hB hbc hrow2 t
        rw [List.append_assoc] at hz
        exact ⟨rfl, hz⟩
    · have hp := HC.out (.inl (by omega))
      have hj1 : ¬ (j : Int) < (s.cs.length : Int) := by omega
      clear h3
      have HP := Lib.hid hp
      have hx := hS.out
      have hs1 := hx.takeF CR.cells (fun _ => rfl) (by omega) j hj
      have hs2 := hx.dropF CR.cells (fun _ => rfl) (by omega) j hj
      obtain ⟨A2, hA2⟩ : ∃ x, (if cp = j then A else A.map (·.add (j * 3))) = x := ⟨_, rfl⟩
      rw [hA2] at hs2
      clear hp hx hno HC
      obtain ⟨xs1, hxs1⟩ : ∃ x, (s.cs.take j).flatMap CR.cells = x := ⟨_, rfl⟩
      obtain ⟨xs2, hxs2⟩ : ∃ x, (s.cs.drop j).flatMap CR.cells = x := ⟨_, rfl⟩
      have hm1 : xs1.length = j * 3 := by rw [← hxs1, flat_len CR.cells 3 (fun _ => rfl), List.length_take, Nat.min_eq_left hj]
      have hm2 : xs2.length = (s.cs.length - j) * 3 := by rw [← hxs2, flat_len CR.cells 3 (fun _ => rfl), List.length_drop]
      have ho1 : ∀ u ∈ xs1, u.oneCell' = true := by rw [← hxs1]; exact cells_one _
      have ho2 : ∀ u ∈ xs2, u.oneCell' = true := by rw [← hxs2]; exact cells_one _
      rw [hxs1] at hs1
      rw [hxs2] at hs2
      have HX := Lib.hid (And.intro hxs1 hxs2)
      have HA := Lib.hid hA2
      have hjc : j ≤ cp := Nat.le_trans hj hcp
      clear hxs1 hxs2 hA2
      go_wp2_with (first
        | (with_reducible show wpList _ _ _ (Oper.mk _ (.slice _ _ none _ _) _ _ _ _ :: _) _ _; refine wpList_sliceTo rfl _ _ 49 rfl i0 Tryz.underlying49 hi0 hz1 rfl rfl hjc ?_)
        | (with_reducible show wpList _ _ _ (Oper.mk _ (.slice _ _ (some _) _ _) _ _ _ _ :: _) _ _; refine wpList_sliceFrom rfl _ _ 49 rfl i0 Tryz.underlying49 hi0 hz1 rfl rfl hj A2 HA.out ?_)
        | (at_builtin; refine wpList_append_sees (base := wr.heap.size) rfl _ _ 49 rfl i0 _ 24 Tryz.underlying49 hi0 hz0 hz1 hz2 rfl (by decide) (.slice none 0 0) 0 [] rfl (World.ownsRow_nil _ _ _ _) _ j xs1 rfl hs1 hm1 ho1 (by unfold maxLen; omega) (by omega) (Nat.le_refl _) ?_; clear hs1; intro va wa hra hga hoa
           rw [Nat.zero_add, List.nil_append] at hra
           have hba : Below wr.heap.size wr wa := (Below.refl _ _).grown hga (Nat.le_refl _) (fun k hk => by cases hk)
           have c1' := Lib.hid c1
           have c1a := (hba.cell (p := ⟨g, 1, none⟩) hA.out.blk.lt).trans c1
           have c2a := (hba.cell (p := ⟨g, 2, none⟩) hA.out.blk.lt).trans c2
           have hsa := sees_one wa 67 #[.int .i64 n, .int .i64 s.use, .int .i64 0] (size := 3) rfl
           obtain ⟨Aa, ca, rfl, _⟩ := row_form hra
           clear c1 c2 hga hoa)
        | (at_builtin; refine wpList_append_sees (base := wr.heap.size) rfl _ _ 49 rfl i0 _ 24 Tryz.underlying49 hi0 hz0 hz1 hz2 rfl (by decide) (.slice Aa j ca) j xs1 rfl (hra.alloc _) _ 1 _ rfl hsa rfl (by intro u hu; simp at hu; rcases hu with rfl | rfl | rfl <;> rfl) (by unfold maxLen; omega) (by omega) (by simp; exact Nat.le_succ_of_le hba.size) ?_; clear hsa; intro vb wb hrb hgb hob
           have hbb : Below wr.heap.size wr wb := grown_bel0 (hba.alloc hba.size _) (hra.alloc _) (by simp; exact Nat.le_succ_of_le hba.size) hgb
           have c1b := (hbb.cell (p := ⟨g, 1, none⟩) hA.out.blk.lt).trans c1'.out
           obtain ⟨Ab, cb, rfl, _⟩ := row_form hrb
           have hs2b := hs2.bel hbb
           clear c1a c2a hs2 hgb hob)
        | (at_builtin; refine wpList_append_sees (base := wr.heap.size) rfl _ _ 49 rfl i0 _ 24 Tryz.underlying49 hi0 hz0 hz1 hz2 rfl (by decide) (.slice Ab (j + 1) cb) (j + 1) _ rfl hrb _ (s.cs.length - j) xs2 rfl hs2b hm2 ho2 (by unfold maxLen; omega) (by omega) hbb.size ?_; clear hs2b; intro vc wc hrc hgc hoc
           have hbc : Below wr.heap.size wr wc := grown_bel0 hbb hrb hbb.size hgc
           have c1c := (hbc.cell (p := ⟨g, 1, none⟩) hA.out.blk.lt).trans c1'.out
           have c3c := (hbc.cell (p := ⟨g, 3, none⟩) hA.out.blk.lt).trans (hA.out.blk.at' 3)
           simp only [List.getElem?_toArray, List.getElem?_cons_succ, List.getElem?_cons_zero] at c3c
           have f1c := (hbc.frozen (p := ⟨g, 1, none⟩) hA.out.blk.lt).trans (hA.out.blk.thaw 1)
           have f3c := (hbc.frozen (p := ⟨g, 3, none⟩) hA.out.blk.lt).trans (hA.out.blk.thaw 3)
           obtain ⟨Ac, cc, rfl, _⟩ := row_form hrc
           clear c1b hgc hoc)
        | fail)
      go_ret
      have hrow2 : wc.ownsRow wr.heap.size 67 3 (.slice Ac (j + 1 + (s.cs.length - j)) cc) (s.cs.take (pos s.cs n) ++ [(⟨n, s.use, 0⟩ : CR)] ++ s.cs.drop (pos s.cs n)).length ((s.cs.take (pos s.cs n) ++ [(⟨n, s.use, 0⟩ : CR)] ++ s.cs.drop (pos s.cs n)).flatMap CR.cells) := by
        have e : (s.cs.take (pos s.cs n) ++ [(⟨n, s.use, 0⟩ : CR)] ++ s.cs.drop (pos s.cs n)).length = j + 1 + (s.cs.length - j) := by rw [HP.out]; simp; omega
        rw [e, HP.out, List.flatMap_append, List.flatMap_append, HX.out.1, HX.out.2, List.flatMap_singleton]
        exact hrc
      have hz := ropen_end hA.out hB hbc hrow2 t
      rw [List.append_assoc] at hz
      exact ⟨rfl, hz⟩
end Go.Proofs.YtahmcjdddcbhnaaGreatDoor
namespace Go.Proofs.YtahmcjdddcbhnaaGreatDoor
open Go Go.RowKit

theorem RPost.before {w W0 w' : World} {B g : Nat} {v1 v2 : Value} {s : RF} (h : Below w.heap.size w W0) (p : RPost W0 B g v1 v2 s w') : RPost w B g v1 v2 s w' :=
  ⟨by obtain ⟨u1, u2, h1, h2⟩ := p.ex; exact ⟨u1, u2, h1, fun k hk => (h2 k hk).imp id fun h' => Nat.le_trans h.size h'⟩, (Chg.of_below h).trans p.chg fun _ _ hi => hi⟩
set_option maxHeartbeats 8000000 in
set_option maxRecDepth 1000000 in
theorem rdo2 {w : World} {B g : Nat} {v1 v2 : Value} {s : RF} (h : RAt w B g v1 v2 s) (hB : B ≤ w.heap.size) (hl1 : s.vs.length ≤ 1000) (hl2 : s.cs.length ≤ 1000) (n t m : Int) :
    Calls Tryz.prog 16 #[.pointer (some ⟨g, 0, none⟩), .agg #[.int .i64 2, .int .i64 n, .int .i64 t, .int .i64 m]] w fun e w' => e = .returned (.int .i64 (s.rem n).1) ∧ RPost w B g v1 v2 (s.rem n).2 w' := by
  obtain ⟨W0, hW0⟩ : ∃ x, w.alloc (.cells #[.int .i64 2, .int .i64 n, .int .i64 t, .int .i64 m] 55) = x := ⟨_, rfl⟩
  have hB0 : Below w.heap.size w W0 := by rw [← hW0]; exact (Below.refl _ _).alloc (Nat.le_refl _) _
  have ob : Blk W0 w.heap.size 55 #[.int .i64 2, .int .i64 n, .int .i64 t, .int .i64 m] := by rw [← hW0]; exact Blk.made w _ _
  have h0 := h.bel hB0
  have hs0 : B ≤ W0.heap.size := Nat.le_trans hB hB0.size
  have p0 := ob.at' 0
  have p1 := ob.at' 1
  have p2 := ob.at' 2
  have p3 := ob.at' 3
  simp at p0 p1 p2 p3
  suffices hsuf : Calls Tryz.prog 16 #[.pointer (some ⟨g, 0, none⟩), .agg #[.int .i64 2, .int .i64 n, .int .i64 t, .int .i64 m]] w fun e w' => e = .returned (.int .i64 (s.rem n).1) ∧ RPost W0 B g v1 v2 (s.rem n).2 w' from
    hsuf.mono fun e w' hp => ⟨hp.1, hp.2.before hB0⟩
  have hcall := rremove_walk h0 hs0 (by omega) (by omega) n
  clear h h0 hB0 ob
  go_enter Tryz.func16, Tryz.ntmps16
  go_wp2_with (first | (go_at_call 29; refine hcall.mono ?_; clear hcall; rintro _ w1 ⟨rfl, hp⟩) | fail)
  go_ret
  exact ⟨rfl, hp⟩
set_option maxHeartbeats 8000000 in
set_option maxRecDepth 1000000 in
theorem rdo3 {w : World} {B g : Nat} {v1 v2 : Value} {s : RF} (h : RAt w B g v1 v2 s) (hB : B ≤ w.heap.size) (hl1 : s.vs.length ≤ 1000) (hl2 : s.cs.length ≤ 1000) (n t m : Int) :
    Calls Tryz.prog 16 #[.pointer (some ⟨g, 0, none⟩), .agg #[.int .i64 3, .int .i64 n, .int .i64 t, .int .i64 m]] w fun e w' => e = .returned (.int .i64 (s.opn n t).1) ∧ RPost w B g v1 v2 (s.opn n t).2 w' := by
  obtain ⟨W0, hW0⟩ : ∃ x, w.alloc (.cells #[.int .i64 3, .int .i64 n, .int .i64 t, .int .i64 m] 55) = x := ⟨_, rfl⟩
  have hB0 : Below w.heap.size w W0 := by rw [← hW0]; exact (Below.refl _ _).alloc (Nat.le_refl _) _
  have ob : Blk W0 w.heap.size 55 #[.int .i64 3, .int .i64 n, .int .i64 t, .int .i64 m] := by rw [← hW0]; exact Blk.made w _ _
  have h0 := h.bel hB0
  have hs0 : B ≤ W0.heap.size := Nat.le_trans hB hB0.size
  have p0 := ob.at' 0
  have p1 := ob.at' 1
  have p2 := ob.at' 2
  have p3 := ob.at' 3
  simp at p0 p1 p2 p3
  suffices hsuf : Calls Tryz.prog 16 #[.pointer (some ⟨g, 0, none⟩), .agg #[.int .i64 3, .int .i64 n, .int .i64 t, .int .i64 m]] w fun e w' => e = .returned (.int .i64 (s.opn n t).1) ∧ RPost W0 B g v1 v2 (s.opn n t).2 w' from
    hsuf.mono fun e w' hp => ⟨hp.1, hp.2.before hB0⟩
  have hcall := ropen_walk h0 hs0 (by omega) n t
  clear h h0 hB0 ob
  go_enter Tryz.func16, Tryz.ntmps16
  go_wp2_with (first | (go_at_call 30; refine hcall.mono ?_; clear hcall; rintro _ w1 ⟨rfl, hp⟩) | fail)
  go_ret
  exact ⟨rfl, hp⟩
set_option maxHeartbeats 8000000 in
set_option maxRecDepth 1000000 in
theorem rdo1 {w : World} {B g : Nat} {v1 v2 : Value} {s : RF} (h : RAt w B g v1 v2 s) (hB : B ≤ w.heap.size) (hl1 : s.vs.length ≤ 1000) (hl2 : s.cs.length ≤ 1000) (n t m : Int) :
    Calls Tryz.prog 16 #[.pointer (some ⟨g, 0, none⟩), .agg #[.int .i64 1, .int .i64 n, .int .i64 t, .int .i64 m]] w fun e w' => e = .returned (.int .i64 (s.usen n).1) ∧ RPost w B g v1 v2 (s.usen n).2 w' := by
  obtain ⟨W0, hW0⟩ : ∃ x, w.alloc (.cells #[.int .i64 1, .int .i64 n, .int .i64 t, .int .i64 m] 55) = x := ⟨_, rfl⟩
  have hB0 : Below w.heap.size w W0 := by rw [← hW0]; exact (Below.refl _ _).alloc (Nat.le_refl _) _
  have ob : Blk W0 w.heap.size 55 #[.int .i64 1, .int .i64 n, .int .i64 t, .int .i64 m] := by rw [← hW0]; exact Blk.made w _ _
  have h0 := h.bel hB0
  have hs0 : B ≤ W0.heap.size := Nat.le_trans hB hB0.size
  have p0 := ob.at' 0
  have p1 := ob.at' 1
  have p2 := ob.at' 2
  have p3 := ob.at' 3
  simp at p0 p1 p2 p3
  suffices hsuf : Calls Tryz.prog 16 #[.pointer (some ⟨g, 0, none⟩), .agg #[.int .i64 1, .int .i64 n, .int .i64 t, .int .i64 m]] w fun e w' => e = .returned (.int .i64 (s.usen n).1) ∧ RPost W0 B g v1 v2 (s.usen n).2 w' from
    hsuf.mono fun e w' hp => ⟨hp.1, hp.2.before hB0⟩
  have hha := fun k => has_walk (h0.sees1.bel (belowN W0 k)) (by omega) n
  have hsame := fun k => RPost.before (belowN W0 k) (RPost.same (h0.bel (belowN W0 k)))
  have c0 := h0.blk.at' 0
  simp at c0
  unfold RF.usen
  cases hcv : s.vs.contains n with
  | false =>
    rw [hcv] at hha
    rw [if_pos rfl]
    clear h h0 hB0 ob
    go_enter Tryz.func16, Tryz.ntmps16
    go_wp2_with fail
    go_quiet ((go_at_call 28; refine Calls.quiet_of_same (hha _)))
    go_wp2_with fail
    go_ret
    exact ⟨rfl, hsame _⟩
  | true =>
    rw [hcv] at hha
    rw [if_neg (by simp)]
    have hput : ∀ k, RPost W0 B g v1 v2 { s with use := n } ((W0.drewN k).setCell ⟨g, 2, none⟩ (.int .i64 n)) := fun k => by
      have h1 := h0.bel (belowN W0 k)
      refine RPost.before (belowN W0 k) ⟨⟨v1, v2, ⟨?_, ?_, ?_, h1.lo⟩, fun _ h => .inl h⟩, (Chg.refl _ _).setCell (.inr (.inl rfl)) _⟩
      · have := h1.blk.put 2 (.int .i64 n)
        simpa using this
      · exact row_set h1.row1 (p := ⟨g, 2, none⟩) (row_blk h1.row1 h1.blk (by decide)) _
      · exact row_set h1.row2 (p := ⟨g, 2, none⟩) (row_blk h1.row2 h1.blk (by decide)) _
    have c2 := fun k => (h0.bel (belowN W0 k)).blk.at' 2
    have f2 := fun k => (h0.bel (belowN W0 k)).blk.thaw 2
    have q1 := fun k => (ob.bel (belowN W0 k) ob.lt).at' 1
    simp at c2 q1
    clear h h0 hB0 ob hsame
    go_enter Tryz.func16, Tryz.ntmps16
    go_wp2_with fail
    go_quiet ((go_at_call 28; refine Calls.quiet_of_same (hha _)))
    go_wp2_with fail
    go_ret
    exact ⟨rfl, hput _⟩
end Go.Proofs.YtahmcjdddcbhnaaGreatDoor
namespace Go.Proofs.YtahmcjdddcbhnaaGreatDoor
open Go Go.RowKit

theorem rows_ne {w : World} {B B' s s' n n' : Nat} {e e' : TypeId} {v v' : Value} {xs xs' : List Value} (h : w.ownsRow B e s v n xs) (h' : w.ownsRow B' e' s' v' n' xs') (hne : e ≠ e') {k : Nat} (hk : v.ownBlock = some k) : v'.ownBlock ≠ some k := fun hk' => by
  rcases h.2 with ⟨rfl, _⟩ | ⟨b, cap, cur, rfl, _, hb, _⟩
  · cases hk
  rcases h'.2 with ⟨rfl, _⟩ | ⟨b', cap', cur', rfl, _, hb', _⟩
  · cases hk'
  cases hk
  cases hk'
  rw [hb] at hb'
  cases hb'
  exact hne rfl
theorem rinst_end {w w' : World} {B g n c : Nat} {v1 v2 : Value} {s : RF} (h : RAt w B g v1 v2 s) {o : Obj} {gg : Nat} {z : Int}
    (hr : w'.ownsRow B 3 1 (.slice (some ⟨gg, 0, none⟩) n c) n (ints s.vs ++ [.int .i64 z])) (hn : n = s.vs.length + 1) (hg : ((w.alloc o).drew).grownBy w' v1.ownBlock) (hat : v1.ownBlock = some gg ∨ gg = w.heap.size + 1) :
    RPost w B g v1 v2 { s with vs := s.vs ++ [z] } (w'.setCell ⟨g, 0, none⟩ (.slice (some ⟨gg, 0, none⟩) n c)) := by
  have hneg := row_blk h.row1 h.blk (by decide)
  have hC : Chg (fun k => v1.ownBlock = some k) w w' := (((Chg.refl _ w).alloc o).drew).grown hg fun k hk => .inr hk
  have hb := h.blk.chg hC hneg
  have hr2 := row_chg h.row2 hC fun k hk hk' => rows_ne h.row1 h.row2 (by decide) hk' hk
  subst hn
  refine ⟨⟨.slice (some ⟨gg, 0, none⟩) (s.vs.length + 1) c, v2, ⟨?_, ?_, ?_, h.lo⟩, fun k hk => ?_⟩, (hC.more fun _ _ e => .inr (.inl e)).setCell (.inr (.inl rfl)) _⟩
  · have := hb.put 0 (.slice (some ⟨gg, 0, none⟩) (s.vs.length + 1) c)
    simpa using this
  · have hr' : w'.ownsRow B 3 1 (.slice (some ⟨gg, 0, none⟩) (s.vs.length + 1) c) (s.vs ++ [z]).length (ints (s.vs ++ [z])) := by
      unfold ints
      rw [List.length_append, List.map_append]
      exact hr
    exact row_set hr' (p := ⟨g, 0, none⟩) (row_blk hr' hb (by decide)) _
  · exact row_set hr2 (p := ⟨g, 0, none⟩) (row_blk hr2 hb (by decide)) _
  · rcases hk with rfl | hk | hk
    · exact .inl (.inl rfl)
    · cases hk
      rcases hat with e | e
      · exact .inl (.inr (.inl e))
      · exact .inr (by rw [e]; exact Nat.le_succ _)
    · exact .inl (.inr (.inr hk))
set_option maxHeartbeats 8000000 in
set_option maxRecDepth 1000000 in
theorem rdo0 {w : World} {B g : Nat} {v1 v2 : Value} {s : RF} (h : RAt w B g v1 v2 s) (hB : B ≤ w.heap.size) (hl1 : s.vs.length ≤ 1000) (hl2 : s.cs.length ≤ 1000) (n t m : Int) :
    Calls Tryz.prog 16 #[.pointer (some ⟨g, 0, none⟩), .agg #[.int .i64 0, .int .i64 n, .int .i64 t, .int .i64 m]] w fun e w' => e = .returned (.int .i64 (s.inst n).1) ∧ RPost w B g v1 v2 (s.inst n).2 w' := by
  obtain ⟨W0, hW0⟩ : ∃ x, w.alloc (.cells #[.int .i64 0, .int .i64 n, .int .i64 t, .int .i64 m] 55) = x := ⟨_, rfl⟩
  have hB0 : Below w.heap.size w W0 := by rw [← hW0]; exact (Below.refl _ _).alloc (Nat.le_refl _) _
  have ob : Blk W0 w.heap.size 55 #[.int .i64 0, .int .i64 n, .int .i64 t, .int .i64 m] := by rw [← hW0]; exact Blk.made w _ _
  have h0 := h.bel hB0
  have hs0 : B ≤ W0.heap.size := Nat.le_trans hB hB0.size
  have p0 := ob.at' 0
  have p1 := ob.at' 1
  have p2 := ob.at' 2
  have p3 := ob.at' 3
  simp at p0 p1 p2 p3
  suffices hsuf : Calls Tryz.prog 16 #[.pointer (some ⟨g, 0, none⟩), .agg #[.int .i64 0, .int .i64 n, .int .i64 t, .int .i64 m]] w fun e w' => e = .returned (.int .i64 (s.inst n).1) ∧ RPost W0 B g v1 v2 (s.inst n).2 w' from
    hsuf.mono fun e w' hp => ⟨hp.1, hp.2.before hB0⟩
  have hha := fun k => has_walk (h0.sees1.bel (belowN W0 k)) (by omega) n
  have hsame := fun k => RPost.before (belowN W0 k) (RPost.same (h0.bel (belowN W0 k)))
  have c0 := h0.blk.at' 0
  simp at c0
  unfold RF.inst
  by_cases h1 : n < 0
  · rw [if_pos (.inl h1)]
    have hs := RPost.same h0
    clear h h0 hB0 ob hha hsame
    go_enter Tryz.func16, Tryz.ntmps16
    go_wp2_with fail
    go_ret
    exact ⟨rfl, hs⟩
  by_cases h2 : 1024 < n
  · rw [if_pos (.inr h2)]
    have hs := RPost.same h0
    clear h h0 hB0 ob hha hsame
    go_enter Tryz.func16, Tryz.ntmps16
    go_wp2_with fail
    go_ret
    exact ⟨rfl, hs⟩
  rw [if_neg (by omega)]
  have h2' : n ≤ 1024 := by omega
  have h1' : 0 ≤ n := by omega
  cases hcv : s.vs.contains n with
  | true =>
    rw [hcv] at hha
    rw [if_pos rfl]
    clear h h0 hB0 ob
    go_enter Tryz.func16, Tryz.ntmps16
    go_wp2_with fail
    go_quiet ((go_at_call 28; refine Calls.quiet_of_same (hha _)))
    go_wp2_with fail
    go_ret
    exact ⟨rfl, hsame _⟩
  | false =>
    rw [hcv] at hha
    rw [if_neg (by simp)]
    have hv := h0.vers
    obtain ⟨A1, cp1, rfl, hcp1⟩ := hv
    by_cases h64 : 64 ≤ s.vs.length
    · have h64' : (64 : Int) ≤ (s.vs.length : Int) := by omega
      rw [if_pos h64]
      have c0k := fun k => (belowN W0 k).cell (p := ⟨g, 0, none⟩) h0.blk.lt
      have c0d : ∀ k, (W0.drewN k).cell? ⟨g, 0, none⟩ = some (.slice A1 s.vs.length cp1) := fun k => (c0k k).trans c0
      clear h h0 hB0 ob c0k
      go_enter Tryz.func16, Tryz.ntmps16
      go_wp2_with fail
      go_quiet ((go_at_call 28; refine Calls.quiet_of_same (hha _)))
      go_wp2_with fail
      go_ret
      exact ⟨rfl, hsame _⟩
    · rw [if_neg h64]
      have h64' : ¬ (64 : Int) ≤ (s.vs.length : Int) := by omega
      have c0k := fun k => (belowN W0 k).cell (p := ⟨g, 0, none⟩) h0.blk.lt
      have c0d : ∀ k, (W0.drewN k).cell? ⟨g, 0, none⟩ = some (.slice A1 s.vs.length cp1) := fun k => (c0k k).trans c0
      have HA := Lib.hid h0
      have HO := Lib.hid ob
      clear h h0 hB0 ob c0k
      go_enter Tryz.func16, Tryz.ntmps16
      go_wp2_with fail
      go_quiet ((go_at_call 28; refine Calls.quiet_of_same (hha _)))
      clear hha
      go_wp2_with fail
      obtain ⟨W1, hW1⟩ : ∃ x, W0.drewN nq = x := ⟨_, rfl⟩
      have hB1 : Below W0.heap.size W0 W1 := by rw [← hW1]; exact belowN _ _
      rw [hW1]
      have e0 := c0d nq
      rw [hW1] at e0
      have o1 := (HO.out.bel hB1 HO.out.lt).at' 1
      simp at o1
      have f0 := (HA.out.bel hB1).blk.thaw 0
      obtain ⟨i0, hi0, hz0, hz1, hz2⟩ := info_parts' infoInt
      have H1 := HA.out.bel hB1
      have hr1 := H1.row1
      have hneg := row_blk hr1 H1.blk (by decide)
      have hgl := H1.blk.lt
      have hs1 : B ≤ W1.heap.size := Nat.le_trans hs0 hB1.size
      have hfz : ∀ o, (W1.alloc o).drew.frozen? ⟨g, 0, none⟩ = false := fun o => (((Below.refl W1.heap.size W1).alloc (Nat.le_refl _) o).drew.frozen (p := ⟨g, 0, none⟩) hgl).trans f0
      have hn1 : s.vs.length + 1 ≤ maxLen := by unfold maxLen; omega
      have hn2 : (s.vs.length + 1) * 8 ≤ 140737488355328 := by omega
      have H1h := Lib.hid H1
      clear H1
      go_region_law
        (refine step_append_lies _ (by rfl) _ _ _ (by rfl) B 3 i0 _ 1 8 Tryz.underlying22 hi0 hz0 hz1 hz2 rfl (by omega) (.slice A1 s.vs.length cp1) s.vs.length (ints s.vs) (by rfl) ((hr1.alloc _).drew)
            ⟨W1.heap.size, 0, none⟩ 1 1 [.int .i64 n] (by rfl) (by rfl) (World.news_of_block (cs := #[.int .i64 n]) (t := 3) (fr := (0, 0)) (heap_alloc_new W1 _)) (by simp [Value.oneCell'])
            (by omega) hn1 hn2 (by simp; omega) (W1.heap.size + 1) (by simp) ?_; intro gg cap w4 hown1 hgrow hat hlt; have hfz4 := (hgrow.frozen_far ⟨g, 0, none⟩ (by simp; omega) (fun e => hneg e.symm)).trans (hfz _); have hnz4 := hgrow.cell_far ⟨g, 0, none⟩ (by simp; omega) (fun e => hneg e.symm))
      all_goals
        go_wp2_with fail
        go_ret
        exact ⟨rfl, RPost.before hB1 (rinst_end H1h.out hown1 rfl hgrow hat)⟩
end Go.Proofs.YtahmcjdddcbhnaaGreatDoor
namespace Go.Proofs.YtahmcjdddcbhnaaGreatDoor
open Go Go.RowKit

theorem findE_at {cs : List CR} {n : Int} (h : idx cs n < cs.length) : findE cs n = (idx cs n : Int) := if_pos h
theorem findE_no {cs : List CR} {n : Int} (h : ¬ idx cs n < cs.length) : findE cs n = -1 := if_neg h
theorem flat_set {α : Type} (c : α → List Value) {l : List α} {i : Nat} (hi : i < l.length) {x : α} {k : Nat} {u : Value} {m : Nat} (hm : ∀ a, (c a).length = m) (hk : k < m) (hx : c x = (c l[i]).set k u) : (l.set i x).flatMap c = (l.flatMap c).set (i * m + k) u := by
  induction l generalizing i with
  | nil => simp at hi
  | cons a t ih =>
    cases i with
    | zero =>
      simp only [List.set_cons_zero, List.flatMap_cons, List.getElem_cons_zero, Nat.zero_mul, Nat.zero_add] at hx ⊢
      rw [hx, List.set_append_left _ _ (by rw [hm]; exact hk)]
    | succ j =>
      simp only [List.set_cons_succ, List.flatMap_cons, List.getElem_cons_succ] at hx ⊢
      rw [ih (by simpa using hi) hx]
      have e : (j + 1) * m + k = (c a).length + (j * m + k) := by rw [hm, Nat.succ_mul]; omega
      rw [e, List.set_append_right _ _ (by omega), Nat.add_sub_cancel_left]
theorem RPost.drew {w w' : World} {B g : Nat} {v1 v2 : Value} {s : RF} (p : RPost w B g v1 v2 s w') : RPost w B g v1 v2 s w'.drew :=
  ⟨by obtain ⟨u1, u2, h1, h2⟩ := p.ex; exact ⟨u1, u2, h1.bel (Below.refl _ _).drew, h2⟩, p.chg.drew⟩
theorem rsnd_end {w : World} {B g b i cp : Nat} {v1 : Value} {s : RF} (h : RAt w B g v1 (.slice (some ⟨b, 0, none⟩) s.cs.length cp) s) {c : CR} (hi : i < s.cs.length) (hc : s.cs[i] = c) (x t : Int) :
    RPost w B g v1 (.slice (some ⟨b, 0, none⟩) s.cs.length cp) { s with cs := s.cs.set i { c with many := x }, tick := t } ((w.setCell ⟨b, i * 3 + 2, none⟩ (.int .i64 x)).setCell ⟨g, 3, none⟩ (.int .i64 t)) := by
  have hne := row_blk h.row2 h.blk (by decide)
  have hgb : g ≠ b := fun e => hne (by rw [e]; rfl)
  have h1 : v1.ownBlock ≠ some b := fun e => rows_ne h.row1 h.row2 (by decide) e rfl
  have hg1 := row_blk h.row1 h.blk (by decide)
  refine ⟨⟨v1, .slice (some ⟨b, 0, none⟩) s.cs.length cp, ⟨?_, ?_, ?_, h.lo⟩, fun _ h => .inl h⟩, ((Chg.refl _ _).setCell (p := ⟨b, i * 3 + 2, none⟩) (.inr (.inr (.inr rfl))) _).setCell (.inr (.inl rfl)) _⟩
  · have := (h.blk.away (p := ⟨b, i * 3 + 2, none⟩) hgb (.int .i64 x)).put 3 (.int .i64 t)
    simpa using this
  · exact row_set (row_set h.row1 (p := ⟨b, i * 3 + 2, none⟩) h1 _) (p := ⟨g, 3, none⟩) hg1 _
  · have hr := (h.row2.stored (i * 3 + 2) (.int .i64 x)).1
    rw [← flat_set CR.cells hi (x := { c with many := x }) (fun _ => rfl) (by omega) (by rw [hc]; rfl)] at hr
    have hr' : (w.setCell ⟨b, i * 3 + 2, none⟩ (.int .i64 x)).ownsRow B 67 3 (.slice (some ⟨b, 0, none⟩) s.cs.length cp) (s.cs.set i { c with many := x }).length ((s.cs.set i { c with many := x }).flatMap CR.cells) := by rw [List.length_set]; exact hr
    exact row_set hr' (p := ⟨g, 3, none⟩) hne _
set_option maxHeartbeats 8000000 in
set_option maxRecDepth 1000000 in
theorem rdo4 {w : World} {B g : Nat} {v1 v2 : Value} {s : RF} (h : RAt w B g v1 v2 s) (hB : B ≤ w.heap.size) (hl1 : s.vs.length ≤ 1000) (hl2 : s.cs.length ≤ 1000) (n t m : Int) (hok : ∀ c ∈ s.cs, 0 ≤ c.many ∧ c.many ≤ 65536) (hm : 0 ≤ m ∧ m ≤ 40000) :
    Calls Tryz.prog 16 #[.pointer (some ⟨g, 0, none⟩), .agg #[.int .i64 4, .int .i64 n, .int .i64 t, .int .i64 m]] w fun e w' => e = .returned (.int .i64 (s.snd n t m).1) ∧ RPost w B g v1 v2 (s.snd n t m).2 w' := by
  obtain ⟨W0, hW0⟩ : ∃ x, w.alloc (.cells #[.int .i64 4, .int .i64 n, .int .i64 t, .int .i64 m] 55) = x := ⟨_, rfl⟩
  have hB0 : Below w.heap.size w W0 := by rw [← hW0]; exact (Below.refl _ _).alloc (Nat.le_refl _) _
  have ob : Blk W0 w.heap.size 55 #[.int .i64 4, .int .i64 n, .int .i64 t, .int .i64 m] := by rw [← hW0]; exact Blk.made w _ _
  have h0 := h.bel hB0
  have hs0 : B ≤ W0.heap.size := Nat.le_trans hB hB0.size
  have p0 := ob.at' 0
  have p1 := ob.at' 1
  have p2 := ob.at' 2
  have p3 := ob.at' 3
  simp at p0 p1 p2 p3
  suffices hsuf : Calls Tryz.prog 16 #[.pointer (some ⟨g, 0, none⟩), .agg #[.int .i64 4, .int .i64 n, .int .i64 t, .int .i64 m]] w fun e w' => e = .returned (.int .i64 (s.snd n t m).1) ∧ RPost W0 B g v1 v2 (s.snd n t m).2 w' from
    hsuf.mono fun e w' hp => ⟨hp.1, hp.2.before hB0⟩
  have hla := rlate_walk h0 t
  have hfi := find_walk h0 (by omega) n
  have hsame := RPost.same h0
  unfold RF.snd
  obtain ⟨le, hle⟩ : ∃ x, lateE s.tick t = x := ⟨_, rfl⟩
  rw [hle] at hla ⊢
  by_cases h3 : le = 0
  case neg =>
    rw [if_pos h3]
    have hlb : (le == 0) = false := beq_eq_false_iff_ne.2 h3
    clear hle h h0 hB0 ob hfi
    go_enter Tryz.func16, Tryz.ntmps16
    go_wp2_with (first | (go_at_call 31; refine hla.mono ?_; clear hla; rintro _ w1 ⟨rfl, rfl⟩) | fail)
    go_ret
    exact ⟨rfl, hsame⟩
  rw [if_neg (fun hh => hh h3)]
  subst h3
  clear hle
  by_cases h4 : idx s.cs n < s.cs.length
  case neg =>
    rw [List.getElem?_eq_none (Nat.not_lt.1 h4)]
    rw [findE_no h4] at hfi
    clear h h0 hB0 ob h4
    go_enter Tryz.func16, Tryz.ntmps16
    go_wp2_with (first | (go_at_call 31; refine hla.mono ?_; clear hla; rintro _ w1 ⟨rfl, rfl⟩) | (go_at_call 32; refine hfi.mono ?_; clear hfi; rintro _ w1 ⟨rfl, rfl⟩) | fail)
    go_ret
    exact ⟨rfl, hsame⟩
  rw [findE_at h4] at hfi
  obtain ⟨i, hi⟩ : ∃ x, idx s.cs n = x := ⟨_, rfl⟩
  rw [hi] at hfi h4
  rw [hi, List.getElem?_eq_getElem h4]
  clear hi
  obtain ⟨A, cp, rfl, hcp, h3⟩ := h0.conns
  obtain ⟨b, off, rfl, hb, hcc⟩ := h3 (by omega)
  obtain ⟨-, -, d2⟩ := hcc i h4
  have c1 := h0.blk.at' 1
  simp at c1
  have hboff : off = 0 := by
    rcases h0.row2.2 with ⟨hv, _⟩ | ⟨g', cap, cur, hv, _⟩
    · cases hv
    · cases hv; rfl
  subst hboff
  rw [Nat.zero_add] at d2
  have hcc4 := hok s.cs[i] (List.getElem_mem h4)
  obtain ⟨c, hc⟩ : ∃ c, s.cs[i] = c := ⟨_, rfl⟩
  rw [hc] at hcc4 d2 ⊢
  have HC := Lib.hid hc
  have hwr : IntKind.i64.wrap (c.many + m) = c.many + m := wrapS (by omega) (by omega)
  have HA := Lib.hid h0
  have hi0 : (0 : Int) ≤ (i : Int) := Int.natCast_nonneg _
  have hil : (i : Int) < (s.cs.length : Int) := by omega
  have c1d := fun k => ((belowN W0 k).cell (p := ⟨g, 1, none⟩) h0.blk.lt).trans c1
  have d2d := fun k => ((belowN W0 k).cell (p := ⟨b, i * 3 + 2, none⟩) hb).trans d2
  have p0d := fun k => ((belowN W0 k).cell (p := ⟨w.heap.size, 0, none⟩) ob.lt).trans p0
  have p2d := fun k => ((belowN W0 k).cell (p := ⟨w.heap.size, 2, none⟩) ob.lt).trans p2
  have p3d := fun k => ((belowN W0 k).cell (p := ⟨w.heap.size, 3, none⟩) ob.lt).trans p3
  clear hc hok hcc h3 hcp h hsame
  by_cases hbig : 65536 < c.many + m
  · dsimp only
    rw [if_pos hbig]
    have hsame := fun k => RPost.before (belowN W0 k) (RPost.same (h0.bel (belowN W0 k)))
    clear h0 hB0 ob
    go_enter Tryz.func16, Tryz.ntmps16
    go_wp2_with (first | (go_at_call 31; refine hla.mono ?_; clear hla; rintro _ w1 ⟨rfl, rfl⟩) | (go_at_call 32; refine hfi.mono ?_; clear hfi; rintro _ w1 ⟨rfl, rfl⟩) | fail)
    go_quiet (fail)
    go_wp2_with fail
    go_ret
    exact ⟨rfl, hsame _⟩
  · dsimp only
    rw [if_neg hbig]
    have HO := Lib.hid ob
    clear h0 hB0 ob
    go_enter Tryz.func16, Tryz.ntmps16
    go_wp2_with (first | (go_at_call 31; refine hla.mono ?_; clear hla; rintro _ w1 ⟨rfl, rfl⟩) | (go_at_call 32; refine hfi.mono ?_; clear hfi; rintro _ w1 ⟨rfl, rfl⟩) | fail)
    go_quiet (fail)
    go_wp2_with fail
    obtain ⟨W1, hW1⟩ : ∃ x, w1.drewN nq = x := ⟨_, rfl⟩
    have hB1 : Below w1.heap.size w1 W1 := by rw [← hW1]; exact belowN _ _
    rw [hW1]
    have e1 := c1d nq
    have e2 := d2d nq
    have q2 := p2d nq
    have q3 := p3d nq
    rw [hW1] at e1 e2 q2 q3
    have H1 := HA.out.bel hB1
    have e3 := H1.blk.at' 3
    have f3 := H1.blk.thaw 3
    have fz := H1.row2.frozenAt (i * 3 + 2)
    have n1 : ¬ b = w.heap.size := fun e => row_blk HA.out.row2 HO.out (by decide) (by rw [← e]; rfl)
    have n2 : ¬ b = g := fun e => row_blk H1.row2 H1.blk (by decide) (by rw [← e]; rfl)
    simp at e3
    have H1h := Lib.hid H1
    clear H1 c1d d2d p0d p2d p3d p0 p1 p2 p3 c1 d2
    go_region_law (fail)
    all_goals go_wp2_with fail
    all_goals
      go_ret
      refine ⟨rfl, RPost.before hB1 ?_⟩
      first
        | exact rsnd_end H1h.out h4 HC.out _ _
        | exact (rsnd_end H1h.out h4 HC.out _ _).drew
        | exact (rsnd_end H1h.out h4 HC.out _ _).drew.drew
end Go.Proofs.YtahmcjdddcbhnaaGreatDoor
namespace Go.Proofs.YtahmcjdddcbhnaaGreatDoor
open Go Go.RowKit

set_option maxHeartbeats 8000000 in
set_option maxRecDepth 1000000 in
theorem rdo5 {w : World} {B g : Nat} {v1 v2 : Value} {s : RF} (h : RAt w B g v1 v2 s) (hB : B ≤ w.heap.size) (hl1 : s.vs.length ≤ 1000) (hl2 : s.cs.length ≤ 1000) (n t m : Int) :
    Calls Tryz.prog 16 #[.pointer (some ⟨g, 0, none⟩), .agg #[.int .i64 5, .int .i64 n, .int .i64 t, .int .i64 m]] w fun e w' => e = .returned (.int .i64 (s.fin n t).1) ∧ RPost w B g v1 v2 (s.fin n t).2 w' := by
  obtain ⟨W0, hW0⟩ : ∃ x, w.alloc (.cells #[.int .i64 5, .int .i64 n, .int .i64 t, .int .i64 m] 55) = x := ⟨_, rfl⟩
  have hB0 : Below w.heap.size w W0 := by rw [← hW0]; exact (Below.refl _ _).alloc (Nat.le_refl _) _
  have ob : Blk W0 w.heap.size 55 #[.int .i64 5, .int .i64 n, .int .i64 t, .int .i64 m] := by rw [← hW0]; exact Blk.made w _ _
  have h0 := h.bel hB0
  have hs0 : B ≤ W0.heap.size := Nat.le_trans hB hB0.size
  have p0 := ob.at' 0
  have p1 := ob.at' 1
  have p2 := ob.at' 2
  have p3 := ob.at' 3
  simp at p0 p1 p2 p3
  suffices hsuf : Calls Tryz.prog 16 #[.pointer (some ⟨g, 0, none⟩), .agg #[.int .i64 5, .int .i64 n, .int .i64 t, .int .i64 m]] w fun e w' => e = .returned (.int .i64 (s.fin n t).1) ∧ RPost W0 B g v1 v2 (s.fin n t).2 w' from
    hsuf.mono fun e w' hp => ⟨hp.1, hp.2.before hB0⟩
  have hla := rlate_walk h0 t
  have hfi := find_walk h0 (by omega) n
  have hsame := RPost.same h0
  unfold RF.fin
  obtain ⟨le, hle⟩ : ∃ x, lateE s.tick t = x := ⟨_, rfl⟩
  rw [hle] at hla ⊢
  by_cases h3 : le = 0
  case neg =>
    rw [if_pos h3]
    have hlb : (le == 0) = false := beq_eq_false_iff_ne.2 h3
    clear hle h h0 hB0 ob hfi
    go_enter Tryz.func16, Tryz.ntmps16
    go_wp2_with (first | (go_at_call 31; refine hla.mono ?_; clear hla; rintro _ w1 ⟨rfl, rfl⟩) | fail)
    go_ret
    exact ⟨rfl, hsame⟩
  rw [if_neg (fun hh => hh h3)]
  subst h3
  clear hle
  by_cases h4 : idx s.cs n < s.cs.length
  case neg =>
    rw [List.getElem?_eq_none (Nat.not_lt.1 h4)]
    rw [findE_no h4] at hfi
    clear h h0 hB0 ob h4
    go_enter Tryz.func16, Tryz.ntmps16
    go_wp2_with (first | (go_at_call 31; refine hla.mono ?_; clear hla; rintro _ w1 ⟨rfl, rfl⟩) | (go_at_call 32; refine hfi.mono ?_; clear hfi; rintro _ w1 ⟨rfl, rfl⟩) | fail)
    go_ret
    exact ⟨rfl, hsame⟩
  rw [findE_at h4] at hfi
  obtain ⟨i, hi⟩ : ∃ x, idx s.cs n = x := ⟨_, rfl⟩
  rw [hi] at hfi h4
  rw [hi, List.getElem?_eq_getElem h4]
  clear hi
  have hR := h0.sees2
  obtain ⟨A, cp, rfl, hcp, h3⟩ := h0.conns
  have c1 := h0.blk.at' 1
  simp at c1
  have HA := Lib.hid h0
  have HO := Lib.hid ob
  have hi0 : (0 : Int) ≤ (i : Int) := Int.natCast_nonneg _
  have hil : (i : Int) < (s.cs.length : Int) := by omega
  have hs1 := hR.takeF CR.cells (fun _ => rfl) (by omega) i (Nat.le_of_lt h4)
  have hs2 := hR.dropF CR.cells (fun _ => rfl) (by omega) (i + 1) h4
  obtain ⟨A2, hA2⟩ : ∃ x, (if cp = i + 1 then A else A.map (·.add ((i + 1) * 3))) = x := ⟨_, rfl⟩
  rw [hA2] at hs2
  obtain ⟨xs1, hxs1⟩ : ∃ x, (s.cs.take i).flatMap CR.cells = x := ⟨_, rfl⟩
  obtain ⟨xs2, hxs2⟩ : ∃ x, (s.cs.drop (i + 1)).flatMap CR.cells = x := ⟨_, rfl⟩
  have hm1 : xs1.length = i * 3 := by rw [← hxs1, flat_len CR.cells 3 (fun _ => rfl), List.length_take, Nat.min_eq_left (Nat.le_of_lt h4)]
  have hm2 : xs2.length = (s.cs.length - (i + 1)) * 3 := by rw [← hxs2, flat_len CR.cells 3 (fun _ => rfl), List.length_drop]
  have ho1 : ∀ u ∈ xs1, u.oneCell' = true := by rw [← hxs1]; exact cells_one _
  have ho2 : ∀ u ∈ xs2, u.oneCell' = true := by rw [← hxs2]; exact cells_one _
  rw [hxs1] at hs1
  rw [hxs2] at hs2
  have HX := Lib.hid (And.intro hxs1 hxs2)
  have HA2 := Lib.hid hA2
  have hjc : i ≤ cp := by omega
  have hjc2 : (i : Int) + 1 ≤ (s.cs.length : Int) := by omega
  obtain ⟨i0, hy0, hz0, hz1, hz2⟩ := info_parts' infoConn
  clear hxs1 hxs2 hA2 hR h3 h h0 hB0 ob hsame
  go_enter Tryz.func16, Tryz.ntmps16
  go_wp2_with (first
    | (go_at_call 31; refine hla.mono ?_; clear hla; rintro _ w1 ⟨rfl, rfl⟩)
    | (go_at_call 32; refine hfi.mono ?_; clear hfi; rintro _ w1 ⟨rfl, rfl⟩)
    | (with_reducible show wpList _ _ _ (Oper.mk _ (.slice _ _ none _ _) _ _ _ _ :: _) _ _; refine wpList_sliceTo rfl _ _ 49 rfl i0 Tryz.underlying49 hy0 hz1 rfl rfl hjc ?_)
    | (with_reducible show wpList _ _ _ (Oper.mk _ (.slice _ _ (some _) _ _) _ _ _ _ :: _) _ _; refine wpList_sliceFrom (J := i + 1) rfl _ _ 49 rfl i0 Tryz.underlying49 hy0 hz1 rfl rfl h4 A2 HA2.out ?_)
    | (at_builtin; refine wpList_append_sees (base := w1.heap.size) rfl _ _ 49 rfl i0 _ 24 Tryz.underlying49 hy0 hz0 hz1 hz2 rfl (by decide) (.slice none 0 0) 0 [] rfl (World.ownsRow_nil _ _ _ _) _ i xs1 rfl hs1 hm1 ho1 (by unfold maxLen; omega) (by omega) (Nat.le_refl _) ?_; clear hs1; intro va wa hra hga hoa
       rw [Nat.zero_add, List.nil_append] at hra
       have hba : Below w1.heap.size w1 wa := (Below.refl _ _).grown hga (Nat.le_refl _) (fun k hk => by cases hk)
       have c1' := Lib.hid c1
       have c1a := (hba.cell (p := ⟨g, 1, none⟩) HA.out.blk.lt).trans c1
       have hs2a := hs2.bel hba
       obtain ⟨Aa, ca, rfl, _⟩ := row_form hra
       clear c1 hs2 hga hoa)
    | (at_builtin; refine wpList_append_sees (base := w1.heap.size) rfl _ _ 49 rfl i0 _ 24 Tryz.underlying49 hy0 hz0 hz1 hz2 rfl (by decide) (.slice Aa i ca) i _ rfl hra _ (s.cs.length - (i + 1)) xs2 rfl hs2a hm2 ho2 (by unfold maxLen; omega) (by omega) hba.size ?_; clear hs2a; intro vc wc hrc hgc hoc
       have hbc : Below w1.heap.size w1 wc := grown_bel0 hba hra hba.size hgc
       have c1c := (hbc.cell (p := ⟨g, 1, none⟩) HA.out.blk.lt).trans c1'.out
       have c3c := (hbc.cell (p := ⟨g, 3, none⟩) HA.out.blk.lt).trans (HA.out.blk.at' 3)
       simp only [List.getElem?_toArray, List.getElem?_cons_succ, List.getElem?_cons_zero] at c3c
       have f1c := (hbc.frozen (p := ⟨g, 1, none⟩) HA.out.blk.lt).trans (HA.out.blk.thaw 1)
       have f3c := (hbc.frozen (p := ⟨g, 3, none⟩) HA.out.blk.lt).trans (HA.out.blk.thaw 3)
       have p2c := (hbc.cell (p := ⟨w.heap.size, 2, none⟩) HO.out.lt).trans p2
       have ngo : ¬ g = w.heap.size := fun e => Blk.two HA.out.blk HO.out (by decide) e
       obtain ⟨Ac, cc, rfl, _⟩ := row_form hrc
       clear c1a hgc hoc)
    | fail)
  go_ret
  have hrow2 : wc.ownsRow w1.heap.size 67 3 (.slice Ac (i + (s.cs.length - (i + 1))) cc) (s.cs.take i ++ s.cs.drop (i + 1)).length ((s.cs.take i ++ s.cs.drop (i + 1)).flatMap CR.cells) := by
    have e : (s.cs.take i ++ s.cs.drop (i + 1)).length = i + (s.cs.length - (i + 1)) := by simp; omega
    rw [e, List.flatMap_append, HX.out.1, HX.out.2]
    exact hrc
  exact ⟨rfl, ropen_end HA.out hs0 hbc hrow2 t⟩
end Go.Proofs.YtahmcjdddcbhnaaGreatDoor
namespace Go.Proofs.YtahmcjdddcbhnaaGreatDoor
open Go Go.RowKit

structure RF.Few (s : RF) : Prop where
  vs : s.vs.length ≤ 64
  cs : s.cs.length ≤ 64
theorem step_few {s : RF} (h : s.Few) (o : ROp) : (s.step o).2.Few := by
  have hv := h.vs
  have hc := h.cs
  unfold RF.step
  split
  · unfold RF.inst
    split
    · exact h
    · split
      · exact h
      · split
        · exact h
        · exact ⟨by simp; omega, hc⟩
  · split
    · unfold RF.usen
      split
      · exact h
      · exact ⟨hv, hc⟩
    · split
      · unfold RF.rem
        split
        · exact h
        · split
          · exact h
          · split
            · exact h
            · exact ⟨Nat.le_trans (List.length_filter_le _ _) hv, hc⟩
      · split
        · unfold RF.opn
          split
          · exact h
          · split
            · exact h
            · split
              · exact h
              · split
                · exact h
                · split
                  · exact h
                  · refine ⟨hv, ?_⟩
                    have := pos_le s.cs o.n
                    simp
                    omega
        · split
          · unfold RF.snd
            split
            · exact h
            · split
              · exact h
              · split
                · exact h
                · exact ⟨hv, by simpa using hc⟩
          · unfold RF.fin
            split
            · exact h
            · split
              · exact h
              · exact ⟨hv, by simp; omega⟩
theorem RF.Ok.many {s : RF} (h : s.Ok) : ∀ c ∈ s.cs, 0 ≤ c.many ∧ c.many ≤ 65536 := fun c hc => (h.cs c hc).2.2
theorem rdo_walk {w : World} {B g : Nat} {v1 v2 : Value} {s : RF} (h : RAt w B g v1 v2 s) (hB : B ≤ w.heap.size) (hs : s.Ok) (hf : s.Few) {o : ROp} (ho : o.Ok) :
    Calls Tryz.prog 16 #[.pointer (some ⟨g, 0, none⟩), .agg o.cells.toArray] w fun e w' => e = .returned (.int .i64 (s.step o).1) ∧ RPost w B g v1 v2 (s.step o).2 w' := by
  obtain ⟨k, n, t, m⟩ := o
  have hv := hf.vs
  have hc := hf.cs
  have hk := ho.kind
  have hm := ho.many
  simp only at hk hm
  unfold RF.step
  by_cases h0 : k = 0
  · subst h0
    exact rdo0 h hB (by omega) (by omega) n t m
  by_cases h1 : k = 1
  · subst h1
    exact rdo1 h hB (by omega) (by omega) n t m
  by_cases h2 : k = 2
  · subst h2
    exact rdo2 h hB (by omega) (by omega) n t m
  by_cases h3 : k = 3
  · subst h3
    exact rdo3 h hB (by omega) (by omega) n t m
  by_cases h4 : k = 4
  · subst h4
    exact rdo4 h hB (by omega) (by omega) n t m hs.many hm
  have h5 : k = 5 := by omega
  subst h5
  exact rdo5 h hB (by omega) (by omega) n t m
end Go.Proofs.YtahmcjdddcbhnaaGreatDoor
namespace Go.Proofs.YtahmcjdddcbhnaaGreatDoor
open Go Go.RowKit

theorem lateE_no {tk t : Int} (h : ¬ lateE tk t ≠ 0) : tk ≤ t ∧ 0 ≤ t := by
  unfold lateE at h
  split at h
  · exact absurd (by decide) h
  · split at h
    · exact absurd (by decide) h
    · omega
theorem pairwise_set {l : List CR} (h : l.Pairwise fun a b => a.num < b.num) {i : Nat} (hi : i < l.length) {x : CR} (hx : x.num = l[i].num) : (l.set i x).Pairwise fun a b => a.num < b.num := by
  have h1 : (l.map CR.num).Pairwise (· < ·) := List.pairwise_map.2 h
  have e : (l.set i x).map CR.num = l.map CR.num := by
    rw [List.map_set, hx]
    have : (l.map CR.num)[i]'(by simpa using hi) = l[i].num := by simp
    rw [← this, List.set_getElem_self]
  exact List.pairwise_map.1 (by rw [e]; exact h1)
/-- which ones stand before the place of a number, and which behind it -/
theorem pos_take {cs : List CR} {n : Int} : ∀ c ∈ cs.take (pos cs n), c.num < n := fun c hc => by
  obtain ⟨i, hi, rfl⟩ := List.mem_iff_getElem.1 hc
  rw [List.length_take] at hi
  have hlt : i < pos cs n := by omega
  have := List.not_of_lt_findIdx (p := fun c : CR => !decide (c.num < n)) (xs := cs) (i := i) hlt
  simp at this
  simpa using this
theorem pos_drop {cs : List CR} {n : Int} (hu : cs.Pairwise fun a b => a.num < b.num) (hn : ¬ idx cs n < cs.length) : ∀ c ∈ cs.drop (pos cs n), n < c.num := fun c hc => by
  have hne : ∀ x ∈ cs, x.num ≠ n := by
    have : idx cs n = cs.length := by have : idx cs n ≤ cs.length := List.findIdx_le_length; omega
    unfold idx at this
    rw [List.findIdx_eq_length] at this
    intro x hx
    simpa using this x hx
  obtain ⟨i, hi, rfl⟩ := List.mem_iff_getElem.1 hc
  rw [List.length_drop] at hi
  have hp : pos cs n < cs.length := by omega
  have h0 : n ≤ cs[pos cs n].num := by
    have := List.findIdx_getElem (p := fun c : CR => !decide (c.num < n)) (xs := cs) (w := hp)
    simp at this
    exact this
  have h1 := hne cs[pos cs n] (List.getElem_mem hp)
  rw [List.getElem_drop]
  by_cases hi0 : i = 0
  · subst hi0
    have e : cs[pos cs n + 0].num = cs[pos cs n].num := rfl
    omega
  · have := List.pairwise_iff_getElem.1 hu (pos cs n) (pos cs n + i) hp (by omega) (by omega)
    omega
theorem step_ok {s : RF} (h : s.Ok) {o : ROp} (ho : o.Ok) : (s.step o).2.Ok := by
  have hn := ho.n
  have ht := ho.tick
  have hm := ho.many
  unfold RF.step
  split
  · unfold RF.inst
    split
    · exact h
    · split
      · exact h
      · split
        · exact h
        · rename_i h1 h2 h3
          have hnot : o.n ∉ s.vs := fun hc => h2 (List.contains_iff_mem.2 hc)
          refine ⟨?_, ?_, h.up, ?_, ?_, h.none, h.tick⟩
          · rw [List.nodup_append]
            exact ⟨h.nd, by simp, fun a ha b hb hab => by simp at hb; subst hb hab; exact hnot ha⟩
          · intro v hv
            simp at hv
            rcases hv with hv | rfl
            · exact h.vs v hv
            · omega
          · intro c hc
            obtain ⟨a1, a2, a3⟩ := h.cs c hc
            exact ⟨a1, by simp [a2], a3⟩
          · rcases h.use with hu | hu
            · exact .inl hu
            · exact .inr (by simp [hu])
  · split
    · unfold RF.usen
      split
      · exact h
      · rename_i h2
        have hin : o.n ∈ s.vs := by
          have : s.vs.contains o.n = true := by simpa using h2
          exact List.contains_iff_mem.1 this
        exact ⟨h.nd, h.vs, h.up, h.cs, .inr hin, fun hu => absurd (h.vs _ hin).1 (by simp only at hu; omega), h.tick⟩
    · split
      · unfold RF.rem
        split
        · exact h
        · split
          · exact h
          · split
            · exact h
            · rename_i h1 h2 h3
              refine ⟨h.nd.filter _, fun v hv => h.vs v (List.mem_filter.1 hv).1, h.up, fun c hc => ?_, ?_, h.none, h.tick⟩
              · obtain ⟨a1, a2, a3⟩ := h.cs c hc
                refine ⟨a1, List.mem_filter.2 ⟨a2, ?_⟩, a3⟩
                simp only [bne_iff_ne, ne_eq]
                intro e
                exact h3 (List.any_eq_true.2 ⟨c, hc, by simpa using e⟩)
              · rcases h.use with hu | hu
                · exact .inl hu
                · exact .inr (List.mem_filter.2 ⟨hu, by simpa using h2⟩)
      · split
        · unfold RF.opn
          split
          · exact h
          · split
            · exact h
            · split
              · exact h
              · split
                · exact h
                · split
                  · exact h
                  · rename_i h1 h2 h3 h4 h5
                    have hu : s.use ∈ s.vs := by
                      rcases h.use with hu | hu
                      · omega
                      · exact hu
                    have hp : ∀ c ∈ s.cs.take (pos s.cs o.n) ++ [(⟨o.n, s.use, 0⟩ : CR)] ++ s.cs.drop (pos s.cs o.n), c ∈ s.cs ∨ c = ⟨o.n, s.use, 0⟩ := fun c hc => by
                      simp only [List.mem_append, List.mem_singleton] at hc
                      rcases hc with (hc | hc) | hc
                      · exact .inl (List.mem_of_mem_take hc)
                      · exact .inr hc
                      · exact .inl (List.mem_of_mem_drop hc)
                    refine ⟨h.nd, h.vs, ?_, fun c hc => ?_, .inr hu, fun hz => absurd hz (by simp only; omega), ?_⟩
                    · refine List.pairwise_append.2 ⟨List.pairwise_append.2 ⟨h.up.sublist (List.take_sublist _ _), List.pairwise_singleton _ _, fun a ha b hb => ?_⟩, h.up.sublist (List.drop_sublist _ _), fun a ha b hb => ?_⟩
                      · simp at hb
                        subst hb
                        exact pos_take a ha
                      · have hb' := pos_drop h.up h3 b hb
                        simp only [List.mem_append, List.mem_singleton] at ha
                        rcases ha with ha | rfl
                        · exact Int.lt_trans (pos_take a ha) hb'
                        · exact hb'
                    · rcases hp c hc with hc | rfl
                      · exact h.cs c hc
                      · exact ⟨by simp only; omega, hu, by simp⟩
                    · simp only; omega
        · split
          · unfold RF.snd
            split
            · exact h
            · split
              · exact h
              · split
                · exact h
                · rename_i h1 c hg h2
                  obtain ⟨hi, hc⟩ := List.getElem?_eq_some_iff.1 hg
                  have hcm := h.cs c (by rw [← hc]; exact List.getElem_mem hi)
                  refine ⟨h.nd, h.vs, pairwise_set h.up hi (by rw [hc]), fun x hx => ?_, h.use, fun hz => ?_, by simp only; omega⟩
                  · rcases List.mem_or_eq_of_mem_set hx with hx | rfl
                    · exact h.cs x hx
                    · exact ⟨hcm.1, hcm.2.1, by simp only; omega⟩
                  · have := h.none hz
                    rw [this] at hi
                    simp at hi
          · unfold RF.fin
            split
            · exact h
            · split
              · exact h
              · have hsub : (s.cs.take (idx s.cs o.n) ++ s.cs.drop (idx s.cs o.n + 1)).Sublist s.cs := by
                  rw [← List.eraseIdx_eq_take_drop_succ]
                  exact List.eraseIdx_sublist _ _
                refine ⟨h.nd, h.vs, h.up.sublist hsub, fun c hc => h.cs c (hsub.mem hc), h.use, fun hz => ?_, by simp only; omega⟩
                have := h.none hz
                simp only [this, List.take_nil, List.drop_nil, List.append_nil]
end Go.Proofs.YtahmcjdddcbhnaaGreatDoor
