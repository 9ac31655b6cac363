/-
  The filter, walked: Remove where the version is there and not in use, whichever connections there are and in whatever order they come.
  The filter, walked: Conns: the connections' numbers and versions, in the order of the numbers.
-/
import Derived.Test.YtahmcjdddcbhnaaGreatDoorErrG1a
import Derived.Laws.IdiomRangeMap
import Derived.Test.YtahmcjdddcbhnaaGreatDoorSortKW
namespace Go.Ev
open Go
/-- the tape stays -/
def TapeOK (P : Program) {α : Type} (s : Sem α) : Prop := ∀ w x w', s.run P w = .ok x w' → w'.tape = w.tape
section
variable {P : Program} {α β : Type}
theorem tape_pure (a : α) : TapeOK P (pure a : Sem α) := fun w x w' h => by
  rw [run_ofPure] at h; cases h; rfl
theorem tape_halt (h : Halt) : TapeOK P (Sem.halt h : Sem α) := fun w x w' hh => by cases hh
theorem tape_bind {s : Sem α} {f : α → Sem β} (h1 : TapeOK P s) (h2 : ∀ a, TapeOK P (f a)) : TapeOK P (s >>= f) := fun w x w' h => by
  rw [Sem.run_bind] at h
  cases hs : s.run P w with
  | ok a w1 =>
    rw [hs] at h
    exact (h2 a w1 x w' h).trans (h1 w a w1 hs)
  | halt e w1 => rw [hs] at h; cases h
theorem tape_getObj (r : Nat) : TapeOK P (getObj r) := fun w x w' h => by
  simp only [getObj, Sem.run] at h
  split at h <;> first | (cases h; done) | (cases h; rfl)
theorem tape_setObj (r : Nat) (o : Obj) : TapeOK P (setObj r o) := fun w x w' h => by
  simp only [setObj, Sem.run] at h
  split at h <;> first | (cases h; done) | (cases h; rfl)
theorem tape_choose (q : Question) : TapeOK P (choose q) := fun w x w' h => by
  simp only [choose, Sem.run] at h
  split at h <;> (cases h; rfl)
theorem tape_next (v : Value) (ty : TypeId) : TapeOK P (Instr.next v false ty) := by
  unfold Instr.next
  repeat' first
    | exact tape_pure _
    | exact tape_halt _
    | exact tape_getObj _
    | exact tape_setObj _ _
    | exact tape_choose _
    | (refine tape_bind ?_ fun _ => ?_)
    | split
end
end Go.Ev
namespace Go.Proofs.YtahmcjdddcbhnaaGreatDoor
open Go Go.Ev Go.RowKit Go.Imap

/-- the same but for one new block -/
theorem below_iter {w w1 : World} (h : w1.Alike w) (ht : w1.tape = w.tape) (o : Obj) : Below w.heap.size w (w1.alloc o) :=
  ⟨h.2.1, ht, h.2.2, by rw [World.size_alloc, h.1]; omega, fun k hk => by rw [heap_alloc_old w1 _ (by rw [h.1]; exact hk), h.1]⟩
section
variable {w : World} {g vm cm : Nat} {sh pe tk cu : Int} {f fc : Nat → Option Value} {ver : Nat → Int}
set_option maxHeartbeats 8000000 in
set_option maxRecDepth 1000000 in
theorem qremove_rng (h : Blk w g 80 #[.int .i64 sh, .int .i64 pe, .int .i64 tk, .int .i64 cu, .map (some vm), .map (some cm)]) (hm : IMap w vm f) (hcm : IMap w cm fc) {n b : Nat} (hn : n < 64) (hf : f n = some (.pointer (some ⟨b, 0, none⟩))) (hcu : (n : Int) ≠ cu)
    (hco : ∀ s v, fc s = some v → ∃ cb, v = .pointer (some ⟨cb, 0, none⟩) ∧ cb < w.heap.size ∧ w.cell? ⟨cb, 0, none⟩ = some (.int .i64 (ver s))) :
    Calls Tryz.prog 19 #[.pointer (some ⟨g, 0, none⟩), .int .i64 (n : Int)] w fun e w' => ((∃ s, fc s ≠ none ∧ ver s = n) ∧ e = .returned (.int .i64 15) ∧ Below w.heap.size w w') ∨
      ((∀ s, fc s ≠ none → ver s ≠ n) ∧ e = .returned (.int .i64 0) ∧ IMap w' vm (fun u => if u = n then none else f u) ∧ Chg (fun b => b = vm) w w') := by
  obtain ⟨ec, clc, hb, hst1, hst2, hnd, hk1, hk2⟩ := id hcm
  have c3 := h.at' 3
  have c4 := h.at' 4
  have c5 := h.at' 5
  simp at c3 c4 c5
  have hlk := hm.lookup2 Tryz.underlying77 Tryz.underlying3 (zeroVer w) (x := (n : Int)) (by omega)
  have hat : atI f (n : Int) = some (.pointer (some ⟨b, 0, none⟩)) := by unfold atI; rw [if_neg (by omega), Int.toNat_natCast]; exact hf
  rw [hat] at hlk
  simp only [Option.getD_some, Option.isSome_some] at hlk
  have hrg := run_range_map (P := Tryz.prog) w 78 3 108 cm ec clc (by kernel_rfl) hb
  have hval : ∀ x ∈ ec.toList, ∃ s cb, x.key = .int .i64 ((s : Nat) : Int) ∧ fc s = some x.val ∧ x.val = .pointer (some ⟨cb, 0, none⟩) ∧ cb < w.heap.size ∧ w.cell? ⟨cb, 0, none⟩ = some (.int .i64 (ver s)) := fun x hx => by
    obtain ⟨s, _, hkey, hv⟩ := hk1 x hx
    obtain ⟨cb, e1, e2, e3⟩ := hco s _ hv
    exact ⟨s, cb, hkey, hv, e1, e2, e3⟩
  have hcub : ((n : Int) == cu) = false := beq_eq_false_iff_ne.2 hcu
  have hdel : ∀ W : World, W.heap[vm]? = w.heap[vm]? → ∃ o, (Builtin.delete_ #[77, 3] 0 #[.map (some vm), .int .i64 (n : Int)]).run Tryz.prog W = .ok (.tuple #[]) (ChangeMaps.setBlock W vm o) ∧ IMap (ChangeMaps.setBlock W vm o) vm fun u => if u = n then none else f u :=
    fun W hW => (hm.same hW).delete Tryz.underlying77 Tryz.underlying3 hn 0
  have hgl := h.lt
  have hvl := hm.lt
  obtain ⟨N, hN⟩ : ∃ x, (n : Int) = x := ⟨_, rfl⟩
  have HN := Lib.hid hN
  have HK := Lib.hid hk2
  have HV := Lib.hid hval
  have HC := Lib.hid hk1
  rw [hN] at hlk hcub
  simp only [hN] at hdel ⊢
  clear hm hcm hco hcu hat hf h hval hN hk1 hk2
  go_enter Tryz.func19, Tryz.ntmps19
  go_wp2_with fail
  go_loopw [] (fun w' => ∃ (w1 : World) (seen : Array Nat), (w1.Alike w ∧ w1.tape = w.tape) ∧ w' = w1.alloc (.mapIter (some cm) clc seen clc) ∧ Hid (∀ x ∈ ec.toList, seen.contains x.born = true → ∀ s : Nat, x.key = .int .i64 (s : Int) → ver s ≠ N)) (fun w' => (leftOf ec (w'.iterSeen w.heap.size)).size)
  case atStart => exact ⟨w, #[], ⟨⟨rfl, rfl, rfl⟩, rfl⟩, rfl, Lib.hid fun x _ h => by simp at h⟩
  case round =>
    obtain ⟨w1, seen, ⟨hal, htp⟩, rfl, hno⟩ := hrel
    have hsz : w1.heap.size = w.heap.size := by rw [hal.1]
    have hb1 : w1.heap[cm]? = some (.map ec clc) := by rw [hal.1]; exact hb
    have law := run_next_map (P := Tryz.prog) w1 0 cm clc clc seen ec clc hb1 hst1 (Nat.le_refl _)
    rw [hsz] at law
    rcases law with ⟨h0, hrun⟩ | ⟨e, he, w2, hal2, hrun⟩
    · have hnx : ∀ ty, (Instr.next (.pointer (some ⟨w.heap.size, 0, none⟩)) false ty).run Tryz.prog (w1.alloc (.mapIter (some cm) clc seen clc)) = _ := fun _ => hrun
      have hBi := below_iter hal htp (.mapIter (some cm) clc seen clc)
      have hfree : Hid (∀ s, fc s ≠ none → ver s ≠ N) := Lib.hid fun s hs => by
        cases hfs : fc s with
        | none => exact absurd hfs hs
        | some v =>
          obtain ⟨x, hx, hkey⟩ := HK.out s v hfs
          exact hno.out x hx (all_seen ec seen h0 x hx) s hkey
      obtain ⟨W3, hW3⟩ : ∃ x, w1.alloc (.mapIter (some cm) clc seen clc) = x := ⟨_, rfl⟩
      rw [hW3] at hBi hnx
      have k4 := (hBi.cell (p := ⟨g, 4, none⟩) hgl).trans c4
      obtain ⟨o, hrun3, hm3⟩ := hdel W3 (hBi.block vm hvl)
      obtain ⟨W4, hW4⟩ : ∃ x, ChangeMaps.setBlock W3 vm o = x := ⟨_, rfl⟩
      rw [hW4] at hrun3 hm3
      have hC4 : Chg (fun b => b = vm) w W4 := by
        rw [← hW4]
        exact (Chg.of_below (F := fun b => b = vm) hBi).trans (chg_setBlock' _ _ _) fun _ _ e => e
      have HM := Lib.hid hm3
      rw [hW3]
      clear hno hrun hal htp hb1 hm3 hdel hW4 hW3 c3 c4 c5
      go_wp2_with fail
      go_ret
      rw [← HN.out] at hfree ⊢
      exact .inr ⟨hfree.out, rfl, HM.out, hC4⟩
    · obtain ⟨s, cb, hkey, hfs, hv, hlt, hcell⟩ := HV.out e (mem_left he).1
      have htp2 : w2.tape = w.tape := (tape_next _ _ _ _ _ hrun).trans htp
      rw [hv] at hrun
      have hnx : ∀ ty, (Instr.next (.pointer (some ⟨w.heap.size, 0, none⟩)) false ty).run Tryz.prog (w1.alloc (.mapIter (some cm) clc seen clc)) = _ := fun _ => hrun
      have hsz2 : w2.heap.size = w.heap.size := by rw [hal2.1, hal.1]
      have hb2 : w2.heap[cm]? = some (.map ec clc) := by rw [hal2.1]; exact hb1
      have hen := run_entry_map (P := Tryz.prog) w2 cm clc seen ec clc e hb2 (mem_left he).1 hst2
      rw [hsz2, hv] at hen
      have hal3 : w2.Alike w := ⟨hal2.1.trans hal.1, hal2.2.1.trans hal.2.1, hal2.2.2.trans hal.2.2⟩
      have hc2 : (w2.alloc (.mapIter (some cm) clc (seen.push e.born) clc)).cell? ⟨cb, 0, none⟩ = some (.int .i64 (ver s)) := by
        rw [← hcell]
        simp only [World.cell?]
        rw [heap_alloc_old w2 _ (by rw [hsz2]; exact hlt), hal3.1]
      have hBi := below_iter hal3 htp2 (.mapIter (some cm) clc (seen.push e.born) clc)
      obtain ⟨y, hy⟩ : ∃ y, ver s = y := ⟨_, rfl⟩
      rw [hy] at hc2 hcell
      have HY := Lib.hid hy
      have HE := Lib.hid (And.intro he (And.intro hkey hfs))
      clear hy hdel hkey hfs
      by_cases hyn : y = N
      · have hed : (y == N) = true := by simpa using hyn
        go_wp2_with fail
        go_ret
        rw [← HN.out] at hyn ⊢
        exact .inl ⟨⟨s, by rw [HE.out.2.2]; simp, HY.out.trans hyn⟩, rfl, hBi⟩
      · have hed : (y == N) = false := beq_eq_false_iff_ne.2 hyn
        go_wp2_with fail
        go_roundw
        case rel =>
          refine ⟨w2, seen.push e.born, ⟨hal3, htp2⟩, rfl, Lib.hid fun x hx hc => ?_⟩
          rw [contains_push] at hc
          rcases Bool.or_eq_true _ _ ▸ hc with h1 | h1
          · exact hno.out x hx h1
          · have : x = e := born_inj hst2 hx (mem_left he).1 (beq_iff_eq.1 h1)
            subst this
            intro s' hk'
            rw [HE.out.2.1] at hk'
            have es : s = s' := by cases hk'; rfl
            subst es
            rw [HY.out]
            exact hyn
        case measure =>
          rw [← hsz2, World.iterSeen_alloc, hsz2, ← hsz, World.iterSeen_alloc]
          exact left_shrinks ec seen e he
end
end Go.Proofs.YtahmcjdddcbhnaaGreatDoor
namespace Go.Proofs.YtahmcjdddcbhnaaGreatDoor
open Go Go.Ev Go.RowKit Go.Imap

set_option maxRecDepth 1000000 in
theorem keys_walk {w : World} {cm : Nat} : Calls Tryz.prog 42 #[.map (some cm)] w fun e w' => e = .returned (.func (.func 56) #[] #[.pointer (some ⟨w.heap.size, 0, none⟩)]) ∧ w' = w.alloc (.cells #[.map (some cm)] 78) := by
  go_enter Tryz.func42, Tryz.ntmps42
  go_wp2_with fail
  go_ret
  exact ⟨rfl, rfl⟩
theorem infoPair : (Tryz.prog.info? 65).map (fun i => (i.zero, i.size, i.bytes)) = some (some (.agg #[.int .i64 0, .int .i64 0]), 2, 16) := by kernel_rfl
def keyI (v : Value) : Int := match v with | .int _ a => a | _ => 0
/-- what Conns tells of a connection -/
def pairC (c : CR) : List Value := [.int .i64 c.num, .int .i64 c.ver]
theorem cs_sorted {cs : List CR} (h : cs.Pairwise fun a b => a.num < b.num) : (cs.map CR.num).Pairwise (· < ·) := List.Pairwise.map _ (fun _ _ h => h) h
theorem sortI_of {ks l : List Int} (hp : ∀ x, x ∈ ks ↔ x ∈ l) (hk : ks.Nodup) (hl : l.Pairwise (· < ·)) : sortI ks = l := by
  have hln : l.Nodup := hl.imp fun h => Int.ne_of_lt h
  have hperm : ks.Perm l := (List.perm_ext_iff_of_nodup hk hln).2 hp
  exact List.Perm.eq_of_pairwise (le := fun a b => a ≤ b) (fun a b _ _ h1 h2 => Int.le_antisymm h1 h2) (sortI_sorted ks) (hl.imp fun h => Int.le_of_lt h) ((sortI_perm ks).trans hperm)
section
variable {w : World} {g cm : Nat} {sh pe tk cu : Int} {m1 : Value} {fc : Nat → Option Value} {cs : List CR}
/-- the map's keys in order -/
theorem keys_of (hcm : IMap w cm fc) (hup : cs.Pairwise fun a b => a.num < b.num) (hr : ∀ c ∈ cs, 0 ≤ c.num ∧ c.num < 64) (hdom : ∀ s : Nat, fc s ≠ none ↔ ∃ c ∈ cs, c.num = s) :
    ∃ ms cl ks, w.heap[cm]? = some (.map ms cl) ∧ ms.toList.map (·.key) = ks.map (Value.int .i64) ∧ ks.Nodup ∧ (∀ c ∈ ks, IntKind.i64.min ≤ c ∧ c ≤ IntKind.i64.max) ∧ (∀ x ∈ ms.toList, x.born < cl) ∧ (ms.toList.map (·.born)).Nodup ∧ ks.length = cs.length ∧ sortI ks = cs.map CR.num := by
  obtain ⟨ms, cl, hb, h1, h2, hnd, h3, h4⟩ := hcm
  have hk : ms.toList.map (·.key) = (ms.toList.map fun x => keyI x.key).map (Value.int .i64) := by
    rw [List.map_map]
    refine List.map_congr_left fun x hx => ?_
    obtain ⟨s, _, e, _⟩ := h3 x hx
    simp [e, keyI]
  have hkn : (ms.toList.map fun x => keyI x.key).Nodup := by
    rw [hk] at hnd
    exact List.Pairwise.of_map (S := fun a b => a ≠ b) (Value.int .i64) (fun a b h e => h (by rw [e])) hnd
  have hmem : ∀ x : Int, x ∈ (ms.toList.map fun x => keyI x.key) ↔ x ∈ cs.map CR.num := fun x => by
    rw [List.mem_map, List.mem_map]
    constructor
    · rintro ⟨y, hy, rfl⟩
      obtain ⟨s, _, e, hv⟩ := h3 y hy
      obtain ⟨c, hc, e2⟩ := (hdom s).1 (by rw [hv]; simp)
      exact ⟨c, hc, by rw [e2, e]; rfl⟩
    · rintro ⟨c, hc, rfl⟩
      have hc0 := (hr c hc).1
      have : fc c.num.toNat ≠ none := (hdom _).2 ⟨c, hc, by omega⟩
      cases hv : fc c.num.toNat with
      | none => exact absurd hv this
      | some v =>
        obtain ⟨y, hy, e⟩ := h4 _ v hv
        exact ⟨y, hy, by rw [e]; show ((c.num.toNat : Nat) : Int) = _; omega⟩
  have hs := sortI_of hmem hkn (cs_sorted hup)
  refine ⟨ms, cl, _, hb, hk, hkn, fun c hc => ?_, h1, h2, ?_, hs⟩
  · obtain ⟨d, hd, rfl⟩ := List.mem_map.1 ((hmem c).1 hc)
    have := hr d hd
    show (-9223372036854775808 : Int) ≤ d.num ∧ d.num ≤ 9223372036854775807
    omega
  · have e := congrArg List.length hs
    rw [(sortI_perm _).length_eq] at e
    rw [e, List.length_map]
set_option maxHeartbeats 8000000 in
set_option maxRecDepth 1000000 in
theorem qconns_walk (h : Blk w g 80 #[.int .i64 sh, .int .i64 pe, .int .i64 tk, .int .i64 cu, m1, .map (some cm)]) (hcm : IMap w cm fc) (hup : cs.Pairwise fun a b => a.num < b.num) (hr : ∀ c ∈ cs, 0 ≤ c.num ∧ c.num < 64) (hdom : ∀ s : Nat, fc s ≠ none ↔ ∃ c ∈ cs, c.num = s)
    (hco : ∀ c ∈ cs, ∃ cb, fc c.num.toNat = some (.pointer (some ⟨cb, 0, none⟩)) ∧ cb < w.heap.size ∧ w.cell? ⟨cb, 0, none⟩ = some (.int .i64 c.ver)) (hfew : cs.length ≤ 1000) :
    Calls Tryz.prog 23 #[.pointer (some ⟨g, 0, none⟩)] w fun e w' => ∃ v, e = .returned v ∧ w'.ownsRow w.heap.size 65 2 v cs.length (cs.flatMap pairC) ∧ Below w.heap.size w w' := by
  obtain ⟨i0, hi0, hz0, hz1, hz2⟩ := info_parts' infoPair
  obtain ⟨ms, cl, ks, hb, hk, hkn, hkr, hb1, hb2, hkl, hks⟩ := keys_of hcm hup hr hdom
  have c5 := h.at' 5
  simp at c5
  have hkey := keys_walk (w := w) (cm := cm)
  obtain ⟨W0, hW0⟩ : ∃ x, w.alloc (.cells #[.map (some cm)] 78) = x := ⟨_, rfl⟩
  rw [hW0] at hkey
  have hB0 : Below w.heap.size w W0 := by rw [← hW0]; exact (Below.refl _ _).alloc (Nat.le_refl _) _
  have hz : W0.heap.size = w.heap.size + 1 := by rw [← hW0]; simp
  have hso := sorted_keys w.heap.size cm cl ms ks W0 (by rw [← hW0]; simp) (by omega) ((hB0.block cm hcm.lt).trans hb) hk hkn hkr hb1 hb2 (by omega)
  rw [hks, hkl] at hso
  have hgl := h.lt
  have hcl := hcm.lt
  have hlk := fun (W : World) (hW : Below w.heap.size w W) (c : CR) (hc : c ∈ cs) => (hcm.same (hW.block cm hcl)).lookup (P := Tryz.prog) Tryz.underlying78 Tryz.underlying3 (zeroConn W) (s := c.num.toNat) (by have := hr c hc; omega)
  have HL := Lib.hid hlk
  have HCO := Lib.hid hco
  have HR := Lib.hid hr
  have hfewI : (cs.length : Int) ≤ 1000 := by omega
  clear h hcm hup hdom hco hb hk hkn hkr hb1 hb2 hkl hks hlk hr hW0
  go_enter Tryz.func23, Tryz.ntmps23
  go_wp2_with (first
    | (go_at_call 42; refine hkey.mono ?_; clear hkey; rintro _ w1 ⟨rfl, rfl⟩)
    | (go_at_call 41; refine hso.mono ?_; clear hso; rintro _ w2 ⟨v2, rfl, hrow2, -, hBs⟩; obtain ⟨A2, k2, rfl, hk2⟩ := row_form hrow2)
    | fail)
  have hB2 : Below w.heap.size w w2 := hB0.trans (hBs.mono hB0.size)
  have hse := Sees.row hrow2
  obtain ⟨A', n', k', e1, e2, e3, e4⟩ := hse
  cases e1
  clear hBs hrow2 e2 e3
  go_loopw [3, 13] (fun ov iv wr => ∃ j : Nat, j ≤ cs.length ∧ iv = .int .i64 j ∧ Below w2.heap.size w2 wr ∧ wr.ownsRow w2.heap.size 65 2 ov j ((cs.take j).flatMap pairC)) (fun _ iv _ => cs.length - (intOf iv).toNat)
  case atStart => exact ⟨0, Nat.zero_le _, rfl, Below.refl _ _, World.ownsRow_nil _ _ _ _⟩
  case round =>
    obtain ⟨j, hj, rfl, hbel, hrow⟩ := hrel
    have hbw : Below w.heap.size w wr := hB2.trans (hbel.mono hB2.size)
    have k5 := (hbw.cell (p := ⟨g, 5, none⟩) hgl).trans c5
    obtain ⟨Ao, co, rfl, _⟩ := row_form hrow
    by_cases hjl : j < cs.length
    · obtain ⟨b, off, rfl, hbb, hcc⟩ := e4 (by omega)
      have d := (hbel.cell (p := ⟨b, off + j, none⟩) hbb).trans (hcc j (.int .i64 cs[j].num) (by rw [List.getElem?_map, List.getElem?_map, List.getElem?_eq_getElem hjl]; rfl))
      have hmem := List.getElem_mem hjl
      obtain ⟨cb, f1, f2, f3⟩ := HCO.out _ hmem
      have q3 := (hbw.cell (p := ⟨cb, 0, none⟩) f2).trans f3
      have hl := HL.out wr hbw _ hmem
      rw [f1] at hl
      have hnn := HR.out _ hmem
      rw [Int.toNat_of_nonneg hnn.1] at hl
      simp only [Option.getD_some] at hl
      have htk : (cs.take (j + 1)).flatMap pairC = (cs.take j).flatMap pairC ++ pairC cs[j] := by rw [List.take_succ_eq_append_getElem hjl, List.flatMap_append, List.flatMap_singleton]
      unfold pairC at htk
      obtain ⟨N, hN⟩ : ∃ x, cs[j].num = x := ⟨_, rfl⟩
      obtain ⟨V, hV⟩ : ∃ x, cs[j].ver = x := ⟨_, rfl⟩
      rw [hN] at d hl htk
      rw [hV] at q3 htk
      have hj1 : (j : Int) < (cs.length : Int) := by omega
      have hj0 : (0 : Int) ≤ (j : Int) := Int.natCast_nonneg _
      have n63 : j + 1 ≤ maxLen := by unfold maxLen; omega
      have nby : (j + 1) * 16 ≤ 140737488355328 := by omega
      have hso := sees_one wr 65 #[.int .i64 N, .int .i64 V] (size := 2) rfl
      obtain ⟨L, hL⟩ : ∃ x, (cs.take j).flatMap pairC = x := ⟨_, rfl⟩
      unfold pairC at hL
      rw [show ((cs.take j).flatMap fun c : CR => [Value.int .i64 c.num, Value.int .i64 c.ver]) = L from hL] at htk
      have HT := Lib.hid htk
      unfold pairC at hrow
      rw [hL] at hrow
      clear htk hN hV hcc f1 f3 hmem hnn
      go_wp2_with (first
        | (at_builtin; refine wpList_append_sees rfl _ _ 63 rfl i0 _ 16 Tryz.underlying63 hi0 hz0 hz1 hz2 rfl (by decide) (.slice Ao j co) j L rfl (hrow.alloc _) _ 1 _ rfl hso rfl (by intro u hu; simp at hu; rcases hu with rfl | rfl <;> rfl) n63 nby (by simp; exact Nat.le_succ_of_le hbel.size) ?_; intro v3 w3 hrow3 hgrow3 hown3)
        | fail)
      have hb3 : Below w2.heap.size w2 w3 := grown_bel0 (hbel.alloc hbel.size _) (hrow.alloc _) (by simp; exact Nat.le_succ_of_le hbel.size) hgrow3
      go_roundw
      case rel =>
        refine ⟨j + 1, hjl, by go_num, hb3, ?_⟩
        unfold pairC
        rw [HT.out]
        exact hrow3
      case measure => simp [intOf]; omega
    · have hje : j = cs.length := by omega
      have hj1 : ¬ (j : Int) < (cs.length : Int) := by omega
      have hR := Lib.hid hrow
      clear hrow
      go_wp2_with fail
      go_ret
      refine ⟨_, rfl, ?_, hbw⟩
      have := hR.out
      rw [hje, List.take_length] at this
      exact row_base this hB2.size
end
end Go.Proofs.YtahmcjdddcbhnaaGreatDoor
