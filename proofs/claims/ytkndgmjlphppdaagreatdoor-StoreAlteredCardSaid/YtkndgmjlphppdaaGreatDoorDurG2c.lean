/-
  Altered, plain: what the law's loop keeps, and the Open behind the altered bit.
-/
import Derived.Test.YtkndgmjlphppdaaGreatDoorDurG2b
namespace Go.Proofs.YtkndgmjlphppdaaGreatDoor
open Go Go.RowKit Go.Imap Go.Ev

theorem wrap_hid {z : Int} (h1 : 0 ≤ z) (h2 : z ≤ 1000000000) : Hid (wrap64 z = z ∧ IntKind.i64.wrap z = z) := by
  refine Lib.hid ⟨?_, ?_⟩
  · unfold wrap64; omega
  · rw [IntKind.wrap_i64]; omega
/-- the store with the records rl, and two rows of numbers -/
structure ARow (w0 wr : World) (B db mb sb lg U : Nat) (rv : Nat → Value) (d : Dk) (vv : Value) (its : List (Value × List Ru)) (rl : List Rec) (ev hv : Value) (es hs : List Value) : Prop where
  env : Env wr B db mb rv d 65536 U
  sto : Sto wr B db d sb lg 2 vv its rl
  ends : wr.ownsRow B 3 1 ev es.length es
  heads : wr.ownsRow B 3 1 hv hs.length hs
  ap : ∀ g, ev.ownBlock = some g → hv.ownBlock ≠ some g
  only : ∀ j, j ≠ 2 → d.len j = 0
  bel : Below B w0 wr
section
variable {w0 wr w1 : World} {B db mb sb lg U : Nat} {rv : Nat → Value} {d : Dk} {vv ev hv : Value} {its : List (Value × List Ru)} {rl : List Rec} {es hs : List Value}
theorem ARow.bel' (h : ARow w0 wr B db mb sb lg U rv d vv its rl ev hv es hs) (hb : Below wr.heap.size wr w1) : ARow w0 w1 B db mb sb lg U rv d vv its rl ev hv es hs :=
  ⟨h.env.bel hb, h.sto.bel hb, owns_bel h.ends hb, owns_bel h.heads hb, h.ap, h.only, h.bel.trans (hb.mono h.env.hB)⟩
theorem ARow.after (h : ARow w0 wr B db mb sb lg U rv d vv its rl ev hv es hs) {n : Nat} {x : Rec} {vv6 : Value} {its6 : List (Value × List Ru)} {rl6 : List Rec} (h6 : After wr w1 B db mb rv d 65536 (U + 150) sb lg 2 vv (d.add 2 n x) vv6 its6 rl6) :
    ∃ rv6, ARow w0 w1 B db mb sb lg (U + 150) rv6 (d.add 2 n x) vv6 its6 rl6 ev hv es hs := by
  obtain ⟨rv6, hE⟩ := h6.env
  obtain ⟨F, hF, hT⟩ := h6.chg
  have ha := hT.apartly (ts := [3]) (by decide) (by decide) (by decide) (by decide) (by decide)
  exact ⟨rv6, hE, h6.sto, row_chg h.ends hF (ha.row h.ends (by simp)), row_chg h.heads hF (ha.row h.heads (by simp)), h.ap, fun j hj => by unfold Dk.len; rw [Dk.add_other d n x hj]; exact h.only j hj, h.bel.trans h6.bel⟩
theorem nt_int {w : World} {v : Value} {n : Nat} {xs : List Value} {b : Nat} (h : w.ownsRow b 3 1 v n xs) : NT w (fun g => v.ownBlock = some g) [3] := fun g hg => by
  rcases h.2 with ⟨e0, _⟩ | ⟨g2, cap2, cur2, e0, _, h4, _⟩
  · rw [e0] at hg; cases hg
  · rw [e0] at hg
    cases hg
    exact ⟨_, _, _, h4, by simp⟩
theorem chg_rowI {w w1 : World} {v : Value} (hg : w.grownBy w1 v.ownBlock) : Chg (fun g => v.ownBlock = some g) w w1 := ⟨hg.os, hg.tape, hg.output, hg.size, fun k hk hf => hg.block k hk fun e => hf e.symm⟩
theorem ARow.pushH (h : ARow w0 wr B db mb sb lg U rv d vv its rl ev hv es hs) {hv' x : Value} (hrow : w1.ownsRow B 3 1 hv' (hs.length + 1) (hs ++ [x])) (hg : wr.grownBy w1 hv.ownBlock) (hat : hv'.ownBlock = hv.ownBlock ∨ ∃ g, hv'.ownBlock = some g ∧ wr.heap.size ≤ g) :
    ARow w0 w1 B db mb sb lg U rv d vv its rl ev hv' es (hs ++ [x]) := by
  have hc := chg_rowI hg
  have hn := nt_int h.heads
  refine ⟨h.env.nt hc hn (by decide) (by decide), h.sto.nt hc hn (by decide), row_chg h.ends hc fun g hg1 hg2 => h.ap g hg1 hg2, by rw [List.length_append, List.length_singleton]; exact hrow, fun g hg1 hg2 => ?_, h.only, h.bel.trans (hc.to_below h.env.hB fun g _ hg' => (World.ownsRow.lt h.heads g hg').1)⟩
  rcases hat with e | ⟨g', e, hge⟩
  · exact h.ap g hg1 (e.symm.trans hg2)
  · rw [e] at hg2
    cases hg2
    have := (World.ownsRow.lt h.ends _ hg1).2
    omega
theorem ARow.pushE (h : ARow w0 wr B db mb sb lg U rv d vv its rl ev hv es hs) {ev' x : Value} (hrow : w1.ownsRow B 3 1 ev' (es.length + 1) (es ++ [x])) (hg : wr.grownBy w1 ev.ownBlock) (hat : ev'.ownBlock = ev.ownBlock ∨ ∃ g, ev'.ownBlock = some g ∧ wr.heap.size ≤ g) :
    ARow w0 w1 B db mb sb lg U rv d vv its rl ev' hv (es ++ [x]) hs := by
  have hc := chg_rowI hg
  have hn := nt_int h.ends
  refine ⟨h.env.nt hc hn (by decide) (by decide), h.sto.nt hc hn (by decide), by rw [List.length_append, List.length_singleton]; exact hrow, row_chg h.heads hc fun g hg1 hg2 => h.ap g hg2 hg1, fun g hg1 hg2 => ?_, h.only, h.bel.trans (hc.to_below h.env.hB fun g _ hg' => (World.ownsRow.lt h.ends g hg').1)⟩
  rcases hat with e | ⟨g', e, hge⟩
  · exact h.ap g (e.symm.trans hg1) hg2
  · rw [e] at hg1
    cases hg1
    have := (World.ownsRow.lt h.heads _ hg2).2
    omega
/-- a row that was made behind the world wr is none of the store's blocks -/
theorem ARow.keep (h : ARow w0 wr B db mb sb lg U rv d vv its rl ev hv es hs) {w5 w6 : World} {e : TypeId} {size n base : Nat} {u : Value} {xs : List Value} (hu : w5.ownsRow base e size u n xs) (hb : wr.heap.size ≤ base) (hc : Chg (SF db mb rv d sb lg vv) w5 w6) : w6.ownsRow base e size u n xs := by
  refine row_chg hu hc fun g hg hf => ?_
  have h1 := (World.ownsRow.lt hu g hg).1
  rcases hf with hf | rfl | rfl | hf
  · have := h.env.dk.lt_of hf
    omega
  · have := h.sto.st.log.lt
    omega
  · have := h.sto.st.st.lt
    omega
  · have := (World.ownsRow.lt h.sto.st.row g hf).2
    omega
theorem sees_int (w : World) (x : Value) : Sees (w.alloc (.cells #[x] 3)) 1 (.slice (some ⟨w.heap.size, 0, none⟩) 1 1) [x] :=
  Sees.row (base := 0) (e := 3) (n := 1) ⟨rfl, .inr ⟨_, 1, _, rfl, Nat.zero_le _, heap_alloc_new _ _, Nat.le_refl _, by unfold maxLen; omega, rfl, rfl⟩⟩
theorem infoIntA : (Tryz.prog.info? 3).map (fun i => (i.zero, i.size, i.bytes)) = some (some (.int .i64 0), 1, 8) := by kernel_rfl
theorem Dk.rot_bytes {d : Dk} {k bit : Nat} (hk : (d.fs k).isSome) : ((d.rot k bit).fi k).bytes = flipL (d.fi k).bytes bit := by
  obtain ⟨f, hf⟩ := Option.isSome_iff_exists.1 hk
  unfold Dk.rot Dk.fi
  simp only [if_pos]
  rw [hf]
  rfl
theorem Dk.rot_len (d : Dk) (k bit j : Nat) : (d.rot k bit).len j = d.len j := by
  unfold Dk.rot Dk.len Dk.fi
  simp only
  by_cases h : j = k
  · rw [if_pos h, h]
    cases d.fs k with
    | none => rfl
    | some f => exact flipL_len _ _
  · rw [if_neg h]
theorem alt_nums (l : List Int) {j : Nat} (hj : j < 6) {x F : List UInt8} (hx : (recA l j).enc = x) (hF : frame frameH j x = F) :
    wrap64 ((szA l j : Int) + (F.length : Int)) = (szA l (j + 1) : Int) ∧ wrap64 (wrap64 ((szA l j : Int) + ((encR (core j x)).length : Int)) - (((encI (j : Int)).length : Int) + ((encR x).length : Int))) = (headA l j : Int) := by
  have h1 := szA_succ l j
  have h2 := szA_le l (i := j + 1) (by omega)
  rw [hx, hF] at h1
  have hrl := (recA_ok l hj).len (by rw [recsA_len]; omega)
  rw [hx] at hrl
  have h3 : (encR (core j x)).length = (uv (core j x).length).length + (core j x).length := by unfold encR; rw [List.length_append]
  have h4 : (core j x).length = (encI (j : Int)).length + (encR x).length := by unfold core; rw [List.length_append]
  have h5 : headA l j = szA l j + (uv (core j x).length).length := by unfold headA; rw [hx]
  have h6 := core_len j x (by omega) (by omega)
  have h7 := uv_ten (n := (core j x).length) (by omega)
  have e1 : (szA l j : Int) + (F.length : Int) = ((szA l (j + 1) : Nat) : Int) := by omega
  have e2 : (szA l j : Int) + ((encR (core j x)).length : Int) = ((szA l j + (encR (core j x)).length : Nat) : Int) := by omega
  have e3 : ((szA l j + (encR (core j x)).length : Nat) : Int) - (((encI (j : Int)).length : Int) + ((encR x).length : Int)) = ((headA l j : Nat) : Int) := by omega
  have b1 : ((szA l (j + 1) : Nat) : Int) ≤ 1000000000 := by omega
  have b2 : ((szA l j + (encR (core j x)).length : Nat) : Int) ≤ 1000000000 := by omega
  have b3 : ((headA l j : Nat) : Int) ≤ 1000000000 := by omega
  rw [e1, e2, (wrap_hid (Int.natCast_nonneg _) b1).out.1, (wrap_hid (Int.natCast_nonneg _) b2).out.1, e3, (wrap_hid (Int.natCast_nonneg _) b3).out.1]
  exact ⟨rfl, rfl⟩
/-- Open, where a bit has been altered -/
theorem alt_open {l : List Int} (h : ARow w0 wr B db mb sb lg U rv d vv its (recsA l 6) ev hv es hs) {k bit : Nat} (hk : k < 6) (h1 : headA l k ≤ bit / 8) (h2 : bit / 8 < szA l (k + 1)) (hU : U ≤ 900)
    (hd1 : DkAt w1 B db mb rv (d.rot 2 bit)) (hc1 : Chg (fun g => (rv 2).ownBlock = some g) wr w1) :
    Calls Tryz.prog 7 #[.pointer (some ⟨db, 0, none⟩), .int .i64 ((2 : Nat) : Int)] w1 fun e w' => ∃ sn ln vn itn, e = .returned (.tuple #[.pointer (some ⟨sn, 0, none⟩), .int .i64 0]) ∧ (∃ rv2 d2, Env w' B db mb rv2 d2 65536 900 ∧ Sto w' B db d2 sn ln 2 vn itn (recsA l k)) ∧ Below B w0 w' := by
  have hby := h.sto.bytes
  have hsz1 : 0 < szA l 6 := by
    have h3 : szA l 6 = szA l 5 + _ := szA_succ l 5
    have h4 := frame_pos frameH 5 (recA l 5).enc
    omega
  have hlen2 : d.len 2 = szA l 6 := by unfold Dk.len szA; rw [hby]
  have hsome : (d.fs 2).isSome := by
    cases hs : (d.fs 2).isSome with
    | true => rfl
    | false => have := Dk.fs_len hs; omega
  have hb : ((d.rot 2 bit).fi 2).bytes = flipL (fileOf (recsA l 6)) bit := by rw [Dk.rot_bytes hsome, hby]
  obtain ⟨q1, q2, q3⟩ := alt_scan l hk h1 h2 _ hb
  have hl0 := h.env.lens 2
  have hus := h.env.used
  have hlr := Dk.rot_len d 2 bit 2
  have hlenb : (d.rot 2 bit).len 2 = ((d.rot 2 bit).fi 2).bytes.length := rfl
  have hob : ∀ g, (rv 2).ownBlock = some g → B ≤ g := fun g hg => by
    obtain ⟨f, hf⟩ := Option.isSome_iff_exists.1 hsome
    exact (World.ownsRow.lt (h.env.dk.row 2 f hf) g hg).1
  have hB1 : B ≤ w1.heap.size := Nat.le_trans h.env.hB hc1.size
  have hok := recsA_ok l k (by omega)
  have hu2 : (d.rot 2 bit).used = d.used := rfl
  refine (open_walk hd1 (by omega) h.env.off h.env.armed (by rw [hlr, hu2]; exact hl0) hok (by rw [hlenb]; exact q1) (by rw [hlenb]; exact q2)).mono ?_
  rintro e w' ⟨sn, ln, vn, itn, rv', rfl, hd, hs, hi, hc, _⟩
  obtain ⟨f1, f2, f3⟩ := Dk.opened_flags (d.rot 2 bit) 2 (fileOf (recsA l k)).length
  have ho := Dk.opened_used (d.rot 2 bit) 2 (fileOf (recsA l k)).length (by rw [hlenb]; exact q2)
  have hobb := Dk.opened_bytes (d.rot 2 bit) 2 (fileOf (recsA l k)).length (by rw [hlenb]; exact q2)
  rw [q3] at hobb
  rw [← hlenb] at q2
  refine ⟨sn, ln, vn, itn, rfl, ⟨rv', _, ⟨hd, Nat.le_trans hB1 hc.size, h.env.lo, f1.trans h.env.off, f2.trans h.env.armed, f3.trans h.env.room, ?_, fun j => ?_⟩, ⟨hs.base hB1, hi, hok, hobb, by omega⟩⟩, (h.bel.trans (hc1.to_below h.env.hB fun g _ hg => hob g hg)).trans (hc.to_below hB1 fun g _ hg => by rcases hg with rfl | rfl; exact h.env.lo.1; exact h.env.lo.2)⟩
  · omega
  · by_cases hj : j = 2
    · subst hj
      have : ((d.rot 2 bit).opened 2 (fileOf (recsA l k)).length).len 2 = (fileOf (recsA l k)).length := by unfold Dk.len; rw [hobb]
      omega
    · rw [Dk.opened_other _ _ hj, Dk.rot_len]
      have h5 := h.only j hj
      omega
end
end Go.Proofs.YtkndgmjlphppdaaGreatDoor
