/-
  The disk, walked: Sync, New, Arm.
  The disk, walked: Truncate.
  journal.Open, walked, where the disk is on and not armed.
  journal.Append's deferred closure, walked.
  journal.Append, walked, where the disk is on and not armed.
  disk.Rot, walked.
  journal.Append, walked on a disk that is on and may be armed: with OK, and where the power goes off.
  disk.Crash, walked where one file lies on the disk and no bit is inverted.
-/
import Derived.Test.YtkndgmjlphppdaaGreatDoorDurG0c
import Derived.Test.YtkndgmjlphppdaaGreatDoorDurG0b
import Derived.Defers
import Derived.Deep.RegionHeld3
import Derived.Lib.Hide
namespace Go.Proofs.YtkndgmjlphppdaaGreatDoor
open Go Go.RowKit Go.Imap

theorem DF.step {d : Dk} {db mb : Nat} {rv : Nat → Value} {g : Nat} (h : DF db mb rv d.step g) : DF db mb rv d g := by
  unfold DF at h ⊢
  rw [Dk.step_fs] at h
  exact h
theorem DF.harden {d : Dk} {db mb : Nat} {rv : Nat → Value} {g : Nat} (h : DF db mb rv d.harden g) : DF db mb rv d g := by
  unfold DF at h ⊢
  refine h.imp id (Or.imp id ?_)
  rintro ⟨i, hi, e⟩
  refine ⟨i, ?_, e⟩
  have : ((d.fs i).map fun f : Fi => ({ f with dur := f.bytes.length } : Fi)).isSome := hi
  simpa using this
set_option maxRecDepth 1000000 in
theorem dsync_off {w : World} {B db mb : Nat} {rv : Nat → Value} {d : Dk} (h : DkAt w B db mb rv d) (hoff : d.off = true) :
    Calls Tryz.prog 55 #[.pointer (some ⟨db, 0, none⟩)] w fun e w' => e = .returned (.int .i64 19) ∧ w' = w := by
  have c3 := h.blk.at' 3
  simp at c3
  rw [hoff] at c3
  have hlt := h.blk.lt
  go_enter Tryz.func55, Tryz.ntmps55
  go_wp2
  go_ret
  exact ⟨rfl, rfl⟩
set_option maxRecDepth 1000000 in
theorem dsync_walk {w : World} {B db mb : Nat} {rv : Nat → Value} {d : Dk} (h : DkAt w B db mb rv d) (hoff : d.off = false) :
    Calls Tryz.prog 55 #[.pointer (some ⟨db, 0, none⟩)] w fun e w' => e = .returned (.int .i64 (if d.fails then 19 else 0)) ∧ DkAt w' B db mb rv (if d.fails then d.step else d.step.harden) ∧ Chg (fun k => k = db ∨ k = mb) w w' := by
  have c3 := h.blk.at' 3
  simp at c3
  rw [hoff] at c3
  have hlt := h.blk.lt
  have hfa := fails_walk h
  cases hf : d.fails with
  | true =>
    rw [hf] at hfa
    clear hf
    go_enter Tryz.func55, Tryz.ntmps55
    go_wp2_with (first
      | (go_at_call 75; refine hfa.mono ?_; rintro _ w2 ⟨rfl, h2, hC2⟩)
      | go_in)
    go_ret
    exact ⟨rfl, h2, hC2.more fun _ _ e => .inl e⟩
  | false =>
    rw [hf] at hfa
    clear hf
    go_enter Tryz.func55, Tryz.ntmps55
    go_wp2_with (first
      | (go_at_call 75; refine hfa.mono ?_; rintro _ w2 ⟨rfl, h2, hC2⟩; have hha := harden_walk h2)
      | (go_at_call 52; refine hha.mono ?_; rintro _ w3 ⟨rfl, h3, hC3⟩)
      | go_in)
    go_ret
    exact ⟨rfl, h3, (hC2.more fun _ _ e => .inl e).trans hC3 fun _ _ e => .inr e⟩
/-- a disk of its own, empty -/
def Dk.new (room : Nat) : Dk := ⟨room, 0, fun _ => none, false, false, 0⟩
theorem Dk.WF.new {room : Nat} (h : room ≤ 16777216) : (Dk.new room).WF :=
  ⟨fun _ _ e => (by cases e), fun _ _ e => (by cases e), h, ⟨Int.le_refl _, Int.natCast_nonneg _⟩, Nat.zero_le _⟩
set_option maxRecDepth 1000000 in
theorem dnew_walk {room : Nat} (hr : room ≤ 16777216) (w : World) :
    Calls Tryz.prog 6 #[.int .i64 (room : Int)] w fun e w' => ∃ db mb, e = .returned (.tuple #[.pointer (some ⟨db, 0, none⟩), .int .i64 0]) ∧ w.heap.size ≤ db ∧ w.heap.size ≤ mb ∧ (∀ rv, DkAt w' w.heap.size db mb rv (Dk.new room)) ∧ Below w.heap.size w w' := by
  have h1 : (room : Int) ≤ 16777216 := by omega
  have h2 : ¬ (16777216 : Int) < room := by omega
  have hmk : (Instr.makeMap 60 none).run Tryz.prog w = .ok (.map (some w.heap.size)) (w.alloc (.map #[] 0)) := by kernel_rfl
  go_enter Tryz.func6, Tryz.ntmps6
  go_wp2
  go_ret2
  refine ⟨_, rfl, by omega, _, Nat.le_refl _, fun rv => ?_, ((Below.refl _ _).alloc (Nat.le_refl _) _).alloc (by simp) _⟩
  have hm := iMap_made w
  have hbk := Blk.made (w.alloc (.map #[] 0)) 62 #[.int .i64 (room : Int), .int .i64 0, .map (some w.heap.size), .bool false, .bool false, .int .i64 0]
  rw [World.size_alloc] at hbk
  refine ⟨hbk, hm.alloc _, fun k f hf => (by cases hf), fun j k hj => (by cases hj), Dk.WF.new hr⟩
/-- the power's failure is set -/
def Dk.arm (d : Dk) (n : Nat) : Dk := { d with armed := true, left := n }
theorem Dk.WF.arm {d : Dk} (h : d.WF) {n : Nat} (hn : n ≤ 1000) : (d.arm n).WF := ⟨h.key, h.dur, h.room, h.used, hn⟩
set_option maxRecDepth 1000000 in
theorem darm_walk {w : World} {B db mb : Nat} {rv : Nat → Value} {d : Dk} (h : DkAt w B db mb rv d) (hoff : d.off = false) {n : Nat} (hn : n ≤ 1000) :
    Calls Tryz.prog 25 #[.pointer (some ⟨db, 0, none⟩), .int .i64 (n : Int)] w fun e w' => e = .returned (.tuple #[]) ∧ DkAt w' B db mb rv (d.arm n) ∧ Chg (Only db) w w' := by
  have hb := h.blk
  have c3 := hb.at' 3
  have c4 := hb.at' 4
  have c5 := hb.at' 5
  have f4 := hb.thaw 4
  have f5 := hb.thaw 5
  simp at c3 c4 c5
  rw [hoff] at c3
  have hlt := hb.lt
  have h0 : 0 ≤ (n : Int) := by omega
  have hcc : Chg (Only db) w ((w.setCell ⟨db, 4, none⟩ (.bool true)).setCell ⟨db, 5, none⟩ (.int .i64 (n : Int))) := ((Chg.refl (Only db) _).setCell (p := ⟨db, 4, none⟩) (.inr rfl) _).setCell (p := ⟨db, 5, none⟩) (.inr rfl) _
  have hfin := h.rehead (d' := d.arm n) hcc (by have := (hb.put 4 (.bool true)).put 5 (.int .i64 (n : Int)); simpa [Dk.arm] using this) rfl (h.wf.arm hn)
  clear hb
  go_enter Tryz.func25, Tryz.ntmps25
  go_wp2
  go_end0
  exact ⟨rfl, hfin, hcc⟩
end Go.Proofs.YtkndgmjlphppdaaGreatDoor
namespace Go.Proofs.YtkndgmjlphppdaaGreatDoor
open Go Go.RowKit Go.Imap

theorem row_take {w : World} {B : Nat} {e : TypeId} {A : Option Addr} {n c : Nat} {xs : List Value} (h : w.ownsRow B e 1 (.slice A n c) n xs) {m : Nat} (hm : m ≤ n) : w.ownsRow B e 1 (.slice A m c) m (xs.take m) := by
  have hl := h.1
  refine ⟨by rw [List.length_take]; omega, ?_⟩
  rcases h.2 with ⟨h1, h0⟩ | ⟨g, cap, cur, h1, h2, h3, h4, h5, h6, h7⟩
  · have e1 := (Value.slice.inj h1)
    obtain ⟨rfl, _, rfl⟩ := e1
    have : m = 0 := by omega
    subst this
    exact .inl ⟨rfl, rfl⟩
  · obtain ⟨rfl, _, rfl⟩ := Value.slice.inj h1
    refine .inr ⟨g, c, cur, rfl, h2, h3, by omega, h5, h6, ?_⟩
    rw [← h7, List.take_take]
    congr 1
    omega
set_option maxRecDepth 1000000 in
set_option maxHeartbeats 2000000 in
theorem dtrunc_walk {w : World} {B db mb : Nat} {rv : Nat → Value} {d : Dk} (h : DkAt w B db mb rv d) {k n : Nat} (hk : k < 64) (hn : n ≤ d.len k) (hoff : d.off = false) (hused : 0 ≤ d.used + ((n : Int) - d.len k)) :
    Calls Tryz.prog 54 #[.pointer (some ⟨db, 0, none⟩), .int .i64 (k : Int), .int .i64 (n : Int)] w fun e w' => ∃ rv', e = .returned (.int .i64 (if d.fails then 19 else 0)) ∧
      DkAt w' B db mb rv' (if d.fails then d.step else d.step.put k ⟨(d.fi k).bytes.take n, min (d.fi k).dur n⟩) ∧ Chg (fun k => k = db ∨ k = mb) w w' ∧ ∀ i, rv' i = rv i ∨ (rv' i).ownBlock = (rv i).ownBlock ∨ (rv' i).ownBlock = none := by
  obtain ⟨A, c, ho, hrow, hrv, hnone⟩ := h.old' k
  have hb := h.blk
  have c2 := hb.at' 2
  have c3 := hb.at' 3
  have hlt := hb.lt
  simp at c2 c3
  rw [hoff] at c3
  have hex := exists_walk hk
  have hfa := fails_walk h
  have hlk := look_file h.map hk ho w rfl
  have hfld := fieldFile A (d.len k) c ((d.fi k).dur : Int)
  have hll := Dk.len_le h.wf k
  have hcn : (n : Int) ≤ (c : Int) := by
    obtain ⟨A', c', e, hc⟩ := row_form hrow
    have := (Value.slice.inj e).2.2
    omega
  have hsl : (if (c : Int) = 0 then A else A.map fun x => x.add 0) = A := by
    rcases hrow.2 with ⟨h1, _⟩ | ⟨g, cap, cur, h1, _⟩
    · have := (Value.slice.inj h1).1
      subst this
      simp
    · have := (Value.slice.inj h1).1
      subst this
      simp [Addr.add]
  have hn1 : (n : Int) ≤ (d.len k : Int) := by omega
  have s1 := Dk.step_len d k
  have s3 := Dk.step_fs d
  have s2 := Dk.step_room d
  have htl : ((d.fi k).bytes.take n).length = n := by
    have : d.len k = (d.fi k).bytes.length := rfl
    rw [List.length_take]
    omega
  have hwfp : (d.step.put k ⟨(d.fi k).bytes.take n, min (d.fi k).dur n⟩).WF := by
    refine h.wf.step.put hk ?_ ?_ ?_
    · show min (d.fi k).dur n ≤ ((d.fi k).bytes.take n).length
      omega
    · show ((d.fi k).bytes.take n).length ≤ 16777216
      omega
    · show 0 ≤ d.step.used + ((((d.fi k).bytes.take n).length : Int) - d.step.len k) ∧ d.step.used + ((((d.fi k).bytes.take n).length : Int) - d.step.len k) ≤ d.step.room
      have := h.wf.used
      rw [s1.1, s2.1, s2.2, htl]
      omega
  have hown : ∀ i, i ≠ k → (d.step.fs i).isSome → ∀ g, (Value.slice A n c).ownBlock = some g → (rv i).ownBlock ≠ some g := fun i hik hi g hg => by
    rw [s3] at hi
    cases hk' : d.fs k with
    | none => rw [hnone hk'] at hg; cases hg
    | some f =>
      have hks : (d.fs k).isSome := by rw [hk']; rfl
      refine h.apart k i hks hi (fun e => hik e.symm) g ?_
      rw [hrv hks]
      cases A with
      | none => cases hg
      | some a => exact hg
  have hput : ∀ W, DkBut W B db mb rv d.step k → W.ownsRow B 5 1 (.slice A n c) n (bv ((d.fi k).bytes.take n)) → Calls Tryz.prog 50 #[.pointer (some ⟨db, 0, none⟩), .int .i64 (k : Int), .agg #[.slice A n c, .int .i64 (min ((d.fi k).dur : Int) (n : Int))]] W fun e w' => e = .returned (.tuple #[]) ∧ DkAt w' B db mb (fun i => if i = k then .slice A n c else rv i) (d.step.put k ⟨(d.fi k).bytes.take n, min (d.fi k).dur n⟩) ∧ Chg (fun x => x = db ∨ x = mb) W w' := fun W hbut hrow => by
    have hp := put_walk hbut hk (f := ⟨(d.fi k).bytes.take n, min (d.fi k).dur n⟩) (v := .slice A n c) (by show World.ownsRow _ _ _ _ _ ((d.fi k).bytes.take n).length _; rw [htl]; exact hrow) hown hwfp
    have hmin : (((min (d.fi k).dur n : Nat)) : Int) = min ((d.fi k).dur : Int) (n : Int) := by omega
    rw [← hmin]
    exact hp
  have hrv2 : ∀ i, (if i = k then Value.slice A n c else rv i) = rv i ∨ (if i = k then Value.slice A n c else rv i).ownBlock = (rv i).ownBlock ∨ (if i = k then Value.slice A n c else rv i).ownBlock = none := fun i => by
    by_cases hik : i = k
    · rw [if_pos hik]
      subst hik
      cases hk' : d.fs i with
      | none => rw [hnone hk']; exact .inr (.inr rfl)
      | some f =>
        refine .inr (.inl ?_)
        rw [hrv (by rw [hk']; rfl)]
        cases A <;> rfl
    · rw [if_neg hik]; exact .inl rfl
  have hbt : bv ((d.fi k).bytes.take n) = (bv (d.fi k).bytes).take n := by simp [bv]
  cases hf : d.fails with
  | true =>
    rw [hf] at hfa
    clear hf hput
    go_enter Tryz.func54, Tryz.ntmps54
    go_wp2_with (first
      | (go_at_call 46; refine (hex _).mono ?_; rintro _ w1 ⟨rfl, rfl⟩)
      | (go_at_call 75; refine hfa.mono ?_; rintro _ w2 ⟨rfl, h2, hC2⟩)
      | go_in)
    go_ret
    exact ⟨rfl, rv, h2, hC2.more fun _ _ e => .inl e, fun _ => .inl rfl⟩
  | false =>
    rw [hf] at hfa
    clear hf s2 hwfp hown htl
    have HR := Lib.hid hrv2
    have HT := Lib.hid hbt
    clear hrv2 hbt
    go_enter Tryz.func54, Tryz.ntmps54
    go_wp2_with (first
      | (go_at_call 46; refine (hex _).mono ?_; rintro _ w1 ⟨rfl, rfl⟩)
      | (go_at_call 75; refine hfa.mono ?_; rintro _ w2 ⟨rfl, h2, hC2⟩; have hblk2 := h2.blk; have c22 := hblk2.at' 2; simp at c22; have hlt2 := hblk2.lt; have hlk2 := look_file (A := A) (c := c) h2.map hk (by { rw [s1.1, s1.2, s3]; exact ho }) w2 rfl; rw [s1.1, s1.2] at hlk2)
      | (go_at_call 50; refine (hput _ (((h2.but k).chg (F := fun _ => False) ((Chg.refl _ w2).alloc _) (fun e => e) (fun e => e) fun _ _ _ _ _ e => e)) (by { rw [HT.out]; exact row_take (row_chg hrow ((hC2.more (G := Only db) fun _ _ e => e).alloc _) fun g hg e => row_blk hrow hb (by decide) (by rw [hg, show g = db from e])) hn })).mono ?_; rintro _ w7 ⟨rfl, h7, hC7⟩)
      | go_in)
    go_ret
    refine ⟨rfl, _, h7, ?_, HR.out⟩
    have k1 : Chg (fun k => k = db ∨ k = mb) w1 (w2.alloc (.cells #[.slice A n c, .int .i64 (min ((d.fi k).dur : Int) (n : Int))] 96)) := (hC2.more fun _ _ e => .inl e).alloc _
    exact k1.trans hC7 fun _ _ e => e
end Go.Proofs.YtkndgmjlphppdaaGreatDoor
namespace Go.Proofs.YtkndgmjlphppdaaGreatDoor
open Go Go.RowKit Go.Imap

theorem Dk.calm {d : Dk} (h : d.armed = false) : d.step = d ∧ d.fails = false := by
  unfold Dk.step Dk.fails
  rw [h]
  exact ⟨rfl, rfl⟩
theorem Told.keep {xs : List RecV} {rs : List (List UInt8)} {w w' : World} (h : Told xs rs w) (hk : ∀ (g : Nat) (cs : Array Value) (fr : Nat × Nat), w.heap[g]? = some (.cells cs 5 fr) → w'.heap[g]? = w.heap[g]?) : Told xs rs w' := by
  refine ⟨h.1, fun i hi => ?_⟩
  obtain ⟨x, h1, h2, h3⟩ := h.2 i hi
  refine ⟨x, h1, ?_, h3⟩
  obtain ⟨A, n, c, e, k1, k2, k3⟩ := h2
  refine ⟨A, n, c, e, k1, k2, k3.imp id ?_⟩
  rintro ⟨b, s, cs, fr, rfl, hb, hc⟩
  have hk2 := hk b cs fr hb
  exact ⟨b, s, cs, fr, rfl, hk2.trans hb, fun i u hi => (World.cell?_of_block (w := w) hk2).trans (hc i u hi)⟩
/-- what Open leaves of the disk -/
def Dk.opened (d : Dk) (k e : Nat) : Dk := if e < d.len k then (d.put k ⟨(d.fi k).bytes.take e, min (d.fi k).dur e⟩).harden else d.harden
theorem keep_u8 {w w' : World} {B db mb : Nat} {rv : Nat → Value} {d : Dk} (h : DkAt w B db mb rv d) (hc : Chg (fun k => k = db ∨ k = mb) w w') (g : Nat) (cs : Array Value) (fr : Nat × Nat) (hg : w.heap[g]? = some (.cells cs 5 fr)) : w'.heap[g]? = w.heap[g]? := by
  refine hc.block g (Array.getElem?_eq_some_iff.1 hg).1 ?_
  rintro (rfl | rfl)
  · have := (show w.heap[g]? = _ from h.blk).symm.trans hg
    cases this
  · obtain ⟨ms, cl, h0, _⟩ := h.map
    have := h0.symm.trans hg
    cases this
theorem dsync_calm {w : World} {B db mb : Nat} {rv : Nat → Value} {d : Dk} (h : DkAt w B db mb rv d) (hoff : d.off = false) (harm : d.armed = false) :
    Calls Tryz.prog 55 #[.pointer (some ⟨db, 0, none⟩)] w fun e w' => e = .returned (.int .i64 0) ∧ DkAt w' B db mb rv d.harden ∧ Chg (fun k => k = db ∨ k = mb) w w' := by
  have := dsync_walk h hoff
  rw [(Dk.calm harm).1, (Dk.calm harm).2] at this
  exact this
theorem dtrunc_calm {w : World} {B db mb : Nat} {rv : Nat → Value} {d : Dk} (h : DkAt w B db mb rv d) {k n : Nat} (hk : k < 64) (hn : n ≤ d.len k) (hoff : d.off = false) (harm : d.armed = false) (hused : 0 ≤ d.used + ((n : Int) - d.len k)) :
    Calls Tryz.prog 54 #[.pointer (some ⟨db, 0, none⟩), .int .i64 (k : Int), .int .i64 (n : Int)] w fun e w' => ∃ rv', e = .returned (.int .i64 0) ∧
      DkAt w' B db mb rv' (d.put k ⟨(d.fi k).bytes.take n, min (d.fi k).dur n⟩) ∧ Chg (fun k => k = db ∨ k = mb) w w' ∧ ∀ i, rv' i = rv i ∨ (rv' i).ownBlock = (rv i).ownBlock ∨ (rv' i).ownBlock = none := by
  have := dtrunc_walk h hk hn hoff hused
  rw [(Dk.calm harm).1, (Dk.calm harm).2] at this
  exact this
set_option maxRecDepth 1000000 in
set_option maxHeartbeats 2000000 in
theorem jopen_walk {w : World} {B db mb : Nat} {rv : Nat → Value} {d : Dk} (h : DkAt w B db mb rv d) {k : Nat} (hk : k < 64) (hoff : d.off = false) (harm : d.armed = false) (hused : (d.len k : Int) ≤ d.used)
    {rs : List (List UInt8)} (hrs : scan frameH (d.len k + 1) (d.fi k).bytes 0 = rs) (hle : (framesFrom frameH 0 rs).length ≤ d.len k) :
    Calls Tryz.prog 28 #[.pointer (some ⟨db, 0, none⟩), .int .i64 (k : Int)] w fun e w' => ∃ (lg : Nat) (u : Value) (xs : List RecV) (rv' : Nat → Value), e = .returned (.tuple #[.pointer (some ⟨lg, 0, none⟩), u, .int .i64 0]) ∧
      w.heap.size ≤ lg ∧ Blk w' lg 103 #[.pointer (some ⟨db, 0, none⟩), .int .i64 (k : Int), .int .i64 (rs.length : Int), .bool false] ∧
      w'.ownsRow w.heap.size 47 1 u xs.length (xs.map RecV.val) ∧ Told xs rs w' ∧ DkAt w' B db mb rv' (d.opened k (framesFrom frameH 0 rs).length) ∧ (∀ i, rv' i = rv i ∨ (rv' i).ownBlock = (rv i).ownBlock ∨ (rv' i).ownBlock = none) ∧
      Chg (fun k => k = db ∨ k = mb) w w' := by
  have hrd := dread_walk h hk hoff
  have hll := Dk.len_le h.wf k
  have hlt := h.blk.lt
  have hlen : d.len k = (d.fi k).bytes.length := rfl
  obtain ⟨E, hE⟩ : ∃ E, (framesFrom frameH 0 rs).length = E := ⟨_, rfl⟩
  have hscan := fun (v : Value) (w1 : World) (hv : SeesB w1 v (d.fi k).bytes) => by
    have := scan_walk (w := w1) (v := v) (x := (d.fi k).bytes) (by omega) hv
    rw [← hlen, hrs, hE] at this
    exact this
  rw [hE] at hle ⊢
  have HE := Lib.hid (And.intro hrs hE)
  clear hrs hE
  have fin : ∀ (w1 w2 w3 : World) (u : Value) (xs : List RecV) (rv' : Nat → Value) (d' : Dk), Below w.heap.size w w1 → Below w1.heap.size w1 w2 → w2.ownsRow w1.heap.size 47 1 u xs.length (xs.map RecV.val) → Told xs rs w2 → DkAt w2 B db mb rv d → Chg (fun k => k = db ∨ k = mb) w2 w3 → DkAt w3 B db mb rv' d' → 
      Blk (w3.alloc (.cells #[.pointer (some ⟨db, 0, none⟩), .int .i64 (k : Int), .int .i64 (xs.length : Int), .bool false] 103)) w3.heap.size 103 #[.pointer (some ⟨db, 0, none⟩), .int .i64 (k : Int), .int .i64 (rs.length : Int), .bool false] ∧ w.heap.size ≤ w3.heap.size ∧
      (w3.alloc (.cells #[.pointer (some ⟨db, 0, none⟩), .int .i64 (k : Int), .int .i64 (xs.length : Int), .bool false] 103)).ownsRow w.heap.size 47 1 u xs.length (xs.map RecV.val) ∧ Told xs rs (w3.alloc (.cells #[.pointer (some ⟨db, 0, none⟩), .int .i64 (k : Int), .int .i64 (xs.length : Int), .bool false] 103)) ∧
      DkAt (w3.alloc (.cells #[.pointer (some ⟨db, 0, none⟩), .int .i64 (k : Int), .int .i64 (xs.length : Int), .bool false] 103)) B db mb rv' d' ∧ Chg (fun k => k = db ∨ k = mb) w (w3.alloc (.cells #[.pointer (some ⟨db, 0, none⟩), .int .i64 (k : Int), .int .i64 (xs.length : Int), .bool false] 103)) := by
    intro w1 w2 w3 u xs rv' d' hB1 hB2 hrow htold hd2 hC3 hd3
    have s1 := hB1.size
    have s2 := hB2.size
    have s3 := hC3.size
    have hl : xs.length = rs.length := htold.1
    refine ⟨by rw [← hl]; exact Blk.made _ _ _, by omega, ?_, ?_, hd3.alloc _, ?_⟩
    · refine (row_base (row_chg hrow hC3 fun g hg e => ?_) s1).alloc _
      rcases e with rfl | rfl
      · exact row_blk hrow hd2.blk (by decide) hg
      · exact row_map hrow hd2.map hg
    · exact (htold.keep (keep_u8 hd2 hC3)).keep fun g cs fr hg => Below.heap_alloc _ _ _ (Array.getElem?_eq_some_iff.1 hg).1
    · refine (Chg.trans (F := fun k => k = db ∨ k = mb) (Chg.of_below (hB1.trans (hB2.mono s1))) hC3 fun _ _ e => e).alloc _
  by_cases hlt' : E < d.len k
  · have ho : d.opened k E = (d.put k ⟨(d.fi k).bytes.take E, min (d.fi k).dur E⟩).harden := by unfold Dk.opened; rw [if_pos hlt']
    rw [ho]
    have hgt : (E : Int) < ((d.fi k).bytes.length : Int) := by omega
    have hu : 0 ≤ d.used + ((E : Int) - d.len k) := by omega
    clear ho hlt' hused
    go_enter Tryz.func28, Tryz.ntmps28
    go_wp2_with (first
      | (go_at_call 22; refine hrd.mono ?_; rintro _ w1 ⟨v1, rfl, hrow1, hB1⟩; have hd1 := h.bel hB1; have hsc := hscan v1 w1 (SeesB.row hrow1); obtain ⟨A1, c1, rfl, hc1⟩ := row_form hrow1)
      | (go_at_call 53; refine hsc.mono ?_; rintro _ w2 ⟨u2, xs, rfl, hrow2, htold2, hB2⟩; have hd2 := hd1.bel hB2; have htr := dtrunc_calm hd2 hk hle hoff harm hu; obtain ⟨A2, c2, rfl, hc2⟩ := row_form hrow2)
      | (go_at_call 54; refine htr.mono ?_; rintro _ w3 ⟨rv3, rfl, hd3, hC3, hrv3⟩; have hsy := dsync_calm hd3 hoff harm)
      | (go_at_call 55; refine hsy.mono ?_; rintro _ w4 ⟨rfl, hd4, hC4⟩)
      | go_in)
    go_ret3
    obtain ⟨f1, f2, f3, f4, f5, f6⟩ := fin w1 w2 w4 _ xs rv3 _ hB1 hB2 hrow2 htold2 hd2 (hC3.trans hC4 fun _ _ e => e) hd4
    exact ⟨_, _, xs, rv3, rfl, f2, f1, f3, f4, f5, hrv3, f6⟩
  · have hEl : E = d.len k := by omega
    have ho : d.opened k E = d.harden := by unfold Dk.opened; rw [if_neg hlt']
    rw [ho]
    have hng : ¬ (E : Int) < ((d.fi k).bytes.length : Int) := by omega
    clear ho hEl hlt' hle hused
    go_enter Tryz.func28, Tryz.ntmps28
    go_wp2_with (first
      | (go_at_call 22; refine hrd.mono ?_; rintro _ w1 ⟨v1, rfl, hrow1, hB1⟩; have hd1 := h.bel hB1; have hsc := hscan v1 w1 (SeesB.row hrow1); obtain ⟨A1, c1, rfl, hc1⟩ := row_form hrow1)
      | (go_at_call 53; refine hsc.mono ?_; rintro _ w2 ⟨u2, xs, rfl, hrow2, htold2, hB2⟩; have hd2 := hd1.bel hB2; have hsy := dsync_calm hd2 hoff harm; obtain ⟨A2, c2, rfl, hc2⟩ := row_form hrow2)
      | (go_at_call 55; refine hsy.mono ?_; rintro _ w3 ⟨rfl, hd3, hC3⟩)
      | go_in)
    go_ret3
    obtain ⟨f1, f2, f3, f4, f5, f6⟩ := fin w1 w2 w3 _ xs rv _ hB1 hB2 hrow2 htold2 hd2 hC3 hd3
    exact ⟨_, _, xs, rv, rfl, f2, f1, f3, f4, f5, fun _ => .inl rfl, f6⟩
end Go.Proofs.YtkndgmjlphppdaaGreatDoor
namespace Go.Proofs.YtkndgmjlphppdaaGreatDoor
open Go Go.RowKit Go.Imap

set_option maxRecDepth 1000000 in
theorem jdefer_calm {w : World} {eb tb : Nat} {z : Int} (hz : (z == 19) = false) (hc : w.cell? ⟨eb, 0, none⟩ = some (.int .i64 z)) (u : FrameMode) :
    CallsD Tryz.prog 66 #[.pointer (some ⟨eb, 0, none⟩), .pointer (some ⟨tb, 0, none⟩)] u w fun e u' w' => u' = u ∧ (e = .returned (.tuple #[]) ∧ w' = w) := by
  refine callsD_of_wp (R := fun e w' => e = .returned (.tuple #[]) ∧ w' = w) Tryz.func66 rfl ?_
  simp only [Tryz.ntmps66, List.size_toArray, List.length_cons, List.length_nil, Nat.reduceAdd, Nat.reduceSub, Array.replicate_succ, Array.replicate_zero, List.push_toArray, List.append_toArray, List.nil_append, List.cons_append]
  go_wp2
  go_end0
  exact ⟨rfl, rfl⟩
set_option maxRecDepth 1000000 in
theorem jdefer_down {w : World} {eb tb lg : Nat} {cs : Array Value} (hl : Blk w lg 103 cs) (h3 : 3 < cs.size) (hc : w.cell? ⟨eb, 0, none⟩ = some (.int .i64 19)) (ht : w.cell? ⟨tb, 0, none⟩ = some (.pointer (some ⟨lg, 0, none⟩))) (u : FrameMode) :
    CallsD Tryz.prog 66 #[.pointer (some ⟨eb, 0, none⟩), .pointer (some ⟨tb, 0, none⟩)] u w fun e u' w' => u' = u ∧ (e = .returned (.tuple #[]) ∧ w' = w.setCell ⟨lg, 3, none⟩ (.bool true)) := by
  have c3 := hl.at' 3
  rw [Array.getElem?_eq_getElem h3] at c3
  have f3 := hl.thaw 3
  have hlt := hl.lt
  refine callsD_of_wp (R := fun e w' => e = .returned (.tuple #[]) ∧ w' = w.setCell ⟨lg, 3, none⟩ (.bool true)) Tryz.func66 rfl ?_
  simp only [Tryz.ntmps66, List.size_toArray, List.length_cons, List.length_nil, Nat.reduceAdd, Nat.reduceSub, Array.replicate_succ, Array.replicate_zero, List.push_toArray, List.append_toArray, List.nil_append, List.cons_append]
  go_wp2
  go_end0
  exact ⟨rfl, rfl⟩
end Go.Proofs.YtkndgmjlphppdaaGreatDoor
namespace Go.Proofs.YtkndgmjlphppdaaGreatDoor
open Go Go.RowKit Go.Imap

theorem DkAt.lt_of {w : World} {B db mb : Nat} {rv : Nat → Value} {d : Dk} (h : DkAt w B db mb rv d) {g : Nat} (hg : DF db mb rv d g) : g < w.heap.size := by
  rcases hg with rfl | rfl | ⟨i, hi, e⟩
  · exact h.blk.lt
  · exact h.map.lt
  · obtain ⟨f, hf⟩ := Option.isSome_iff_exists.1 hi
    exact (World.ownsRow.lt (h.row i f hf) g e).2
theorem DkAt.not {w : World} {B db mb : Nat} {rv : Nat → Value} {d : Dk} (h : DkAt w B db mb rv d) {g : Nat} {t : TypeId} {cs : Array Value} (hb : Blk w g t cs) (h1 : 62 ≠ t) (h2 : 5 ≠ t) : ¬ DF db mb rv d g := by
  rintro (rfl | rfl | ⟨i, hi, e⟩)
  · exact Blk.two h.blk hb h1 rfl
  · exact IMap.not_blk h.map hb rfl
  · obtain ⟨f, hf⟩ := Option.isSome_iff_exists.1 hi
    exact row_blk (h.row i f hf) hb h2 e
theorem results_cell1 {P : Program} {fn : Func} {p : Tmp} {ty : TypeId} (h : fn.results = #[.cell p ty]) (tmps : Array Value) (w : World) (a : Addr) (v : Value) (hp : tmps.getD p undef = .pointer (some a))
    (hu : (isAgg ty).run P w = .ok false w) (hc : w.cell? a = some v) : (results fn tmps).run P w = .ok v w := by
  have hp' : tmps[p]?.getD undef = .pointer (some a) := by simpa using hp
  simp [results, h, hp', asAddr, loadVar, hu, hc]
set_option maxRecDepth 1000000 in
set_option maxHeartbeats 2000000 in
theorem jappend_calm {w : World} {B db mb lg k n : Nat} {rv : Nat → Value} {d : Dk} (h : DkAt w B db mb rv d) (hB : B ≤ w.heap.size) (hk : k < 64) (hoff : d.off = false) (harm : d.armed = false)
    (hl : Blk w lg 103 #[.pointer (some ⟨db, 0, none⟩), .int .i64 (k : Int), .int .i64 (n : Int), .bool false]) (hn : n < 1000000) {b : Value} {x : List UInt8} (hb : Sees w 1 b (bv x)) (hx : x.length ≤ 65536)
    (hroom : ((frame frameH n x).length : Int) ≤ d.room - d.used) (hlen : d.len k + (frame frameH n x).length ≤ 16777216) (hfr : (frame frameH n x).length ≤ 1000000) :
    Calls Tryz.prog 36 #[.pointer (some ⟨lg, 0, none⟩), b] w fun e w' => ∃ rv', e = .returned (.int .i64 0) ∧ DkAt w' B db mb rv' (d.put k ⟨(d.fi k).bytes ++ frame frameH n x, (d.fi k).dur⟩).harden ∧
      Blk w' lg 103 #[.pointer (some ⟨db, 0, none⟩), .int .i64 (k : Int), .int .i64 ((n + 1 : Nat) : Int), .bool false] ∧ Chg (fun g => DF db mb rv d g ∨ g = lg) w w' ∧ (∀ g, DF db mb rv' (d.put k ⟨(d.fi k).bytes ++ frame frameH n x, (d.fi k).dur⟩) g → DF db mb rv d g ∨ w.heap.size ≤ g) := by
  obtain ⟨A, m, c, rfl, hxm, hmc, hA⟩ := id hb
  have hxn : x.length = m := by rw [bv_len] at hxm; omega
  subst hxn
  have hx' : ¬ (65536 : Int) < (x.length : Int) := by omega
  have l0 := hl.at' 0
  have l1 := hl.at' 1
  have l2 := hl.at' 2
  have l3 := hl.at' 3
  have g2 := hl.thaw 2
  have hlt := hl.lt
  have hdlt := h.blk.lt
  simp at l0 l1 l2 l3
  go_enter_defers Tryz.func36, Tryz.ntmps36
  go_wp2
  have hsz : ((w.alloc (.cells #[.pointer (some ⟨lg, 0, none⟩)] 63)).alloc (.cells #[.int .i64 0] 25)).heap.size = w.heap.size + 2 := by simp
  have hbl0 : Below w.heap.size w ((w.alloc (.cells #[.pointer (some ⟨lg, 0, none⟩)] 63)).alloc (.cells #[.int .i64 0] 25)) := ((Below.refl _ w).alloc (Nat.le_refl _) _).alloc (by simp) _
  have hbx := (Blk.made w 63 #[.pointer (some ⟨lg, 0, none⟩)]).alloc (.cells #[.int .i64 0] 25)
  have hbe := Blk.made (w.alloc (.cells #[.pointer (some ⟨lg, 0, none⟩)] 63)) 25 #[.int .i64 0]
  rw [World.size_alloc] at hbe
  obtain ⟨W, hW⟩ : ∃ W, ((w.alloc (.cells #[.pointer (some ⟨lg, 0, none⟩)] 63)).alloc (.cells #[.int .i64 0] 25)) = W := ⟨_, rfl⟩
  rw [hW] at hsz hbl0 hbx hbe ⊢
  clear hW
  obtain ⟨tb, htb⟩ : ∃ tb, w.heap.size = tb := ⟨_, rfl⟩
  have hlW := hl.bel hbl0 hlt
  have hdW := h.bel hbl0
  have hbW := hb.bel hbl0
  rw [htb] at hbx hbe hsz ⊢
  have b0 := hbx.at' 0
  have l0W := hlW.at' 0
  have l1W := hlW.at' 1
  have l2W := hlW.at' 2
  simp at b0 l0W l1W l2W
  have hfw := frame_walk (w := W.drew) (k := n) (hbW.bel (Below.refl _ _).drew) (by omega) (by omega)
  have hap := fun (w1 : World) (u : Value) (h1 : DkAt w1 B db mb rv d) (hB1 : B ≤ w1.heap.size) (hu : Sees w1 1 u (bv (frame frameH n x))) (hF : ∀ g, Value.leads u = some g → ¬ DF db mb rv d g) => dappend_walk h1 hB1 hk hoff hu hfr hroom hlen hF
  have hcalm := Dk.calm harm
  rw [hcalm.1, hcalm.2] at hap
  simp only [Bool.false_eq_true, if_false] at hap
  obtain ⟨F, hF⟩ : ∃ F, frame frameH n x = F := ⟨_, rfl⟩
  rw [hF] at hap hfw
  clear hcalm l0 l1 l2 l3
  have hltF : ∀ g, DF db mb rv d g → g < tb := fun g hg => by rw [← htb]; exact h.lt_of hg
  have hlgF : ¬ DF db mb rv d lg := h.not hl (by decide) (by decide)
  go_region_held3 (fun w' => w'.cell? ⟨tb, 0, none⟩ = some (.pointer (some ⟨lg, 0, none⟩)) ∧ w'.cell? ⟨lg, 0, none⟩ = some (.pointer (some ⟨db, 0, none⟩)) ∧ w'.cell? ⟨lg, 1, none⟩ = some (.int .i64 (k : Int)) ∧ w'.cell? ⟨lg, 2, none⟩ = some (.int .i64 (n : Int)))
    (first
      | go_keep)
    (first
      | (go_at_call 19; refine hfw.mono ?_; rintro _ w5 ⟨u5, rfl, hrow5, hB5⟩; have e1 : w5.cell? ⟨tb, 0, none⟩ = some (.pointer (some ⟨lg, 0, none⟩)) := (hB5.cell (p := ⟨tb, 0, none⟩) (by { show tb < W.heap.size; omega })).trans b0; have e2 : w5.cell? ⟨lg, 0, none⟩ = some (.pointer (some ⟨db, 0, none⟩)) := (hB5.cell (p := ⟨lg, 0, none⟩) (by { show lg < W.heap.size; omega })).trans l0W; have e3 : w5.cell? ⟨lg, 1, none⟩ = some (.int .i64 (k : Int)) := (hB5.cell (p := ⟨lg, 1, none⟩) (by { show lg < W.heap.size; omega })).trans l1W; have e4 : w5.cell? ⟨lg, 2, none⟩ = some (.int .i64 (n : Int)) := (hB5.cell (p := ⟨lg, 2, none⟩) (by { show lg < W.heap.size; omega })).trans l2W; have hd5 := hdW.drew.bel hB5; have hs5 : tb + 2 ≤ w5.heap.size := (by { have := hB5.size; have : W.drew.heap.size = W.heap.size := rfl; omega }); have hap5 := hap w5 u5 hd5 (by omega) (Sees.row hrow5) (fun g hg e => by { have e1 := hltF g e; have e2 := leads_own hrow5 hg; have : W.drew.heap.size = W.heap.size := rfl; omega }))
      | (go_at_call 67; refine hap5.mono ?_; rintro _ w6 ⟨rv6, rfl, hd6, hC6, hn6⟩; have e5 := (hC6.cell (p := ⟨tb, 0, none⟩) (by { show tb < w5.heap.size; omega }) (fun e => by { have := hltF tb e; omega })).trans e1; have e6 := (hC6.cell (p := ⟨lg, 0, none⟩) (by { show lg < w5.heap.size; omega }) hlgF).trans e2; have e7 := (hC6.cell (p := ⟨lg, 1, none⟩) (by { show lg < w5.heap.size; omega }) hlgF).trans e3; have e8 := (hC6.cell (p := ⟨lg, 2, none⟩) (by { show lg < w5.heap.size; omega }) hlgF).trans e4))
  have hsy := dsync_calm hd6 hoff harm
  have hs6 := hC6.size
  have hl6 : Blk w6 lg 103 #[.pointer (some ⟨db, 0, none⟩), .int .i64 (k : Int), .int .i64 (n : Int), .bool false] := (hlW.drew.bel hB5 (by show lg < W.heap.size; omega)).chg hC6 hlgF
  have hbe6 : Blk w6 (tb + 1) 25 #[.int .i64 0] := (hbe.drew.bel hB5 (by show tb + 1 < W.heap.size; omega)).chg hC6 (fun e => by have := hltF _ e; omega)
  have hbx6 : Blk w6 tb 63 #[.pointer (some ⟨lg, 0, none⟩)] := (hbx.drew.bel hB5 (by show tb < W.heap.size; omega)).chg hC6 (fun e => by have := hltF _ e; omega)
  have hn1 : wrap64 ((n : Int) + 1) = (n : Int) + 1 := by unfold wrap64; omega
  clear hap hfw hap5 hrow5 hd5 e1 e2 e3 e4 hbW hdW hlW l0W l1W l2W b0 hb hA h hl
  go_wp2_with fail
  refine hsy.mono ?_
  rintro _ w7 ⟨rfl, hd7, hC7⟩
  have hne1 : ∀ (g : Nat) (t : TypeId) (cs : Array Value), Blk w6 g t cs → 62 ≠ t → ¬ (g = db ∨ g = mb) := fun g t cs hg ht e => by
    rcases e with rfl | rfl
    · exact Blk.two hd6.blk hg ht rfl
    · exact IMap.not_blk hd6.map hg rfl
  have hl7 := hl6.chg hC7 (hne1 _ _ _ hl6 (by decide))
  have hbe7 := hbe6.chg hC7 (hne1 _ _ _ hbe6 (by decide))
  have hbx7 := hbx6.chg hC7 (hne1 _ _ _ hbx6 (by decide))
  have x0 := hbx7.at' 0
  have y0 := hbe7.at' 0
  have yz := hbe7.thaw 0
  have z2 := hl7.at' 2
  have zf := hl7.thaw 2
  have hlt7 := hl7.lt
  simp at x0 y0 z2
  have n1 : ¬ lg = tb + 1 := by omega
  have n2 : ¬ tb + 1 = lg := by omega
  have n3 : ¬ tb = lg := by omega
  have n4 : ¬ lg = tb := by omega
  have H1 := Lib.hid hn1
  have H2 := Lib.hid hlgF
  have H3 := Lib.hid hltF
  have H4 := Lib.hid hC6
  have H5 := Lib.hid hn6
  have H6 := Lib.hid hB5
  have H7 := Lib.hid hbl0
  have H8 := Lib.hid hC7
  have H9 := Lib.hid hd7
  clear hn1 hlgF hltF hC6 hn6 hB5 hbl0 hC7 hd7
  clear hne1 hsy e5 e6 e7 e8 hs6 hbx hbe hroom hlen hfr hxm hmc hx' hd6 hl6 hbe6 hbx6 g2
  go_wp2
  refine leaves_cons (f := 66) (args := #[.pointer (some ⟨tb + 1, 0, none⟩), .pointer (some ⟨tb, 0, none⟩)]) (by simp) (by simp [go_sem]) ?_
  have hbe8 : Blk ((w7.setCell ⟨lg, 2, none⟩ (.int .i64 ((n : Int) + 1))).setCell ⟨tb + 1, 0, none⟩ (.int .i64 0)) (tb + 1) 25 #[.int .i64 0] := by
    have := (hbe7.away (p := ⟨lg, 2, none⟩) n2 (.int .i64 ((n : Int) + 1))).put 0 (.int .i64 0)
    simpa using this
  have hl8 : Blk ((w7.setCell ⟨lg, 2, none⟩ (.int .i64 ((n : Int) + 1))).setCell ⟨tb + 1, 0, none⟩ (.int .i64 0)) lg 103 #[.pointer (some ⟨db, 0, none⟩), .int .i64 (k : Int), .int .i64 ((n : Int) + 1), .bool false] := by
    have := (hl7.put 2 (.int .i64 ((n : Int) + 1))).away (p := ⟨tb + 1, 0, none⟩) n1 (.int .i64 0)
    simpa using this
  have hc0 := hbe8.at' 0
  simp only [List.getElem?_toArray, List.getElem?_cons_zero] at hc0
  refine (jdefer_calm (z := 0) (by decide) hc0 .returning).mono ?_
  rintro e u' w'' ⟨rfl, rfl, rfl⟩
  refine ⟨_, results_cell1 (by rfl) _ _ ⟨tb + 1, 0, none⟩ (.int .i64 0) (by rfl) (by rfl) hc0, rv6, rfl, ?_, ?_, ?_, ?_⟩
  · rw [hF]
    refine H9.chg (F := fun g => g = lg ∨ g = tb + 1) (((Chg.refl _ w7).setCell (p := ⟨lg, 2, none⟩) (.inr (.inl rfl)) _).setCell (p := ⟨tb + 1, 0, none⟩) (.inr (.inr rfl)) _) fun g hg e => ?_
    rcases e with rfl | rfl
    · exact H9.not hl7 (by decide) (by decide) hg
    · exact H9.not hbe7 (by decide) (by decide) hg
  · exact_mod_cast hl8
  · have c1 : Chg (DF db mb rv d) w w6 := ((Chg.of_below H7).trans ((Chg.refl _ W).drew.trans (Chg.of_below H6) fun _ _ h => h) fun _ _ h => h).trans H4 fun _ _ h => h
    have c2 : Chg (DF db mb rv d) w w7 := c1.trans H8 fun g _ e => by
      rcases e with rfl | rfl
      · exact .inl rfl
      · exact .inr (.inl rfl)
    exact ((c2.more fun _ _ h => .inl h).setCell (p := ⟨lg, 2, none⟩) (.inr (.inr rfl)) _).setCell (p := ⟨tb + 1, 0, none⟩) (.inl (by show w.heap.size ≤ tb + 1; omega)) _
  · intro g hg
    rw [hF] at hg
    rcases H5 g hg with h1 | h1
    · exact .inl h1
    · right; omega
end Go.Proofs.YtkndgmjlphppdaaGreatDoor
namespace Go.Proofs.YtkndgmjlphppdaaGreatDoor
open Go Go.RowKit Go.Imap

/-- a byte with its bit s inverted (the most significant one is 0) -/
def flipB (b : UInt8) (s : Nat) : UInt8 := b ^^^ UInt8.ofNat (2 ^ (7 - s))
def flipL (l : List UInt8) (bit : Nat) : List UInt8 := l.set (bit / 8) (flipB (l.getD (bit / 8) 0) (bit % 8))
def Dk.rot (d : Dk) (k bit : Nat) : Dk := { d with fs := fun u => if u = k then (d.fs k).map fun f => { f with bytes := flipL f.bytes bit } else d.fs u }
theorem wrap_nat {n : Nat} (h : n ≤ 1000000000) : wrap64 (n : Int) = (n : Int) ∧ IntKind.i64.wrap (n : Int) = (n : Int) := by
  refine ⟨?_, ?_⟩
  · unfold wrap64; omega
  · rw [IntKind.wrap_i64]; omega
theorem flip_fin : ∀ s : Fin 8, ∀ n : Fin 256, bits .xor .u8 (n.val : Int) ((2 ^ (7 - s.val) : Nat) : Int) = ((flipB (UInt8.ofNat n.val) s.val).toNat : Int) := by decide +kernel
theorem flip_bits {s : Nat} (hs : s < 8) (x : UInt8) (M : Int) (hM : M = ((2 ^ (7 - s) : Nat) : Int)) : bits .xor .u8 (x.toNat : Int) M = ((flipB x s).toNat : Int) := by
  have h := flip_fin ⟨s, hs⟩ ⟨x.toNat, x.toNat_lt⟩
  simp only [UInt8.ofNat_toNat] at h
  rw [hM]
  exact h
theorem flip_ne_fin : ∀ s : Fin 8, ∀ n : Fin 256, flipB (UInt8.ofNat n.val) s.val ≠ UInt8.ofNat n.val := by decide +kernel
theorem flip_ne {s : Nat} (hs : s < 8) (x : UInt8) : flipB x s ≠ x := by
  have h := flip_ne_fin ⟨s, hs⟩ ⟨x.toNat, x.toNat_lt⟩
  simp only [UInt8.ofNat_toNat] at h
  exact h
theorem flipL_len (l : List UInt8) (bit : Nat) : (flipL l bit).length = l.length := List.length_set ..
theorem row_put {w : World} {B : Nat} {e : TypeId} {g n c : Nat} {xs : List Value} (h : w.ownsRow B e 1 (.slice (some ⟨g, 0, none⟩) n c) n xs) {q : Nat} (hq : q < n) (u : Value) : (w.setCell ⟨g, q, none⟩ u).ownsRow B e 1 (.slice (some ⟨g, 0, none⟩) n c) n (xs.set q u) := by
  refine ⟨by rw [List.length_set]; exact h.1, .inr ?_⟩
  rcases h.2 with ⟨h1, _⟩ | ⟨g', cap, cur, h1, h2, h3, h4, h5, h6, h7⟩
  · cases h1
  · cases h1
    refine ⟨g, c, cur.setIfInBounds q u, rfl, h2, ?_, h4, h5, by rw [Array.size_setIfInBounds]; exact h6, ?_⟩
    · simp [World.setCell, Array.getElem?_modify, h3]
    · rw [Array.toList_setIfInBounds, ← h7, List.take_set]
theorem rot_done {w : World} {B db mb : Nat} {rv : Nat → Value} {d : Dk} (h : DkAt w B db mb rv d) {k bit g c : Nat} (hbit : bit < 8 * d.len k) (hk : (d.fs k).isSome) (hrv : rv k = .slice (some ⟨g, 0, none⟩) (d.len k) c) {x : UInt8} (hx : (d.fi k).bytes[bit / 8]? = some x) :
    DkAt (w.setCell ⟨g, bit / 8, none⟩ (.int .u8 ((flipB x (bit % 8)).toNat : Int))).drew B db mb rv (d.rot k bit) ∧ Chg (fun y => (rv k).ownBlock = some y) w (w.setCell ⟨g, bit / 8, none⟩ (.int .u8 ((flipB x (bit % 8)).toNat : Int))).drew := by
  obtain ⟨f, hf⟩ := Option.isSome_iff_exists.1 hk
  have hfi : d.fi k = f := by unfold Dk.fi; rw [hf]; rfl
  have hlen : d.len k = f.bytes.length := by unfold Dk.len; rw [hfi]
  have hne := h.row_ne hk
  have hob : (rv k).ownBlock = some g := by rw [hrv]; rfl
  have hgd : g ≠ db := fun e => hne.1 (by rw [hob, e])
  have hgm : g ≠ mb := fun e => hne.2 (by rw [hob, e])
  have hrot : ∀ u, (d.rot k bit).fs u = if u = k then some ⟨flipL f.bytes bit, f.dur⟩ else d.fs u := fun u => by
    unfold Dk.rot
    simp only
    split
    · rw [hf]; rfl
    · rfl
  have hfl : flipL f.bytes bit = f.bytes.set (bit / 8) (flipB x (bit % 8)) := by
    unfold flipL
    rw [hfi] at hx
    rw [List.getD_eq_getElem?_getD, hx]
    rfl
  refine ⟨⟨?_, ?_, fun i f' hi => ?_, fun i j hi hj hij => ?_, ⟨fun i f' hi => ?_, fun i f' hi => ?_, h.wf.room, h.wf.used, h.wf.left⟩⟩, ((Chg.refl (fun y => (rv k).ownBlock = some y) w).setCell (p := ⟨g, bit / 8, none⟩) (.inr hob) _).drew⟩
  · exact (h.blk.away (p := ⟨g, bit / 8, none⟩) (fun e => hgd e.symm) _).drew
  · have hm := h.map.same (w' := (w.setCell ⟨g, bit / 8, none⟩ (.int .u8 ((flipB x (bit % 8)).toNat : Int))).drew) (Below.heap_setCell w ⟨g, bit / 8, none⟩ _ mb (fun e => hgm e.symm))
    refine hm.ext fun u => ?_
    rw [hrot u]
    split
    · rename_i e
      subst e
      rw [hf]
      rfl
    · rfl
  · rw [hrot i] at hi
    split at hi
    · rename_i e
      subst e
      cases hi
      have hr := h.row i f hf
      rw [hrv, ← hlen] at hr
      have hp := row_put hr (q := bit / 8) (by omega) (.int .u8 ((flipB x (bit % 8)).toNat : Int))
      rw [hrv]
      show World.ownsRow _ _ _ _ _ (flipL f.bytes bit).length (bv (flipL f.bytes bit))
      rw [flipL_len, hfl, ← hlen]
      have e2 : bv (f.bytes.set (bit / 8) (flipB x (bit % 8))) = (bv f.bytes).set (bit / 8) (.int .u8 ((flipB x (bit % 8)).toNat : Int)) := by unfold bv; rw [List.map_set]
      rw [e2]
      exact hp
    · rename_i e
      refine row_set (h.row i f' hi) (p := ⟨g, bit / 8, none⟩) (fun e2 => ?_) _
      exact h.apart i k (by rw [hi]; rfl) hk e g e2 hob
  · have hs : ∀ u, ((d.rot k bit).fs u).isSome → (d.fs u).isSome := fun u hu => by
      rw [hrot u] at hu
      split at hu
      · rename_i e
        rw [e]
        exact hk
      · exact hu
    exact h.apart i j (hs i hi) (hs j hj) hij
  · rw [hrot i] at hi
    split at hi
    · rename_i e
      subst e
      exact h.wf.key i f hf
    · exact h.wf.key i f' hi
  · rw [hrot i] at hi
    split at hi
    · rename_i e
      subst e
      cases hi
      have := h.wf.dur i f hf
      refine ⟨by rw [flipL_len]; exact this.1, fun e2 => this.2.1 ?_, by rw [flipL_len]; exact this.2.2⟩
      have e3 := flipL_len f.bytes bit
      rw [show flipL f.bytes bit = [] from e2] at e3
      exact List.length_eq_zero_iff.1 e3.symm
    · exact h.wf.dur i f' hi
set_option maxRecDepth 1000000 in
set_option maxHeartbeats 4000000 in
theorem drot_walk {w : World} {B db mb : Nat} {rv : Nat → Value} {d : Dk} (h : DkAt w B db mb rv d) {k bit : Nat} (hk : k < 64) (hbit : bit < 8 * d.len k) :
    Calls Tryz.prog 24 #[.pointer (some ⟨db, 0, none⟩), .int .i64 (k : Int), .int .i64 (bit : Int)] w fun e w' => e = .returned (.int .i64 0) ∧ DkAt w' B db mb rv (d.rot k bit) ∧ Chg (fun g => (rv k).ownBlock = some g) w w' := by
  obtain ⟨A, c, ho, hrow, hrv, hnone⟩ := h.old' k
  have hb := h.blk
  have c2 := hb.at' 2
  have hlt := hb.lt
  simp at c2
  have hex := exists_walk hk
  have hlk := look_file h.map hk ho w rfl
  have hlk2 := look_file h.map hk ho w.drew rfl
  have hfld := fieldFile A (d.len k) c ((d.fi k).dur : Int)
  have hll := Dk.len_le h.wf k
  have hks : (d.fs k).isSome := by
    cases hs : (d.fs k).isSome with
    | true => rfl
    | false =>
      have : d.len k = 0 := by
        unfold Dk.len Dk.fi
        cases hf : d.fs k with
        | none => rfl
        | some f => rw [hf] at hs; cases hs
      omega
  have hdl : (d.fi k).bytes.length = d.len k := rfl
  obtain ⟨x, hx⟩ : ∃ x, (d.fi k).bytes[bit / 8]? = some x := ⟨_, List.getElem?_eq_getElem (by omega)⟩
  have hgc : ∃ g, A = some ⟨g, 0, none⟩ ∧ g < w.heap.size ∧ w.cell? ⟨g, bit / 8, none⟩ = some (.int .u8 (x.toNat : Int)) ∧ w.frozen? ⟨g, bit / 8, none⟩ = false := by
    rcases hrow.2 with ⟨h1, h2⟩ | ⟨g, cap, cur, h1, h2, h3, h4, _⟩
    · omega
    · cases h1
      have hc := hrow.cells (g := g) rfl (bit / 8) (.int .u8 (x.toNat : Int)) (by simp [bv, hx])
      rw [add_flat] at hc
      refine ⟨g, rfl, (Array.getElem?_eq_some_iff.1 h3).1, by simpa using hc, ?_⟩
      simp [World.frozen?, h3]
  obtain ⟨g, rfl, hglt, hcell, hfr⟩ := hgc
  have hfin := Lib.hid (rot_done h hbit hks (hrv hks) hx)
  have hlk2 := look_file h.map hk ho w.drew rfl
  clear h hrow hrv hnone ho hb
  have hs8 : bit % 8 < 8 := by omega
  obtain ⟨q, hq⟩ : ∃ q, bit / 8 = q := ⟨_, rfl⟩
  obtain ⟨s, hs⟩ : ∃ s, bit % 8 = s := ⟨_, rfl⟩
  rw [hs] at hs8
  have hql : q < d.len k := by omega
  have hbi1 : ¬ (bit : Int) < 0 := by omega
  have hbi2 : ¬ 8 * (d.len k : Int) ≤ (bit : Int) := by omega
  have hqd : (bit : Int) / 8 = (q : Int) := by omega
  have hsd : (bit : Int) % 8 = (s : Int) := by omega
  have hq0 : (0 : Int) ≤ (q : Int) := Int.natCast_nonneg _
  have hq1 : (q : Int) < (d.len k : Int) := by omega
  have n1 : 8 * d.len k ≤ 1000000000 := by omega
  have n3 : q ≤ 1000000000 := by omega
  have n4 : ((8 * d.len k : Nat) : Int) = 8 * (d.len k : Int) := by omega
  rw [hq, hs] at hfin
  rw [hq] at hcell hfr hx
  clear hq hs hbit hll hdl hks hql hx
  have hw8 := wrap_nat n1
  have hwq := wrap_nat n3
  rw [n4] at hw8
  have HQ := Lib.hid hwq
  have w81 := hw8.1
  have HQD := Lib.hid hqd
  clear hwq hw8 hqd n1 n3 n4
  have key : ∀ s' : Nat, s = s' → s' < 8 → (∀ (M : Int), M = ((2 ^ (7 - s') : Nat) : Int) → bits .xor .u8 (x.toNat : Int) M = ((flipB x s).toNat : Int)) := fun s' e hlt M hM => by subst e; exact flip_bits hlt x M hM
  rcases (show s = 0 ∨ s = 1 ∨ s = 2 ∨ s = 3 ∨ s = 4 ∨ s = 5 ∨ s = 6 ∨ s = 7 by omega) with e | e | e | e | e | e | e | e
  · have KK := Lib.hid (key _ e (by omega))
    have HE := Lib.hid hfin
    rw [e] at hsd
    clear hfin key hs8
    have hsd2 : (bit : Int) % 8 = _ := hsd
    simp only [Int.cast_ofNat_Int, Int.natCast_zero, Int.natCast_one] at hsd2
    clear hsd e
    go_enter Tryz.func24, Tryz.ntmps24
    go_wp2_with (first
      | (go_at_call 46; refine (hex _).mono ?_; rintro _ w1 ⟨rfl, hw1⟩; rw [hw1]; clear hw1 w1))
    clear w81 hbi1 hbi2
    have hqd := HQD.out
    have wq1 := HQ.out.1
    go_region
    rw [KK.out _ (by decide)]
    have HF := HE.out.out
    clear hqd wq1 HE KK
    go_wp2
    go_ret
    exact ⟨rfl, HF.1, HF.2⟩
  · have KK := Lib.hid (key _ e (by omega))
    have HE := Lib.hid hfin
    rw [e] at hsd
    clear hfin key hs8
    have hsd2 : (bit : Int) % 8 = _ := hsd
    simp only [Int.cast_ofNat_Int, Int.natCast_zero, Int.natCast_one] at hsd2
    clear hsd e
    go_enter Tryz.func24, Tryz.ntmps24
    go_wp2_with (first
      | (go_at_call 46; refine (hex _).mono ?_; rintro _ w1 ⟨rfl, hw1⟩; rw [hw1]; clear hw1 w1))
    clear w81 hbi1 hbi2
    have hqd := HQD.out
    have wq1 := HQ.out.1
    go_region
    rw [KK.out _ (by decide)]
    have HF := HE.out.out
    clear hqd wq1 HE KK
    go_wp2
    go_ret
    exact ⟨rfl, HF.1, HF.2⟩
  · have KK := Lib.hid (key _ e (by omega))
    have HE := Lib.hid hfin
    rw [e] at hsd
    clear hfin key hs8
    have hsd2 : (bit : Int) % 8 = _ := hsd
    simp only [Int.cast_ofNat_Int, Int.natCast_zero, Int.natCast_one] at hsd2
    clear hsd e
    go_enter Tryz.func24, Tryz.ntmps24
    go_wp2_with (first
      | (go_at_call 46; refine (hex _).mono ?_; rintro _ w1 ⟨rfl, hw1⟩; rw [hw1]; clear hw1 w1))
    clear w81 hbi1 hbi2
    have hqd := HQD.out
    have wq1 := HQ.out.1
    go_region
    rw [KK.out _ (by decide)]
    have HF := HE.out.out
    clear hqd wq1 HE KK
    go_wp2
    go_ret
    exact ⟨rfl, HF.1, HF.2⟩
  · have KK := Lib.hid (key _ e (by omega))
    have HE := Lib.hid hfin
    rw [e] at hsd
    clear hfin key hs8
    have hsd2 : (bit : Int) % 8 = _ := hsd
    simp only [Int.cast_ofNat_Int, Int.natCast_zero, Int.natCast_one] at hsd2
    clear hsd e
    go_enter Tryz.func24, Tryz.ntmps24
    go_wp2_with (first
      | (go_at_call 46; refine (hex _).mono ?_; rintro _ w1 ⟨rfl, hw1⟩; rw [hw1]; clear hw1 w1))
    clear w81 hbi1 hbi2
    have hqd := HQD.out
    have wq1 := HQ.out.1
    go_region
    rw [KK.out _ (by decide)]
    have HF := HE.out.out
    clear hqd wq1 HE KK
    go_wp2
    go_ret
    exact ⟨rfl, HF.1, HF.2⟩
  · have KK := Lib.hid (key _ e (by omega))
    have HE := Lib.hid hfin
    rw [e] at hsd
    clear hfin key hs8
    have hsd2 : (bit : Int) % 8 = _ := hsd
    simp only [Int.cast_ofNat_Int, Int.natCast_zero, Int.natCast_one] at hsd2
    clear hsd e
    go_enter Tryz.func24, Tryz.ntmps24
    go_wp2_with (first
      | (go_at_call 46; refine (hex _).mono ?_; rintro _ w1 ⟨rfl, hw1⟩; rw [hw1]; clear hw1 w1))
    clear w81 hbi1 hbi2
    have hqd := HQD.out
    have wq1 := HQ.out.1
    go_region
    rw [KK.out _ (by decide)]
    have HF := HE.out.out
    clear hqd wq1 HE KK
    go_wp2
    go_ret
    exact ⟨rfl, HF.1, HF.2⟩
  · have KK := Lib.hid (key _ e (by omega))
    have HE := Lib.hid hfin
    rw [e] at hsd
    clear hfin key hs8
    have hsd2 : (bit : Int) % 8 = _ := hsd
    simp only [Int.cast_ofNat_Int, Int.natCast_zero, Int.natCast_one] at hsd2
    clear hsd e
    go_enter Tryz.func24, Tryz.ntmps24
    go_wp2_with (first
      | (go_at_call 46; refine (hex _).mono ?_; rintro _ w1 ⟨rfl, hw1⟩; rw [hw1]; clear hw1 w1))
    clear w81 hbi1 hbi2
    have hqd := HQD.out
    have wq1 := HQ.out.1
    go_region
    rw [KK.out _ (by decide)]
    have HF := HE.out.out
    clear hqd wq1 HE KK
    go_wp2
    go_ret
    exact ⟨rfl, HF.1, HF.2⟩
  · have KK := Lib.hid (key _ e (by omega))
    have HE := Lib.hid hfin
    rw [e] at hsd
    clear hfin key hs8
    have hsd2 : (bit : Int) % 8 = _ := hsd
    simp only [Int.cast_ofNat_Int, Int.natCast_zero, Int.natCast_one] at hsd2
    clear hsd e
    go_enter Tryz.func24, Tryz.ntmps24
    go_wp2_with (first
      | (go_at_call 46; refine (hex _).mono ?_; rintro _ w1 ⟨rfl, hw1⟩; rw [hw1]; clear hw1 w1))
    clear w81 hbi1 hbi2
    have hqd := HQD.out
    have wq1 := HQ.out.1
    go_region
    rw [KK.out _ (by decide)]
    have HF := HE.out.out
    clear hqd wq1 HE KK
    go_wp2
    go_ret
    exact ⟨rfl, HF.1, HF.2⟩
  · have KK := Lib.hid (key _ e (by omega))
    have HE := Lib.hid hfin
    rw [e] at hsd
    clear hfin key hs8
    have hsd2 : (bit : Int) % 8 = _ := hsd
    simp only [Int.cast_ofNat_Int, Int.natCast_zero, Int.natCast_one] at hsd2
    clear hsd e
    go_enter Tryz.func24, Tryz.ntmps24
    go_wp2_with (first
      | (go_at_call 46; refine (hex _).mono ?_; rintro _ w1 ⟨rfl, hw1⟩; rw [hw1]; clear hw1 w1))
    clear w81 hbi1 hbi2
    have hqd := HQD.out
    have wq1 := HQ.out.1
    go_region
    rw [KK.out _ (by decide)]
    have HF := HE.out.out
    clear hqd wq1 HE KK
    go_wp2
    go_ret
    exact ⟨rfl, HF.1, HF.2⟩
end Go.Proofs.YtkndgmjlphppdaaGreatDoor
namespace Go.Proofs.YtkndgmjlphppdaaGreatDoor
open Go Go.RowKit Go.Imap

/-- the power goes off in one of the next two steps -/
def Dk.dies (d : Dk) : Bool := d.fails || d.step.fails
theorem Dk.step_off {d : Dk} (h : d.fails = false) (hoff : d.off = false) : d.step.off = false := by
  unfold Dk.fails at h
  unfold Dk.step
  cases ha : d.armed with
  | false => simpa using hoff
  | true =>
    rw [ha] at h
    have h0 : d.left ≠ 0 := by simpa using h
    rw [if_pos rfl, if_pos (by omega)]
    exact hoff
theorem Dk.step_died {d : Dk} (h : d.fails = true) : d.step.off = true ∧ d.step.armed = false := by
  unfold Dk.fails at h
  simp only [Bool.and_eq_true, beq_iff_eq] at h
  unfold Dk.step
  rw [if_pos h.1, if_neg (by omega)]
  exact ⟨rfl, rfl⟩
theorem Dk.put_step (d : Dk) (k : Nat) (f : Fi) : (d.put k f).step = d.step.put k f := by
  unfold Dk.step
  show (if d.armed then (if 0 < d.left then _ else _) else _) = _
  split
  · split <;> rfl
  · rfl
theorem Dk.put_fails (d : Dk) (k : Nat) (f : Fi) : (d.put k f).fails = d.fails := rfl
/-- the bytes in the file k behind an Append -/
def Dk.more (d : Dk) (k : Nat) (x : List UInt8) : Fi := ⟨(d.fi k).bytes ++ x, (d.fi k).dur⟩
theorem DF.of_fs {d e : Dk} {db mb : Nat} {rv : Nat → Value} {g : Nat} (h : DF db mb rv d g) (hfs : e.fs = d.fs) : DF db mb rv e g := by
  rcases h with h | h | ⟨i, hi, e'⟩
  · exact .inl h
  · exact .inr (.inl h)
  · exact .inr (.inr ⟨i, by rw [hfs]; exact hi, e'⟩)
theorem Dk.put_fs {d e : Dk} (h : e.fs = d.fs) (k : Nat) (f : Fi) : (e.put k f).fs = (d.put k f).fs := by
  show (fun u => if u = k then (if f.bytes.length = 0 then none else some f) else e.fs u) = _
  rw [h]
  rfl
set_option maxRecDepth 1000000 in
set_option maxHeartbeats 4000000 in
theorem jappend_ok {w : World} {B db mb lg k n : Nat} {rv : Nat → Value} {d : Dk} (h : DkAt w B db mb rv d) (hB : B ≤ w.heap.size) (hk : k < 64) (hoff : d.off = false) (hf : d.fails = false) (hf2 : d.step.fails = false)
    (hl : Blk w lg 103 #[.pointer (some ⟨db, 0, none⟩), .int .i64 (k : Int), .int .i64 (n : Int), .bool false]) (hn : n < 1000000) {b : Value} {x : List UInt8} (hb : Sees w 1 b (bv x)) (hx : x.length ≤ 65536)
    (hroom : ((frame frameH n x).length : Int) ≤ d.room - d.used) (hlen : d.len k + (frame frameH n x).length ≤ 16777216) (hfr : (frame frameH n x).length ≤ 1000000) :
    Calls Tryz.prog 36 #[.pointer (some ⟨lg, 0, none⟩), b] w fun e w' => ∃ rv', e = .returned (.int .i64 0) ∧ DkAt w' B db mb rv' ((d.step.put k ⟨(d.fi k).bytes ++ frame frameH n x, (d.fi k).dur⟩).step.harden) ∧
      Blk w' lg 103 #[.pointer (some ⟨db, 0, none⟩), .int .i64 (k : Int), .int .i64 ((n + 1 : Nat) : Int), .bool false] ∧ Chg (fun g => DF db mb rv d g ∨ g = lg) w w' ∧ (∀ g, DF db mb rv' (d.put k ⟨(d.fi k).bytes ++ frame frameH n x, (d.fi k).dur⟩) g → DF db mb rv d g ∨ w.heap.size ≤ g) := by
  obtain ⟨A, m, c, rfl, hxm, hmc, hA⟩ := id hb
  have hxn : x.length = m := by rw [bv_len] at hxm; omega
  subst hxn
  have hx' : ¬ (65536 : Int) < (x.length : Int) := by omega
  have l0 := hl.at' 0
  have l1 := hl.at' 1
  have l2 := hl.at' 2
  have l3 := hl.at' 3
  have g2 := hl.thaw 2
  have hlt := hl.lt
  have hdlt := h.blk.lt
  simp at l0 l1 l2 l3
  go_enter_defers Tryz.func36, Tryz.ntmps36
  go_wp2
  have hsz : ((w.alloc (.cells #[.pointer (some ⟨lg, 0, none⟩)] 63)).alloc (.cells #[.int .i64 0] 25)).heap.size = w.heap.size + 2 := by simp
  have hbl0 : Below w.heap.size w ((w.alloc (.cells #[.pointer (some ⟨lg, 0, none⟩)] 63)).alloc (.cells #[.int .i64 0] 25)) := ((Below.refl _ w).alloc (Nat.le_refl _) _).alloc (by simp) _
  have hbx := (Blk.made w 63 #[.pointer (some ⟨lg, 0, none⟩)]).alloc (.cells #[.int .i64 0] 25)
  have hbe := Blk.made (w.alloc (.cells #[.pointer (some ⟨lg, 0, none⟩)] 63)) 25 #[.int .i64 0]
  rw [World.size_alloc] at hbe
  obtain ⟨W, hW⟩ : ∃ W, ((w.alloc (.cells #[.pointer (some ⟨lg, 0, none⟩)] 63)).alloc (.cells #[.int .i64 0] 25)) = W := ⟨_, rfl⟩
  rw [hW] at hsz hbl0 hbx hbe ⊢
  clear hW
  obtain ⟨tb, htb⟩ : ∃ tb, w.heap.size = tb := ⟨_, rfl⟩
  have hlW := hl.bel hbl0 hlt
  have hdW := h.bel hbl0
  have hbW := hb.bel hbl0
  rw [htb] at hbx hbe hsz ⊢
  have b0 := hbx.at' 0
  have l0W := hlW.at' 0
  have l1W := hlW.at' 1
  have l2W := hlW.at' 2
  simp at b0 l0W l1W l2W
  have hfw := frame_walk (w := W.drew) (k := n) (hbW.bel (Below.refl _ _).drew) (by omega) (by omega)
  have hap := fun (w1 : World) (u : Value) (h1 : DkAt w1 B db mb rv d) (hB1 : B ≤ w1.heap.size) (hu : Sees w1 1 u (bv (frame frameH n x))) (hF : ∀ g, Value.leads u = some g → ¬ DF db mb rv d g) => dappend_walk h1 hB1 hk hoff hu hfr hroom hlen hF
  rw [hf] at hap
  simp only [Bool.false_eq_true, if_false, if_true] at hap
  obtain ⟨F, hF⟩ : ∃ F, frame frameH n x = F := ⟨_, rfl⟩
  rw [hF] at hap hfw
  clear l0 l1 l2 l3
  have hltF : ∀ g, DF db mb rv d g → g < tb := fun g hg => by rw [← htb]; exact h.lt_of hg
  have hlgF : ¬ DF db mb rv d lg := h.not hl (by decide) (by decide)
  go_region_held3 (fun w' => w'.cell? ⟨tb, 0, none⟩ = some (.pointer (some ⟨lg, 0, none⟩)) ∧ w'.cell? ⟨lg, 0, none⟩ = some (.pointer (some ⟨db, 0, none⟩)) ∧ w'.cell? ⟨lg, 1, none⟩ = some (.int .i64 (k : Int)) ∧ w'.cell? ⟨lg, 2, none⟩ = some (.int .i64 (n : Int)))
    (first
      | go_keep)
    (first
      | (go_at_call 19; refine hfw.mono ?_; rintro _ w5 ⟨u5, rfl, hrow5, hB5⟩; have e1 : w5.cell? ⟨tb, 0, none⟩ = some (.pointer (some ⟨lg, 0, none⟩)) := (hB5.cell (p := ⟨tb, 0, none⟩) (by { show tb < W.heap.size; omega })).trans b0; have e2 : w5.cell? ⟨lg, 0, none⟩ = some (.pointer (some ⟨db, 0, none⟩)) := (hB5.cell (p := ⟨lg, 0, none⟩) (by { show lg < W.heap.size; omega })).trans l0W; have e3 : w5.cell? ⟨lg, 1, none⟩ = some (.int .i64 (k : Int)) := (hB5.cell (p := ⟨lg, 1, none⟩) (by { show lg < W.heap.size; omega })).trans l1W; have e4 : w5.cell? ⟨lg, 2, none⟩ = some (.int .i64 (n : Int)) := (hB5.cell (p := ⟨lg, 2, none⟩) (by { show lg < W.heap.size; omega })).trans l2W; have hd5 := hdW.drew.bel hB5; have hs5 : tb + 2 ≤ w5.heap.size := (by { have := hB5.size; have : W.drew.heap.size = W.heap.size := rfl; omega }); have hap5 := hap w5 u5 hd5 (by omega) (Sees.row hrow5) (fun g hg e => by { have e1 := hltF g e; have e2 := leads_own hrow5 hg; have : W.drew.heap.size = W.heap.size := rfl; omega }))
      | (go_at_call 67; refine hap5.mono ?_; rintro _ w6 ⟨rv6, rfl, hd6, hC6, hn6⟩; have e5 := (hC6.cell (p := ⟨tb, 0, none⟩) (by { show tb < w5.heap.size; omega }) (fun e => by { have := hltF tb e; omega })).trans e1; have e6 := (hC6.cell (p := ⟨lg, 0, none⟩) (by { show lg < w5.heap.size; omega }) hlgF).trans e2; have e7 := (hC6.cell (p := ⟨lg, 1, none⟩) (by { show lg < w5.heap.size; omega }) hlgF).trans e3; have e8 := (hC6.cell (p := ⟨lg, 2, none⟩) (by { show lg < w5.heap.size; omega }) hlgF).trans e4))
  have hsy := dsync_walk hd6 (Dk.step_off hf hoff)
  rw [Dk.put_fails, hf2] at hsy
  simp only [Bool.false_eq_true, if_false] at hsy
  have hs6 := hC6.size
  have hl6 : Blk w6 lg 103 #[.pointer (some ⟨db, 0, none⟩), .int .i64 (k : Int), .int .i64 (n : Int), .bool false] := (hlW.drew.bel hB5 (by show lg < W.heap.size; omega)).chg hC6 hlgF
  have hbe6 : Blk w6 (tb + 1) 25 #[.int .i64 0] := (hbe.drew.bel hB5 (by show tb + 1 < W.heap.size; omega)).chg hC6 (fun e => by have := hltF _ e; omega)
  have hbx6 : Blk w6 tb 63 #[.pointer (some ⟨lg, 0, none⟩)] := (hbx.drew.bel hB5 (by show tb < W.heap.size; omega)).chg hC6 (fun e => by have := hltF _ e; omega)
  have hn1 : wrap64 ((n : Int) + 1) = (n : Int) + 1 := by unfold wrap64; omega
  clear hap hfw hap5 hrow5 hd5 e1 e2 e3 e4 hbW hdW hlW l0W l1W l2W b0 hb hA h hl
  go_wp2_with fail
  refine hsy.mono ?_
  rintro _ w7 ⟨rfl, hd7, hC7⟩
  have hne1 : ∀ (g : Nat) (t : TypeId) (cs : Array Value), Blk w6 g t cs → 62 ≠ t → ¬ (g = db ∨ g = mb) := fun g t cs hg ht e => by
    rcases e with rfl | rfl
    · exact Blk.two hd6.blk hg ht rfl
    · exact IMap.not_blk hd6.map hg rfl
  have hl7 := hl6.chg hC7 (hne1 _ _ _ hl6 (by decide))
  have hbe7 := hbe6.chg hC7 (hne1 _ _ _ hbe6 (by decide))
  have hbx7 := hbx6.chg hC7 (hne1 _ _ _ hbx6 (by decide))
  have x0 := hbx7.at' 0
  have y0 := hbe7.at' 0
  have yz := hbe7.thaw 0
  have z2 := hl7.at' 2
  have zf := hl7.thaw 2
  have hlt7 := hl7.lt
  simp at x0 y0 z2
  have n1 : ¬ lg = tb + 1 := by omega
  have n2 : ¬ tb + 1 = lg := by omega
  have n3 : ¬ tb = lg := by omega
  have n4 : ¬ lg = tb := by omega
  have H1 := Lib.hid hn1
  have H2 := Lib.hid hlgF
  have H3 := Lib.hid hltF
  have H4 := Lib.hid hC6
  have H5 := Lib.hid hn6
  have H6 := Lib.hid hB5
  have H7 := Lib.hid hbl0
  have H8 := Lib.hid hC7
  have H9 := Lib.hid hd7
  clear hn1 hlgF hltF hC6 hn6 hB5 hbl0 hC7 hd7
  clear hne1 hsy e5 e6 e7 e8 hs6 hbx hbe hroom hlen hfr hxm hmc hx' hd6 hl6 hbe6 hbx6 g2
  go_wp2
  refine leaves_cons (f := 66) (args := #[.pointer (some ⟨tb + 1, 0, none⟩), .pointer (some ⟨tb, 0, none⟩)]) (by simp) (by simp [go_sem]) ?_
  have hbe8 : Blk ((w7.setCell ⟨lg, 2, none⟩ (.int .i64 ((n : Int) + 1))).setCell ⟨tb + 1, 0, none⟩ (.int .i64 0)) (tb + 1) 25 #[.int .i64 0] := by
    have := (hbe7.away (p := ⟨lg, 2, none⟩) n2 (.int .i64 ((n : Int) + 1))).put 0 (.int .i64 0)
    simpa using this
  have hl8 : Blk ((w7.setCell ⟨lg, 2, none⟩ (.int .i64 ((n : Int) + 1))).setCell ⟨tb + 1, 0, none⟩ (.int .i64 0)) lg 103 #[.pointer (some ⟨db, 0, none⟩), .int .i64 (k : Int), .int .i64 ((n : Int) + 1), .bool false] := by
    have := (hl7.put 2 (.int .i64 ((n : Int) + 1))).away (p := ⟨tb + 1, 0, none⟩) n1 (.int .i64 0)
    simpa using this
  have hc0 := hbe8.at' 0
  simp only [List.getElem?_toArray, List.getElem?_cons_zero] at hc0
  refine (jdefer_calm (z := 0) (by decide) hc0 .returning).mono ?_
  rintro e u' w'' ⟨rfl, rfl, rfl⟩
  refine ⟨_, results_cell1 (by rfl) _ _ ⟨tb + 1, 0, none⟩ (.int .i64 0) (by rfl) (by rfl) hc0, rv6, rfl, ?_, ?_, ?_, ?_⟩
  · rw [hF]
    refine H9.chg (F := fun g => g = lg ∨ g = tb + 1) (((Chg.refl _ w7).setCell (p := ⟨lg, 2, none⟩) (.inr (.inl rfl)) _).setCell (p := ⟨tb + 1, 0, none⟩) (.inr (.inr rfl)) _) fun g hg e => ?_
    rcases e with rfl | rfl
    · exact H9.not hl7 (by decide) (by decide) hg
    · exact H9.not hbe7 (by decide) (by decide) hg
  · exact_mod_cast hl8
  · have c1 : Chg (DF db mb rv d) w w6 := ((Chg.of_below H7).trans ((Chg.refl _ W).drew.trans (Chg.of_below H6) fun _ _ h => h) fun _ _ h => h).trans H4 fun _ _ h => h
    have c2 : Chg (DF db mb rv d) w w7 := c1.trans H8 fun g _ e => by
      rcases e with rfl | rfl
      · exact .inl rfl
      · exact .inr (.inl rfl)
    exact ((c2.more fun _ _ h => .inl h).setCell (p := ⟨lg, 2, none⟩) (.inr (.inr rfl)) _).setCell (p := ⟨tb + 1, 0, none⟩) (.inl (by show w.heap.size ≤ tb + 1; omega)) _
  · intro g hg
    rw [hF] at hg
    rcases H5 g (DF.of_fs hg (Dk.put_fs (Dk.step_fs d) k _)) with h1 | h1
    · exact .inl h1
    · right; omega
set_option maxRecDepth 1000000 in
set_option maxHeartbeats 4000000 in
theorem jappend_down1 {w : World} {B db mb lg k n : Nat} {rv : Nat → Value} {d : Dk} (h : DkAt w B db mb rv d) (hB : B ≤ w.heap.size) (hk : k < 64) (hoff : d.off = false) (hf : d.fails = true)
    (hl : Blk w lg 103 #[.pointer (some ⟨db, 0, none⟩), .int .i64 (k : Int), .int .i64 (n : Int), .bool false]) (hn : n < 1000000) {b : Value} {x : List UInt8} (hb : Sees w 1 b (bv x)) (hx : x.length ≤ 65536)
    (hroom : ((frame frameH n x).length : Int) ≤ d.room - d.used) (hlen : d.len k + (frame frameH n x).length ≤ 16777216) (hfr : (frame frameH n x).length ≤ 1000000) :
    Calls Tryz.prog 36 #[.pointer (some ⟨lg, 0, none⟩), b] w fun e w' => ∃ rv', e = .returned (.int .i64 19) ∧ DkAt w' B db mb rv' (d.step.put k ⟨(d.fi k).bytes ++ frame frameH n x, (d.fi k).dur⟩) ∧
      Blk w' lg 103 #[.pointer (some ⟨db, 0, none⟩), .int .i64 (k : Int), .int .i64 (n : Int), .bool true] ∧ Chg (fun g => DF db mb rv d g ∨ g = lg) w w' ∧ (∀ g, DF db mb rv' (d.put k ⟨(d.fi k).bytes ++ frame frameH n x, (d.fi k).dur⟩) g → DF db mb rv d g ∨ w.heap.size ≤ g) := by
  obtain ⟨A, m, c, rfl, hxm, hmc, hA⟩ := id hb
  have hxn : x.length = m := by rw [bv_len] at hxm; omega
  subst hxn
  have hx' : ¬ (65536 : Int) < (x.length : Int) := by omega
  have l0 := hl.at' 0
  have l1 := hl.at' 1
  have l2 := hl.at' 2
  have l3 := hl.at' 3
  have g2 := hl.thaw 2
  have hlt := hl.lt
  have hdlt := h.blk.lt
  simp at l0 l1 l2 l3
  go_enter_defers Tryz.func36, Tryz.ntmps36
  go_wp2
  have hsz : ((w.alloc (.cells #[.pointer (some ⟨lg, 0, none⟩)] 63)).alloc (.cells #[.int .i64 0] 25)).heap.size = w.heap.size + 2 := by simp
  have hbl0 : Below w.heap.size w ((w.alloc (.cells #[.pointer (some ⟨lg, 0, none⟩)] 63)).alloc (.cells #[.int .i64 0] 25)) := ((Below.refl _ w).alloc (Nat.le_refl _) _).alloc (by simp) _
  have hbx := (Blk.made w 63 #[.pointer (some ⟨lg, 0, none⟩)]).alloc (.cells #[.int .i64 0] 25)
  have hbe := Blk.made (w.alloc (.cells #[.pointer (some ⟨lg, 0, none⟩)] 63)) 25 #[.int .i64 0]
  rw [World.size_alloc] at hbe
  obtain ⟨W, hW⟩ : ∃ W, ((w.alloc (.cells #[.pointer (some ⟨lg, 0, none⟩)] 63)).alloc (.cells #[.int .i64 0] 25)) = W := ⟨_, rfl⟩
  rw [hW] at hsz hbl0 hbx hbe ⊢
  clear hW
  obtain ⟨tb, htb⟩ : ∃ tb, w.heap.size = tb := ⟨_, rfl⟩
  have hlW := hl.bel hbl0 hlt
  have hdW := h.bel hbl0
  have hbW := hb.bel hbl0
  rw [htb] at hbx hbe hsz ⊢
  have b0 := hbx.at' 0
  have l0W := hlW.at' 0
  have l1W := hlW.at' 1
  have l2W := hlW.at' 2
  simp at b0 l0W l1W l2W
  have hfw := frame_walk (w := W.drew) (k := n) (hbW.bel (Below.refl _ _).drew) (by omega) (by omega)
  have hap := fun (w1 : World) (u : Value) (h1 : DkAt w1 B db mb rv d) (hB1 : B ≤ w1.heap.size) (hu : Sees w1 1 u (bv (frame frameH n x))) (hF : ∀ g, Value.leads u = some g → ¬ DF db mb rv d g) => dappend_walk h1 hB1 hk hoff hu hfr hroom hlen hF
  rw [hf] at hap
  simp only [Bool.false_eq_true, if_false, if_true] at hap
  obtain ⟨F, hF⟩ : ∃ F, frame frameH n x = F := ⟨_, rfl⟩
  rw [hF] at hap hfw
  clear l0 l1 l2 l3
  have hltF : ∀ g, DF db mb rv d g → g < tb := fun g hg => by rw [← htb]; exact h.lt_of hg
  have hlgF : ¬ DF db mb rv d lg := h.not hl (by decide) (by decide)
  go_region_held3 (fun w' => w'.cell? ⟨tb, 0, none⟩ = some (.pointer (some ⟨lg, 0, none⟩)) ∧ w'.cell? ⟨lg, 0, none⟩ = some (.pointer (some ⟨db, 0, none⟩)) ∧ w'.cell? ⟨lg, 1, none⟩ = some (.int .i64 (k : Int)) ∧ w'.cell? ⟨lg, 2, none⟩ = some (.int .i64 (n : Int)))
    (first
      | go_keep)
    (first
      | (go_at_call 19; refine hfw.mono ?_; rintro _ w5 ⟨u5, rfl, hrow5, hB5⟩; have e1 : w5.cell? ⟨tb, 0, none⟩ = some (.pointer (some ⟨lg, 0, none⟩)) := (hB5.cell (p := ⟨tb, 0, none⟩) (by { show tb < W.heap.size; omega })).trans b0; have e2 : w5.cell? ⟨lg, 0, none⟩ = some (.pointer (some ⟨db, 0, none⟩)) := (hB5.cell (p := ⟨lg, 0, none⟩) (by { show lg < W.heap.size; omega })).trans l0W; have e3 : w5.cell? ⟨lg, 1, none⟩ = some (.int .i64 (k : Int)) := (hB5.cell (p := ⟨lg, 1, none⟩) (by { show lg < W.heap.size; omega })).trans l1W; have e4 : w5.cell? ⟨lg, 2, none⟩ = some (.int .i64 (n : Int)) := (hB5.cell (p := ⟨lg, 2, none⟩) (by { show lg < W.heap.size; omega })).trans l2W; have hd5 := hdW.drew.bel hB5; have hs5 : tb + 2 ≤ w5.heap.size := (by { have := hB5.size; have : W.drew.heap.size = W.heap.size := rfl; omega }); have hap5 := hap w5 u5 hd5 (by omega) (Sees.row hrow5) (fun g hg e => by { have e1 := hltF g e; have e2 := leads_own hrow5 hg; have : W.drew.heap.size = W.heap.size := rfl; omega }))
      | (go_at_call 67; refine hap5.mono ?_; rintro _ w6 ⟨rv6, rfl, hd6, hC6, hn6⟩; have e5 := (hC6.cell (p := ⟨tb, 0, none⟩) (by { show tb < w5.heap.size; omega }) (fun e => by { have := hltF tb e; omega })).trans e1; have e6 := (hC6.cell (p := ⟨lg, 0, none⟩) (by { show lg < w5.heap.size; omega }) hlgF).trans e2; have e7 := (hC6.cell (p := ⟨lg, 1, none⟩) (by { show lg < w5.heap.size; omega }) hlgF).trans e3; have e8 := (hC6.cell (p := ⟨lg, 2, none⟩) (by { show lg < w5.heap.size; omega }) hlgF).trans e4))
  have hs6 := hC6.size
  have hl6 : Blk w6 lg 103 #[.pointer (some ⟨db, 0, none⟩), .int .i64 (k : Int), .int .i64 (n : Int), .bool false] := (hlW.drew.bel hB5 (by show lg < W.heap.size; omega)).chg hC6 hlgF
  have hbe6 : Blk w6 (tb + 1) 25 #[.int .i64 0] := (hbe.drew.bel hB5 (by show tb + 1 < W.heap.size; omega)).chg hC6 (fun e => by have := hltF _ e; omega)
  have hbx6 : Blk w6 tb 63 #[.pointer (some ⟨lg, 0, none⟩)] := (hbx.drew.bel hB5 (by show tb < W.heap.size; omega)).chg hC6 (fun e => by have := hltF _ e; omega)
  clear hap hfw hap5 hrow5 hd5 e1 e2 e3 e4 hbW hdW hlW l0W l1W l2W b0 hb hA h hl hf
  have x0 := hbx6.at' 0
  have y0 := hbe6.at' 0
  have yz := hbe6.thaw 0
  have z2 := hl6.at' 2
  have zf := hl6.thaw 2
  have hlt7 := hl6.lt
  simp at x0 y0 z2
  have n1 : ¬ lg = tb + 1 := by omega
  have n2 : ¬ tb + 1 = lg := by omega
  have n3 : ¬ tb = lg := by omega
  have n4 : ¬ lg = tb := by omega
  have H2 := Lib.hid hlgF
  have H3 := Lib.hid hltF
  have H4 := Lib.hid hC6
  have H5 := Lib.hid hn6
  have H6 := Lib.hid hB5
  have H7 := Lib.hid hbl0
  have H9 := Lib.hid hd6
  clear hlgF hltF hC6 hn6 hB5 hbl0 hd6
  clear e5 e6 e7 e8 hs6 hbx hbe hroom hlen hfr hxm hmc hx' g2
  go_wp2
  refine leaves_cons (f := 66) (args := #[.pointer (some ⟨tb + 1, 0, none⟩), .pointer (some ⟨tb, 0, none⟩)]) (by simp) (by simp [go_sem]) ?_
  have hbe8 : Blk (w6.setCell ⟨tb + 1, 0, none⟩ (.int .i64 19)) (tb + 1) 25 #[.int .i64 19] := by
    have := hbe6.put 0 (.int .i64 19)
    simpa using this
  have hbx8 := hbx6.away (p := ⟨tb + 1, 0, none⟩) (Nat.ne_of_lt (Nat.lt_succ_self tb)) (.int .i64 19)
  have hl8 := hl6.away (p := ⟨tb + 1, 0, none⟩) n1 (.int .i64 19)
  have hc0 := hbe8.at' 0
  have ht0 := hbx8.at' 0
  simp only [List.getElem?_toArray, List.getElem?_cons_zero] at hc0 ht0
  refine (jdefer_down hl8 (by simp) hc0 ht0 .returning).mono ?_
  rintro e u' w'' ⟨rfl, rfl, rfl⟩
  have hbe9 := hbe8.away (p := ⟨lg, 3, none⟩) n2 (.bool true)
  have hl9 := hl8.put 3 (.bool true)
  have hc9 := hbe9.at' 0
  simp only [List.getElem?_toArray, List.getElem?_cons_zero] at hc9
  refine ⟨_, results_cell1 (by rfl) _ _ ⟨tb + 1, 0, none⟩ (.int .i64 19) (by rfl) (by rfl) hc9, rv6, rfl, ?_, ?_, ?_, ?_⟩
  · rw [hF]
    refine H9.chg (F := fun g => g = lg ∨ g = tb + 1) (((Chg.refl _ w6).setCell (p := ⟨tb + 1, 0, none⟩) (.inr (.inr rfl)) _).setCell (p := ⟨lg, 3, none⟩) (.inr (.inl rfl)) _) fun g hg e => ?_
    rcases e with rfl | rfl
    · exact H9.not hl6 (by decide) (by decide) hg
    · exact H9.not hbe6 (by decide) (by decide) hg
  · simpa using hl9
  · have c1 : Chg (DF db mb rv d) w w6 := ((Chg.of_below H7).trans ((Chg.refl _ W).drew.trans (Chg.of_below H6) fun _ _ h => h) fun _ _ h => h).trans H4 fun _ _ h => h
    have c2 := c1
    exact ((c2.more fun _ _ h => .inl h).setCell (p := ⟨tb + 1, 0, none⟩) (.inl (by show w.heap.size ≤ tb + 1; omega)) _).setCell (p := ⟨lg, 3, none⟩) (.inr (.inr rfl)) _
  · intro g hg
    rw [hF] at hg
    rcases H5 g (DF.of_fs hg (Dk.put_fs (Dk.step_fs d) k _)) with h1 | h1
    · exact .inl h1
    · right; omega
set_option maxRecDepth 1000000 in
set_option maxHeartbeats 4000000 in
theorem jappend_down2 {w : World} {B db mb lg k n : Nat} {rv : Nat → Value} {d : Dk} (h : DkAt w B db mb rv d) (hB : B ≤ w.heap.size) (hk : k < 64) (hoff : d.off = false) (hf : d.fails = false) (hf2 : d.step.fails = true)
    (hl : Blk w lg 103 #[.pointer (some ⟨db, 0, none⟩), .int .i64 (k : Int), .int .i64 (n : Int), .bool false]) (hn : n < 1000000) {b : Value} {x : List UInt8} (hb : Sees w 1 b (bv x)) (hx : x.length ≤ 65536)
    (hroom : ((frame frameH n x).length : Int) ≤ d.room - d.used) (hlen : d.len k + (frame frameH n x).length ≤ 16777216) (hfr : (frame frameH n x).length ≤ 1000000) :
    Calls Tryz.prog 36 #[.pointer (some ⟨lg, 0, none⟩), b] w fun e w' => ∃ rv', e = .returned (.int .i64 19) ∧ DkAt w' B db mb rv' ((d.step.put k ⟨(d.fi k).bytes ++ frame frameH n x, (d.fi k).dur⟩).step) ∧
      Blk w' lg 103 #[.pointer (some ⟨db, 0, none⟩), .int .i64 (k : Int), .int .i64 (n : Int), .bool true] ∧ Chg (fun g => DF db mb rv d g ∨ g = lg) w w' ∧ (∀ g, DF db mb rv' (d.put k ⟨(d.fi k).bytes ++ frame frameH n x, (d.fi k).dur⟩) g → DF db mb rv d g ∨ w.heap.size ≤ g) := by
  obtain ⟨A, m, c, rfl, hxm, hmc, hA⟩ := id hb
  have hxn : x.length = m := by rw [bv_len] at hxm; omega
  subst hxn
  have hx' : ¬ (65536 : Int) < (x.length : Int) := by omega
  have l0 := hl.at' 0
  have l1 := hl.at' 1
  have l2 := hl.at' 2
  have l3 := hl.at' 3
  have g2 := hl.thaw 2
  have hlt := hl.lt
  have hdlt := h.blk.lt
  simp at l0 l1 l2 l3
  go_enter_defers Tryz.func36, Tryz.ntmps36
  go_wp2
  have hsz : ((w.alloc (.cells #[.pointer (some ⟨lg, 0, none⟩)] 63)).alloc (.cells #[.int .i64 0] 25)).heap.size = w.heap.size + 2 := by simp
  have hbl0 : Below w.heap.size w ((w.alloc (.cells #[.pointer (some ⟨lg, 0, none⟩)] 63)).alloc (.cells #[.int .i64 0] 25)) := ((Below.refl _ w).alloc (Nat.le_refl _) _).alloc (by simp) _
  have hbx := (Blk.made w 63 #[.pointer (some ⟨lg, 0, none⟩)]).alloc (.cells #[.int .i64 0] 25)
  have hbe := Blk.made (w.alloc (.cells #[.pointer (some ⟨lg, 0, none⟩)] 63)) 25 #[.int .i64 0]
  rw [World.size_alloc] at hbe
  obtain ⟨W, hW⟩ : ∃ W, ((w.alloc (.cells #[.pointer (some ⟨lg, 0, none⟩)] 63)).alloc (.cells #[.int .i64 0] 25)) = W := ⟨_, rfl⟩
  rw [hW] at hsz hbl0 hbx hbe ⊢
  clear hW
  obtain ⟨tb, htb⟩ : ∃ tb, w.heap.size = tb := ⟨_, rfl⟩
  have hlW := hl.bel hbl0 hlt
  have hdW := h.bel hbl0
  have hbW := hb.bel hbl0
  rw [htb] at hbx hbe hsz ⊢
  have b0 := hbx.at' 0
  have l0W := hlW.at' 0
  have l1W := hlW.at' 1
  have l2W := hlW.at' 2
  simp at b0 l0W l1W l2W
  have hfw := frame_walk (w := W.drew) (k := n) (hbW.bel (Below.refl _ _).drew) (by omega) (by omega)
  have hap := fun (w1 : World) (u : Value) (h1 : DkAt w1 B db mb rv d) (hB1 : B ≤ w1.heap.size) (hu : Sees w1 1 u (bv (frame frameH n x))) (hF : ∀ g, Value.leads u = some g → ¬ DF db mb rv d g) => dappend_walk h1 hB1 hk hoff hu hfr hroom hlen hF
  rw [hf] at hap
  simp only [Bool.false_eq_true, if_false, if_true] at hap
  obtain ⟨F, hF⟩ : ∃ F, frame frameH n x = F := ⟨_, rfl⟩
  rw [hF] at hap hfw
  clear l0 l1 l2 l3
  have hltF : ∀ g, DF db mb rv d g → g < tb := fun g hg => by rw [← htb]; exact h.lt_of hg
  have hlgF : ¬ DF db mb rv d lg := h.not hl (by decide) (by decide)
  go_region_held3 (fun w' => w'.cell? ⟨tb, 0, none⟩ = some (.pointer (some ⟨lg, 0, none⟩)) ∧ w'.cell? ⟨lg, 0, none⟩ = some (.pointer (some ⟨db, 0, none⟩)) ∧ w'.cell? ⟨lg, 1, none⟩ = some (.int .i64 (k : Int)) ∧ w'.cell? ⟨lg, 2, none⟩ = some (.int .i64 (n : Int)))
    (first
      | go_keep)
    (first
      | (go_at_call 19; refine hfw.mono ?_; rintro _ w5 ⟨u5, rfl, hrow5, hB5⟩; have e1 : w5.cell? ⟨tb, 0, none⟩ = some (.pointer (some ⟨lg, 0, none⟩)) := (hB5.cell (p := ⟨tb, 0, none⟩) (by { show tb < W.heap.size; omega })).trans b0; have e2 : w5.cell? ⟨lg, 0, none⟩ = some (.pointer (some ⟨db, 0, none⟩)) := (hB5.cell (p := ⟨lg, 0, none⟩) (by { show lg < W.heap.size; omega })).trans l0W; have e3 : w5.cell? ⟨lg, 1, none⟩ = some (.int .i64 (k : Int)) := (hB5.cell (p := ⟨lg, 1, none⟩) (by { show lg < W.heap.size; omega })).trans l1W; have e4 : w5.cell? ⟨lg, 2, none⟩ = some (.int .i64 (n : Int)) := (hB5.cell (p := ⟨lg, 2, none⟩) (by { show lg < W.heap.size; omega })).trans l2W; have hd5 := hdW.drew.bel hB5; have hs5 : tb + 2 ≤ w5.heap.size := (by { have := hB5.size; have : W.drew.heap.size = W.heap.size := rfl; omega }); have hap5 := hap w5 u5 hd5 (by omega) (Sees.row hrow5) (fun g hg e => by { have e1 := hltF g e; have e2 := leads_own hrow5 hg; have : W.drew.heap.size = W.heap.size := rfl; omega }))
      | (go_at_call 67; refine hap5.mono ?_; rintro _ w6 ⟨rv6, rfl, hd6, hC6, hn6⟩; have e5 := (hC6.cell (p := ⟨tb, 0, none⟩) (by { show tb < w5.heap.size; omega }) (fun e => by { have := hltF tb e; omega })).trans e1; have e6 := (hC6.cell (p := ⟨lg, 0, none⟩) (by { show lg < w5.heap.size; omega }) hlgF).trans e2; have e7 := (hC6.cell (p := ⟨lg, 1, none⟩) (by { show lg < w5.heap.size; omega }) hlgF).trans e3; have e8 := (hC6.cell (p := ⟨lg, 2, none⟩) (by { show lg < w5.heap.size; omega }) hlgF).trans e4))
  have hsy := dsync_walk hd6 (Dk.step_off hf hoff)
  rw [Dk.put_fails, hf2] at hsy
  simp only [if_true] at hsy
  have hs6 := hC6.size
  have hl6 : Blk w6 lg 103 #[.pointer (some ⟨db, 0, none⟩), .int .i64 (k : Int), .int .i64 (n : Int), .bool false] := (hlW.drew.bel hB5 (by show lg < W.heap.size; omega)).chg hC6 hlgF
  have hbe6 : Blk w6 (tb + 1) 25 #[.int .i64 0] := (hbe.drew.bel hB5 (by show tb + 1 < W.heap.size; omega)).chg hC6 (fun e => by have := hltF _ e; omega)
  have hbx6 : Blk w6 tb 63 #[.pointer (some ⟨lg, 0, none⟩)] := (hbx.drew.bel hB5 (by show tb < W.heap.size; omega)).chg hC6 (fun e => by have := hltF _ e; omega)
  clear hap hfw hap5 hrow5 hd5 e1 e2 e3 e4 hbW hdW hlW l0W l1W l2W b0 hb hA h hl hf
  go_wp2_with fail
  refine hsy.mono ?_
  rintro _ w7 ⟨rfl, hd7, hC7⟩
  have hne1 : ∀ (g : Nat) (t : TypeId) (cs : Array Value), Blk w6 g t cs → 62 ≠ t → ¬ (g = db ∨ g = mb) := fun g t cs hg ht e => by
    rcases e with rfl | rfl
    · exact Blk.two hd6.blk hg ht rfl
    · exact IMap.not_blk hd6.map hg rfl
  have hl7 := hl6.chg hC7 (hne1 _ _ _ hl6 (by decide))
  have hbe7 := hbe6.chg hC7 (hne1 _ _ _ hbe6 (by decide))
  have hbx7 := hbx6.chg hC7 (hne1 _ _ _ hbx6 (by decide))
  have x0 := hbx7.at' 0
  have y0 := hbe7.at' 0
  have yz := hbe7.thaw 0
  have z2 := hl7.at' 2
  have zf := hl7.thaw 2
  have hlt7 := hl7.lt
  simp at x0 y0 z2
  have n1 : ¬ lg = tb + 1 := by omega
  have n2 : ¬ tb + 1 = lg := by omega
  have n3 : ¬ tb = lg := by omega
  have n4 : ¬ lg = tb := by omega
  have H2 := Lib.hid hlgF
  have H3 := Lib.hid hltF
  have H4 := Lib.hid hC6
  have H5 := Lib.hid hn6
  have H6 := Lib.hid hB5
  have H7 := Lib.hid hbl0
  have H8 := Lib.hid hC7
  have H9 := Lib.hid hd7
  clear hlgF hltF hC6 hn6 hB5 hbl0 hC7 hd7
  clear hne1 hsy e5 e6 e7 e8 hs6 hbx hbe hroom hlen hfr hxm hmc hx' hd6 hl6 hbe6 hbx6 g2
  go_wp2
  refine leaves_cons (f := 66) (args := #[.pointer (some ⟨tb + 1, 0, none⟩), .pointer (some ⟨tb, 0, none⟩)]) (by simp) (by simp [go_sem]) ?_
  have hbe8 : Blk (w7.setCell ⟨tb + 1, 0, none⟩ (.int .i64 19)) (tb + 1) 25 #[.int .i64 19] := by
    have := hbe7.put 0 (.int .i64 19)
    simpa using this
  have hbx8 := hbx7.away (p := ⟨tb + 1, 0, none⟩) (Nat.ne_of_lt (Nat.lt_succ_self tb)) (.int .i64 19)
  have hl8 := hl7.away (p := ⟨tb + 1, 0, none⟩) n1 (.int .i64 19)
  have hc0 := hbe8.at' 0
  have ht0 := hbx8.at' 0
  simp only [List.getElem?_toArray, List.getElem?_cons_zero] at hc0 ht0
  refine (jdefer_down hl8 (by simp) hc0 ht0 .returning).mono ?_
  rintro e u' w'' ⟨rfl, rfl, rfl⟩
  have hbe9 := hbe8.away (p := ⟨lg, 3, none⟩) n2 (.bool true)
  have hl9 := hl8.put 3 (.bool true)
  have hc9 := hbe9.at' 0
  simp only [List.getElem?_toArray, List.getElem?_cons_zero] at hc9
  refine ⟨_, results_cell1 (by rfl) _ _ ⟨tb + 1, 0, none⟩ (.int .i64 19) (by rfl) (by rfl) hc9, rv6, rfl, ?_, ?_, ?_, ?_⟩
  · rw [hF]
    refine H9.chg (F := fun g => g = lg ∨ g = tb + 1) (((Chg.refl _ w7).setCell (p := ⟨tb + 1, 0, none⟩) (.inr (.inr rfl)) _).setCell (p := ⟨lg, 3, none⟩) (.inr (.inl rfl)) _) fun g hg e => ?_
    rcases e with rfl | rfl
    · exact H9.not hl7 (by decide) (by decide) hg
    · exact H9.not hbe7 (by decide) (by decide) hg
  · simpa using hl9
  · have c1 : Chg (DF db mb rv d) w w6 := ((Chg.of_below H7).trans ((Chg.refl _ W).drew.trans (Chg.of_below H6) fun _ _ h => h) fun _ _ h => h).trans H4 fun _ _ h => h
    have c2 : Chg (DF db mb rv d) w w7 := c1.trans H8 fun g _ e => by
      rcases e with rfl | rfl
      · exact .inl rfl
      · exact .inr (.inl rfl)
    exact ((c2.more fun _ _ h => .inl h).setCell (p := ⟨tb + 1, 0, none⟩) (.inl (by show w.heap.size ≤ tb + 1; omega)) _).setCell (p := ⟨lg, 3, none⟩) (.inr (.inr rfl)) _
  · intro g hg
    rw [hF] at hg
    rcases H5 g (DF.of_fs hg (Dk.put_fs (Dk.step_fs d) k _)) with h1 | h1
    · exact .inl h1
    · right; omega
/-- behind a step that died: the record's bytes lie in the file, loose -/
structure Down (d d' : Dk) (k n : Nat) (x : List UInt8) : Prop where
  fs : d'.fs = (d.put k ⟨(d.fi k).bytes ++ frame frameH n x, (d.fi k).dur⟩).fs
  off : d'.off = true
  used : d'.used = d.used + (frame frameH n x).length
  room : d'.room = d.room
theorem Dk.step_fi (d : Dk) (k : Nat) : d.step.fi k = d.fi k := (Dk.step_len d k).2
theorem Dk.put_used (d : Dk) (k : Nat) (x : List UInt8) (m : Nat) : (d.put k ⟨(d.fi k).bytes ++ x, m⟩).used = d.used + x.length := by
  unfold Dk.put Dk.len
  simp only [List.length_append]
  omega
theorem jappend_down {w : World} {B db mb lg k n : Nat} {rv : Nat → Value} {d : Dk} (h : DkAt w B db mb rv d) (hB : B ≤ w.heap.size) (hk : k < 64) (hoff : d.off = false) (hd : d.dies = true)
    (hl : Blk w lg 103 #[.pointer (some ⟨db, 0, none⟩), .int .i64 (k : Int), .int .i64 (n : Int), .bool false]) (hn : n < 1000000) {b : Value} {x : List UInt8} (hb : Sees w 1 b (bv x)) (hx : x.length ≤ 65536)
    (hroom : ((frame frameH n x).length : Int) ≤ d.room - d.used) (hlen : d.len k + (frame frameH n x).length ≤ 16777216) (hfr : (frame frameH n x).length ≤ 1000000) :
    Calls Tryz.prog 36 #[.pointer (some ⟨lg, 0, none⟩), b] w fun e w' => ∃ rv' d', e = .returned (.int .i64 19) ∧ DkAt w' B db mb rv' d' ∧ Down d d' k n x ∧
      Blk w' lg 103 #[.pointer (some ⟨db, 0, none⟩), .int .i64 (k : Int), .int .i64 (n : Int), .bool true] ∧ Chg (fun g => DF db mb rv d g ∨ g = lg) w w' := by
  have hu := Dk.put_used d.step k (frame frameH n x) (d.fi k).dur
  rw [Dk.step_fi] at hu
  have hr := Dk.step_room d
  cases hf : d.fails with
  | true =>
    refine (jappend_down1 h hB hk hoff hf hl hn hb hx hroom hlen hfr).mono ?_
    rintro e w' ⟨rv', rfl, hd', hl', hC, _⟩
    exact ⟨rv', _, rfl, hd', ⟨Dk.put_fs (Dk.step_fs d) k _, (Dk.step_died hf).1, hu.trans (by rw [hr.2]), hr.1⟩, hl', hC⟩
  | false =>
    have hf2 : d.step.fails = true := by unfold Dk.dies at hd; rw [hf] at hd; simpa using hd
    refine (jappend_down2 h hB hk hoff hf hf2 hl hn hb hx hroom hlen hfr).mono ?_
    rintro e w' ⟨rv', rfl, hd', hl', hC, _⟩
    have hp := Dk.step_room (d.step.put k ⟨(d.fi k).bytes ++ frame frameH n x, (d.fi k).dur⟩)
    exact ⟨rv', _, rfl, hd', ⟨(Dk.step_fs _).trans (Dk.put_fs (Dk.step_fs d) k _), (Dk.step_died (d := d.step.put k _) hf2).1, hp.2.trans (hu.trans (by rw [hr.2])), hp.1.trans hr.1⟩, hl', hC⟩
end Go.Proofs.YtkndgmjlphppdaaGreatDoor
namespace Go.Proofs.YtkndgmjlphppdaaGreatDoor
open Go Go.RowKit Go.Imap

/-- behind a crash: kp of the loose bytes of the file k have survived -/
def Dk.cut (d : Dk) (k kp : Nat) : Dk := d.put k ⟨(d.fi k).bytes.take ((d.fi k).dur + kp), (d.fi k).dur⟩
def Dk.crash (d : Dk) (k kp : Nat) : Dk := { (d.cut k kp).harden with off := false, armed := false, left := 0 }
theorem one_key : ∀ k, k < 64 → ((List.range 64).filter fun j => decide (j = k)) = [k] := by decide +kernel
theorem keys_one {d : Dk} (hd : d.WF) {k : Nat} (h : ∀ j, (d.fs j).isSome = true ↔ j = k) : keysOf d = [k] := by
  have hk : k < 64 := by
    obtain ⟨f, hf⟩ := Option.isSome_iff_exists.1 ((h k).2 rfl)
    exact hd.key k f hf
  unfold keysOf
  rw [← one_key k hk]
  refine List.filter_congr fun j _ => ?_
  rw [Bool.eq_iff_iff, h j, decide_eq_true_iff]
theorem crash_nums {L D kp m : Nat} (h : L ≤ 16777216) (h2 : D ≤ L) (h3 : (kp : Int) ≤ (L : Int) - (D : Int)) (hm : D + kp = m) : wrap64 ((L : Int) - (D : Int)) = (L : Int) - (D : Int) ∧ wrap64 ((D : Int) + (kp : Int)) = (m : Int) ∧ wrap64 (kp : Int) = (kp : Int) := by
  refine ⟨?_, ?_, ?_⟩ <;> unfold wrap64 <;> omega
set_option maxRecDepth 1000000 in
set_option maxHeartbeats 4000000 in
theorem crash_walk {w : World} {B db mb : Nat} {rv : Nat → Value} {d : Dk} (h : DkAt w B db mb rv d) {k : Nat} (hks : keysOf d = [k]) (hk : k < 64) (hsome : (d.fs k).isSome = true) (hused : (d.len k : Int) ≤ d.used) {kb kp : Nat} {z : Int} (hz1 : -9223372036854775808 ≤ z) (hz2 : z ≤ 9223372036854775807)
    (hkp : min (max z 0) ((d.len k : Int) - ((d.fi k).dur : Int)) = (kp : Int)) (hkb : w.cell? ⟨kb, 0, none⟩ = some (.int .i64 z)) (hklt : kb < w.heap.size) :
    Calls Tryz.prog 27 #[.pointer (some ⟨db, 0, none⟩), .slice (some ⟨kb, 0, none⟩) 1 1, .int .i64 (-1)] w fun e w' => ∃ rv', e = .returned (.tuple #[]) ∧
      DkAt w' B db mb rv' (d.crash k kp) ∧ Chg (fun x => x = db ∨ x = mb) w w' := by
  have hfi := files_walk h
  rw [hks] at hfi
  have hll := Dk.len_le h.wf k
  obtain ⟨m, hmd⟩ : ∃ m, (d.fi k).dur + kp = m := ⟨_, rfl⟩
  have hkp1 : (kp : Int) ≤ (d.len k : Int) - ((d.fi k).dur : Int) := by rw [← hkp]; exact Int.min_le_right _ _
  have HKP := Lib.hid hkp
  clear hkp
  have hmL : m ≤ d.len k := by omega
  have htl : ((d.fi k).bytes.take m).length = m := by
    rw [List.length_take]
    exact Nat.min_eq_left hmL
  have hwfp : (d.cut k kp).WF := by
    unfold Dk.cut
    rw [hmd]
    refine h.wf.put hk ?_ ?_ ?_
    · show (d.fi k).dur ≤ ((d.fi k).bytes.take m).length
      omega
    · show ((d.fi k).bytes.take m).length ≤ 16777216
      omega
    · show 0 ≤ d.used + ((((d.fi k).bytes.take m).length : Int) - d.len k) ∧ d.used + ((((d.fi k).bytes.take m).length : Int) - d.len k) ≤ d.room
      have := h.wf.used
      rw [htl]
      omega
  have hmlt := h.map.lt
  have hlt := h.blk.lt
  have HW := Lib.hid (crash_nums hll.1 hll.2 hkp1 hmd)
  go_enter Tryz.func27, Tryz.ntmps27
  go_wp2_with fail
  go_at_call 49
  refine hfi.mono ?_
  clear hfi
  rintro _ w1 ⟨v, rfl, hrow1, hB1⟩
  obtain ⟨A, c, rfl, hnc⟩ := row_form hrow1
  have hd1 := h.bel hB1
  have hklt1 : kb < w1.heap.size := Nat.lt_of_lt_of_le hklt hB1.size
  have hkb1 := (hB1.cell (p := ⟨kb, 0, none⟩) hklt).trans hkb
  have hrow1' : w1.ownsRow w.heap.size 3 1 (.slice A 1 c) 1 (kv [k]) := hrow1
  obtain ⟨g, hge, hg1, hg2, hcell⟩ : ∃ g, A = some ⟨g, 0, none⟩ ∧ w.heap.size ≤ g ∧ g < w1.heap.size ∧ w1.cell? ⟨g, 0, none⟩ = some (.int .i64 (k : Int)) := by
    rcases hrow1'.2 with ⟨h1, _⟩ | ⟨g, cap, cur, h1, h2, h3, _⟩
    · have e := (Value.slice.inj h1).2.1
      omega
    · cases h1
      have := hrow1'.cells (g := g) rfl 0 (.int .i64 (k : Int)) (by simp [kv])
      rw [add_flat] at this
      exact ⟨g, rfl, h2, (Array.getElem?_eq_some_iff.1 h3).1, by simpa using this⟩
  subst hge
  clear hrow1 hrow1'
  go_wp2
  go_loopw [7, 16] (fun lv iv wr => (iv = .int .i64 0 ∧ lv = .int .i64 0 ∧ wr = w1) ∨ (iv = .int .i64 1 ∧ lv = .int .i64 (kp : Int) ∧ ∃ rv', DkAt wr B db mb rv' (d.cut k kp) ∧ Chg (fun x => x = db ∨ x = mb) w wr)) (fun _ iv _ => 1 - (intOf iv).toNat)
  case atStart => exact .inl ⟨rfl, rfl, rfl⟩
  case round =>
    rcases hrel with ⟨rfl, rfl, rfl⟩ | ⟨rfl, rfl, rv', hdk, hC⟩
    · obtain ⟨A1, c1, ho, hrow, hrv, hnone⟩ := hd1.old' k
      have hlk := look_file hd1.map hk ho wr rfl
      have hb := hd1.blk
      have c2' := hb.at' 2
      simp at c2'
      have hcn : (m : Int) ≤ (c1 : Int) := by
        obtain ⟨A', c', e, hc⟩ := row_form hrow
        have := (Value.slice.inj e).2.2
        omega
      have hsl : (if (c1 : Int) = 0 then A1 else A1.map fun x => x.add 0) = A1 := by
        rcases hrow.2 with ⟨h1, _⟩ | ⟨g, cap, cur, h1, _⟩
        · have := (Value.slice.inj h1).1
          subst this
          simp
        · have := (Value.slice.inj h1).1
          subst this
          simp [Addr.add]
      have hn1 : (m : Int) ≤ (d.len k : Int) := by omega
      have hown : ∀ i, i ≠ k → (d.fs i).isSome → ∀ g, (Value.slice A1 m c1).ownBlock = some g → (rv i).ownBlock ≠ some g := fun i hik hi g hg => by
        refine hd1.apart k i hsome hi (fun e => hik e.symm) g ?_
        rw [hrv hsome]
        cases A1 with
        | none => cases hg
        | some a => exact hg
      have hbt : bv ((d.fi k).bytes.take m) = (bv (d.fi k).bytes).take m := by simp [bv]
      have hput : ∀ W, DkBut W B db mb rv d k → W.ownsRow B 5 1 (.slice A1 m c1) m (bv ((d.fi k).bytes.take m)) → Calls Tryz.prog 50 #[.pointer (some ⟨db, 0, none⟩), .int .i64 (k : Int), .agg #[.slice A1 m c1, .int .i64 ((d.fi k).dur : Int)]] W fun e w' => e = .returned (.tuple #[]) ∧ DkAt w' B db mb (fun i => if i = k then .slice A1 m c1 else rv i) (d.cut k kp) ∧ Chg (fun x => x = db ∨ x = mb) W w' := fun W hbut hrow => by
        have hp := put_walk hbut hk (f := ⟨(d.fi k).bytes.take m, (d.fi k).dur⟩) (v := .slice A1 m c1) (by show World.ownsRow _ _ _ _ _ ((d.fi k).bytes.take m).length _; rw [htl]; exact hrow) hown (by rw [← hmd]; exact hwfp)
        unfold Dk.cut
        rw [hmd]
        exact hp
      have HT := Lib.hid hbt
      have HR := Lib.hid hrow
      have HD := Lib.hid hd1
      have HP := Lib.hid hput
      have HB := Lib.hid hB1
      clear hbt hrow hd1 hput hB1 hown hwfp htl hks hrv hnone ho hb h hll
      obtain ⟨hw1, hw2, hw3⟩ := HW.out
      go_wp2_with fail
      go_region
      rw [HKP.out]
      have hwb : Chg (fun _ => False) wr (wr.alloc (.cells #[.slice A1 (d.len k) c1, .int .i64 ((d.fi k).dur : Int)] 96)).drew := ((Chg.refl _ wr).alloc _).drew
      have hbox : Blk (wr.alloc (.cells #[.slice A1 (d.len k) c1, .int .i64 ((d.fi k).dur : Int)] 96)).drew wr.heap.size 96 #[.slice A1 (d.len k) c1, .int .i64 ((d.fi k).dur : Int)] := Blk.made wr 96 #[.slice A1 (d.len k) c1, .int .i64 ((d.fi k).dur : Int)]
      obtain ⟨W1, hW1⟩ : ∃ W1, (wr.alloc (.cells #[.slice A1 (d.len k) c1, .int .i64 ((d.fi k).dur : Int)] 96)).drew = W1 := ⟨_, rfl⟩
      rw [hW1] at hwb hbox ⊢
      clear hW1
      have hsz1 := hwb.size
      obtain ⟨S, hS⟩ : ∃ S, wr.heap.size = S := ⟨_, rfl⟩
      rw [hS] at hbox ⊢
      have hdS : db < S := by rw [← hS]; exact HD.out.blk.lt
      have hmS : mb < S := by rw [← hS]; exact HD.out.map.lt
      have q0 := hbox.at' 0
      have q1 := hbox.at' 1
      have f0 := hbox.thaw 0
      have hSlt := hbox.lt
      simp at q0 q1
      have hW2 : ∀ u, Chg (fun g => g = S) W1 (W1.setCell ⟨S, 0, none⟩ u) := fun u => (Chg.refl (fun g => g = S) W1).setCell (p := ⟨S, 0, none⟩) (.inr rfl) u
      have hltr : ∀ i f, d.fs i = some f → ∀ g, (rv i).ownBlock = some g → g < S := fun i f hf g hg => by rw [← hS]; exact (World.ownsRow.lt (HD.out.row i f hf) g hg).2
      have hltk : ∀ g, (Value.slice A1 (d.len k) c1).ownBlock = some g → g < S := fun g hg => by rw [← hS]; exact (World.ownsRow.lt HR.out g hg).2
      have hCS : Chg (fun g => g = S) wr (W1.setCell ⟨S, 0, none⟩ (.slice A1 m c1)) := (hwb.more (G := fun g => g = S) fun _ _ e => e.elim).setCell (p := ⟨S, 0, none⟩) (.inr rfl) _
      have hbut2 : DkBut (W1.setCell ⟨S, 0, none⟩ (.slice A1 m c1)) B db mb rv d k := (HD.out.but k).chg hCS (fun e => by omega) (fun e => by omega) fun i _ hi g hg e => by obtain ⟨f, hf⟩ := Option.isSome_iff_exists.1 hi; have := hltr i f hf g hg; omega
      have hrow2 : (W1.setCell ⟨S, 0, none⟩ (.slice A1 m c1)).ownsRow B 5 1 (.slice A1 m c1) m (bv ((d.fi k).bytes.take m)) := by
        rw [HT.out]
        exact row_take (row_chg HR.out hCS fun g hg e => by have := hltk g hg; omega) hmL
      have hpp := HP.out _ hbut2 hrow2
      have HCS := Lib.hid hCS
      clear hCS hbut2 hrow2 hltr hltk hwb
      go_wp2_with fail
      refine hpp.mono ?_
      clear hpp
      rintro _ w7 ⟨rfl, h7, hC7⟩
      have HH7 := Lib.hid h7
      have HC7 := Lib.hid hC7
      clear h7 hC7
      go_wp2
      refine ⟨.inr ⟨rfl, rfl, _, HH7.out, ?_⟩, by simp [intOf]⟩
      exact ((Chg.of_below HB.out).trans (HCS.out.more (G := fun g => wr.heap.size ≤ g) fun g _ e => by omega) fun g hg e => by have := HB.out.size; omega).trans HC7.out fun _ _ e => e
    · have hha := harden_walk hdk
      have hwfk : ({ (d.cut k kp).harden with off := false, armed := false, left := 0 } : Dk).WF := ⟨hwfp.harden.key, hwfp.harden.dur, hwfp.harden.room, hwfp.harden.used, Nat.zero_le _⟩
      clear h hd1 hwfp hll hks hsome hused HKP
      go_wp2_with fail
      refine hha.mono ?_
      clear hha
      rintro _ w2 ⟨rfl, h2, hC2⟩
      have hb2 := h2.blk
      have f3 := hb2.thaw 3
      have f4 := hb2.thaw 4
      have f5 := hb2.thaw 5
      have c3 := hb2.at' 3
      have c4 := hb2.at' 4
      have c5 := hb2.at' 5
      have hlt2 := hb2.lt
      simp at c3 c4 c5
      have H2 := Lib.hid h2
      have HC2 := Lib.hid hC2
      have HB2 := Lib.hid hb2
      clear h2 hC2 hb2
      go_wp2
      go_end0
      have hcc : Chg (Only db) w2 (((w2.setCell ⟨db, 3, none⟩ (.bool false)).setCell ⟨db, 4, none⟩ (.bool false)).setCell ⟨db, 5, none⟩ (.int .i64 0)) := (((Chg.refl (Only db) _).setCell (p := ⟨db, 3, none⟩) (.inr rfl) _).setCell (p := ⟨db, 4, none⟩) (.inr rfl) _).setCell (p := ⟨db, 5, none⟩) (.inr rfl) _
      refine ⟨rv', rfl, H2.out.rehead (d' := d.crash k kp) hcc (by have := ((HB2.out.put 3 (.bool false)).put 4 (.bool false)).put 5 (.int .i64 0); simpa [Dk.crash] using this) rfl hwfk, ?_⟩
      exact (hC.trans (HC2.out.more (G := fun x => x = db ∨ x = mb) fun g _ e => .inr e) fun _ _ e => e).trans (hcc.more (G := fun x => x = db ∨ x = mb) fun g _ e => .inl e) fun _ _ e => e
end Go.Proofs.YtkndgmjlphppdaaGreatDoor
