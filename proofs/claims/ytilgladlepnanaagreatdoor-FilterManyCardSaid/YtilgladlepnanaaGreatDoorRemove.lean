/-
  The filter's Remove, walked: ErrBusy, where the version is installed and is in use or has a connection; whatever the order in which the connections come.
-/
import Derived.Test.YtilgladlepnanaaGreatDoorSums
import Derived.Tactics
import Derived.Tactics2
import Derived.StillTactics
import Derived.WalkKit
import Derived.LoopTactic
import Derived.LoopN
import Derived.Laws.IdiomRangeMap
namespace Go.Ev
open Go
/-- the tape stays -/
def TapeOK (P : Program) {α : Type} (s : Sem α) : Prop := ∀ w x w', s.run P w = .ok x w' → w'.tape = w.tape
section
variable {P : Program} {α β : Type}
theorem tape_pure (a : α) : TapeOK P (pure a : Sem α) := fun w x w' h => by
  rw [run_ofPure] at h; cases h; rfl
theorem tape_halt (h : Halt) : TapeOK P (Sem.halt h : Sem α) := fun w x w' hh => by cases hh
theorem tape_bind {s : Sem α} {f : α → Sem β} (h1 : TapeOK P s) (h2 : ∀ a, TapeOK P (f a)) : TapeOK P (s >>= f) := fun w x w' h => by
  rw [Sem.run_bind] at h
  cases hs : s.run P w with
  | ok a w1 =>
    rw [hs] at h
    exact (h2 a w1 x w' h).trans (h1 w a w1 hs)
  | halt e w1 => rw [hs] at h; cases h
theorem tape_getObj (r : Nat) : TapeOK P (getObj r) := fun w x w' h => by
  simp only [getObj, Sem.run] at h
  split at h <;> first | (cases h; done) | (cases h; rfl)
theorem tape_setObj (r : Nat) (o : Obj) : TapeOK P (setObj r o) := fun w x w' h => by
  simp only [setObj, Sem.run] at h
  split at h <;> first | (cases h; done) | (cases h; rfl)
theorem tape_choose (q : Question) : TapeOK P (choose q) := fun w x w' h => by
  simp only [choose, Sem.run] at h
  split at h <;> (cases h; rfl)
theorem tape_next (v : Value) (ty : TypeId) : TapeOK P (Instr.next v false ty) := by
  unfold Instr.next
  repeat' first
    | exact tape_pure _
    | exact tape_halt _
    | exact tape_getObj _
    | exact tape_setObj _ _
    | exact tape_choose _
    | (refine tape_bind ?_ fun _ => ?_)
    | split
end
end Go.Ev
namespace Go.Proofs.YtilgladlepnanaaGreatDoor
open Go Go.Ev

set_option maxRecDepth 1000000 in
theorem remove_walk (bf sf bv bc : Nat) (m cur : Int) (ec : Array MapEntry) (clc : Nat) (y : Value) (w : World)
    (h3 : w.cell? ⟨bf, sf + 3, none⟩ = some (.int .i64 cur)) (h4 : w.cell? ⟨bf, sf + 4, none⟩ = some (.map (some bv))) (h5 : w.cell? ⟨bf, sf + 5, none⟩ = some (.map (some bc)))
    (hlk : (Instr.lookup 39 (.map (some bv)) (.int .i64 m) true).run Tryz.prog w = .ok (.tuple #[y, .bool true]) w)
    (hb : w.heap[bc]? = some (.map ec clc)) (hst1 : ∀ x ∈ ec.toList, x.born < clc) (hst2 : (ec.toList.map (·.born)).Nodup)
    (hval : ∀ x ∈ ec.toList, ∃ b o n, x.val = .pointer (some ⟨b, o, none⟩) ∧ b < w.heap.size ∧ w.cell? ⟨b, o, none⟩ = some (.int .i64 n))
    (hsome : m = cur ∨ ∃ x ∈ ec.toList, ∃ b o, x.val = .pointer (some ⟨b, o, none⟩) ∧ w.cell? ⟨b, o, none⟩ = some (.int .i64 m)) :
    Calls Tryz.prog 10 #[.pointer (some ⟨bf, sf, none⟩), .int .i64 m] w fun e w' => e = .returned (.int .i64 15) ∧ w'.tape = w.tape ∧ (w' = w ∨ ∃ (w1 : World) (seen : Array Nat), w1.Alike w ∧ w' = w1.alloc (.mapIter (some bc) clc seen clc)) := by
  have hrg := run_range_map (P := Tryz.prog) w 40 3 47 bc ec clc (by kernel_rfl) hb
  go_enter Tryz.func10, Tryz.ntmps10
  go_wp2
  · go_ret
    exact ⟨rfl, rfl, .inl rfl⟩
  · rename (m == cur) = false => hmc
    have hx : ∃ x ∈ ec.toList, ∃ b o, x.val = .pointer (some ⟨b, o, none⟩) ∧ w.cell? ⟨b, o, none⟩ = some (.int .i64 m) := hsome.resolve_left fun e => by subst e; simp at hmc
    go_loopw [] (fun w' => ∃ (w1 : World) (seen : Array Nat), (w1.Alike w ∧ w1.tape = w.tape) ∧ w' = w1.alloc (.mapIter (some bc) clc seen clc) ∧ ∀ x ∈ ec.toList, seen.contains x.born = true → ∀ b o, x.val = .pointer (some ⟨b, o, none⟩) → w.cell? ⟨b, o, none⟩ ≠ some (.int .i64 m)) (fun w' => (leftOf ec (w'.iterSeen w.heap.size)).size)
    case atStart => exact ⟨w, #[], ⟨⟨rfl, rfl, rfl⟩, rfl⟩, rfl, fun x _ h => by simp at h⟩
    case round =>
      obtain ⟨w1, seen, ⟨hal, htp⟩, rfl, hno⟩ := hrel
      have hsz : w1.heap.size = w.heap.size := by rw [hal.1]
      have hb1 : w1.heap[bc]? = some (.map ec clc) := by rw [hal.1]; exact hb
      have law := run_next_map (P := Tryz.prog) w1 0 bc clc clc seen ec clc hb1 hst1 (Nat.le_refl _)
      rw [hsz] at law
      rcases law with ⟨h0, hrun⟩ | ⟨e, he, w2, hal2, hrun⟩
      · exfalso
        obtain ⟨x, hx1, b, o, hx2, hx3⟩ := hx
        exact hno x hx1 (all_seen ec seen h0 x hx1) b o hx2 hx3
      · obtain ⟨b, o, n, hv, hlt, hcell⟩ := hval e (mem_left he).1
        have htp2 : w2.tape = w.tape := (tape_next _ _ _ _ _ hrun).trans htp
        rw [hv] at hrun
        have hnx : ∀ ty, (Instr.next (.pointer (some ⟨w.heap.size, 0, none⟩)) false ty).run Tryz.prog (w1.alloc (.mapIter (some bc) clc seen clc)) = _ := fun _ => hrun
        have hsz2 : w2.heap.size = w.heap.size := by rw [hal2.1, hal.1]
        have hb2 : w2.heap[bc]? = some (.map ec clc) := by rw [hal2.1]; exact hb1
        have hen := run_entry_map (P := Tryz.prog) w2 bc clc seen ec clc e hb2 (mem_left he).1 hst2
        rw [hsz2, hv] at hen
        have hal3 : w2.Alike w := ⟨hal2.1.trans hal.1, hal2.2.1.trans hal.2.1, hal2.2.2.trans hal.2.2⟩
        have hc2 : (w2.alloc (.mapIter (some bc) clc (seen.push e.born) clc)).cell? ⟨b, o, none⟩ = some (.int .i64 n) := by
          rw [← hcell]
          simp only [World.cell?]
          rw [heap_alloc_old w2 _ (by rw [hsz2]; exact hlt), hal3.1]
        go_wp2
        · rename_i heq
          go_ret
          exact ⟨rfl, htp2, .inr ⟨w2, _, hal3, rfl⟩⟩
        · rename_i hne
          go_roundw
          case rel =>
            refine ⟨w2, seen.push e.born, ⟨hal3, htp2⟩, rfl, fun x hx hc => ?_⟩
            rw [contains_push] at hc
            rcases Bool.or_eq_true _ _ ▸ hc with h1 | h1
            · exact hno x hx h1
            · have : x = e := born_inj hst2 hx (mem_left he).1 (beq_iff_eq.1 h1)
              subst this
              intro b' o' hv'
              rw [hv] at hv'
              cases hv'
              rw [hcell]
              intro e2
              cases e2
              simp at hne
          case measure =>
            rw [← hsz2, World.iterSeen_alloc, hsz2, ← hsz, World.iterSeen_alloc]
            exact left_shrinks ec seen e he
end Go.Proofs.YtilgladlepnanaaGreatDoor
