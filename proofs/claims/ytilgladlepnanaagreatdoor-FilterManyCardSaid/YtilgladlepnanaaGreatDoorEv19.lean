/-
  A verified evaluator, part 19: calls of the language's own functions; calls.
-/
import Derived.Test.YtilgladlepnanaaGreatDoorEv18
import Derived.RangeFuncCalls
namespace Go.Ev
noncomputable section
open Go

section
variable {P : Program} {Γ : Glo} {ι : Emb} {H H' : Heap} {w w' : World} {ρ : Operand → Value} {L : List V} {R : Regs} {r : Operand → Src} {cal : Cal} {n n' : Pth} {v : V} {o : Oper}

theorem map_one {l : List Operand} {x : Src} (h : l.map r = [x]) : ∃ a, l = [a] ∧ x = r a := by
  match l, h with
  | [a], h => simp at h; exact ⟨a, rfl, h.symm⟩
theorem map_two {l : List Operand} {x y : Src} (h : l.map r = [x, y]) : ∃ a b, l = [a, b] ∧ x = r a ∧ y = r b := by
  match l, h with
  | [a, b], h => simp at h; exact ⟨a, b, rfl, h.1.symm, h.2.symm⟩
theorem arr_of {α : Type} {a : Array α} {l : List α} (h : a.toList = l) : a = l.toArray := by subst h; simp

theorem exec_builtin {cl : Call} {b : Builtin} {s : Sem Value} {q : Value} {w' : World} (ho : o.op = .call cl) (hb : cl.callee = .builtin b)
    (hs : ∀ cs, builtin b cl.argTypes o.type cs (cl.args.map ρ) = (do pure (Next.value (← s)) : Sem Next)) (hr : s.run P w = .ok q w') : (execOp ρ o).run P w = .ok (.value q) w' := by
  unfold execOp
  rw [ho]
  simp only []
  unfold resolve
  rw [hb]
  rw [run_ok_bind (run_ofPure _)]
  simp only [invoke]
  rw [hs]
  exact run_v hr
theorem ok_builtin (c : Cxt P Γ ι H w ρ L R r) {cl : Call} {b : Builtin} (ho : o.op = .call cl) (hb : cl.callee = .builtin b)
    (he : evI (builtinI P b cl.argTypes (cl.args.toList.map r)) cal Γ L R H n = .ok v H' n') (hfr : Fr ι H H') : OpOK P ρ o w (Post P ι H w H' v) := by
  have fin : ∀ {s : Sem Value}, (∀ cs, builtin b cl.argTypes o.type cs (cl.args.map ρ) = (do pure (Next.value (← s)) : Sem Next)) → (∃ q w', s.run P w = .ok q w' ∧ Post P ι H w H' v q w') →
      OpOK P ρ o w (Post P ι H w H' v) := fun {s} hs ⟨q, w', hr, hp⟩ => OpOK.value (exec_builtin ho hb hs hr) hp
  unfold builtinI at he
  split at he
  · -- append
    rename_i s t x y hat hxs
    obtain ⟨a, b, hal, rfl, rfl⟩ := map_two hxs
    have h1 := arr_of hat
    have h2 : cl.args.map ρ = #[ρ a, ρ b] := by rw [arr_of hal]; simp
    have key : ∀ e d, P.underlying s = some (.slice e) → P.underlying t = some d → ((∃ e', d = .slice e') ∨ d = .string) → evI (appendI P e (r a) (r b)) cal Γ L R H n = .ok v H' n' → OpOK P ρ o w (Post P ι H w H' v) := by
      intro e d hu hut hd he
      unfold appendI at he
      split at he
      · rename_i k m zs hk hm hz
        cases hl : Nat.beq (len zs) (k + 1) with
        | false => simp only [hl] at he; cases he
        | true =>
          simp only [hl] at he
          have e2 := beq_eq hl
          rw [len_eq] at e2
          refine fin (s := Builtin.append_ #[s, t] o.type #[ρ a, ρ b]) (fun cs => ?_) (append_run (cal := cal) c hu hut hd hk hm hz e2 he hfr)
          rw [h1, h2]; rfl
      · cases he
    split at he
    · rename_i e e' hu hut; exact key e _ hu hut (.inl ⟨_, rfl⟩) he
    · rename_i e hu hut; exact key e _ hu hut (.inr rfl) he
    · rename_i e hu hut
      unfold appendzI at he
      split at he
      · rename_i k m zs hk hm hz
        cases hl : Nat.beq (len zs) (k + 1) with
        | false => simp only [hl] at he; cases he
        | true =>
          simp only [hl] at he
          have e2 := beq_eq hl
          rw [len_eq] at e2
          refine fin (s := Builtin.append_ #[s, t] o.type #[ρ a, ρ b]) (fun cs => ?_) (appendz_run (cal := cal) c hu hut hk hm hz e2 he hfr)
          rw [h1, h2]; rfl
      · cases he
    · cases he
  · -- len
    rename_i t x hat hxs
    obtain ⟨a, hal, rfl⟩ := map_one hxs
    have h1 := arr_of hat
    have h2 : cl.args.map ρ = #[ρ a] := by rw [arr_of hal]; simp
    have hs : ∀ cs, builtin .len cl.argTypes o.type cs (cl.args.map ρ) = (do pure (Next.value (← Builtin.len_ #[t] o.type #[ρ a])) : Sem Next) := fun cs => by rw [h1, h2]; rfl
    split at he
    · rename_i hu; exact fin hs (len_run (cal := cal) (k := .str) c hu he)
    · rename_i e hu; exact fin hs (len_run (cal := cal) (k := .sl) c ⟨_, hu⟩ he)
    · rename_i k e hu; exact fin hs (len_run (cal := cal) (k := .mp) c ⟨_, _, hu⟩ he)
    · rename_i m e hu
      have he' : Res.ok (.int .i64 (.ofNat m)) H n = .ok v H' n' := he
      simp at he'
      obtain ⟨rfl, rfl, rfl⟩ := he'
      refine fin hs ⟨.int .i64 (m : Int), w, ?_, Post.pure c.hok (by simp [V.rel])⟩
      rw [len_eq', run_ok_bind (run_underlying hu w)]
      rfl
    · rename_i e hu
      split at he
      · rename_i m e' hu2
        have he' : Res.ok (.int .i64 (.ofNat m)) H n = .ok v H' n' := he
        simp at he'
        obtain ⟨rfl, rfl, rfl⟩ := he'
        refine fin hs ⟨.int .i64 (m : Int), w, ?_, Post.pure c.hok (by simp [V.rel])⟩
        rw [len_eq', run_ok_bind (run_underlying hu w)]
        simp only []
        rw [run_ok_bind (run_underlying hu2 w)]
        rfl
      · cases he
    · cases he
  · -- cap
    rename_i t x hat hxs
    obtain ⟨a, hal, rfl⟩ := map_one hxs
    have h1 := arr_of hat
    have h2 : cl.args.map ρ = #[ρ a] := by rw [arr_of hal]; simp
    split at he
    · rename_i e hu
      exact fin (s := Builtin.cap_ #[t] o.type #[ρ a]) (fun cs => by rw [h1, h2]; rfl) (cap_run (cal := cal) c hu he)
    · cases he
  · -- delete
    rename_i t t2 m k hat hxs
    obtain ⟨a, b, hal, rfl, rfl⟩ := map_two hxs
    have h1 := arr_of hat
    have h2 : cl.args.map ρ = #[ρ a, ρ b] := by rw [arr_of hal]; simp
    split at he
    · rename_i kt et hu
      split at he
      · rename_i e hk
        obtain ⟨w', hr, hst, rfl⟩ := delete_run (cal := cal) (ty := o.type) (at2 := t2) c hu hk he
        exact fin (s := Builtin.delete_ #[t, t2] o.type #[ρ a, ρ b]) (fun cs => by rw [h1, h2]; rfl) ⟨_, w', hr, ι, by simp only [V.rel]; exact ⟨#[], rfl, rels_nil⟩, hst⟩
      · cases he
    · cases he
  · -- clear
    rename_i t x hat hxs
    obtain ⟨a, hal, rfl⟩ := map_one hxs
    have h1 := arr_of hat
    have h2 : cl.args.map ρ = #[ρ a] := by rw [arr_of hal]; simp
    have hs : ∀ cs, builtin .clear cl.argTypes o.type cs (cl.args.map ρ) = (do pure (Next.value (← Builtin.clear_ #[t] o.type #[ρ a])) : Sem Next) := fun cs => by rw [h1, h2]; rfl
    split at he
    · rename_i e hu
      split at he
      · rename_i zs hz; exact fin hs (clear_run (cal := cal) c hu hz he)
      · cases he
    · rename_i kt et hu; exact fin hs (clearm_run (cal := cal) c hu he)
    · cases he
  · -- copy
    rename_i t t2 x y hat hxs
    obtain ⟨a, b, hal, rfl, rfl⟩ := map_two hxs
    have h1 := arr_of hat
    have h2 : cl.args.map ρ = #[ρ a, ρ b] := by rw [arr_of hal]; simp
    split at he
    · rename_i e hu
      split at he
      · rename_i k hk
        exact fin (s := Builtin.copy_ #[t, t2] o.type #[ρ a, ρ b]) (fun cs => by rw [h1, h2]; rfl) (copy_run (cal := cal) c hu hk he)
      · cases he
    · cases he
  · exact fin (s := Builtin.min_ cl.argTypes o.type (cl.args.map ρ)) (fun cs => rfl) (minmax_run (cal := cal) (ats := cl.argTypes) (ty := o.type) (mx := false) c he)
  · exact fin (s := Builtin.max_ cl.argTypes o.type (cl.args.map ρ)) (fun cs => rfl) (minmax_run (cal := cal) (ats := cl.argTypes) (ty := o.type) (mx := true) c he)
  · cases he
end
end
end Go.Ev
