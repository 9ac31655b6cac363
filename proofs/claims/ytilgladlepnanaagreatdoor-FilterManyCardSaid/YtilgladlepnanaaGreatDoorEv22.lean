/-
  A verified evaluator, part 22: every operation; the memory's names only grow.
-/
import Derived.Test.YtilgladlepnanaaGreatDoorEv21
namespace Go.Ev
noncomputable section
open Go

section
variable {P : Program} {Γ : Glo} {ι : Emb} {H H' : Heap} {w w' : World} {ρ : Operand → Value} {L : List V} {R : Regs} {r : Operand → Src} {cal : Cal} {n n' : Pth} {v : V} {o : Oper}

theorem ret_mono {u : Option V} (h : ret? u H n = .ok v H' n') : Mono H H' := by
  obtain ⟨_, rfl, _⟩ := ret_some h; exact Mono.refl _
theorem fresh_mono {ob : O} {u : V} (h : fresh H n ob u = .ok v H' n') : Mono H H' := by
  unfold fresh at h
  split at h
  · cases h; exact Mono.set _ _ _
  · cases h
theorem putAt_mono {a : V} {vs : List V} (h : putAt H a vs = some H') : Mono H H' := by
  unfold putAt at h
  split at h <;> try (cases h; done)
  split at h <;> try (cases h; done)
  split at h <;> try (cases h; done)
  cases h; exact Mono.set _ _ _
theorem grown_mono {size bytes need : Nat} {l : List V} (h : grown H n size bytes need l = .ok v H' n') : Mono H H' := by
  unfold grown at h
  split at h
  · exact fresh_mono h
  · cases h
theorem stepOf_mono {q p : Pth} {since : Nat} {seen : List Nat} {c : Nat} {left : List (V × V × Nat)} (h : stepOf H n q p since seen c left = .ok v H' n') : Mono H H' := by
  unfold stepOf at h
  split at h
  · cases h; exact Mono.refl _
  · split at h
    · cases h; exact Mono.set _ _ _
    · cases h
  · cases h
theorem evYield_mono (k : CalOK P Γ cal) {p : Pth} {args : List V} (h : evYield cal p args H n = .ok v H' n') : Mono H H' := by
  unfold evYield at h
  split at h <;> try (cases h; done)
  rename_i pe0 R0 ps a b hg
  split at h <;> try (cases h; done)
  rename_i R1 hso
  split at h <;> try (cases h; done)
  rename_i R2 H2 n2 hrd
  have m1 := (k.rd a R1 H n).1
  rw [hrd] at m1
  have m1' : Mono H H2 := m1
  split at h <;> try (cases h; done)
  rename_i pd2 R2' ps2 a2 b2 hg2
  have m2 := (k.rd b R2 (H2.set p (.loop true pd2 false R2' ps2 a2 b2)) n2).1
  have m12 : Mono H (H2.set p (.loop true pd2 false R2' ps2 a2 b2)) := m1'.trans (Mono.set _ _ _)
  split at h <;> try (cases h; done)
  all_goals
    rename_i hrd3
    rw [hrd3] at m2
    split at h <;> try (cases h; done)
    cases h
    exact (m12.trans m2).trans (Mono.set _ _ _)
theorem evI_mono (k : CalOK P Γ cal) (i : I) (h : evI i cal Γ L R H n = .ok v H' n') : Mono H H' := by
  cases i with
  | bad => cases h
  | mov s => cases h; exact Mono.refl _
  | pick c a b =>
    have h' : evPick c a b cal Γ L R H n = .ok v H' n' := h
    unfold evPick at h'
    repeat' split at h'
    all_goals first | (cases h'; exact Mono.refl _) | cases h'
  | new f =>
    have h' : evNew f cal Γ L R H n = .ok v H' n' := h
    unfold evNew at h'
    split at h'
    · exact fresh_mono h'
    · cases h'
  | build z p =>
    have h' : evBuild z p cal Γ L R H n = .ok v H' n' := h
    unfold evBuild at h'
    split at h'
    · cases h'; exact Mono.refl _
    · cases h'
  | load s => exact ret_mono h
  | loadn s m =>
    have h' : evLoadn s m cal Γ L R H n = .ok v H' n' := h
    unfold evLoadn at h'
    split at h'
    · cases h'; exact Mono.refl _
    · cases h'
  | store a x m =>
    have h' : evStore a x m cal Γ L R H n = .ok v H' n' := h
    unfold evStore at h'
    split at h' <;> try (cases h'; done)
    split at h' <;> try (cases h'; done)
    split at h' <;> try (cases h'; done)
    rename_i hp
    cases h'
    exact putAt_mono hp
  | nilchk mt s =>
    have h' : evNilchk mt s cal Γ L R H n = .ok v H' n' := h
    unfold evNilchk at h'
    split at h'
    · cases h'; exact Mono.refl _
    · cases h'
  | bin op x y => exact ret_mono h
  | eq b e x y =>
    have h' : evEq b e x y cal Γ L R H n = .ok v H' n' := h
    unfold evEq at h'
    split at h'
    · cases h'; exact Mono.refl _
    · cases h'
  | un op x => exact ret_mono h
  | conv c x =>
    have h' : evConv c x cal Γ L R H n = .ok v H' n' := h
    unfold evConv at h'
    repeat' split at h'
    all_goals first | (cases h'; exact Mono.refl _) | (cases h'; exact Mono.set _ _ _) | cases h'
  | mkfn f a b => cases h; exact Mono.refl _
  | slice s x l hh m =>
    have h' : evSlice s x l hh m cal Γ L R H n = .ok v H' n' := h
    unfold evSlice at h'
    repeat' split at h'
    all_goals first | exact ret_mono h' | (cases h'; exact Mono.refl _) | cases h'
  | faddr x off => exact ret_mono h
  | xaddr s x j =>
    have h' : evXaddr s x j cal Γ L R H n = .ok v H' n' := h
    unfold evXaddr at h'
    repeat' split at h'
    all_goals first | exact ret_mono h' | (cases h'; exact Mono.refl _) | cases h'
  | idxs x j =>
    have h' : evIdxs x j cal Γ L R H n = .ok v H' n' := h
    unfold evIdxs at h'
    repeat' split at h'
    all_goals first | (cases h'; exact Mono.refl _) | cases h'
  | idxa m s a x j =>
    have h' : evIdxa m s a x j cal Γ L R H n = .ok v H' n' := h
    unfold evIdxa at h'
    repeat' split at h'
    all_goals first | exact ret_mono h' | cases h'
  | field x off s a =>
    have h' : evField x off s a cal Γ L R H n = .ok v H' n' := h
    unfold evField at h'
    repeat' split at h'
    all_goals first | exact ret_mono h' | cases h'
  | lookup e z m q ok =>
    have h' : evLookup e z m q ok cal Γ L R H n = .ok v H' n' := h
    unfold evLookup at h'
    repeat' split at h'
    all_goals first | (cases h'; exact Mono.refl _) | cases h'
  | mapupd e m q x =>
    have h' : evMapupd e m q x cal Γ L R H n = .ok v H' n' := h
    unfold evMapupd at h'
    repeat' split at h'
    all_goals first | (cases h'; exact Mono.set _ _ _) | cases h'
  | range m =>
    have h' : evRange m cal Γ L R H n = .ok v H' n' := h
    unfold evRange at h'
    repeat' split at h'
    all_goals first | exact fresh_mono h' | cases h'
  | next it =>
    have h' : evNext it cal Γ L R H n = .ok v H' n' := h
    unfold evNext at h'
    repeat' split at h'
    all_goals first | exact stepOf_mono h' | (cases h'; exact Mono.refl _) | cases h'
  | entry it =>
    have h' : evEntry it cal Γ L R H n = .ok v H' n' := h
    unfold evEntry at h'
    repeat' split at h'
    all_goals first | (cases h'; exact Mono.refl _) | cases h'
  | extract s j =>
    have h' : evExtract s j cal Γ L R H n = .ok v H' n' := h
    unfold evExtract at h'
    repeat' split at h'
    all_goals first | exact ret_mono h' | cases h'
  | call f a => exact (k.fn _ _ _ _ _ _ _ h).1
  | callv mt f a =>
    have h' : evCallv mt f a cal Γ L R H n = .ok v H' n' := h
    unfold evCallv at h'
    split at h'
    · exact (k.fn _ _ _ _ _ _ _ h').1
    · exact evYield_mono k h'
    · split at h'
      · exact (k.fn _ _ _ _ _ _ _ h').1
      · cases h'
    · cases h'
  | mkif t x => cases h; exact Mono.refl _
  | mkmeth m x =>
    have h' : evMkmeth m x cal Γ L R H n = .ok v H' n' := h
    unfold evMkmeth at h'
    split at h'
    · cases h'; exact Mono.refl _
    · cases h'
  | invoke mt q a =>
    have h' : evInvoke mt q a cal Γ L R H n = .ok v H' n' := h
    unfold evInvoke at h'
    split at h'
    · split at h'
      · exact (k.fn _ _ _ _ _ _ _ h').1
      · cases h'
    · cases h'
  | appendz zs s b x y =>
    have h' : evAppendz zs s b x y cal Γ L R H n = .ok v H' n' := h
    unfold evAppendz at h'
    repeat' split at h'
    all_goals first | exact grown_mono h' | (cases h'; exact Mono.refl _) | cases h'
  | append s b x y =>
    have h' : evAppend s b x y cal Γ L R H n = .ok v H' n' := h
    unfold evAppend at h'
    repeat' split at h'
    all_goals first | exact grown_mono h' | exact (Mono.set _ _ _).trans (grown_mono h') | (cases h'; exact Mono.refl _) | (cases h'; exact putAt_mono ‹_›) | cases h'
  | len q x => exact ret_mono h
  | cap x =>
    have h' : evCap x cal Γ L R H n = .ok v H' n' := h
    unfold evCap at h'
    repeat' split at h'
    all_goals first | (cases h'; exact Mono.refl _) | cases h'
  | delete e m q =>
    have h' : evDelete e m q cal Γ L R H n = .ok v H' n' := h
    unfold evDelete at h'
    repeat' split at h'
    all_goals first | (cases h'; exact Mono.set _ _ _) | cases h'
  | clear z x =>
    have h' : evClear z x cal Γ L R H n = .ok v H' n' := h
    unfold evClear at h'
    repeat' split at h'
    all_goals first | (cases h'; exact Mono.refl _) | (cases h'; exact Mono.set _ _ _) | (cases h'; exact putAt_mono ‹_›) | cases h'
  | copy s d x =>
    have h' : evCopy s d x cal Γ L R H n = .ok v H' n' := h
    unfold evCopy at h'
    repeat' split at h'
    all_goals first | (cases h'; exact Mono.refl _) | (cases h'; exact putAt_mono ‹_›) | cases h'
  | minmax m l =>
    have h' : evMinmax m l cal Γ L R H n = .ok v H' n' := h
    unfold evMinmax at h'
    repeat' split at h'
    all_goals first | (cases h'; exact Mono.refl _) | cases h'

theorem arr_head (x : Value) (a : Array Value) : (#[x] ++ a)[0]? = some x := by
  rw [Array.getElem?_append_left (by simp)]; rfl
theorem arr_rest (x : Value) (a : Array Value) : (#[x] ++ a).extract 1 (#[x] ++ a).size = a := by
  apply Array.toList_inj.1
  simp [Array.toList_extract, List.extract_eq_take_drop]
theorem exec_method {cl : Call} {g t : Nat} {m : String} {y : Value} {q : Operand} (ho : o.op = .call cl) (hcl : cl.callee = .value q) (hq : ρ q = .func (.method m) #[.iface t y] #[]) (hm : methAt P m t = some g) (hc : Callable P g) :
    (execOp ρ o).run P w = .ok (.enter g (#[y] ++ cl.args.map ρ)) w := by
  unfold execOp
  rw [ho]
  simp only []
  unfold resolve
  rw [hcl]
  simp only [hq, Deferred.ofValue]
  rw [run_ok_bind (run_ofPure _)]
  simp only [invoke]
  have hp : (program).run P w = .ok P w := rfl
  have e1 : (#[Value.iface t y] ++ cl.args.map ρ)[0]? = some (.iface t y) := arr_head _ _
  have e2 : (#[Value.iface t y] ++ cl.args.map ρ).extract 1 (#[Value.iface t y] ++ cl.args.map ρ).size = cl.args.map ρ := arr_rest _ _
  rw [e1, e2]
  unfold callMethod
  obtain ⟨dk, hdk⟩ : ∃ k, P.types.size + Made.depth = k + 1 := ⟨P.types.size + (Made.depth - 1), by unfold Made.depth; omega⟩
  rw [run_ok_bind hp, hdk, run_ok_bind (run_method hm _)]
  exact run_callFunc hc
theorem exec_invoke {cl : Call} {g t : Nat} {m : String} {y : Value} {q : Operand} (ho : o.op = .call cl) (hcl : cl.callee = .invoke q m) (hq : ρ q = .iface t y) (hm : methAt P m t = some g) (hc : Callable P g) :
    (execOp ρ o).run P w = .ok (.enter g (#[y] ++ cl.args.map ρ)) w := by
  unfold execOp
  rw [ho]
  simp only []
  unfold resolve
  rw [hcl]
  simp only [hq]
  rw [run_ok_bind (run_ofPure _)]
  simp only [invoke]
  have hp : (program).run P w = .ok P w := rfl
  have e1 : (#[Value.iface t y] ++ cl.args.map ρ)[0]? = some (.iface t y) := arr_head _ _
  have e2 : (#[Value.iface t y] ++ cl.args.map ρ).extract 1 (#[Value.iface t y] ++ cl.args.map ρ).size = cl.args.map ρ := arr_rest _ _
  rw [e1, e2]
  unfold callMethod
  obtain ⟨dk, hdk⟩ : ∃ k, P.types.size + Made.depth = k + 1 := ⟨P.types.size + (Made.depth - 1), by unfold Made.depth; omega⟩
  rw [run_ok_bind hp, hdk, run_ok_bind (run_method hm _)]
  exact run_callFunc hc
theorem ok_invoke (k : CalOK P Γ cal) (c : Cxt P Γ ι H w ρ L R r) {cl : Call} {q : Operand} {m : String} (ho : o.op = .call cl) (hcl : cl.callee = .invoke q m)
    (he : evI (.invoke (methAt P m) (r q) (cl.args.toList.map r)) cal Γ L R H n = .ok v H' n') (hfr : Fr ι H H') : OpOK P ρ o w (Post P ι H w H' v) := by
  have he' : evInvoke (methAt P m) (r q) (cl.args.toList.map r) cal Γ L R H n = .ok v H' n' := he
  unfold evInvoke at he'
  have hq := c.hs q
  have hargs : V.rels ι (srcs L R (cl.args.toList.map r)) (cl.args.map ρ).toList := by
    have := srcs_rels c.hs cl.args.toList
    simpa using this
  split at he' <;> try (cases he'; done)
  rename_i t u hsq
  rw [hsq] at hq
  simp only [V.rel] at hq
  obtain ⟨y, hqe, hy⟩ := hq
  split at he' <;> try (cases he'; done)
  rename_i g hm
  obtain ⟨_, hcal, hk⟩ := k.fn _ _ _ _ _ _ _ he'
  refine OpOK.enter (exec_invoke ho hcl hqe hm hcal) (hk ι w _ c.hok c.gok hfr ?_)
  rw [Array.toList_append]
  exact rels_cons hy hargs
theorem ok_callv (k : CalOK P Γ cal) (c : Cxt P Γ ι H w ρ L R r) {cl : Call} {q : Operand} (ho : o.op = .call cl) (hcl : cl.callee = .value q)
    (he : evI (.callv (methAt P) (r q) (cl.args.toList.map r)) cal Γ L R H n = .ok v H' n') (hfr : Fr ι H H') : OpOK P ρ o w (Post P ι H w H' v) := by
  have he' : evCallv (methAt P) (r q) (cl.args.toList.map r) cal Γ L R H n = .ok v H' n' := he
  unfold evCallv at he'
  have hq := c.hs q
  have hargs : V.rels ι (srcs L R (cl.args.toList.map r)) (cl.args.map ρ).toList := by
    have := srcs_rels c.hs cl.args.toList
    simpa using this
  split at he' <;> try (cases he'; done)
  · rename_i g a b hsq
    rw [hsq] at hq
    simp only [V.rel] at hq
    obtain ⟨a', b', hqe, ha, hb⟩ := hq
    obtain ⟨_, hcal, hk⟩ := k.fn _ _ _ _ _ _ _ he'
    refine OpOK.enter (exec_call ho hcl hqe hcal) (hk ι w _ c.hok c.gok hfr ?_)
    rw [app_eq, app_eq, Array.toList_append, Array.toList_append, List.append_assoc]
    exact rels_append ha (rels_append hargs hb)
  · rename_i p hsq
    rw [hsq] at hq
    simp only [V.rel] at hq
    obtain ⟨l, hι, hqe⟩ := hq
    obtain ⟨f, tmps, as, bd, hy, hR⟩ := round_ok k c.hok c.gok hι hargs he' hfr
    exact OpOK.round ((exec_yield ho hcl hqe).trans hy) hR
  · rename_i m t u hsq
    rw [hsq] at hq
    simp only [V.rel] at hq
    obtain ⟨y, hqe, hy⟩ := hq
    split at he' <;> try (cases he'; done)
    rename_i g hm
    obtain ⟨_, hcal, hk⟩ := k.fn _ _ _ _ _ _ _ he'
    refine OpOK.enter (exec_method ho hcl hqe hm hcal) (hk ι w _ c.hok c.gok hfr ?_)
    rw [Array.toList_append]
    exact rels_cons hy hargs
theorem OpOK.fresh {ob : O} {u : V} (c : Cxt P Γ ι H w ρ L R r) (hnew : ι n = none → NewOK P ρ o w ι n u ob) (hf : fresh H n ob u = .ok v H' n') (hfr : Fr ι H H') : OpOK P ρ o w (Post P ι H w H' v) := by
  unfold Ev.fresh at hf
  split at hf <;> try (cases hf; done)
  rename_i hn
  cases hf
  have hι : ι n = none := hfr n hn (by rw [Tr.get_set_same]; simp)
  obtain ⟨x, w', cb, T, hrun, hh, ht, hs, hout, hv, hob, hd⟩ := hnew hι
  exact OpOK.value hrun ⟨_, hv, Step.alloc cb c.hok hn hι hd hh ht hs hout hob⟩

/-- every operation -/
theorem op_ok (k : CalOK P Γ cal) (c : Cxt P Γ ι H w ρ L R r) (he : evI (opI P r o.op) cal Γ L R H n = .ok v H' n') (hfr : Fr ι H H') : OpOK P ρ o w (Post P ι H w H' v) := by
  by_cases hnew : ∃ f, opI P r o.op = .new f
  · obtain ⟨f, hf⟩ := hnew
    rw [hf] at he
    have he' : evNew f cal Γ L R H n = .ok v H' n' := he
    unfold evNew at he'
    split at he' <;> try (cases he'; done)
    rename_i u ob hev
    exact OpOK.fresh c (fun hι => newI_ok c.hs c.hc c.hok hf hev hι) he' hfr
  · cases ho : o.op <;> rw [ho] at he hnew
    case move x => exact ok_mov c (.inl ho) he
    case assign x => exact ok_mov c (.inr ho) he
    case pick a b d => exact ok_pick c ho he
    case build t ps => exact ok_build c ho he
    case load t a => exact ok_load c ho he
    case store t a x => exact ok_store c ho he
    case nilCheck x => exact ok_nilchk c ho he
    case binOp op t x y t' =>
      simp only [opI] at he
      cases hic : ifcEq P op t x y with
      | some neg => simp only [hic] at he; exact ok_ifcEq c ho hic he
      | none =>
      simp only [hic] at he
      unfold binI at he
      split at he <;> try (cases he; done)
      · exact ok_bin c ho he
      · exact ok_bin c ho he
      · split at he <;> try (cases he; done)
        rename_i e hk
        exact ok_eq (neg := false) c ho rfl hk he
      · split at he <;> try (cases he; done)
        rename_i e hk
        exact ok_eq (neg := true) c ho rfl hk he
    case unOp op t x => exact ok_un c ho he
    case convert s d x =>
      simp only [opI] at he
      cases hi : convI P s d (r x) with
      | conv ck y =>
        have hy : y = r x := by
          unfold convI at hi
          repeat' split at hi
          all_goals first | (cases hi; rfl) | cases hi
        subst hy
        rw [hi] at he
        exact ok_conv c ho hi he
      | new f => exact absurd ⟨f, by simp only [opI]; exact hi⟩ hnew
      | bad => rw [hi] at he; cases he
      | _ =>
        exfalso
        unfold convI at hi
        repeat' split at hi
        all_goals cases hi
    case makeFunc f a b =>
      cases f <;> try (cases he; done)
      · exact ok_mkfn c ho he
      · exact ok_mkmeth c ho he
    case makeInterface t x => exact ok_mkif c ho he
    case slice t x lo hi mx => exact ok_slice c ho he
    case fieldAddr t x f => exact ok_faddr c ho he
    case field t x f => exact ok_field c ho he
    case indexAddr t x i => exact ok_xaddr c ho he
    case index t x i => exact ok_index c ho he
    case lookup t m q ok => exact ok_lookup c ho he
    case mapUpdate t m q x => exact ok_mapupd c (.inl ho) he
    case insert t m q x => exact ok_mapupd c (.inr ho) he
    case range t x => exact ok_range c ho he hfr
    case next it b =>
      cases b <;> try (cases he; done)
      exact ok_next c ho he
    case entry it => exact ok_entry c ho he
    case extract x i => exact ok_extract c ho he
    case call cl =>
      simp only [opI] at he
      split at he <;> try (cases he; done)
      · rename_i b hcl; exact ok_builtin c ho hcl he hfr
      · rename_i f hcl; exact ok_call k c ho hcl he hfr
      · rename_i q hne hcl; exact ok_callv k c ho hcl he hfr
      · rename_i q m hcl; exact ok_invoke k c ho hcl he hfr
    all_goals (exfalso; first
      | (cases he; done)
      | (simp only [opI] at he hnew; (repeat' split at he) <;> first | (exact hnew ⟨_, rfl⟩) | (cases he; done) | (simp_all; done)))
theorem no_defer (he : evI (opI P r o.op) cal Γ L R H n = .ok v H' n') : ∀ d, o.op ≠ .defer d := fun d hd => by rw [hd] at he; cases he
end
end
end Go.Ev
