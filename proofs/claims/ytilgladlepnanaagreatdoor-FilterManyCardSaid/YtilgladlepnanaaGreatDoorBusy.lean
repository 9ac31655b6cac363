/-
  The filter's Remove in the evaluator: ErrBusy where the version's number, whichever of several it is, is installed, and is in use or has a connection.
-/
import Derived.Test.YtilgladlepnanaaGreatDoorRemove
import Derived.Test.YtilgladlepnanaaGreatDoorEv40
namespace Go.Proofs.YtilgladlepnanaaGreatDoor
open Go Go.Ev

/-- the numbers of the connections' versions, as keys -/
noncomputable def connNums (H : Heap) (ec : List (V × V × Nat)) : Option (List (V × V × Nat)) :=
  List.rec (some []) (fun e _ ih => match e.2.1 with
    | .ptr q o => (match H.get q with
      | some (.cells l) => (match nth l o, ih with
        | some (.int .i64 c), some r => some ((.int .i64 c, .unk, 0) :: r)
        | _, _ => none)
      | _ => none)
    | _ => none) ec
noncomputable def removeChk (H : Heap) (pf : Pth) (o : Nat) (kv : V) : Bool :=
  match H.get pf with
  | some (.cells l) => (match nth l (o + 3), nth l (o + 4), nth l (o + 5) with
    | some (.int .i64 cur), some (.mp pv), some (.mp pc) => (match H.get pv, H.get pc with
      | some (.map ev _), some (.map ec clc) => (match connNums H ec, coversInt kv ev, nodupN' (borns ec), allBelow clc (borns ec) with
        | some ns, true, true, true => coversInt kv ((.int .i64 cur, .unk, 0) :: ns)
        | _, _, _, _ => false)
      | _, _ => false)
    | _, _, _ => false)
  | _ => false
noncomputable def removeCal (c : Cal) : Cal :=
  ⟨fun f args H n => match Nat.beq f 10, args with
    | true, [.ptr pf o, kv] => (match removeChk H pf o kv with
      | true => .ok (.int .i64 15) H n
      | false => .bad)
    | _, _ => c.fn f args H n, c.rd⟩
theorem connNums_ok {ι : Emb} {H : Heap} {w : World} (hok : HOK Tryz.prog ι H w) : ∀ {ec : List (V × V × Nat)} {ns : List (V × V × Nat)} {ms : List MapEntry}, connNums H ec = some ns → ERel ι ec ms →
    (∀ x ∈ ms, ∃ b o n, x.val = .pointer (some ⟨b, o, none⟩) ∧ b < w.heap.size ∧ w.cell? ⟨b, o, none⟩ = some (.int .i64 n)) ∧
    ∀ k c, allInt k ns = true → hasInt k c ns = true → k = .i64 ∧ ∃ x ∈ ms, ∃ b o, x.val = .pointer (some ⟨b, o, none⟩) ∧ w.cell? ⟨b, o, none⟩ = some (.int .i64 c)
  | [], ns, ms, h, hr => by
    have h' : _ = [] := hr
    subst h'
    cases h
    exact ⟨fun x hx => by simp at hx, fun k c _ hc => by cases hc⟩
  | e :: ec, ns, ms, h, hr => by
    obtain ⟨m, t, rfl, hk, hv, hb, ht⟩ := hr
    have h' : (match e.2.1 with
      | .ptr q o => (match H.get q with
        | some (.cells l) => (match nth l o, connNums H ec with
          | some (.int .i64 c), some r => some ((V.int .i64 c, V.unk, 0) :: r)
          | _, _ => none)
        | _ => none)
      | _ => none) = some ns := h
    split at h' <;> try (cases h'; done)
    rename_i q o hq
    split at h' <;> try (cases h'; done)
    rename_i l hl
    split at h' <;> try (cases h'; done)
    rename_i c r hn hi
    cases h'
    rw [hq] at hv
    simp only [V.rel] at hv
    obtain ⟨b, s, hp, hval⟩ := hv
    obtain ⟨x, hx, hxr, hlt⟩ := cell_nth hok hl hp hn
    simp only [V.rel] at hxr
    subst hxr
    obtain ⟨ih1, ih2⟩ := connNums_ok hok hi ht
    refine ⟨fun y hy => ?_, fun k cc ha hc => ?_⟩
    · rcases List.mem_cons.1 hy with rfl | hy
      · exact ⟨b, s + o, c, hval, hlt, hx⟩
      · exact ih1 y hy
    · rw [allInt_cons] at ha
      rw [hasInt_cons] at hc
      simp only at ha hc
      cases hki : keq k .i64 with
      | false => simp [hki] at ha
      | true =>
        have hk := (keq_iff _ _).1 hki
        subst hk
        simp only [hki] at ha hc
        refine ⟨rfl, ?_⟩
        cases hcc : ieq c cc with
        | true =>
          rw [ieq_eq] at hcc
          have : c = cc := by simpa using hcc
          subst this
          exact ⟨m, List.mem_cons_self .., b, s + o, hval, hx⟩
        | false =>
          simp only [hcc] at hc
          obtain ⟨_, y, hy, h2⟩ := ih2 .i64 cc ha hc
          exact ⟨y, List.mem_cons_of_mem _ hy, h2⟩
theorem callable10 : Callable Tryz.prog 10 := ⟨Tryz.f10, Tryz.func10, by kernel_rfl, by kernel_rfl⟩
theorem removeCal_ok {c : Cal} (k : CalOK Tryz.prog (fun _ => []) c) : CalOK Tryz.prog (fun _ => []) (removeCal c) := by
  refine ⟨fun f args H n v H' n' he => ?_, k.rd⟩
  have he' : (match Nat.beq f 10, args with
    | true, [.ptr pf o, kv] => (match removeChk H pf o kv with
      | true => Res.ok (.int .i64 15) H n
      | false => .bad)
    | _, _ => c.fn f args H n) = .ok v H' n' := he
  split at he'
  · rename_i pf o kv hf
    have := beq_eq hf; subst this
    cases hr : removeChk H pf o kv with
    | false => simp only [hr] at he'; cases he'
    | true =>
      simp only [hr] at he'
      cases he'
      unfold removeChk at hr
      split at hr <;> try (cases hr; done)
      rename_i l hl
      split at hr <;> try (cases hr; done)
      rename_i cur pv pc n3 n4 n5
      split at hr <;> try (cases hr; done)
      rename_i ev clv ec clc hev hec
      split at hr <;> try (cases hr; done)
      rename_i ns hns hcov hnd hbel
      refine ⟨Mono.refl _, callable10, fun ι w xs hok gok hfr hxs => ?_⟩
      obtain ⟨x, t, e1, hx, ht⟩ := rels_cons_inv hxs
      obtain ⟨y, t2, rfl, hy, ht2⟩ := rels_cons_inv ht
      have := rels_nil_inv ht2; subst this
      simp only [V.rel] at hx
      obtain ⟨bf, s, hpf, rfl⟩ := hx
      obtain ⟨x3, c3, r3, _⟩ := cell_nth hok hl hpf n3
      obtain ⟨x4, c4, r4, _⟩ := cell_nth hok hl hpf n4
      obtain ⟨x5, c5, r5, _⟩ := cell_nth hok hl hpf n5
      simp only [V.rel] at r3 r4 r5
      subst r3
      obtain ⟨bv, hbv, rfl⟩ := r4
      obtain ⟨bc, hbc, rfl⟩ := r5
      obtain ⟨bv2, ev', hv1, hv2, hv3⟩ := map_of hok hev
      rw [hbv] at hv1; cases hv1
      obtain ⟨bc2, ec', hc1, hc2, hc3⟩ := map_of hok hec
      rw [hbc] at hc1; cases hc1
      obtain ⟨kk, m, hye, ha, hh⟩ := coversInt_ok hcov hy
      obtain ⟨kk2, m2, hye2, ha2, hh2⟩ := coversInt_ok hr hy
      rw [hye] at hye2
      cases hye2
      obtain ⟨j, z, hfn⟩ := findNow_has (k0 := .i64) ev ev'.toList 0 hv3 ha hh
      obtain ⟨hval, hnum⟩ := connNums_ok hok hns hc3
      rw [allInt_cons] at ha2
      rw [hasInt_cons] at hh2
      simp only at ha2 hh2
      cases hki : keq kk .i64 with
      | false => simp [hki] at ha2
      | true =>
        have hk := (keq_iff _ _).1 hki
        subst hk
        simp only [hki] at ha2 hh2
        have hsome : m = cur ∨ ∃ x ∈ ec'.toList, ∃ b o, x.val = .pointer (some ⟨b, o, none⟩) ∧ w.cell? ⟨b, o, none⟩ = some (.int .i64 m) := by
          cases hcc : ieq cur m with
          | true =>
            rw [ieq_eq] at hcc
            exact .inl (by have : cur = m := by simpa using hcc
                           exact this.symm)
          | false =>
            simp only [hcc] at hh2
            exact .inr (hnum .i64 m ha2 hh2).2
        have hb := ERel_borns hc3
        have hst1 : ∀ x ∈ ec'.toList, x.born < clc := fun x hx => by
          have : x.born ∈ ec'.toList.map (·.born) := List.mem_map.2 ⟨x, hx, rfl⟩
          rw [hb, ← borns_eq] at this
          exact allBelow_ok hbel _ this
        have hst2 : (ec'.toList.map (·.born)).Nodup := by rw [hb, ← borns_eq]; exact nodupN'_ok hnd
        have hxe : xs = #[.pointer (some ⟨bf, s + o, none⟩), .int .i64 m] := by
          apply Array.toList_inj.1; rw [e1, hye]
        subst hxe
        refine (remove_walk bf (s + o) bv bc m cur ec' clc z w (by rw [Nat.add_assoc]; exact c3) (by rw [Nat.add_assoc]; exact c4) (by rw [Nat.add_assoc]; exact c5)
          (run_lookup_has (k := 3) (e := 49) (by kernel_rfl) (by kernel_rfl) hv2 (by rw [hye] at *; exact hfn)) hc2 hst1 hst2 hval hsome).mono ?_
        rintro e w' ⟨rfl, htp, rfl | ⟨w1, seen, hal, rfl⟩⟩
        · exact ⟨_, rfl, ι, by simp only [V.rel], Step.refl hok⟩
        · refine ⟨_, rfl, ι, by simp only [V.rel], Step.pushed (ob := .mapIter (some bc) clc seen clc) hok ?_ htp ?_ ?_⟩
          · show w1.heap.push _ = w.heap.push _; rw [hal.1]
          · exact hal.2.1
          · exact hal.2.2
  · exact k.fn _ _ _ _ _ _ _ he'
end Go.Proofs.YtilgladlepnanaaGreatDoor
