/-
  A verified evaluator, part 32: regions and loops over functions; all code.
-/
import Derived.Test.YtilgladlepnanaaGreatDoorEv31
namespace Go.Ev
noncomputable section
open Go

section
variable {P : Program} {Γ : Glo} {ι ι' ι2 : Emb} {H H' H2 : Heap} {w w' w2 w0 : World} {R R' : Regs} {cal : Cal} {n n' : Pth} {U N m rounds : Nat} {F : Fence} {a : Act} {out : Out}

theorem region_ok (k : CalOK P Γ cal) (hmix : P.follows .mixedOrders = true) (id : Nat) (ops : Array Oper) (draw : Bool) : CodeOK P Γ cal rounds (.region id ops draw) := fun inner U N R H n => by
  have hev : evCode cal Γ (codeIR P U N (.region id ops draw) inner) rounds R H n = evCode cal Γ (regIR P U N ops draw) rounds R H n := rfl
  rw [hev]
  unfold regIR
  cases hb : below N (dstsOf ops.toList []) with
  | false => cases draw <;> exact ⟨trivial, fun hb => absurd rfl hb⟩
  | true =>
    cases draw with
    | false =>
      simp only
      have hev2 : evCode cal Γ (.reg (opsIR P ops ops.toList [] 0) (expsOf U (dstsOf ops.toList []) 0)) rounds R H n = (match evOps cal Γ R (opsIR P ops ops.toList [] 0) [] H n with
        | .ok L H' n' => .nrm (expo L R (expsOf U (dstsOf ops.toList []) 0)) H' n'
        | .bad => .bad) := rfl
      rw [hev2]
      cases he : evOps cal Γ R (opsIR P ops ops.toList [] 0) [] H n with
      | bad => exact ⟨trivial, fun hb => absurd rfl hb⟩
      | ok L' H' n' =>
        have h0 := ops_ok (F := Fence.wide) (m := 0) k (.inl rfl) (ops := ops) (N := N) ops.toList 0 [] [] H n L' H' n' (by simp) hb he
        refine ⟨h0.1, fun _ F m ι w w0 a hF hin hok gok hfr henv hN hd => wpIn_region ?_⟩
        have h1 := (ops_ok (F := F) (m := m) k hF (ops := ops) (N := N) ops.toList 0 [] [] H n L' H' n' (by simp) hb he).2 ι w a
          (CodePost P ι U N H w0 w (.nrm (expo L' R (expsOf U (dstsOf ops.toList []) 0)) H' n')) hok gok hfr henv.toD hN fun ι' a' w' hs hE hN' hD =>
            ⟨rfl, ι', expo_env henv hE, hN', hs, by rw [hD]; exact hd.step hs⟩
        rw [Array.length_toList] at h1
        rw [List.range_eq_range']
        exact h1
    | true =>
      cases ha : apartAll ops (befs ops.toList []) ops.toList 0 with
      | false => exact ⟨trivial, fun hb => absurd rfl hb⟩
      | true =>
        cases hback : edgesBack ops.toList 0 with
        | false => exact ⟨trivial, fun hb => absurd rfl hb⟩
        | true =>
          simp only
          have hev2 : evCode cal Γ (.regd (dopsIR P ops ops.toList (befs ops.toList []) [] 0) (expsOf U (dstsOf ops.toList []) 0)) rounds R H n =
            (match evDs cal Γ R (dopsIR P ops ops.toList (befs ops.toList []) [] 0) 0 [] H n [] [] [] with
            | .ok L H' n' _ _ pend => .nrm (expo L R (expsOf U (dstsOf ops.toList []) 0)) (mergeAll H' pend) n'
            | .bad => .bad) := rfl
          rw [hev2]
          cases he : evDs cal Γ R (dopsIR P ops ops.toList (befs ops.toList []) [] 0) 0 [] H n [] [] [] with
          | bad => exact ⟨trivial, fun hb => absurd rfl hb⟩
          | ok L' H' n' pa' ca' pe' =>
            have h0 := regd_ok (F := Fence.wide) (m := 0) (U := U) (N := N) (id := id) k (.inl rfl) hmix he hb ha hback
            refine ⟨h0.1, fun _ F m ι w w0 a hF hin hok gok hfr henv hN hd => ?_⟩
            exact (regd_ok (F := F) (m := m) (U := U) (N := N) (id := id) k hF hmix he hb ha hback).2 ι w a
              (CodePost P ι U N H w0 w (.nrm (expo L' R (expsOf U (dstsOf ops.toList []) 0)) (mergeAll H' pe') n')) hok gok hfr henv hN fun ι' a' w' hs hE hN' hD =>
                ⟨rfl, ι', expo_env henv hE, hN', hs, by rw [hD]; exact hd.step hs⟩

/-- a block that has no name -/
theorem Step.anon {ob : Obj} (h : HOK P ι H w) : Step P ι H w ι H (w.alloc ob) := by
  have old : ∀ b, b < w.heap.size → (w.alloc ob).heap[b]? = w.heap[b]? := fun b hb => by
    show (w.heap.push ob)[b]? = _
    rw [Array.getElem?_push]; simp [Nat.ne_of_lt hb]
  have hsz : w.heap.size ≤ (w.alloc ob).heap.size := by show _ ≤ (w.heap.push ob).size; simp
  refine ⟨Emb.le.refl _, fun _ h1 h2 => absurd h1 h2, ⟨fun p o hp => O.ok_mono (h.obj p o hp) (Emb.le.refl _) fun b s hd hp' => ?_, h.inj, fun p b s hp => Nat.lt_of_lt_of_le (h.lt p b s hp) hsz⟩,
    fun b hb _ => old b hb, hsz, fun p b s hl hp _ => ⟨p, s, hl, hp⟩, rfl, rfl, rfl⟩
  exact old b (h.lt p b s hp')
/-- a record of a loop that is done with -/
theorem Step.end {p : Pth} {l : Nat} {o : O} {lp : Loop} {ob : Obj} (h : HOK P ι H w) (hp : H.get p = some o) (hd : o ≠ .dead) (hι : ι p = some (l, 0)) (hl : w.heap[l]? = some (.loop lp)) :
    Step P ι H w ι (H.set p .dead) (w.putObj l ob) :=
  Step.write h hp hd hι ⟨by simp, fun b' hb' => World.putObj_heap_other hb', rfl, rfl, rfl⟩ trivial

theorem rf_ok (k : CalOK P Γ cal) (f : Operand) (ps : Array Tmp) (x y : Code) : CodeOK P Γ cal rounds (.rangeFunc f ps x y) := fun inner U N R H n => by
  have hev : evCode cal Γ (codeIR P U N (.rangeFunc f ps x y) inner) rounds R H n = evCode cal Γ (rfIR U N inner f ps (codeIR P U N x true) (codeIR P U N y true)) rounds R H n := rfl
  rw [hev]
  unfold rfIR
  cases inner with
  | true => exact ⟨trivial, fun hb => absurd rfl hb⟩
  | false =>
  cases hbel : belowAll N ps.toList with
  | false => exact ⟨trivial, fun hb => absurd rfl hb⟩
  | true =>
  cases hbits : allBits U ps.toList with
  | false => exact ⟨trivial, fun hb => absurd rfl hb⟩
  | true =>
  cases hnod : nodupN ps.toList with
  | false => exact ⟨trivial, fun hb => absurd rfl hb⟩
  | true =>
  simp only
  have hev2 : evCode cal Γ (.rf (rs [] f) (ps.toList.map toPth) (codeIR P U N x true) (codeIR P U N y true)) rounds R H n = coRf cal (rs [] f) (ps.toList.map toPth) (codeIR P U N x true) (codeIR P U N y true) rounds R H n := rfl
  rw [hev2]
  generalize hout : coRf cal (rs [] f) (ps.toList.map toPth) (codeIR P U N x true) (codeIR P U N y true) rounds R H n = out
  unfold coRf at hout
  split at hout <;> try (subst hout; exact ⟨trivial, fun hb => absurd rfl hb⟩)
  rename_i g xs ys hsrc hHn
  split at hout <;> try (subst hout; exact ⟨trivial, fun hb => absurd rfl hb⟩)
  rename_i v1 H1 n1 hcal
  obtain ⟨m1, hcallable, hk⟩ := k.fn _ _ _ _ _ _ _ hcal
  have m01 : Mono H H1 := (Mono.set _ _ _).trans m1
  have m02 : Mono H (H1.set n .dead) := m01.trans (Mono.set _ _ _)
  split at hout <;> try (subst hout; exact ⟨trivial, fun hb => absurd rfl hb⟩)
  rename_i pend done R2 ps2 a2 b2 hg1
  have main : ∀ (F : Fence) (m : Nat) (ι : Emb) (w w0 : World) (a : Act) (Q : Exit → Act → World → Prop), FW F → (F.round = none ∧ w0.heap.size ≤ w.heap.size) → HOK P ι H w → GOK Γ ι H w → Fr ι H (H1.set n .dead) → EnvR ι U R a.tmps → N ≤ a.tmps.size →
      Defs w0 ι H w a.defers → (∀ (jump : Option Code) a' w', pendR pend jump → Left P ι U N H w0 w R (H1.set n .dead) a' w' → match jump with | none => Q .normal a' w' | some c => c.wpIn F m P Q a' w') →
      (Code.rangeFunc f ps x y).wpIn F m P Q a w := by
    intro F m ι w w0 a Q hF hin hok gok hfr henv hN hd hQ
    have hwide : F = Fence.wide := by
      rcases hF with rfl | ⟨l, rfl⟩
      · rfl
      · have := hin.1; simp at this
    subst hwide
    have hq := src_ok henv.toD f
    rw [hsrc] at hq
    simp only [V.rel] at hq
    obtain ⟨xv, yv, hfe, hxr, hyr⟩ := hq
    refine wpIn_rangeFunc fun fn _ => ?_
    -- the blocks
    let wA : World := w.alloc (.deferred (some []))
    let lp : Loop := { state := .ready, pending := none, fn := fn, tmps := a.tmps, params := ps, assign := x, body := y, defers := w.heap.size }
    let wB : World := wA.alloc (.loop lp)
    have hszA : wA.heap.size = w.heap.size + 1 := by show (w.heap.push _).size = _; simp
    have sA : Step P ι H w ι H wA := Step.anon hok
    have f1 : Fr ι H (H.set n (.loop false none false R (ps.toList.map toPth) (codeIR P U N x true) (codeIR P U N y true))) := Fr.split (Fr.split hfr (Mono.set _ _ _)) m1
    have hιn : ι n = none := f1 n hHn (by rw [Tr.get_set_same]; simp)
    have hule : ι.le (upd ι n (wA.heap.size, 0) 0) := upd_le_new hιn sA.hok
    have sB : Step P ι H wA (upd ι n (wA.heap.size, 0) 0) (H.set n (.loop false none false R (ps.toList.map toPth) (codeIR P U N x true) (codeIR P U N y true))) wB := by
      refine Step.alloc (.loop lp) sA.hok hHn hιn (by simp) rfl rfl rfl rfl ⟨wA.heap.size, lp, U, N, upd_same _ _ _ _, World.alloc_heap_new wA _, rfl, rfl, rfl, rfl, rfl, henv.mono hule, hN, hbel, hbits, hnod⟩
    have sAB := sA.trans sB (Mono.refl _) (Mono.set _ _ _)
    have dA : Defs w0 ι H wA ({ target := .collected w.heap.size, args := #[] } :: a.defers) := by
      have d1 := hd.step sA
      refine ⟨fun e he => ?_, List.pairwise_cons.2 ⟨fun e he heq => ?_, hd.apart⟩⟩
      · rcases List.mem_cons.1 he with rfl | he
        · refine ⟨w.heap.size, rfl, hin.2, World.alloc_heap_new w _, fun p s hl hp => ?_⟩
          exact absurd (hok.lt p _ s hp) (Nat.lt_irrefl _)
        · exact d1.all e he
      · obtain ⟨b, h1, _, h3, _⟩ := hd.all e he
        have hb : b < w.heap.size := (Array.getElem?_eq_some_iff.1 h3).1
        rw [h1] at heq
        simp only [Target.collected.injEq] at heq
        omega
    refine ⟨wA.heap.size, [{ target := .collected w.heap.size, args := #[] }], wB, { target := .fn (.func g) yv, args := xv ++ #[.func (.yield wA.heap.size) #[] #[]] }, wB, g, xv ++ #[.func (.yield wA.heap.size) #[] #[]] ++ yv, wB, ?_, ?_, fun f' _ => trivial, ?_, fun h => by simp [Fence.wide] at h, ?_⟩
    · have := run_enterLoop_outer (P := P) (w := w) fn a.tmps ps x y
      rw [← hszA] at this
      exact this
    · unfold resolve
      simp only [rangeCall, hfe, Deferred.ofValue]
      have : (#[Operand.const (.func (.yield wA.heap.size) #[] #[])].map a.eval) = #[.func (.yield wA.heap.size) #[] #[]] := by simp [Act.eval]
      rw [this]; rfl
    · simp only [invoke]
      exact run_callFunc hcallable
    · refine callsIn_wide.2 ((hk (upd ι n (wA.heap.size, 0) 0) wB _ sB.hok (gok.step sAB) (Fr.after (Fr.split hfr (Mono.set _ _ _)) sAB (Mono.set _ _ _)) ?_).mono fun e w3 he => ?_)
      · rw [app_eq, app_eq, Array.toList_append, Array.toList_append, List.append_assoc]
        refine rels_append (V.rels.mono hule _ _ hxr) (rels_append ?_ (V.rels.mono hule _ _ hyr))
        exact rels_one (by simp only [V.rel]; exact ⟨wA.heap.size, upd_same _ _ _ _, rfl⟩)
      · obtain ⟨rv, rfl, ι3, _, s3⟩ := he
        have hι3 : ι3 n = some (wA.heap.size, 0) := s3.ext.name _ _ (upd_same _ _ _ _)
        obtain ⟨lp3, U3, N3, hl3, hst3, hpe3, _⟩ := loop_of s3.hok hg1 hι3
        have s4 := Step.end (ob := .loop { lp3 with state := .exhausted }) s3.hok hg1 (by simp) hι3 hl3
        refine ⟨lp3.pending, _, run_endLoop hl3 (by rw [hst3]; cases done <;> simp [stateOf]), ?_⟩
        have sT := (sAB.trans s3 (Mono.set _ _ _) m1).trans s4 m01 (Mono.set _ _ _)
        exact hQ lp3.pending _ _ hpe3 ⟨ι3, henv.mono sT.ext, hN, sT, ((dA.step sB).step s3).step s4⟩
  cases pend with
  | none =>
    simp only at hout
    subst hout
    refine ⟨m02, fun _ F m ι w w0 a hF hin hok gok hfr henv hN hd => main F m ι w w0 a _ hF (hin trivial) hok gok hfr henv hN hd ?_⟩
    intro jump a' w' hj hl
    have hj' : jump = none := hj
    subst hj'
    exact ⟨rfl, hl⟩
  | some j =>
    cases j with
    | none =>
      simp only at hout
      subst hout
      refine ⟨m02, fun _ F m ι w w0 a hF hin hok gok hfr henv hN hd => main F m ι w w0 a _ hF (hin trivial) hok gok hfr henv hN hd ?_⟩
      intro jump a' w' hj hl
      have hj' : jump = some .ret := hj
      subst hj'
      exact wpIn_ret ⟨rfl, hl⟩
    | some id =>
      simp only at hout
      subst hout
      refine ⟨m02, fun _ F m ι w w0 a hF hin hok gok hfr henv hN hd => main F m ι w w0 a _ hF (hin trivial) hok gok hfr henv hN hd ?_⟩
      intro jump a' w' hj hl
      have hj' : jump = some (.exit id) := hj
      subst hj'
      exact wpIn_exit ⟨rfl, hl⟩

/-- all code -/
theorem code_ok (k : CalOK P Γ cal) (hmix : P.follows .mixedOrders = true) (c : Code) : CodeOK P Γ cal rounds c := by
  induction c with
  | skip => exact skip_ok
  | region id ops draw => exact region_ok k hmix id ops draw
  | seq x y hx hy => exact seq_ok hx hy
  | cond c x y hx hy => exact cond_ok hx hy
  | block id x hx => exact block_ok hx
  | loop x hx => exact loop_ok hx
  | rangeFunc f ps x y _ _ => exact rf_ok k f ps x y
  | exit id => exact exit_ok id
  | ret => exact ret_ok
  | _ => exact bad_ok fun _ _ _ => rfl
end
end
end Go.Ev
