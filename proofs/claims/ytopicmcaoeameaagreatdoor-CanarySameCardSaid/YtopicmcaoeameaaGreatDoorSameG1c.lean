/-
  First at the plan with a machine.
  Evaluations where some calls are taken as done: a call that only reads; a symbol that is not in a set.
  First at the plan of the oracle, evaluated: by which symbols of the text are 97.
  First at the plan of the oracle: its contract at a text of one to five symbols.
-/
import Derived.Test.YtopicmcaoeameaaGreatDoorSameG1b
namespace Go.Proofs.YtopicmcaoeameaaGreatDoor
open Go Go.Ev Go.RowKit

theorem RunsM.bel {M : Nat → Prop} {B lo hi b mb : Nat} {w w' : World} {xr : List Value} (h : RunsM lo hi mb w b xr) (hb : Bel M B w w') (hB : hi ≤ B) (hM : ∀ c, lo ≤ c → c < hi → M c → (3 : Nat) = 3 ∧ c = mb) : RunsM lo hi mb w' b xr := by
  obtain ⟨ι, h1, h2, h3, h4, h5r⟩ := h
  refine ⟨ι, fun e he => ?_, h2, h3, fun hk => ?_, h5r⟩
  · obtain ⟨c, s, cs, el, fr, e1, e2, e3⟩ := h1 e he
    obtain ⟨l1, l2, l3⟩ := h3 e he c s e1
    by_cases hm : M c
    · obtain ⟨_, rfl⟩ := (show (3 : Nat) = 3 ∧ c = mb from hM c l1 l2 hm)
      have hn : e.1 = nMach := (l3.1 rfl).2
      have hcs : e.2 = mach0 := by
        rcases List.mem_cons.1 (show e ∈ (nMach, mach0) :: ro3 from he) with rfl | he'
        · rfl
        · have := (List.mem_filter.1 he').2
          rw [hn, (Pth.beq_iff nMach nMach).2 rfl] at this
          cases this
      rcases hb.mach c (by omega) hm with e4 | ⟨x, x', t, t', gr, gr', k1, k2, k3, k4, k5⟩
      · exact ⟨c, s, cs, el, fr, e1, e4.trans e2, e3⟩
      · rw [e2] at k1
        cases k1
        obtain ⟨e5, cs', el', fr', e7, e8, e9⟩ := h4 rfl
        rw [e2] at e7
        cases e7
        have hs0 : s = 0 := by rw [hn, e5] at e1; cases e1; rfl
        subst hs0
        refine ⟨c, 0, x', t', gr', e1, k2, ?_⟩
        rw [hcs] at e3 ⊢
        refine rels_swap (mach0.take 14) 5 _ _ e3 (by simp [k4]) fun i hi => ?_
        have hi' : i < 14 := by simpa [mach0] using hi
        have hm19 : mach0.length = 19 := rfl
        rw [List.drop_zero, List.drop_zero, List.getElem?_take, List.getElem?_take, hm19, if_pos (by omega), if_pos (by omega), Array.getElem?_toList, Array.getElem?_toList, k5 i hi']
    · exact ⟨c, s, cs, el, fr, e1, (hb.block c (by omega) hm).trans e2, e3⟩
  · obtain ⟨e5, cs, el, fr, e7, e8, e9⟩ := h4 hk
    refine ⟨e5, ?_⟩
    obtain ⟨l1, l2, _⟩ := h3 (nMach, mach0) (List.mem_cons_self ..) mb 0 e5
    by_cases hm : M mb
    · rcases hb.mach mb (by omega) hm with e4 | ⟨x, x', t, t', gr, gr', k1, k2, k3, k4, k5⟩
      · exact ⟨cs, el, fr, e4.trans e7, e8, e9⟩
      · rw [e7] at k1
        cases k1
        exact ⟨x', t', gr', k2, k3, e9.trans k4.symm⟩
    · exact ⟨cs, el, fr, (hb.block mb (by omega) hm).trans e7, e8, e9⟩
theorem in_planU {e : Pth × List V} (h : e ∈ plan 3) (hn : e.1 ≠ nMach) : e ∈ planU 3 := List.mem_cons_of_mem _ (List.mem_filter.2 ⟨h, by
  cases hb : e.1.beq nMach with
  | true => exact absurd ((Pth.beq_iff _ _).1 hb) hn
  | false => rfl⟩)
theorem root_memU : (root 3, rootC 3) ∈ planU 3 ∧ (engN 3, (engs 3).map (V.int .i64)) ∈ planU 3 ∧ (runN 3, runsOf 3) ∈ planU 3 ∧ root 3 ≠ nMach ∧ engN 3 ≠ nMach := by
  have h1 : root 3 ≠ nMach := by decide +kernel
  have h2 : engN 3 ≠ nMach := by decide +kernel
  have h3 : runN 3 ≠ nMach := by decide +kernel
  obtain ⟨m1, m2, m3⟩ := root_mem 3 (by decide)
  exact ⟨in_planU m1 h1, in_planU m2 h2, in_planU m3 h3, h1, h2⟩
theorem first_m {n : Nat} (htr : ∀ a ≤ n, treeM n a = true) (h1 : 1 ≤ n) (h5 : n ≤ 5) {t : List Int} (hn : t.length = n) (hb : ∀ x ∈ t, 0 ≤ x ∧ x ≤ 255) :
    ∃ R : Nat → Bool × Int, ∀ (M : Nat → Prop) (lo hi : Nat) (w : World) (pb tb tc base from' : Nat), (∀ c, M c → c < w.heap.size) → LaidM M 3 lo hi w pb → hi ≤ w.heap.size → (tb < lo ∨ hi ≤ tb) → ¬ M tb → w.ownsRow base 3 1 (.slice (some ⟨tb, 0, none⟩) n tc) n (t.map (Value.int .i64)) → from' ≤ n →
      Calls Tryz.prog 30 #[.pointer (some ⟨pb, 0, none⟩), .slice (some ⟨tb, 0, none⟩) n tc, .int .i64 (from' : Int), .int .i64 2000] w fun e w1 =>
        ∃ ca cm cc, e = .returned (.tuple #[.agg #[.int .i64 (goR R n from').s, .int .i64 (goR R n from').e, .slice ca cm cc], .bool (goR R n from').ok, .int .i64 (goR R n from').err]) ∧ Bel M w.heap.size w w1 := by
  have hex : ∀ a, ∃ r : Int × Bool, a ≤ n → ∃ pre, InP 3 t a pre ∧ evalM n a pre = some r := fun a => by
    by_cases ha : a ≤ n
    · obtain ⟨pre, r, q1, q2⟩ := treeM_ok (htr a ha) hb hn ha
      exact ⟨r, fun _ => ⟨pre, q1, q2⟩⟩
    · exact ⟨(0, false), fun h => absurd h ha⟩
  obtain ⟨f, hf⟩ := Classical.axiomOfChoice hex
  refine ⟨fun a => ((f a).2, (f a).1), fun M lo hi w pb tb tc base from' hMw hl hhi htb htm htx hfr => ?_⟩
  obtain ⟨lo', hi', mb, b1, b2, ⟨ι, hro, hroot, hin0, hma⟩, hmb⟩ := hl
  have hin : ∀ e ∈ planU 3, ∀ c s, ι e.1 = some (c, s) → lo' ≤ c ∧ c < hi' := fun e he c s h => ⟨(hin0 e he c s h).1, (hin0 e he c s h).2.1⟩
  have htb' : tb < lo' ∨ hi' ≤ tb := htb.imp (fun h => Nat.lt_of_lt_of_le h b1) (fun h => Nat.le_trans b2 h)
  have hhi' : hi' ≤ w.heap.size := Nat.le_trans b2 hhi
  have hnm : ∀ e ∈ planU 3, e.1 ≠ nMach → ∀ c s, ι e.1 = some (c, s) → ¬ M c := fun e he hne c s hc hm => hne ((((hin0 e he c s hc).2.2).1 ((hmb c (hin0 e he c s hc).1 (hin0 e he c s hc).2.1).1 hm).2).2)
  obtain ⟨m1, m2, m3, n1, n2⟩ := root_memU
  obtain ⟨l1, l2, l3, l4⟩ := runs_len 3 (by decide)
  obtain ⟨pb', s0, e1, e2, _, hc⟩ := ro_cell hro m1
  rw [hroot] at e1
  cases e1
  obtain ⟨x0, k0, rfl⟩ := hc 0 _ rfl
  obtain ⟨x1, k1, eb, es, c1, ee, rfl, _, _, _⟩ := hc 1 _ rfl
  obtain ⟨x3, k3, rb, rs, c3, re, rfl, _, _, _⟩ := hc 3 _ rfl
  obtain ⟨eb', es', ee', ebl, _, hec⟩ := ro_cell hro m2
  rw [ee] at ee'
  cases ee'
  obtain ⟨rb', rs', re', rbl, hrx, hrc⟩ := ro_cell hro m3
  rw [re] at re'
  cases re'
  obtain ⟨xs, hxs⟩ : ∃ xs, List.take (runsOf 3).length (List.drop rs ((w.heap[rb]?.map fun o => match o with | .cells c _ _ => c.toList | _ => []).getD [])) = xs := ⟨_, rfl⟩
  replace hrx : V.rels ι (runsOf 3) xs := by rw [← hxs]; exact hrx
  have hxl : xs.length = (runsOf 3).length := rels_length hrx
  have hpin := hin _ m1 _ _ hroot
  have hein := hin _ m2 _ _ ee
  have hcx : ∀ (j : Nat) (x : Value), xs[j]? = some x → w.cell? ⟨rb, rs + j, none⟩ = some x := fun j x hx => by
    have hjl : j < (runsOf 3).length := by rw [← hxl]; exact (List.getElem?_eq_some_iff.1 hx).1
    rw [← hxs, List.getElem?_take, if_pos hjl, List.getElem?_drop] at hx
    cases hw : w.heap[rb]? with
    | none => rw [hw] at hx; simp at hx
    | some o =>
      rw [hw] at hx
      cases o <;> simp at hx
      simp only [World.cell?, hw]
      exact hx
  have hone := fn_one _ _ (runs_fn 3 (by decide)) hrx
  refine first_walk (M := M) (es := engs 3) (g1 := eb) (g2 := es + 0) (c1 := c1) (rv0 := .slice (some ⟨rb, rs + 0, none⟩) (engs 3).length c3) (c2 := 0) (c3 := 0) (m := 0) (pv := .nilFunc)
    (OK := fun w' rv => ∃ g gc, rv = .slice (some ⟨g, 0, none⟩) (runsOf 3).length gc ∧ w'.ownsRow w.heap.size 123 1 rv (runsOf 3).length xs) (R := fun a => ((f a).2, (f a).1)) hMw e2 (hnm _ m1 n1 _ _ hroot) ebl (hnm _ m2 n2 _ _ ee) k0 k1 k3 (fun i e hi => ?_) (by omega) (fun w' hw' => ?_) (fun w' hw' => ?_) (fun w1 w2 rv h hb12 => ?_) (by omega) hfr (fun a ha w' rv hw' hok => ?_)
  · obtain ⟨x, hx, hr⟩ := hec i (.int .i64 e) (by rw [List.getElem?_map, hi]; rfl)
    refine ⟨l4 (by decide) e (List.mem_of_getElem? hi), ?_⟩
    rw [Nat.add_zero, hx]
    exact congrArg some hr
  · exact textE_walk h1 h5 hfr hn hb (owns_below htx hw')
  · rw [Nat.add_zero, ← l1]
    refine (clone_walk (xs := xs) hxl (by omega) (by omega) (fun j x hx => (hw'.cell (p := ⟨rb, rs + j, none⟩) rbl).trans (hcx j x hx)) hone (Nat.lt_of_lt_of_le rbl hw'.size)).mono ?_
    rintro e w1 ⟨v, rfl, hv, hb1⟩
    refine ⟨v, rfl, hb1, ?_⟩
    obtain ⟨a, c, rfl, ha⟩ := owns_shape hv
    obtain ⟨g, rfl⟩ := ha (by omega)
    exact ⟨g, c, rfl, owns_base hv hw'.size⟩
  · obtain ⟨g, gc, rfl, hg⟩ := h
    exact ⟨g, gc, rfl, owns_bel hg hb12 hMw⟩
  · obtain ⟨g, gc, rfl, hg⟩ := hok
    obtain ⟨pre, q1, q2⟩ := hf a ha
    have hgl := World.ownsRow.lt hg g rfl
    have hRM : RunsM lo' hi' mb w' pb xs := RunsM.bel (M := M) ⟨ι, hro, hroot, hin0, hma, hrx⟩ hw' hhi' (fun c c1 c2 hm => (hmb c c1 c2).1 hm)
    refine (pos_m q2 hn hb q1 hRM htb' (owns_bel1 htx hw' (fun g' hg' => by cases hg'; exact htm)) (.inr (Nat.le_trans hhi' hgl.1)) hg).mono ?_
    rintro e w1 ⟨s, e', ca, cm, cc, rfl, hval, hb1⟩
    obtain ⟨y1, y2⟩ := Laid1.mb ⟨ι, hro, hroot, hin0, hma⟩
    exact ⟨s, e', ca, cm, cc, rfl, hval, hb1.more fun c hc => (hmb c (hc ▸ y1) (hc ▸ y2)).2 ⟨rfl, hc⟩⟩
end Go.Proofs.YtopicmcaoeameaaGreatDoor
namespace Go.Proofs.YtopicmcaoeameaaGreatDoor
open Go Go.Ev Go.RowKit

/-- the function F at the values as0, whose result is v0, taken as done -/
noncomputable def memoCal (F : Nat) (as0 : List V) (v0 : V) (c : Cal) : Cal :=
  ⟨fun f xa H n => match Nat.beq f F with
    | true => (match veq 1000 (.agg xa) (.agg as0) with | true => .ok v0 H n | false => c.fn f xa H n)
    | false => c.fn f xa H n, c.rd⟩
def plainV : V → Bool | .int _ _ => true | .bool _ => true | _ => false
theorem plainV_rel {v : V} (h : plainV v = true) {ι ι' : Emb} {x : Value} (hx : V.rel ι v x) : V.rel ι' v x := by
  cases v <;> simp only [plainV] at h <;> first | exact hx | exact absurd h (by decide)
theorem memoCal_ok {P : Program} {Γ Γ1 : Glo} {F : Nat} {as0 : List V} {v0 : V} {c0 c : Cal} {H0 : Heap} {m0 n0 : Pth} (k0 : CalOK P Γ1 c0) (h : c0.fn F as0 .nil m0 = .ok v0 H0 n0) (hp : plainV v0 = true) (hval : Γ1.val = fun _ => []) (ht : Γ1.tab = []) (hl : Γ1.lds = [])
    (hsub : ∀ e ∈ Γ1.ro, e ∈ Γ.ro) (hcl : closedRo Γ1.ro = true) (has : plL (nameOf Γ1.ro) as0 = true) (hfree : freeH H0 (Γ1.ro.map (·.1)) = true) (k : CalOK P Γ c) : CalOK P Γ (memoCal F as0 v0 c) := by
  refine ⟨fun f xa H n v H' n' he => ?_, k.rd⟩
  have he' : (match Nat.beq f F with
    | true => (match veq 1000 (.agg xa) (.agg as0) with | true => Res.ok v0 H n | false => c.fn f xa H n)
    | false => c.fn f xa H n) = .ok v H' n' := he
  cases hf : Nat.beq f F with
  | false => simp only [hf] at he'; exact k.fn _ _ _ _ _ _ _ he'
  | true =>
    simp only [hf] at he'
    cases hq : veq 1000 (.agg xa) (.agg as0) with
    | false => simp only [hq] at he'; exact k.fn _ _ _ _ _ _ _ he'
    | true =>
      simp only [hq] at he'
      have hfF := beq_eq hf
      subst hfF
      have := veq_eq _ _ _ hq
      injection this with this
      subst this
      cases he'
      obtain ⟨_, hcall, hk⟩ := k0.fn _ _ _ _ _ _ _ h
      have noLive : ∀ p, ¬ Live (.nil : Heap) p := fun p hl => by obtain ⟨o, h1, _⟩ := hl; rw [Tr.get_nil] at h1; cases h1
      refine ⟨Mono.refl _, hcall, fun ι w xs hok gok hfr hxs => ?_⟩
      let ι0 : Emb := ⟨fun p => if nameOf Γ1.ro p = true then ι p else none, ι.size, ι.sym⟩
      have e0 : ∀ p, ι0 p = if nameOf Γ1.ro p = true then ι p else none := fun _ => rfl
      have hmove : ∀ p b s, nameOf Γ1.ro p = true → ι p = some (b, s) → ι0 p = some (b, s) ∧ ι0.size b = ι.size b := fun p b s hp hx => ⟨by rw [e0, if_pos hp]; exact hx, rfl⟩
      refine (hk ι0 w xs ⟨fun p o h => (by rw [Tr.get_nil] at h; cases h), fun p q b s s' h => absurd h (noLive p), fun p b s hpb => ?_⟩
        ⟨fun g i v h => (by rw [hval] at h; simp at h), fun g h => (by rw [hval] at h; exact absurd rfl h), fun e he => (by rw [ht] at he; simp at he), fun e he => (by rw [ht] at he; simp at he), fun e he => (by rw [hl] at he; simp at he), fun e he => ?_⟩ (fun p _ h2 => ?_) (V.rels.move hmove _ _ has hxs)).mono fun e w' he => ?_
      · rw [e0] at hpb
        split at hpb
        · exact hok.lt p b s hpb
        · cases hpb
      · obtain ⟨b, s, cs, el, fr, h1, h2, h3, _⟩ := gok.ro e (hsub e he)
        exact ⟨b, s, cs, el, fr, (hmove _ _ _ (nameOf_iff.2 ⟨e, he, rfl⟩) h1).1, h2, V.rels.move hmove _ _ (closedRo_ok hcl e he) h3, fun q t hl => absurd hl (noLive q)⟩
      · rw [e0]
        by_cases hn : nameOf Γ1.ro p = true
        · obtain ⟨y, hy, rfl⟩ := nameOf_iff.1 hn
          exact absurd (freeH_ok hfree y.1 (List.mem_map.2 ⟨y, hy, rfl⟩)) h2
        · rw [if_neg hn]
      · obtain ⟨x, rfl, ι', hv, hs⟩ := he
        have hkept : ∀ b, b < w.heap.size → w'.heap[b]? = w.heap[b]? := fun b hb => hs.kept b hb fun p s hl => absurd hl (noLive p)
        exact ⟨x, rfl, ι, plainV_rel hp hv, ⟨Emb.le.refl _, fun _ h1 h2 => absurd h1 h2, ⟨fun p o hp => O.ok_mono (hok.obj p o hp) (Emb.le.refl _) fun b s _ hp' => hkept b (hok.lt p b s hp'), hok.inj, fun p b s hp => Nat.lt_of_lt_of_le (hok.lt p b s hp) hs.size⟩,
          fun b hb _ => hkept b hb, hs.size, fun p b s hl hp _ => ⟨p, s, hl, hp⟩, hs.tape, hs.os, hs.out⟩⟩
/-- the function F, asked whether a number that is not 97 lies in the set of 97 alone: it does not -/
noncomputable def hasCal (F : Nat) (Γ : Glo) (c : Cal) : Cal :=
  ⟨fun f xa H n => match Nat.beq f F, xa with
    | true, [.sl p o m l e, .sym i .i64 a b] => (match Nat.beq m 1, tabOf Γ.tab 5 (.sym i .i64 a b) (.int .i64 97), roOf Γ.ro p with
      | true, some (.bool false), some cs => (match nth cs o, nth cs (Nat.succ o) with
        | some (.int .i64 x), some (.int .i64 y) => (match ieq x 97, ieq y 97 with | true, true => .ok (.bool false) H n | _, _ => .bad)
        | _, _ => .bad)
      | _, _, _ => .bad)
    | _, _ => c.fn f xa H n, c.rd⟩
theorem hasCal_ok {P : Program} {Γ : Glo} {F : Nat} (hF : Callable P F) (h : ∀ (w : World) (b s cap : Nat) (x : Int), x ≠ 97 → w.cell? ⟨b, s, none⟩ = some (.int .i64 97) → w.cell? ⟨b, s + 1, none⟩ = some (.int .i64 97) →
      Calls P F #[.slice (some ⟨b, s, none⟩) 1 cap, .int .i64 x] w fun e w' => e = .returned (.bool false) ∧ Below w.heap.size w w') {c : Cal} (k : CalOK P Γ c) : CalOK P Γ (hasCal F Γ c) := by
  refine ⟨fun f xa H n v H' n' he => ?_, k.rd⟩
  have he' : (match Nat.beq f F, xa with
    | true, [.sl p o m l e, .sym i .i64 a b] => (match Nat.beq m 1, tabOf Γ.tab 5 (.sym i .i64 a b) (.int .i64 97), roOf Γ.ro p with
      | true, some (.bool false), some cs => (match nth cs o, nth cs (Nat.succ o) with
        | some (.int .i64 x), some (.int .i64 y) => (match ieq x 97, ieq y 97 with | true, true => Res.ok (.bool false) H n | _, _ => .bad)
        | _, _ => .bad)
      | _, _, _ => .bad)
    | _, _ => c.fn f xa H n) = .ok v H' n' := he
  split at he'
  · rename_i p o m l e i a b hf
    split at he'
    · rename_i cs hm htab hro
      split at he'
      · rename_i x y hx hy
        split at he'
        · rename_i hx9 hy9
          cases he'
          have hfF := beq_eq hf
          subst hfF
          have hm1 := beq_eq hm
          subst hm1
          rw [ieq_eq] at hx9 hy9
          have hx97 : x = 97 := by simpa using hx9
          have hy97 : y = 97 := by simpa using hy9
          subst hx97; subst hy97
          refine ⟨Mono.refl _, hF, fun ι w xs hok gok hfr hxs => ?_⟩
          obtain ⟨z, t, e1, hz, ht⟩ := rels_cons_inv hxs
          obtain ⟨u, t2, rfl, hu, ht2⟩ := rels_cons_inv ht
          have := rels_nil_inv ht2; subst this
          obtain ⟨blk, s, cap, q1, rfl, q2, _, _⟩ := hz
          simp only [V.rel] at hu
          obtain ⟨rfl, u1, u2⟩ := hu
          obtain ⟨en, hem, g1, g2, g3, g4⟩ := tabOf_ok htab
          obtain ⟨vv, t1, t2⟩ := gok.tab en hem .i64 (ι.sym i) 97 (by rw [g2]; simp only [V.rel]; exact ⟨trivial, u1, u2⟩) (by rw [g3]; simp only [V.rel]) .eql (by rw [g1]; rfl)
          have hne : ι.sym i ≠ 97 := fun e => by
            rw [e] at t1
            have : vv = .bool true := (Option.some.inj t1).symm
            subst this
            rw [g4] at t2
            simp only [V.rel, valOf] at t2
            cases t2
          have hxe : xs = #[.slice (some ⟨blk, s + o, none⟩) 1 cap, .int .i64 (ι.sym i)] := by apply Array.toList_inj.1; rw [e1]
          subst hxe
          obtain ⟨b2, s2, c2, el, fr, r1, r2, r3, _⟩ := gok.ro _ (roOf_mem hro)
          have r1' : ι p = some (b2, s2) := r1
          rw [q1] at r1'
          cases r1'
          have cellOf : ∀ (j : Nat) (v : V) , nth cs j = some v → ∃ x, w.cell? ⟨blk, s + j, none⟩ = some x ∧ V.rel ι v x := fun j v hv => by
            rw [nth_eq] at hv
            obtain ⟨x, hx, hr⟩ := rels_get r3 hv
            have hj : j < cs.length := (List.getElem?_eq_some_iff.1 hv).1
            refine ⟨x, ?_, hr⟩
            rw [List.getElem?_take_of_lt hj, List.getElem?_drop, Array.getElem?_toList] at hx
            simp only [World.cell?, r2]
            exact hx
          obtain ⟨x0, c0, d0⟩ := cellOf _ _ hx
          obtain ⟨x1, c1, d1⟩ := cellOf _ _ hy
          simp only [V.rel] at d0 d1
          subst d0; subst d1
          refine (h w blk (s + o) cap (ι.sym i) hne c0 c1).mono ?_
          rintro e w' ⟨rfl, hbl⟩
          have hkept : ∀ b, b < w.heap.size → w'.heap[b]? = w.heap[b]? := hbl.block
          exact ⟨_, rfl, ι, by simp only [V.rel], ⟨Emb.le.refl _, fun _ h1 h2 => absurd h1 h2, ⟨fun p o hp => O.ok_mono (hok.obj p o hp) (Emb.le.refl _) fun b s _ hp' => hkept b (hok.lt p b s hp'), hok.inj, fun p b s hp => Nat.lt_of_lt_of_le (hok.lt p b s hp) hbl.size⟩,
            fun b hb _ => hkept b hb, hbl.size, fun p b s hl hp _ => ⟨p, s, hl, hp⟩, hbl.tape, hbl.os, hbl.output⟩⟩
        · cases he'
      · cases he'
    · cases he'
  · exact k.fn _ _ _ _ _ _ _ he'
end Go.Proofs.YtopicmcaoeameaaGreatDoor
namespace Go.Proofs.YtopicmcaoeameaaGreatDoor
open Go Go.Ev Go.RowKit

def bitsAll : Nat → List (List Bool)
  | 0 => [[]]
  | n + 1 => (bitsAll n).flatMap fun l => [true :: l, false :: l]
/-- a text's cells: 97, or anything -/
def cellsB : List Bool → Nat → List V
  | [], _ => []
  | true :: t, i => .int .i64 97 :: cellsB t (i + 1)
  | false :: t, i => .sym i .i64 0 255 :: cellsB t (i + 1)
/-- that those others are not 97 -/
def tabB : List Bool → Nat → Tab
  | [], _ => []
  | true :: t, i => tabB t (i + 1)
  | false :: t, i => (5, .sym i .i64 0 255, .int .i64 97, .bool false) :: tabB t (i + 1)
noncomputable def gloB (b : List Bool) : Glo := ⟨fun _ => [], tabB b 0, [], plan 6 ++ [(nT, cellsB b 0)]⟩
noncomputable def gloA : Glo := ⟨fun _ => [], [], [], plan 6⟩
/-- the pattern, as the oracle is asked whether it accepts it -/
def asA : List V := [.agg [.int .i64 2, .nilsl, .sl (nm 195) 0 2 2 8, .int .i64 0, .int .i64 0, .int .i64 0, .int .i64 0, .bool false, .int .i64 0, .bool false]]
noncomputable def chkA : Bool := match (calOf gloA).fn 122 asA .nil n1 with
  | .ok (.int .i64 (.ofNat 0)) H _ => freeH H ((plan 6).map (·.1))
  | _ => false
noncomputable def calB (b : List Bool) : Cal := evCalO (fun c => memoCal 122 asA (.int .i64 0) (hasCal 129 (gloB b) c)) (funIR Tryz.prog) (gloB b) 1000000 1000
/-- what First gives: start, end, found -/
noncomputable def evalB (n : Nat) (b : List Bool) (f : Nat) : Option (Int × Int × Bool) :=
  match (calB b).fn 30 [.ptr (root 6) 0, .sl nT 0 n n 1, .int .i64 f, .int .i64 2000] .nil n1 with
  | .ok (.tup [.agg [.int .i64 s, .int .i64 e, v], .bool ok, .int .i64 err]) H _ => (match freeH H (nT :: (plan 6).map (·.1)), isSl v, ieq err 0 with
    | true, true, true => some (s, e, ok)
    | _, _, _ => none)
  | _ => none
noncomputable def chkB (n f : Nat) (b : List Bool) : Bool := match evalB n b f with
  | some (s, _, ok) => (match ok with | true => decide ((f : Int) ≤ s) && (decide (s ≤ n) && (match nth b s.toNat with | some true => true | _ => false)) | false => true)
  | none => false
/-- is it asked from f on? -/
noncomputable def askB (f : Nat) (b : List Bool) : Bool := match f with | 0 => true | g + 1 => (match nth b g with | some true => true | _ => false)
noncomputable def treeB (n f : Nat) : Bool := (bitsAll n).all fun b => match askB f b with | true => chkB n f b | false => true
end Go.Proofs.YtopicmcaoeameaaGreatDoor
namespace Go.Proofs.YtopicmcaoeameaaGreatDoor
open Go Go.Ev Go.RowKit

/-- First's contract at the text t and the rule k, out of what it gives from each position -/
def FirstAt (k n : Nat) (t : List Int) (G : Nat → FR) : Prop := (∀ f, (G f).err = 0 ∧ ((G f).ok = true → (f : Int) ≤ (G f).s ∧ (G f).s ≤ n)) ∧
  ∀ (M : Nat → Prop) (lo hi : Nat) (w : World) (pb tb tc base from' : Nat), (∀ c, M c → c < w.heap.size) → LaidM M k lo hi w pb → hi ≤ w.heap.size → (tb < lo ∨ hi ≤ tb) → ¬ M tb → w.ownsRow base 3 1 (.slice (some ⟨tb, 0, none⟩) n tc) n (t.map (Value.int .i64)) → from' ≤ n → Rch G from' →
      Calls Tryz.prog 30 #[.pointer (some ⟨pb, 0, none⟩), .slice (some ⟨tb, 0, none⟩) n tc, .int .i64 (from' : Int), .int .i64 2000] w fun e w1 =>
        ∃ ca cm cc, e = .returned (.tuple #[.agg #[.int .i64 (G from').s, .int .i64 (G from').e, .slice ca cm cc], .bool (G from').ok, .int .i64 (G from').err]) ∧ Bel M w.heap.size w w1
/-- which symbols are 97 -/
def bs (t : List Int) : List Bool := t.map fun x => decide (x = 97)
theorem bs_mem : ∀ t : List Int, bs t ∈ bitsAll t.length
  | [] => List.mem_cons_self ..
  | x :: t => by
    show bs (x :: t) ∈ (bitsAll t.length).flatMap fun l => [true :: l, false :: l]
    refine List.mem_flatMap.2 ⟨bs t, bs_mem t, ?_⟩
    show decide (x = 97) :: bs t ∈ _
    cases decide (x = 97) <;> simp
theorem cellsB_len : ∀ (b : List Bool) (i : Nat), (cellsB b i).length = b.length
  | [], _ => rfl
  | true :: t, i => congrArg (· + 1) (cellsB_len t (i + 1))
  | false :: t, i => congrArg (· + 1) (cellsB_len t (i + 1))
theorem cellsB_rel (ι : Emb) : ∀ (u : List Int) (i : Nat), (∀ x ∈ u, 0 ≤ x ∧ x ≤ 255) → (∀ j x, u[j]? = some x → ι.sym (i + j) = x) → V.rels ι (cellsB (bs u) i) (u.map (Value.int .i64))
  | [], _, _, _ => rels_nil
  | x :: u, i, hb, hσ => by
    have ih := cellsB_rel ι u (i + 1) (fun y hy => hb y (List.mem_cons_of_mem _ hy)) (fun j y hj => by
      have := hσ (j + 1) y (by simpa using hj)
      rw [show i + 1 + j = i + (j + 1) by omega]
      exact this)
    have h0 : ι.sym i = x := hσ 0 x rfl
    have hx := hb x (List.mem_cons_self ..)
    show V.rels ι (cellsB (decide (x = 97) :: bs u) i) _
    by_cases h : x = 97
    · rw [show decide (x = 97) = true from decide_eq_true h]
      exact rels_cons (show _ = _ by rw [h]) ih
    · rw [show decide (x = 97) = false from decide_eq_false h]
      refine rels_cons ?_ ih
      simp only [V.rel, h0]
      exact ⟨trivial, hx.1, hx.2⟩
theorem tabB_told (ι : Emb) : ∀ (u : List Int) (i : Nat), (∀ j x, u[j]? = some x → ι.sym (i + j) = x) → ∀ e ∈ tabB (bs u) i, Go.Ev.Told ι e ∧ Go.Ev.ToldA ι e
  | [], _, _, e, he => by simp [bs, tabB] at he
  | x :: u, i, hσ, e, he => by
    have ih := tabB_told ι u (i + 1) (fun j y hj => by
      have := hσ (j + 1) y (by simpa using hj)
      rw [show i + 1 + j = i + (j + 1) by omega]
      exact this)
    have h0 : ι.sym i = x := hσ 0 x rfl
    have he' : e ∈ tabB (decide (x = 97) :: bs u) i := he
    by_cases h : x = 97
    · rw [show decide (x = 97) = true from decide_eq_true h] at he'
      exact ih e he'
    · rw [show decide (x = 97) = false from decide_eq_false h] at he'
      rcases List.mem_cons.1 he' with rfl | he'
      · refine ⟨fun k a b ha hbb op hop => ?_, fun h20 => absurd (show (5 : Nat) = 20 from h20) (by decide)⟩
        simp only [V.rel] at ha hbb
        obtain ⟨e1, _⟩ := ha
        cases e1
        cases hbb
        have hop' : op = .eql := by cases op <;> simp [bno] at hop <;> rfl
        subst hop'
        refine ⟨.bool (ieq (ι.sym i) 97), rfl, ?_⟩
        have hf : ieq (ι.sym i) 97 = false := by
          rw [ieq_eq, h0]
          simpa using h
        rw [hf]
        simp only [V.rel]
        rfl
      · exact ih e he'
/-- a call that reads what was laid, and an input's cells, of which something is told -/
theorem callTold {P : Program} {cal : Cal} {l : List (Pth × List V)} {tab : Tab} {root T : Pth} {cells : List V} (k : CalOK P ⟨fun _ => [], tab, [], l ++ [(T, cells)]⟩ cal) {f : Nat} {args : List V} {v : V} {H : Heap} {n m : Pth}
    (h : cal.fn f args .nil m = .ok v H n) (hfree : freeH H (T :: l.map (·.1)) = true) (hcl : closedRo l = true) (hT : nameOf l T = false) (hroot : nameOf l root = true) {lo hi b : Nat} {w : World} (hw : Laid l root lo hi w b)
    {tb off : Nat} (htb : tb < lo ∨ hi ≤ tb) {c : Array Value} {el : TypeId} {fr : Nat × Nat} (hb : w.heap[tb]? = some (.cells c el fr)) (σ : Nat → Int) (tsz : Nat) (ht : ∀ ι : Emb, ι.sym = σ → ∀ e ∈ tab, Go.Ev.Told ι e ∧ Go.Ev.ToldA ι e)
    (hc : ∀ ι : Emb, ι.sym = σ → V.rels ι cells ((c.toList.drop off).take cells.length)) (xs : Array Value)
    (hxs : ∀ ι : Emb, ι root = some (b, 0) → ι T = some (tb, off) → ι.size tb = tsz → ι.sym = σ → V.rels ι args xs.toList) :
    Calls P f xs w fun e w1 => ∃ x ι', e = .returned x ∧ V.rel ι' v x ∧ Below w.heap.size w w1 := by
  obtain ⟨ι, hro, hr, hin⟩ := hw
  let ι' : Emb := ⟨fun p => if T = p then some (tb, off) else if nameOf l p = true then ι p else none, fun x => if x = tb then tsz else ι.size x, σ⟩
  have eT : ι' T = some (tb, off) := by show (if T = T then _ else _) = _; rw [if_pos rfl]
  have eN : ∀ p, nameOf l p = true → ι' p = ι p := fun p hp => by
    show (if T = p then _ else _) = _
    rw [if_neg (fun e => by rw [e, hp] at hT; cases hT), if_pos hp]
  have hmem : ∀ p, nameOf l p = true → ∀ c s, ι p = some (c, s) → c ≠ tb := fun p hp c s hc e => by
    obtain ⟨x, hx, rfl⟩ := nameOf_iff.1 hp
    have := hin x hx c s hc
    omega
  have hmove : ∀ p b s, nameOf l p = true → ι p = some (b, s) → ι' p = some (b, s) ∧ ι'.size b = ι.size b := fun p x s hp hx =>
    ⟨(eN p hp).trans hx, by show (if x = tb then _ else _) = _; rw [if_neg (hmem p hp x s hx)]⟩
  have hlt : ∀ p b s, ι' p = some (b, s) → b < w.heap.size := fun p x s hx => by
    by_cases e : T = p
    · subst e
      rw [eT] at hx
      cases hx
      exact (Array.getElem?_eq_some_iff.1 hb).1
    · by_cases hp : nameOf l p = true
      · rw [eN p hp] at hx
        obtain ⟨y, hy, rfl⟩ := nameOf_iff.1 hp
        obtain ⟨b', s', c', el', fr', h1, h2, _⟩ := hro y hy
        rw [hx] at h1
        cases h1
        exact (Array.getElem?_eq_some_iff.1 h2).1
      · have : ι' p = none := by show (if T = p then _ else _) = _; rw [if_neg e, if_neg hp]
        rw [this] at hx; cases hx
  refine callRo k h hfree rfl (ht ι' rfl) rfl (ι := ι') (fun e he => ?_) (fun p hp => ?_) hlt xs (hxs ι' ((eN root hroot).trans hr) eT (by show (if tb = tb then _ else _) = _; rw [if_pos rfl]) rfl)
  · rcases List.mem_append.1 he with he | he
    · obtain ⟨b', s', c', el', fr', h1, h2, h3⟩ := hro e he
      have hn : nameOf l e.1 = true := nameOf_iff.2 ⟨e, he, rfl⟩
      exact ⟨b', s', c', el', fr', (eN _ hn).trans h1, h2, V.rels.move hmove _ _ (closedRo_ok hcl e he) h3⟩
    · simp only [List.mem_singleton] at he
      subst he
      exact ⟨tb, off, c, el, fr, eT, hb, hc ι' rfl⟩
  · by_cases e : T = p
    · subst e; simp
    · by_cases hn : nameOf l p = true
      · obtain ⟨y, hy, rfl⟩ := nameOf_iff.1 hn
        exact List.mem_cons_of_mem _ (List.mem_map.2 ⟨y, hy, rfl⟩)
      · exact absurd (by show (if T = p then _ else _) = _; rw [if_neg e, if_neg hn]) hp
set_option maxRecDepth 1000000 in
theorem asA_ok : chkA = true ∧ plL (nameOf (plan 6)) asA = true := by decide +kernel
theorem chkA_inv : ∃ H n, (calOf gloA).fn 122 asA .nil n1 = .ok (.int .i64 0) H n ∧ freeH H ((plan 6).map (·.1)) = true := by
  have h := asA_ok.1
  unfold chkA at h
  split at h
  · rename_i H n h0
    exact ⟨H, n, h0, h⟩
  · cases h
set_option maxRecDepth 1000000 in
theorem has_walk (w : World) (b s cap : Nat) (x : Int) (hx : x ≠ 97) (c0 : w.cell? ⟨b, s, none⟩ = some (.int .i64 97)) (c1 : w.cell? ⟨b, s + 1, none⟩ = some (.int .i64 97)) :
    Calls Tryz.prog 129 #[.slice (some ⟨b, s, none⟩) 1 cap, .int .i64 x] w fun e w' => e = .returned (.bool false) ∧ Below w.heap.size w w' := by
  go_enter Tryz.func129, Tryz.ntmps129
  go_wp2
  refine wp_loop_rounds 2 ?_
  rw [rounds_succ]
  by_cases h : (97 : Int) ≤ x
  · have h2 : ¬ x ≤ 97 := by omega
    go_wp2
    rw [rounds_succ]
    go_wp2
    go_ret
    refine ⟨rfl, ?_⟩
    exact ((Below.refl _ _).alloc (Nat.le_refl _) _)
  · go_wp2
    rw [rounds_succ]
    go_wp2
    go_ret
    refine ⟨rfl, ?_⟩
    exact ((Below.refl _ _).alloc (Nat.le_refl _) _)
theorem has_callable : Callable Tryz.prog 129 := ⟨_, Tryz.func129, rfl, by kernel_rfl⟩
theorem calB_ok (b : List Bool) : CalOK Tryz.prog (gloB b) (calB b) := by
  obtain ⟨H, n, h0, hf⟩ := chkA_inv
  exact calO_ok mix named (fun c k => memoCal_ok (calOf_ok gloA) h0 rfl rfl rfl rfl (fun e he => List.mem_append_left _ he) (plan_closed 6 (by decide)).1 asA_ok.2 hf (hasCal_ok has_callable has_walk k)) 1000
theorem evalB_inv {n f : Nat} {b : List Bool} {s e : Int} {ok : Bool} (h : evalB n b f = some (s, e, ok)) : ∃ v H m, (calB b).fn 30 [.ptr (root 6) 0, .sl nT 0 n n 1, .int .i64 f, .int .i64 2000] .nil n1 = .ok (.tup [.agg [.int .i64 s, .int .i64 e, v], .bool ok, .int .i64 0]) H m ∧
    freeH H (nT :: (plan 6).map (·.1)) = true ∧ isSl v = true := by
  unfold evalB at h
  split at h
  · rename_i s' e' v ok' err H m h0
    split at h
    · rename_i hf hv he
      have he0 : err = 0 := by
        rw [ieq_eq] at he
        simpa using he
      subst he0
      cases h
      exact ⟨v, H, m, h0, hf, hv⟩
    · cases h
  · cases h
theorem first_o (htr : ∀ n, 1 ≤ n → n ≤ 5 → ∀ f ≤ n, treeB n f = true) {t : List Int} (h1 : 1 ≤ t.length) (h5 : t.length ≤ 5) (hb : ∀ x ∈ t, 0 ≤ x ∧ x ≤ 255) : ∃ G, FirstAt 6 t.length t G := by
  have hex : ∀ f : Nat, ∃ r : Int × Int × Bool, (r.2.2 = true → ((f : Int) ≤ r.1 ∧ r.1 ≤ t.length) ∧ (bs t)[r.1.toNat]? = some true) ∧ (f ≤ t.length → askB f (bs t) = true → evalB t.length (bs t) f = some r) := fun f => by
    by_cases hf : f ≤ t.length
    · by_cases ha : askB f (bs t) = true
      · have hc0 := List.all_eq_true.1 (htr _ h1 h5 f hf) _ (bs_mem t)
        have hc : chkB t.length f (bs t) = true := by
          have hc1 : (match askB f (bs t) with | true => chkB t.length f (bs t) | false => true) = true := hc0
          rw [ha] at hc1
          exact hc1
        unfold chkB at hc
        split at hc
        · rename_i s e ok he
          refine ⟨(s, e, ok), fun hok => ?_, fun _ _ => he⟩
          have hok' : ok = true := hok
          subst hok'
          simp only [Bool.and_eq_true, decide_eq_true_eq] at hc
          obtain ⟨c1, c2, c3⟩ := hc
          refine ⟨⟨c1, c2⟩, ?_⟩
          rw [nth_eq] at c3
          split at c3
          · assumption
          · cases c3
        · cases hc
      · exact ⟨(0, 0, false), fun h => absurd h (by decide), fun _ h => absurd h ha⟩
    · exact ⟨(0, 0, false), fun h => absurd h (by decide), fun h => absurd h hf⟩
  obtain ⟨g, hg⟩ := Classical.axiomOfChoice hex
  refine ⟨fun f => ⟨(g f).1, (g f).2.1, (g f).2.2, 0⟩, fun f => ⟨rfl, fun h => ((hg f).1 h).1⟩, fun M lo hi w pb tb tc base from' hMw hl hhi htb htm htx hfr hrch => ?_⟩
  have hask : askB from' (bs t) = true := by
    rcases hrch with rfl | ⟨f, e1, e2⟩
    · rfl
    · obtain ⟨⟨a1, _⟩, a3⟩ := (hg f).1 e1
      have e2' : (g f).1 + 1 = (from' : Int) := e2
      obtain ⟨j, rfl⟩ : ∃ j, from' = j + 1 := ⟨from' - 1, by omega⟩
      have hj : (g f).1.toNat = j := by omega
      rw [hj] at a3
      show (match nth (bs t) j with | some true => true | _ => false) = true
      rw [nth_eq, a3]
  have he := (hg from').2 hfr hask
  obtain ⟨v, H, m, h0, hfree, hv⟩ := evalB_inv he
  obtain ⟨lo', hi', mb, b1, b2, hlaid, hmb⟩ := hl
  have htb' : tb < lo' ∨ hi' ≤ tb := by omega
  have hpl := plan_closed 6 (by decide)
  rcases htx.2 with ⟨e, _⟩ | ⟨g1, c1, u1, e, _, q1, q2, q3, q4, q5⟩
  · cases e
  · cases e
    refine (callTold (calB_ok (bs t)) h0 hfree hpl.1 hpl.2.1 hpl.2.2 (hlaid.laid (by decide)) htb' q1 (off := 0) (fun i => (t[i]?).getD 0) tc (fun ι hσ => ?_) (fun ι hσ => ?_) _ (fun ι hr hT hsz hσ => ?_)).mono fun ed w2 he => ?_
    · exact tabB_told ι t 0 fun j x hj => by rw [hσ]; show (t[0 + j]?).getD 0 = x; rw [Nat.zero_add, hj]; rfl
    · rw [List.drop_zero, cellsB_len, show (bs t).length = t.length by simp [bs]]
      rw [Nat.mul_one] at q5
      rw [q5]
      exact cellsB_rel ι t 0 hb fun j x hj => by rw [hσ]; show (t[0 + j]?).getD 0 = x; rw [Nat.zero_add, hj]; rfl
    · exact rels_cons ⟨pb, 0, hr, rfl⟩ (rels_cons ⟨tb, 0, tc, hT, rfl, q2, fun h => absurd h (by decide), fun _ => by rw [hsz]; omega⟩ (rels_cons rfl (rels_one rfl)))
    · obtain ⟨y, ι', rfl, hy, hbel⟩ := he
      obtain ⟨ca, cm, cc, rfl⟩ := out_rel hv hy
      exact ⟨ca, cm, cc, rfl, .of hbel⟩
end Go.Proofs.YtopicmcaoeameaaGreatDoor
