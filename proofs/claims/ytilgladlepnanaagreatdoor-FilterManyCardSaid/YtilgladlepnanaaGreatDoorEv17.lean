/-
  A verified evaluator, part 17: append, copy, clear, len, cap, min, max.
-/
import Derived.Test.YtilgladlepnanaaGreatDoorEv16
import Derived.Laws.Append
namespace Go.Ev
noncomputable section
open Go

section
variable {P : Program} {Γ : Glo} {ι : Emb} {H H' : Heap} {w w' : World} {ρ : Operand → Value} {L : List V} {R : Regs} {r : Operand → Src} {cal : Cal} {n n' : Pth} {v : V} {o : Oper}

theorem run_firstCells_zero (a : Addr) (size m c : Nat) (w : World) : (Builtin.firstCells size 0 (.slice (some a) m c)).run P w = .ok #[] w := by
  unfold Builtin.firstCells
  rw [Nat.zero_mul]; rfl
theorem firsts_ok (h : HOK P ι H w) (g : GOK Γ ι H w) {u : V} {x : Value} {size m : Nat} {l : List V} (ht : tailOf Γ H size u = some (m, l)) (hr : V.rel ι u x) :
    (Builtin.lenOf x).run P w = .ok m w ∧ l.length = m * size ∧ ∀ k, k ≤ m → ∃ ys, (Builtin.firstCells size k x).run P w = .ok ys w ∧ V.rels ι (l.take (k * size)) ys.toList := by
  cases u <;> simp only [tailOf] at ht <;> try (cases ht; done)
  case nilsl =>
    simp at ht; obtain ⟨rfl, rfl⟩ := ht
    simp only [V.rel] at hr; subst hr
    refine ⟨rfl, by simp, fun k hk => ?_⟩
    exact ⟨#[], rfl, by simpa using rels_nil⟩
  case sl0 z =>
    simp at ht; obtain ⟨rfl, rfl⟩ := ht
    simp only [V.rel] at hr; obtain ⟨a, c', rfl, _⟩ := hr
    refine ⟨rfl, by simp, fun k hk => ?_⟩
    have : k = 0 := by omega
    subst this
    exact ⟨#[], run_firstCells_zero a _ _ _ _, by simpa using rels_nil⟩
  case sl p o k c e =>
    cases hc : cellsAt Γ H (.ptr p o) (k * size) with
    | none => simp [hc] at ht
    | some l' =>
      simp [hc] at ht
      obtain ⟨rfl, rfl⟩ := ht
      simp only [V.rel] at hr
      obtain ⟨b, s, c', hp, rfl, _⟩ := hr
      have hrp : V.rel ι (.ptr p o) (.pointer (some ⟨b, s + o, none⟩)) := by simp only [V.rel]; exact ⟨b, s, hp, rfl⟩
      obtain ⟨a, ys, ha, hrun, hv, hl⟩ := cellsAt_ok h g hc hrp
      cases ha
      refine ⟨rfl, hl, fun j hj => ?_⟩
      have hjk : j * size ≤ k * size := Nat.mul_le_mul_right _ hj
      have hc2 : cellsAt Γ H (.ptr p o) (j * size) = some (l'.take (j * size)) := by
        simp only [cellsAt] at hc ⊢
        cases hg : H.get p with
        | none => simp [hg] at hc
        | some ob =>
          cases ob <;> simp only [hg] at hc ⊢ <;> try (cases hc; done)
          rename_i l0
          obtain ⟨h1, h2⟩ := takeN_some hc
          rw [takeN_eq, if_pos (by omega), h2, List.take_take, Nat.min_eq_left hjk]
      obtain ⟨a2, ys2, ha2, hrun2, hv2, _⟩ := cellsAt_ok h g hc2 hrp
      cases ha2
      exact ⟨ys2, hrun2, hv2⟩
  case str s =>
    cases hs : Nat.beq size 1 with
    | false => simp [hs] at ht
    | true =>
      have := beq_eq hs; subst this
      simp [hs] at ht
      obtain ⟨rfl, rfl⟩ := ht
      simp only [V.rel] at hr
      obtain ⟨b, rfl, rfl⟩ := hr
      have hsz : b.data.size = b.size := rfl
      refine ⟨?_, ?_, fun k hk => ⟨_, rfl, ?_⟩⟩
      · simp only [Builtin.lenOf, len_eq]; rw [run_ofPure]; simp [hsz]
      · rw [ofBytes_length, len_eq]; simp
      · rw [len_eq] at hk
        simp at hk
        have e1 : ((b.extract 0 k).data.map fun y => Value.int .u8 (y.toNat : Int)).toList = (b.data.toList.map fun y => Value.int .u8 (y.toNat : Int)).take k := by
          rw [Array.toList_map, bytes_extract b 0 k (Nat.zero_le _) (by rw [← hsz]; exact hk)]
          simp [List.map_take]
        rw [e1, Nat.mul_one]
        exact rels_take k (ofBytes_rels _)

theorem run_append_in {s t ty e : TypeId} {d : TypeDesc} {base : Option Addr} {sLen sCap m size : Nat} {x : Value} {new : Array Value} (hu : P.underlying s = some (.slice e)) (hut : P.underlying t = some d)
    (hd : (∃ e', d = .slice e') ∨ d = .string) (hsz : sizeT P e = some size) (hlen : (Builtin.lenOf x).run P w = .ok m w) (hnew : (Builtin.firstCells size m x).run P w = .ok new w) (hle : sLen + m ≤ sCap)
    (hst : match (motive := Option Addr → Prop) base with | some a => (storeCells (a.add (sLen * size)) new.toList).run P w = .ok () w' | none => w' = w) :
    (Builtin.append_ #[s, t] ty #[.slice base sLen sCap, x]).run P w = .ok (.slice base (sLen + m) sCap) w' := by
  unfold Builtin.append_
  simp only [List.getElem?_toArray, List.getElem?_cons_zero, List.getElem?_cons_succ]
  rw [run_ok_bind (run_underlying hu w)]
  simp only []
  rw [run_ok_bind (run_sizeOf hsz), run_ok_bind (run_underlying hut w)]
  rcases hd with ⟨e', rfl⟩ | rfl <;> simp only [] <;> rw [run_ok_bind (run_ofPure _)] <;> simp only [Bool.false_eq_true, if_false, Bool.not_false, if_true] <;>
    rw [run_ok_bind hlen, if_pos hle, run_ok_bind hnew] <;> (cases base with
    | none => subst hst; rfl
    | some a => simp only [] at hst ⊢; rw [run_ok_bind hst]; rfl)
theorem run_askRoom (k : Nat) : (askRoom k).run P w = .ok () w := by
  unfold askRoom
  by_cases h : k > roomBytes
  · rw [if_pos h]; rfl
  · rw [if_neg h]; rfl
theorem run_append_out {s t ty e : TypeId} {d : TypeDesc} {base : Option Addr} {sLen sCap m size bytes : Nat} {x z : Value} {old new : Array Value} (hu : P.underlying s = some (.slice e)) (hut : P.underlying t = some d)
    (hd : (∃ e', d = .slice e') ∨ d = .string) (hsz : sizeT P e = some size) (hby : bytesT P e = some bytes) (hz0 : zeroT P e = some z) (hb0 : bytes ≠ 0)
    (hlen : (Builtin.lenOf x).run P w = .ok m w) (hold : (Builtin.firstCells size sLen (.slice base sLen sCap)).run P { w with drawn := w.drawn + 1 } = .ok old { w with drawn := w.drawn + 1 })
    (hnew : (Builtin.firstCells size m x).run P { w with drawn := w.drawn + 1 } = .ok new { w with drawn := w.drawn + 1 })
    (hgt : ¬ (sLen + m ≤ sCap)) (hfit : 2 * (sLen + m) * bytes ≤ 281474976710656) :
    ∃ cap, sLen + m ≤ cap ∧ (Builtin.append_ #[s, t] ty #[.slice base sLen sCap, x]).run P w = .ok (.slice (some ⟨w.heap.size, 0, none⟩) (sLen + m) cap)
      (({ w with drawn := w.drawn + 1 } : World).alloc (.cells (old ++ new ++ Builtin.zeroCells z.cells (cap - (sLen + m))) e)) := by
  obtain ⟨i, hi, hib⟩ : ∃ i, P.info? e = some i ∧ i.bytes = bytes := by
    unfold bytesT at hby
    cases hi : P.info? e with
    | none => simp [hi] at hby
    | some i => simp [hi] at hby; exact ⟨i, rfl, hby⟩
  refine ⟨(Question.appendCap (sLen + m) sCap e).cut (w.tape w.drawn (.appendCap (sLen + m) sCap e)), by simp only [Question.cut]; omega, ?_⟩
  have hch : (choose (.appendCap (sLen + m) sCap e)).run P w = .ok ((Question.appendCap (sLen + m) sCap e).cut (w.tape w.drawn (.appendCap (sLen + m) sCap e))) { w with drawn := w.drawn + 1 } := by
    simp [choose, Sem.run, Question.forced]
  have hn2 : ¬ (Builtin.nextslicecap (sLen + m) sCap * i.bytes > 2 ^ 48) := by
    have h1 : Builtin.nextslicecap (sLen + m) sCap * i.bytes ≤ 2 * (sLen + m) * i.bytes := Nat.mul_le_mul_right _ (nextslicecap_le (by omega))
    rw [hib] at h1 ⊢
    have h2 : (2 : Nat) ^ 48 = 281474976710656 := by decide
    rw [h2]
    exact Nat.not_lt.2 (Nat.le_trans h1 hfit)
  have hn1 : ¬ (((sLen + m : Nat) : Int) > IntKind.i64.max ∧ (False ∨ i.bytes = 0)) := fun h => by
    rcases h.2 with h | h
    · exact h
    · exact hb0 (by rw [← hib]; exact h)
  unfold Builtin.append_
  simp only [List.getElem?_toArray, List.getElem?_cons_zero, List.getElem?_cons_succ]
  rw [run_ok_bind (run_underlying hu w)]
  simp only []
  rw [run_ok_bind (run_sizeOf hsz), run_ok_bind (run_underlying hut w)]
  rcases hd with ⟨e', rfl⟩ | rfl <;> simp only [] <;> rw [run_ok_bind (run_ofPure _)] <;> simp only [Bool.false_eq_true, if_false, Bool.not_false, if_true] <;>
    rw [run_ok_bind hlen, if_neg hgt, run_ok_bind (run_typeInfo hi), if_neg hn1, run_ok_bind (run_typeInfo hi), if_neg hn2, run_ok_bind hch, run_ok_bind (run_typeInfo hi), run_ok_bind (run_askRoom _),
      run_ok_bind hold, run_ok_bind hnew, run_ok_bind (run_zeroValue hz0), run_ok_bind (run_newRow e _)] <;> rfl

theorem cellsAt_some {p : Pth} {off k : Nat} {l : List V} (h : cellsAt Γ H (.ptr p off) k = some l) : ∃ l0, H.get p = some (.cells l0) ∧ k ≤ (l0.drop off).length ∧ l = (l0.drop off).take k := by
  simp only [cellsAt] at h
  cases hg : H.get p with
  | none => simp [hg] at h
  | some ob =>
    cases ob <;> simp only [hg] at h <;> try (cases h; done)
    rename_i l0
    obtain ⟨h1, h2⟩ := takeN_some h
    rw [dropN_eq] at h1 h2
    exact ⟨l0, rfl, h1, h2⟩
theorem drew_step (h : HOK P ι H w) : Step P ι H w ι H { w with drawn := w.drawn + 1 } := Step.drew h _
/-- a new block for what was and what is appended -/
theorem grown_ok {H1 : Heap} {w1 : World} {size bytes need cap : Nat} {l : List V} {old new z : Array Value} {e : TypeId} (h0 : Step P ι H w ι H1 w1) (m0 : Mono H H1)
    (hg : grown H1 n (size + 1) bytes need l = .ok v H' n') (hn0 : H.get n = none) (hfr : Fr ι H H')
    (hl : V.rels ι l (old ++ new).toList) (hll : l.length = need * (size + 1)) (hz : z.size = size + 1) (hcap : need ≤ cap) :
    Post P ι H w H' v (.slice (some ⟨w1.heap.size, 0, none⟩) need cap) (w1.alloc (.cells (old ++ new ++ Builtin.zeroCells z (cap - need)) e)) := by
  unfold grown at hg
  cases h1 : Nat.ble ((2 * need + 1024) * bytes) 1073741824 with
  | false => simp [h1] at hg
  | true =>
    cases h2 : Nat.ble need 1073741824 with
    | false => simp [h1, h2] at hg
    | true =>
      simp only [h1, h2] at hg
      unfold fresh at hg
      cases hn : H1.get n with
      | some q => simp [hn] at hg
      | none =>
        simp [hn] at hg
        obtain ⟨rfl, rfl, rfl⟩ := hg
        have hι : ι n = none := hfr n hn0 (by rw [Tr.get_set_same]; simp)
        have hsz : (old ++ new).size = need * (size + 1) := by
          have := rels_length hl
          rw [Array.length_toList] at this
          omega
        have hzc : (Builtin.zeroCells z (cap - need)).size = (cap - need) * (size + 1) := by
          unfold Builtin.zeroCells; simp [hz]
        have hcs : (old ++ new ++ Builtin.zeroCells z (cap - need)).size = cap * (size + 1) := by
          rw [Array.size_append, hsz, hzc, ← Nat.add_mul]
          congr 1; omega
        refine ⟨_, ?_, h0.trans (Step.alloc (.cells (old ++ new ++ Builtin.zeroCells z (cap - need)) e) (T := (old ++ new ++ Builtin.zeroCells z (cap - need)).size) h0.hok hn hι (by simp) rfl rfl rfl rfl
          (newCells_ok rfl (.inl rfl) ?_)) m0 (Mono.set _ _ _)⟩
        · simp only [V.rel]
          refine ⟨w1.heap.size, 0, cap, upd_same _ _ _ _, by simp, hcap, fun h => absurd h (by omega), fun _ => ?_⟩
          have := upd_size ι n (w1.heap.size, 0) (old ++ new ++ Builtin.zeroCells z (cap - need)).size
          simp only at this
          rw [this, hcs]; omega
        · have e1 : (old ++ new ++ Builtin.zeroCells z (cap - need)).toList.take l.length = (old ++ new).toList := by
            rw [Array.toList_append, List.take_left']
            rw [hll, ← hsz, Array.length_toList]
          rw [e1]
          exact V.rels.mono (upd_le_new hι h0.hok) _ _ hl
theorem append_run {s t ty e : TypeId} {d : TypeDesc} {x y : Operand} {size bytes : Nat} {zs : List V} (c : Cxt P Γ ι H w ρ L R r) (hu : P.underlying s = some (.slice e)) (hut : P.underlying t = some d)
    (hd : (∃ e', d = .slice e') ∨ d = .string) (hsz : sizeT P e = some (size + 1)) (hby : bytesT P e = some (bytes + 1)) (hz : zeroCellsT P e = some zs) (hzl : zs.length = size + 1)
    (he : evAppend (size + 1) (bytes + 1) (r x) (r y) cal Γ L R H n = .ok v H' n') (hfr : Fr ι H H') :
    ∃ q w', (Builtin.append_ #[s, t] ty #[ρ x, ρ y]).run P w = .ok q w' ∧ Post P ι H w H' v q w' := by
  unfold evAppend at he
  obtain ⟨z, hz0, hzr⟩ := zeroCells_rel (ι := ι) hz
  have hzs : z.cells.size = size + 1 := by have := rels_length hzr; rw [Array.length_toList] at this; omega
  cases ht : tailOf Γ H (size + 1) (src L R (r y)) with
  | none => simp [ht] at he
  | some mn =>
    obtain ⟨m, new⟩ := mn
    simp only [ht] at he
    obtain ⟨hlen, hnl, hfirst⟩ := firsts_ok c.hok c.gok ht (c.hs y)
    obtain ⟨ys, hys, hyr⟩ := hfirst m (Nat.le_refl _)
    rw [← hnl, List.take_length] at hyr
    have dst := drew_step c.hok
    -- the same reads behind the draw
    obtain ⟨hlen1, _, hfirst1⟩ := firsts_ok dst.hok (c.gok.step dst) ht (c.hs y)
    obtain ⟨ys1, hys1, hyr1⟩ := hfirst1 m (Nat.le_refl _)
    rw [← hnl, List.take_length] at hyr1
    have hfitOf : ∀ need, Nat.ble ((2 * need + 1024) * (bytes + 1)) 1073741824 = true → 2 * need * (bytes + 1) ≤ 281474976710656 := fun need hb => by
      have h1 := ble_le hb
      have h2 : 2 * need * (bytes + 1) ≤ (2 * need + 1024) * (bytes + 1) := Nat.mul_le_mul_right _ (by omega)
      exact Nat.le_trans h2 (Nat.le_trans h1 (by decide))
    have hgb : ∀ {H1 : Heap} {need : Nat} {l : List V}, grown H1 n (size + 1) (bytes + 1) need l = .ok v H' n' → 2 * need * (bytes + 1) ≤ 281474976710656 ∧ H1.get n = none := fun {H1 need l} hg => by
      unfold grown at hg
      cases h1 : Nat.ble ((2 * need + 1024) * (bytes + 1)) 1073741824 with
      | false => simp [h1] at hg
      | true =>
        refine ⟨hfitOf need h1, ?_⟩
        cases h2 : Nat.ble need 1073741824 with
        | false => simp [h1, h2] at hg
        | true =>
          simp only [h1, h2] at hg
          unfold fresh at hg
          cases hn : H1.get n with
          | some q => simp [hn] at hg
          | none => rfl
    have hx := c.hs x
    cases hbx : src L R (r x) <;> simp only [hbx] at he <;> try (cases he; done)
    case nilsl =>
      rw [hbx] at hx; simp only [V.rel] at hx
      rw [hx]
      cases hm0 : Nat.beq m 0 with
      | true =>
        have := beq_eq hm0; subst this
        simp [hm0] at he
        obtain ⟨rfl, rfl, rfl⟩ := he
        exact ⟨_, w, run_append_in (base := none) hu hut hd hsz hlen hys (Nat.le_refl _) rfl, Post.pure c.hok (by simp [V.rel])⟩
      | false =>
        simp only [hm0] at he
        have hmne : m ≠ 0 := fun e => by subst e; simp at hm0
        obtain ⟨hfit, hn0⟩ := hgb he
        obtain ⟨cap, hcap, hrun⟩ := run_append_out (P := P) (w := w) (ty := ty) (base := none) (sLen := 0) (sCap := 0) (old := #[]) (new := ys1) hu hut hd hsz hby hz0 (by omega) hlen (run_firstCells_none _ _ _ _ _) hys1 (by omega) (by simpa using hfit)
        refine ⟨_, _, hrun, ?_⟩
        have := grown_ok (old := #[]) (new := ys1) (z := z.cells) (cap := cap) (e := e) dst (Mono.refl H) he hn0 hfr (by simpa using hyr1) hnl hzs (by omega)
        simpa using this
    case sl0 zc =>
      rw [hbx] at hx; simp only [V.rel] at hx
      obtain ⟨ad, c', hxe, hzc⟩ := hx
      rw [hxe]
      cases hm0 : Nat.beq m 0 with
      | true =>
        have := beq_eq hm0; subst this
        simp [hm0] at he
        obtain ⟨rfl, rfl, rfl⟩ := he
        have hyn : ys.toList = [] := by
          have := rels_length hyr
          rw [hnl, Nat.zero_mul] at this
          exact List.length_eq_zero_iff.1 this
        exact ⟨_, w, run_append_in (base := some ad) hu hut hd hsz hlen hys (by omega) (by rw [hyn]; rfl), Post.pure c.hok (by simp only [V.rel]; exact ⟨ad, c', rfl, hzc⟩)⟩
      | false =>
        cases zc with
        | false => simp [hm0] at he
        | true =>
        simp only [hm0] at he
        have hmne : m ≠ 0 := fun e => by subst e; simp at hm0
        have := hzc rfl; subst this
        obtain ⟨hfit, hn0⟩ := hgb he
        obtain ⟨cap, hcap, hrun⟩ := run_append_out (P := P) (w := w) (ty := ty) (base := some ad) (sLen := 0) (sCap := 0) (old := #[]) (new := ys1) hu hut hd hsz hby hz0 (by omega) hlen (run_firstCells_zero _ _ _ _ _) hys1 (by omega) (by simpa using hfit)
        refine ⟨_, _, hrun, ?_⟩
        have := grown_ok (old := #[]) (new := ys1) (z := z.cells) (cap := cap) (e := e) dst (Mono.refl H) he hn0 hfr (by simpa using hyr1) hnl hzs (by omega)
        simpa using this
    case sl p off k lo ex =>
      rw [hbx] at hx; simp only [V.rel] at hx
      obtain ⟨b, st, c', hp, hxe, hcc, hex0, hex1⟩ := hx
      rw [hxe]
      cases hle : Nat.ble (k + m) lo with
      | true =>
        have hle' := ble_le hle
        simp only [hle] at he
        cases hput : putAt H (.ptr p (off + k * (size + 1))) new with
        | none => simp [hput] at he
        | some H1 =>
          simp [hput] at he
          obtain ⟨rfl, rfl, rfl⟩ := he
          have hrp : V.rel ι (.ptr p (off + k * (size + 1))) (.pointer (some ((⟨b, st + off, none⟩ : Addr).add (k * (size + 1))))) := by
            simp only [V.rel]; exact ⟨b, st, hp, by rw [addr_add, Nat.add_assoc]⟩
          obtain ⟨a, w', ha, hrun, hst⟩ := putAt_ok c.hok hput hrp hyr
          cases ha
          refine ⟨_, w', run_append_in (base := some ⟨b, st + off, none⟩) hu hut hd hsz hlen hys (by omega) hrun, ι, ?_, hst⟩
          simp only [V.rel]
          exact ⟨b, st, c', hp, rfl, hcc, hex0, hex1⟩
      | false =>
        have hgt : ¬ (k + m ≤ lo) := fun hh => by
          have := Nat.ble_eq_true_of_le hh
          rw [this] at hle; cases hle
        simp only [hle] at he
        cases hca : cellsAt Γ H (.ptr p off) (k * (size + 1)) with
        | none => simp [hca] at he
        | some old =>
          simp only [hca] at he
          have hrp : V.rel ι (.ptr p off) (.pointer (some ⟨b, st + off, none⟩)) := by simp only [V.rel]; exact ⟨b, st, hp, rfl⟩
          obtain ⟨a, olds, ha, hold, holdr, hol⟩ := cellsAt_ok dst.hok (c.gok.step dst) hca hrp
          cases ha
          have hfo : (Builtin.firstCells (size + 1) k (.slice (some ⟨b, st + off, none⟩) k c')).run P { w with drawn := w.drawn + 1 } = .ok olds { w with drawn := w.drawn + 1 } := hold
          have hall : V.rels ι (app old new) (olds ++ ys1).toList := by
            rw [app_eq, Array.toList_append]; exact rels_append holdr hyr1
          have hal : (app old new).length = (k + m) * (size + 1) := by
            rw [app_eq, List.length_append, hol, hnl, Nat.add_mul]
          cases ex with
          | zero =>
            simp only at he
            have := hex0 rfl; subst this
            obtain ⟨hfit, hn0⟩ := hgb he
            obtain ⟨cap, hcap, hrun⟩ := run_append_out (P := P) (w := w) (ty := ty) (base := some ⟨b, st + off, none⟩) (sLen := k) (sCap := c') (old := olds) (new := ys1) hu hut hd hsz hby hz0 (by omega) hlen hfo hys1 hgt hfit
            exact ⟨_, _, hrun, grown_ok (old := olds) (new := ys1) (z := z.cells) (cap := cap) (e := e) dst (Mono.refl H) he hn0 hfr hall hal hzs hcap⟩
          | succ ee =>
            cases hee : Nat.beq (Nat.succ ee) (size + 1) with
            | false => simp only [hee] at he; cases he
            | true =>
              cases hn0 : H.get n with
              | some q => simp only [hee, hn0] at he; cases he
              | none =>
                cases hao : allOne new with
                | false => simp only [hee, hn0, hao] at he; cases he
                | true =>
                  cases ho0 : Nat.beq off 0 with
                  | false => simp only [hee, hn0, hao, ho0] at he; cases he
                  | true =>
                  have hoff := beq_eq ho0
                  simp only [hee, hn0, hao, ho0] at he
                  have hes : ee + 1 = size + 1 := beq_eq hee
                  have hsize := hex1 (by omega)
                  rw [hes] at hsize
                  obtain ⟨hfit, hn1⟩ := hgb he
                  -- the block
                  obtain ⟨l0, hg, hk0, hold0⟩ := cellsAt_some hca
                  obtain ⟨b2, s2, cs, el, fr, hι2, hh, hf, hl, hsz2, hbz⟩ := cells_of c.hok hg
                  rw [hp] at hι2; cases hι2
                  have hkill := Step.kill c.hok hg (by simp)
                  by_cases hin : k + m ≤ c'
                  · -- it fits after all: the block goes on under the new name
                    have hιn : ι n = none := by
                      unfold grown at he
                      cases h1 : Nat.ble ((2 * (k + m) + 1024) * (bytes + 1)) 1073741824 with
                      | false => simp [h1] at he
                      | true =>
                        cases h2 : Nat.ble (k + m) 1073741824 with
                        | false => simp [h1, h2] at he
                        | true =>
                          simp only [h1, h2] at he
                          unfold fresh at he
                          simp [hn1] at he
                          obtain ⟨rfl, rfl, rfl⟩ := he
                          exact hfr n hn0 (by rw [Tr.get_set_same]; simp)
                    have hyl : ys.toList.length = m * (size + 1) := by rw [rels_length hyr, hnl]
                    have hcs : cs.size = st + off + c' * (size + 1) := by rw [← hbz.1, hsize]
                    have hkm : k * (size + 1) + m * (size + 1) ≤ c' * (size + 1) := by rw [← Nat.add_mul]; exact Nat.mul_le_mul_right _ hin
                    obtain ⟨w', cs', hrun, hsb, hh', hc', hsz'⟩ := run_storeCells_cells (P := P) (b := b) (el := el) (fr := fr) (st + off + k * (size + 1)) ys.toList 0 w cs hh hf (by omega) (allOne_rels hao hyr)
                    refine ⟨_, w', run_append_in (base := some ⟨b, st + off, none⟩) hu hut hd hsz hlen hys hin (by simp only [addr_add]; exact hrun), ?_⟩
                    have hwin : (cs'.toList.drop (st + off)).take ((k + m) * (size + 1)) = (cs.toList.drop (st + off)).take (k * (size + 1)) ++ ys.toList := by
                      simp only [Nat.add_zero] at hc'
                      rw [hc', window_overlay cs.toList ys.toList (st + off) ((k + m) * (size + 1)) (k * (size + 1)) (by rw [Array.length_toList, Nat.add_mul]; omega) (by rw [hyl, Nat.add_mul]; omega)]
                      rw [List.take_take, Nat.min_eq_left (by rw [Nat.add_mul]; omega), (List.drop_of_length_le (by rw [List.length_take, hyl, Nat.add_mul]; omega) : ((cs.toList.drop (st + off)).take ((k + m) * (size + 1))).drop (k * (size + 1) + ys.toList.length) = []), List.append_nil]
                    have hor : V.rels ι old ((cs.toList.drop (st + off)).take (k * (size + 1))) := by
                      rw [hold0]
                      have h5 := rels_take (k * (size + 1)) (rels_drop off hl)
                      rw [List.drop_take, List.take_take, List.drop_drop] at h5
                      rw [List.length_drop] at hk0
                      rw [Nat.min_eq_left hk0] at h5
                      exact h5
                    have hv : v = .sl n 0 (k + m) (k + m) (size + 1) ∧ H' = (H.set p .dead).set n (.cells (app old new)) := by
                      unfold grown at he
                      cases h1 : Nat.ble ((2 * (k + m) + 1024) * (bytes + 1)) 1073741824 with
                      | false => simp [h1] at he
                      | true =>
                        cases h2 : Nat.ble (k + m) 1073741824 with
                        | false => simp [h1, h2] at he
                        | true =>
                          simp only [h1, h2] at he
                          unfold fresh at he
                          simp [hn1] at he
                          obtain ⟨rfl, rfl, rfl⟩ := he
                          exact ⟨rfl, rfl⟩
                    obtain ⟨rfl, rfl⟩ := hv
                    have hle2 : ι.le (upd ι n (b, st + off) (ι.size b)) := upd_le hιn fun _ _ _ => rfl
                    refine ⟨upd ι n (b, st + off) (ι.size b), ?_, Step.move c.hok hg (by simp) hp hn0 hιn hsb ⟨b, st + off, cs', el, fr, upd_same _ _ _ _, hh', by rw [hsz']; exact hf, ?_, ?_⟩⟩
                    · simp only [V.rel]
                      refine ⟨b, st + off, c', upd_same _ _ _ _, by simp, hin, fun h => absurd h (by omega), fun _ => ?_⟩
                      have := upd_size ι n (b, st + off) (ι.size b)
                      simp only at this
                      rw [this]; omega
                    · rw [hal, hwin, app_eq]
                      exact V.rels.mono hle2 _ _ (rels_append hor hyr)
                    · have := upd_size ι n (b, st + off) (ι.size b)
                      simp only at this
                      exact ⟨by rw [this, hsz', hbz.1], by rw [hbz.2, hoff]⟩
                  · obtain ⟨cap, hcap, hrun⟩ := run_append_out (P := P) (w := w) (ty := ty) (base := some ⟨b, st + off, none⟩) (sLen := k) (sCap := c') (old := olds) (new := ys1) hu hut hd hsz hby hz0 (by omega) hlen hfo hys1 hin hfit
                    exact ⟨_, _, hrun, grown_ok (old := olds) (new := ys1) (z := z.cells) (cap := cap) (e := e) (hkill.trans (drew_step hkill.hok) (Mono.set _ _ _) (Mono.refl _)) (Mono.set _ _ _) he hn0 hfr hall hal hzs hcap⟩

theorem repl_rels {ι : Emb} {zs : List V} {z : Array Value} (h : V.rels ι zs z.toList) : ∀ m, V.rels ι (repl m zs) (List.replicate m z.toList).flatten
  | 0 => rels_nil
  | m + 1 => by
    show V.rels ι (app zs (repl m zs)) _
    rw [app_eq, List.replicate_succ, List.flatten_cons]
    exact rels_append h (repl_rels h m)
theorem zeroCells_list (z : Array Value) (hz : 0 < z.size) (m : Nat) : (Builtin.zeroCells z m).toList = (List.replicate m z.toList).flatten := by
  unfold Builtin.zeroCells
  apply List.ext_getElem?
  intro i
  simp only [Array.toList_map, Array.toList_range, List.getElem?_map]
  by_cases hi : i < m * z.size
  · rw [List.getElem?_range hi]
    simp only [Option.map_some]
    have hmod : i % z.size < z.size := Nat.mod_lt _ hz
    have hg : ∀ (m i : Nat), i < m * z.size → (List.replicate m z.toList).flatten[i]? = z.toList[i % z.size]? := by
      intro m
      induction m with
      | zero => intro i h; simp at h
      | succ m ih =>
        intro i h
        rw [List.replicate_succ, List.flatten_cons]
        by_cases h1 : i < z.size
        · rw [List.getElem?_append_left (by simpa using h1), Nat.mod_eq_of_lt h1]
        · rw [List.getElem?_append_right (by simpa using h1), Array.length_toList, ih (i - z.size) (by rw [Nat.succ_mul] at h; omega), ← Nat.mod_eq_sub_mod (by omega)]
    rw [hg m i hi]
    simp [hmod]
  · rw [List.getElem?_eq_none (by simpa using hi), List.getElem?_eq_none (by simp [List.length_flatten]; omega)]; rfl
theorem run_appendz {s t ty e : TypeId} {size bytes m : Nat} {z : Value} (hu : P.underlying s = some (.slice e)) (hut : P.underlying t = some (.int .i64)) (hsz : sizeT P e = some size) (hby : bytesT P e = some bytes) (hz0 : zeroT P e = some z)
    (hb0 : bytes ≠ 0) (hm : m ≤ 1073741824) (hfit : 2 * m * bytes ≤ 281474976710656) :
    (m = 0 → (Builtin.append_ #[s, t] ty #[.slice none 0 0, .int .i64 (m : Int)]).run P w = .ok (.slice none 0 0) w) ∧
    (m ≠ 0 → size ≠ 0 → ∃ cap, m ≤ cap ∧ (Builtin.append_ #[s, t] ty #[.slice none 0 0, .int .i64 (m : Int)]).run P w = .ok (.slice (some ⟨w.heap.size, 0, none⟩) m cap)
      (({ w with drawn := w.drawn + 1 } : World).alloc (.cells (#[] ++ Builtin.zeroCells z.cells m ++ Builtin.zeroCells z.cells (cap - m)) e))) := by
  obtain ⟨i, hi, hib⟩ : ∃ i, P.info? e = some i ∧ i.bytes = bytes := by
    unfold bytesT at hby
    cases hi : P.info? e with
    | none => simp [hi] at hby
    | some i => simp [hi] at hby; exact ⟨i, rfl, hby⟩
  have hwrap : IntKind.i64.wrap (m : Int) = (m : Int) := wrap_small _ _ (by
    have h1 : IntKind.i64.min = -9223372036854775808 := by decide
    have h2 : IntKind.i64.max = 9223372036854775807 := by decide
    rw [h1, h2]; omega)
  have hl2 : ¬ ((m : Int) * (i.bytes : Int) > 2 ^ 48) := by
    rw [hib]
    have h2 : m * bytes ≤ 281474976710656 := Nat.le_trans (by rw [Nat.mul_assoc]; omega) hfit
    have h3 := Int.ofNat_le.2 h2
    rw [Int.natCast_mul] at h3
    have h4 : (2 : Int) ^ 48 = ((281474976710656 : Nat) : Int) := by decide
    rw [h4]
    exact Int.not_lt.2 h3
  have hn0 : ¬ ((m : Int) < 0) := by omega
  refine ⟨fun h0 => ?_, fun hm0 hs0 => ?_⟩
  · subst h0
    unfold Builtin.append_
    simp only [List.getElem?_toArray, List.getElem?_cons_zero, List.getElem?_cons_succ]
    rw [run_ok_bind (run_underlying hu w)]
    simp only []
    rw [run_ok_bind (run_sizeOf hsz), run_ok_bind (run_underlying hut w)]
    simp only []
    rw [run_ok_bind (run_ofPure _)]
    simp only [Bool.not_true, Bool.false_eq_true, if_false, if_true]
    have ha : (asInt (.int .i64 ((0 : Nat) : Int))).run P w = .ok ((0 : Nat) : Int) w := rfl
    rw [run_ok_bind ha]
    simp only [hwrap]
    rw [if_neg hn0, run_ok_bind (run_typeInfo hi), if_neg hl2, run_ok_bind (run_ofPure _)]
    simp
  · refine ⟨(Question.appendCap (0 + m) 0 e).cut (w.tape w.drawn (.appendCap (0 + m) 0 e)), by simp only [Question.cut]; omega, ?_⟩
    have hch : (choose (.appendCap (0 + m) 0 e)).run P w = .ok ((Question.appendCap (0 + m) 0 e).cut (w.tape w.drawn (.appendCap (0 + m) 0 e))) { w with drawn := w.drawn + 1 } := by
      simp [choose, Sem.run, Question.forced]
    have hn2 : ¬ (Builtin.nextslicecap (0 + m) 0 * i.bytes > 2 ^ 48) := by
      have h1 : Builtin.nextslicecap (0 + m) 0 * i.bytes ≤ 2 * (0 + m) * i.bytes := Nat.mul_le_mul_right _ (nextslicecap_le (by omega))
      rw [hib, Nat.zero_add] at h1
      rw [hib]
      have h2 : (2 : Nat) ^ 48 = 281474976710656 := by decide
      rw [h2, Nat.zero_add]
      exact Nat.not_lt.2 (Nat.le_trans h1 hfit)
    have hn1 : ¬ (((0 + m : Nat) : Int) > IntKind.i64.max ∧ (True ∨ i.bytes = 0)) := fun h => by
      have h1 := h.1
      have h2 : IntKind.i64.max = 9223372036854775807 := by decide
      rw [h2] at h1
      omega
    unfold Builtin.append_
    simp only [List.getElem?_toArray, List.getElem?_cons_zero, List.getElem?_cons_succ]
    rw [run_ok_bind (run_underlying hu w)]
    simp only []
    rw [run_ok_bind (run_sizeOf hsz), run_ok_bind (run_underlying hut w)]
    simp only []
    rw [run_ok_bind (run_ofPure _)]
    simp only [Bool.not_true, Bool.false_eq_true, if_false, if_true]
    have ha : (asInt (.int .i64 (m : Int))).run P w = .ok (m : Int) w := rfl
    rw [run_ok_bind ha]
    simp only [hwrap]
    rw [if_neg hn0, run_ok_bind (run_typeInfo hi), if_neg hl2, run_ok_bind (run_ofPure _), Int.toNat_natCast]
    rw [if_neg (by omega), run_ok_bind (run_typeInfo hi), if_neg hn1, run_ok_bind (run_typeInfo hi), if_neg hn2, run_ok_bind hch, run_ok_bind (run_typeInfo hi), run_ok_bind (run_askRoom _),
      run_ok_bind (run_firstCells_none _ _ _ _ _), if_neg (Nat.mul_ne_zero hm0 hs0)]
    refine (run_ok_bind (a := Builtin.zeroCells z.cells m) (w' := { w with drawn := w.drawn + 1 }) (by rw [run_ok_bind (run_zeroValue hz0)]; rfl)).trans ?_
    rw [run_ok_bind (run_zeroValue hz0), run_ok_bind (run_newRow e _)]
    simp only [Nat.zero_add]; rfl
theorem appendz_run {s t ty e : TypeId} {x y : Operand} {size bytes : Nat} {zs : List V} (c : Cxt P Γ ι H w ρ L R r) (hu : P.underlying s = some (.slice e)) (hut : P.underlying t = some (.int .i64))
    (hsz : sizeT P e = some (size + 1)) (hby : bytesT P e = some (bytes + 1)) (hz : zeroCellsT P e = some zs) (hzl : zs.length = size + 1)
    (he : evAppendz zs (size + 1) (bytes + 1) (r x) (r y) cal Γ L R H n = .ok v H' n') (hfr : Fr ι H H') :
    ∃ q w', (Builtin.append_ #[s, t] ty #[ρ x, ρ y]).run P w = .ok q w' ∧ Post P ι H w H' v q w' := by
  unfold evAppendz at he
  obtain ⟨z, hz0, hzr⟩ := zeroCells_rel (ι := ι) hz
  have hzs : z.cells.size = size + 1 := by have := rels_length hzr; rw [Array.length_toList] at this; omega
  have hx := c.hs x
  have hy := c.hs y
  cases hbx : src L R (r x) <;> simp only [hbx] at he <;> try (cases he; done)
  cases hby' : src L R (r y) <;> simp only [hby'] at he <;> try (cases he; done)
  rename_i k mi
  cases k <;> try (cases he; done)
  cases mi <;> try (cases he; done)
  rename_i m
  rw [hbx] at hx; simp only [V.rel] at hx
  rw [hby'] at hy; simp only [V.rel] at hy
  rw [hx, hy]
  have dst := drew_step c.hok
  cases hm0 : Nat.beq m 0 with
  | true =>
    have := beq_eq hm0; subst this
    simp [hm0] at he
    obtain ⟨rfl, rfl, rfl⟩ := he
    exact ⟨_, w, (run_appendz (ty := ty) (m := 0) hu hut hsz hby hz0 (by omega) (by omega) (by omega)).1 rfl, Post.pure c.hok (by simp [V.rel])⟩
  | false =>
    simp only [hm0] at he
    have hmne : m ≠ 0 := fun e => by subst e; simp at hm0
    have hg : (2 * m * (bytes + 1) ≤ 281474976710656 ∧ m ≤ 1073741824) ∧ H.get n = none := by
      have he2 := he
      unfold grown at he2
      cases h1 : Nat.ble ((2 * m + 1024) * (bytes + 1)) 1073741824 with
      | false => simp [h1] at he2
      | true =>
        cases h2 : Nat.ble m 1073741824 with
        | false => simp [h1, h2] at he2
        | true =>
          simp only [h1, h2] at he2
          unfold fresh at he2
          have l1 := ble_le h1
          refine ⟨⟨Nat.le_trans (Nat.mul_le_mul_right _ (by omega)) (Nat.le_trans l1 (by decide)), ble_le h2⟩, ?_⟩
          cases hn : H.get n with
          | some q => simp [hn] at he2
          | none => rfl
    obtain ⟨cap, hcap, hrun⟩ := (run_appendz (P := P) (w := w) (ty := ty) (m := m) hu hut hsz hby hz0 (by omega) hg.1.2 hg.1.1).2 hmne (by omega)
    refine ⟨_, _, hrun, ?_⟩
    refine grown_ok (old := #[]) (new := Builtin.zeroCells z.cells m) (z := z.cells) (cap := cap) (e := e) dst (Mono.refl H) he hg.2 hfr ?_ ?_ hzs hcap
    · rw [Array.empty_append, zeroCells_list _ (by omega)]
      exact repl_rels hzr m
    · rw [repl_eq, List.length_flatten]; simp [hzl]
theorem copy_run {s t ty e : TypeId} {x y : Operand} {size : Nat} (c : Cxt P Γ ι H w ρ L R r) (hu : P.underlying s = some (.slice e)) (hsz : sizeT P e = some size)
    (he : evCopy size (r x) (r y) cal Γ L R H n = .ok v H' n') :
    ∃ q w', (Builtin.copy_ #[s, t] ty #[ρ x, ρ y]).run P w = .ok q w' ∧ Post P ι H w H' v q w' := by
  unfold evCopy at he
  have hx := c.hs x
  cases ht : tailOf Γ H size (src L R (r y)) with
  | none => cases hbx : src L R (r x) <;> simp [ht, hbx] at he
  | some ml =>
    obtain ⟨m, l⟩ := ml
    obtain ⟨hlen, hnl, hfirst⟩ := firsts_ok c.hok c.gok ht (c.hs y)
    have run : ∀ (base : Option Addr) (k c' j : Nat) (ys : Array Value) (w' : World), ρ x = .slice base k c' → Nat.min m k = j → (Builtin.firstCells size j (ρ y)).run P w = .ok ys w →
        (match (motive := Option Addr → Prop) base with | some a => (storeCells a ys.toList).run P w = .ok () w' | none => w' = w) →
        (Builtin.copy_ #[s, t] ty #[ρ x, ρ y]).run P w = .ok (.int .i64 (j : Int)) w' := by
      intro base k c' j ys w' hxe hj hys hst
      rw [hxe]
      unfold Builtin.copy_
      simp only [List.getElem?_toArray, List.getElem?_cons_zero, List.getElem?_cons_succ]
      rw [run_ok_bind (run_underlying hu w)]
      simp only []
      rw [run_ok_bind hlen, run_ok_bind (run_sizeOf hsz), hj, run_ok_bind hys]
      cases base with
      | none => subst hst; rfl
      | some a => simp only [] at hst ⊢; rw [run_ok_bind hst]; rfl
    cases hbx : src L R (r x) <;> simp only [ht, hbx] at he <;> try (cases he; done)
    case nilsl =>
      rw [hbx] at hx; simp only [V.rel] at hx
      simp at he
      obtain ⟨rfl, rfl, rfl⟩ := he
      obtain ⟨ys, hys, _⟩ := hfirst 0 (Nat.zero_le _)
      exact ⟨_, w, run none 0 0 0 ys w hx (Nat.min_zero m) hys rfl, Post.pure c.hok (by simp [V.rel])⟩
    case sl0 zc =>
      rw [hbx] at hx; simp only [V.rel] at hx
      obtain ⟨ad, c', hxe, _⟩ := hx
      simp at he
      obtain ⟨rfl, rfl, rfl⟩ := he
      obtain ⟨ys, hys, hyr⟩ := hfirst 0 (Nat.zero_le _)
      have hyn : ys.toList = [] := by
        have := rels_length hyr
        rw [Nat.zero_mul, List.take_zero] at this
        exact List.length_eq_zero_iff.1 this
      exact ⟨_, w, run (some ad) 0 c' 0 ys w hxe (Nat.min_zero m) hys (by rw [hyn]; rfl), Post.pure c.hok (by simp [V.rel])⟩
    case sl p off k lo ex =>
      rw [hbx] at hx; simp only [V.rel] at hx
      obtain ⟨b, st, c', hp, hxe, _⟩ := hx
      cases htk : takeN (min k m * size) l with
      | none => simp [htk] at he
      | some l' =>
        simp only [htk] at he
        cases hput : putAt H (.ptr p off) l' with
        | none => simp [hput] at he
        | some H1 =>
          simp [hput] at he
          obtain ⟨rfl, rfl, rfl⟩ := he
          obtain ⟨_, rfl⟩ := takeN_some htk
          obtain ⟨ys, hys, hyr⟩ := hfirst (min k m) (Nat.min_le_right _ _)
          have hrp : V.rel ι (.ptr p off) (.pointer (some ⟨b, st + off, none⟩)) := by simp only [V.rel]; exact ⟨b, st, hp, rfl⟩
          obtain ⟨a, w', ha, hrun, hst⟩ := putAt_ok c.hok hput hrp hyr
          cases ha
          exact ⟨_, w', run _ k c' (min k m) ys w' hxe (Nat.min_comm m k) hys hrun, ι, by simp [V.rel], hst⟩
theorem clear_eq (t ty : TypeId) (x : Value) : Builtin.clear_ #[t] ty #[x] = (do
    match ← underlying t, x with
    | _, .map none | _, .slice none _ _ | _, .slice _ 0 _ => pure ()
    | _, .map (some r) =>
      let .map _ clock ← getObj r | stuck "clear: map expected"
      setObj r (.map #[] clock)
    | .slice elem, .slice (some a) n _ =>
      storeCells a (Builtin.zeroCells (← zeroValue elem).cells n).toList
    | _, _ => stuck "clear: map or slice expected"
    pure (.tuple #[])) := rfl
theorem clear_run {s ty e : TypeId} {x : Operand} {zs : List V} (c : Cxt P Γ ι H w ρ L R r) (hu : P.underlying s = some (.slice e)) (hz : zeroCellsT P e = some zs)
    (he : evClear (some zs) (r x) cal Γ L R H n = .ok v H' n') :
    ∃ q w', (Builtin.clear_ #[s] ty #[ρ x]).run P w = .ok q w' ∧ Post P ι H w H' v q w' := by
  unfold evClear at he
  have hx := c.hs x
  obtain ⟨z, hz0, hzr⟩ := zeroCells_rel (ι := ι) hz
  cases hbx : src L R (r x) <;> simp only [hbx] at he <;> try (cases he; done)
  case nilsl =>
    rw [hbx] at hx; simp only [V.rel] at hx
    simp at he
    obtain ⟨rfl, rfl, rfl⟩ := he
    refine ⟨.tuple #[], w, ?_, Post.pure c.hok (by simp only [V.rel]; exact ⟨#[], rfl, rels_nil⟩)⟩
    rw [hx, clear_eq, run_ok_bind (run_underlying hu w)]; rfl
  case sl p off m lo ex =>
    rw [hbx] at hx; simp only [V.rel] at hx
    obtain ⟨b, st, c', hp, hxe, _⟩ := hx
    cases hput : putAt H (.ptr p off) (repl m zs) with
    | none => simp [hput] at he
    | some H1 =>
      simp [hput] at he
      obtain ⟨rfl, rfl, rfl⟩ := he
      have hrp : V.rel ι (.ptr p off) (.pointer (some ⟨b, st + off, none⟩)) := by simp only [V.rel]; exact ⟨b, st, hp, rfl⟩
      have hrep : V.rels ι (repl m zs) (Builtin.zeroCells z.cells m).toList := by
        have e1 : (Builtin.zeroCells z.cells m).toList = repl m z.cells.toList := zeroCells_eq z.cells m
        rw [e1, repl_eq, repl_eq]
        clear hput hbx e1 hxe
        induction m with
        | zero => simpa using rels_nil
        | succ m ih => rw [List.replicate_succ, List.replicate_succ, List.flatten_cons, List.flatten_cons]; exact rels_append hzr ih
      obtain ⟨a, w', ha, hrun, hst⟩ := putAt_ok c.hok hput hrp hrep
      cases ha
      refine ⟨.tuple #[], w', ?_, ι, by simp only [V.rel]; exact ⟨#[], rfl, rels_nil⟩, hst⟩
      rw [hxe, clear_eq, run_ok_bind (run_underlying hu w)]
      cases m with
      | zero =>
        have e2 : (Builtin.zeroCells z.cells 0).toList = [] := by simp [Builtin.zeroCells]
        rw [e2] at hrun
        have e3 : w = w' := by simpa [storeCells] using hrun
        subst e3
        rfl
      | succ m =>
        simp only []
        rw [run_ok_bind (run_zeroValue hz0), run_ok_bind hrun]; rfl
theorem clearm_run {s ty k e : TypeId} {x : Operand} (c : Cxt P Γ ι H w ρ L R r) (hu : P.underlying s = some (.map k e))
    (he : evClear none (r x) cal Γ L R H n = .ok v H' n') :
    ∃ q w', (Builtin.clear_ #[s] ty #[ρ x]).run P w = .ok q w' ∧ Post P ι H w H' v q w' := by
  unfold evClear at he
  have hx := c.hs x
  cases hbx : src L R (r x) <;> simp only [hbx] at he <;> try (cases he; done)
  rename_i p
  rw [hbx] at hx; simp only [V.rel] at hx
  cases hg : H.get p with
  | none => simp [hg] at he
  | some ob =>
    cases ob <;> simp only [hg] at he <;> try (cases he; done)
    rename_i es cl
    simp at he
    obtain ⟨rfl, rfl, rfl⟩ := he
    obtain ⟨bk, es', hι, hh, hr⟩ := map_of c.hok hg
    obtain ⟨b2, hι2, hme⟩ := hx
    rw [hι] at hι2; cases hι2
    obtain ⟨hsb, hnew⟩ := sameBut_putObj (ob' := .map #[] cl) hh
    refine ⟨.tuple #[], _, ?_, ι, by simp only [V.rel]; exact ⟨#[], rfl, rels_nil⟩, Step.write c.hok hg (by simp) hι hsb ⟨bk, _, hι, hnew, rfl⟩⟩
    rw [hme, clear_eq, run_ok_bind (run_underlying hu w)]
    simp only []
    rw [run_ok_bind (run_getObj_map hh)]
    simp only []
    rw [run_ok_bind (run_setObj_map _ hh)]; rfl
theorem len_eq' (t ty : TypeId) (x : Value) : Builtin.len_ #[t] ty #[x] = (do
  match ← underlying t, x with
  | .string, .string s => pure (goInt s.size)
  | .array n _, _ => pure (goInt n)
  | .pointer arr, _ =>
    let .array n _ ← underlying arr | stuck "len: pointer to array expected"
    pure (goInt n)
  | .slice _, .slice _ n _ => pure (goInt n)
  | .map _ _, .map none | .chan _ _, .chan none => pure (goInt 0)
  | .map _ _, .map (some r) =>
    let .map entries _ ← getObj r | stuck "len: map expected"
    pure (goInt entries.size)
  | .chan _ _, .chan (some r) =>
    let .chan _ buf _ _ _ timer ← getObj r | stuck "len: channel expected"
    pure (goInt (if timer then 0 else buf.size))
  | _, _ => stuck "len: string, array, pointer to array, slice, map or channel expected") := rfl
def lenFits (P : Program) (t : TypeId) : BK → Prop
  | .str => P.underlying t = some .string
  | .sl => ∃ e, P.underlying t = some (.slice e)
  | .mp => ∃ k e, P.underlying t = some (.map k e)
  | _ => False
theorem len_run {s ty : TypeId} {k : BK} {x : Operand} (c : Cxt P Γ ι H w ρ L R r) (hu : lenFits P s k)
    (he : evLen k (r x) cal Γ L R H n = .ok v H' n') :
    ∃ q w', (Builtin.len_ #[s] ty #[ρ x]).run P w = .ok q w' ∧ Post P ι H w H' v q w' := by
  obtain ⟨h1, rfl, rfl⟩ := ret_some he
  have hx := c.hs x
  cases k <;> simp only [lenFits] at hu
  case str =>
    cases hbx : src L R (r x) <;> simp only [hbx, lenOf] at h1 <;> try (cases h1; done)
    rw [hbx] at hx; simp only [V.rel] at hx
    obtain ⟨b, hxe, rfl⟩ := hx
    simp at h1; subst h1
    refine ⟨_, w, ?_, Post.pure c.hok (by simp only [V.rel]; exact rfl)⟩
    rw [hxe, len_eq', run_ok_bind (run_underlying hu w)]
    simp only [goInt, len_eq]
    rw [run_ofPure]
    simp
  case sl =>
    obtain ⟨e, hu⟩ := hu
    cases hbx : src L R (r x) <;> simp only [hbx, lenOf] at h1 <;> try (cases h1; done)
    case nilsl =>
      rw [hbx] at hx; simp only [V.rel] at hx
      simp at h1; subst h1
      refine ⟨_, w, ?_, Post.pure c.hok (by simp only [V.rel]; exact rfl)⟩
      rw [hx, len_eq', run_ok_bind (run_underlying hu w)]; rfl
    case sl0 =>
      rw [hbx] at hx; simp only [V.rel] at hx
      obtain ⟨ad, c', hxe, _⟩ := hx
      simp at h1; subst h1
      refine ⟨_, w, ?_, Post.pure c.hok (by simp only [V.rel]; exact rfl)⟩
      rw [hxe, len_eq', run_ok_bind (run_underlying hu w)]; rfl
    case sl =>
      rw [hbx] at hx; simp only [V.rel] at hx
      obtain ⟨b, st, c', hp, hxe, _⟩ := hx
      simp at h1; subst h1
      refine ⟨_, w, ?_, Post.pure c.hok (by simp only [V.rel]; exact rfl)⟩
      rw [hxe, len_eq', run_ok_bind (run_underlying hu w)]; rfl
  case mp =>
    obtain ⟨kt, e, hu⟩ := hu
    cases hbx : src L R (r x) <;> simp only [hbx, lenOf] at h1 <;> try (cases h1; done)
    case nilmp =>
      rw [hbx] at hx; simp only [V.rel] at hx
      simp at h1; subst h1
      refine ⟨_, w, ?_, Post.pure c.hok (by simp only [V.rel]; exact rfl)⟩
      rw [hx, len_eq', run_ok_bind (run_underlying hu w)]; rfl
    case mp p =>
      rw [hbx] at hx; simp only [V.rel] at hx
      cases hg : H'.get p with
      | none => simp [hg] at h1
      | some ob =>
        cases ob <;> simp only [hg] at h1 <;> try (cases h1; done)
        rename_i es cl
        simp at h1; subst h1
        obtain ⟨bk, es', hι, hh, hr⟩ := map_of c.hok hg
        obtain ⟨b2, hι2, hme⟩ := hx
        rw [hι] at hι2; cases hι2
        have hl := ERel_length hr
        refine ⟨_, w, ?_, Post.pure c.hok (by simp only [V.rel]; exact rfl)⟩
        rw [hme, len_eq', run_ok_bind (run_underlying hu w)]
        simp only []
        rw [run_ok_bind (run_getObj_map hh)]
        simp only [goInt, len_eq]
        rw [run_ofPure, ← hl]; simp
theorem cap_run {s ty e : TypeId} {x : Operand} (c : Cxt P Γ ι H w ρ L R r) (hu : P.underlying s = some (.slice e)) (he : evCap (r x) cal Γ L R H n = .ok v H' n') :
    ∃ q w', (Builtin.cap_ #[s] ty #[ρ x]).run P w = .ok q w' ∧ Post P ι H w H' v q w' := by
  unfold evCap at he
  have hx := c.hs x
  have run : ∀ b m k, ρ x = .slice b m k → (Builtin.cap_ #[s] ty #[ρ x]).run P w = .ok (.int .i64 (k : Int)) w := by
    intro b m k hxe
    rw [hxe]
    unfold Builtin.cap_
    simp only [List.getElem?_toArray, List.getElem?_cons_zero]
    rw [run_ok_bind (run_underlying hu w)]; rfl
  cases hbx : src L R (r x) <;> simp only [hbx] at he <;> try (cases he; done)
  case nilsl =>
    rw [hbx] at hx; simp only [V.rel] at hx
    simp at he
    obtain ⟨rfl, rfl, rfl⟩ := he
    exact ⟨_, w, run _ _ _ hx, Post.pure c.hok (by simp only [V.rel]; exact rfl)⟩
  case sl0 zc =>
    rw [hbx] at hx; simp only [V.rel] at hx
    obtain ⟨ad, c', hxe, hzc⟩ := hx
    cases zc with
    | false => simp at he
    | true =>
      simp at he
      obtain ⟨rfl, rfl, rfl⟩ := he
      have := hzc rfl; subst this
      exact ⟨_, w, run _ _ _ hxe, Post.pure c.hok (by simp only [V.rel]; exact rfl)⟩
  case sl p off m lo ex =>
    rw [hbx] at hx; simp only [V.rel] at hx
    obtain ⟨b, st, c', hp, hxe, _, hex, _⟩ := hx
    cases ex with
    | succ e => simp at he
    | zero =>
      simp at he
      obtain ⟨rfl, rfl, rfl⟩ := he
      have := hex rfl; subst this
      exact ⟨_, w, run _ _ _ hxe, Post.pure c.hok (by simp only [V.rel])⟩
theorem mmAll_cons (mx : Bool) (k : IntKind) (u : V) (l : List V) (a : Int) : mmAll mx k (u :: l) a = (match u with
      | .int j b => (match keq k j with | true => mmAll mx k l (mm mx a b) | false => none)
      | _ => none) := rfl
theorem mm_max (k j : IntKind) (a b : Int) : Builtin.max2 (.int k a) (.int j b) = pure (.int k (mm true a b)) := by
  simp only [Builtin.max2, mm, ilt_eq]
  by_cases h : a < b
  · have : b > a := h
    simp [h]
  · have : ¬ (b > a) := h
    simp [h]
theorem mm_min (k j : IntKind) (a b : Int) : Builtin.min2 (.int k a) (.int j b) = pure (.int k (mm false a b)) := by
  simp only [Builtin.min2, mm, ilt_eq]
  by_cases h : b < a <;> simp [h]
theorem mmAll_ok (mx : Bool) (k : IntKind) : ∀ (l : List V) (xs : List Value) (a b : Int), mmAll mx k l a = some b → V.rels ι l xs →
    (xs.foldlM (if mx then Builtin.max2 else Builtin.min2) (Value.int k a)).run P w = .ok (.int k b) w
  | [], xs, a, b, h, hr => by
    rw [rels_nil_inv hr]
    have h' : some a = some b := h
    cases h'; rfl
  | u :: l, xs, a, b, h, hr => by
    obtain ⟨x, t, rfl, hx, ht⟩ := rels_cons_inv hr
    rw [mmAll_cons] at h
    cases u <;> simp only at h <;> try (cases h; done)
    rename_i j m
    cases hk : keq k j with
    | false => simp [hk] at h
    | true =>
      simp only [hk] at h
      simp only [V.rel] at hx; subst hx
      have ih := mmAll_ok mx k l t _ _ h ht
      rw [List.foldlM_cons]
      cases mx with
      | true => simp only [if_true] at ih ⊢; rw [mm_max, run_ok_bind (run_ofPure _)]; exact ih
      | false => simp only [Bool.false_eq_true, if_false] at ih ⊢; rw [mm_min, run_ok_bind (run_ofPure _)]; exact ih
theorem minmax_run {mx : Bool} {ats : Array TypeId} {ty : TypeId} {xs : Array Operand} (c : Cxt P Γ ι H w ρ L R r) (he : evMinmax mx (xs.toList.map r) cal Γ L R H n = .ok v H' n') :
    ∃ q w', (if mx then Builtin.max_ ats ty (xs.map ρ) else Builtin.min_ ats ty (xs.map ρ)).run P w = .ok q w' ∧ Post P ι H w H' v q w' := by
  unfold evMinmax at he
  have hr := srcs_rels c.hs xs.toList
  cases hl : srcs L R (xs.toList.map r) with
  | nil => simp [hl] at he
  | cons u t =>
    rw [hl] at hr he
    obtain ⟨x, ts, hxs, hx, ht⟩ := rels_cons_inv hr
    cases u <;> simp only at he <;> try (cases he; done)
    rename_i k a
    cases hm : mmAll mx k t a with
    | none => simp [hm] at he
    | some b =>
      simp [hm] at he
      obtain ⟨rfl, rfl, rfl⟩ := he
      simp only [V.rel] at hx; subst hx
      have := mmAll_ok (P := P) (w := w) mx k t ts a b hm ht
      refine ⟨_, w, ?_, Post.pure c.hok (by simp only [V.rel]; exact rfl)⟩
      have hxl : (xs.map ρ).toList = Value.int k a :: ts := by rw [Array.toList_map]; exact hxs
      cases mx with
      | true => simp only [if_true] at this ⊢; unfold Builtin.max_; rw [hxl]; exact this
      | false => simp only [Bool.false_eq_true, if_false] at this ⊢; unfold Builtin.min_; rw [hxl]; exact this
end
end
end Go.Ev
