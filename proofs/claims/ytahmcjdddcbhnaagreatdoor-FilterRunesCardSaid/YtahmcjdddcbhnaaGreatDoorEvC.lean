/-
  A verified evaluator of the model's code, part C of A, B, C, D (texts 17 to 30).
-/
import Derived.Test.YtahmcjdddcbhnaaGreatDoorEvB
import Derived.Laws.Append
import Derived.Laws.Tables
import Derived.RangeFuncCalls
/-
  A verified evaluator, part 17: append, copy, clear, len, cap, min, max.
-/
namespace Go.Ev
noncomputable section
open Go

section
variable {P : Program} {Γ : Glo} {ι : Emb} {H H' : Heap} {w w' : World} {ρ : Operand → Value} {L : List V} {R : Regs} {r : Operand → Src} {cal : Cal} {n n' : Pth} {v : V} {o : Oper}

theorem run_firstCells_zero (a : Addr) (size m c : Nat) (w : World) : (Builtin.firstCells size 0 (.slice (some a) m c)).run P w = .ok #[] w := by
  unfold Builtin.firstCells
  rw [Nat.zero_mul]; rfl
theorem firsts_ok (h : HOK P ι H w) (g : GOK Γ ι H w) {u : V} {x : Value} {size m : Nat} {l : List V} (ht : tailOf Γ H size u = some (m, l)) (hr : V.rel ι u x) :
    (Builtin.lenOf x).run P w = .ok m w ∧ l.length = m * size ∧ ∀ k, k ≤ m → ∃ ys, (Builtin.firstCells size k x).run P w = .ok ys w ∧ V.rels ι (l.take (k * size)) ys.toList := by
  cases u <;> simp only [tailOf] at ht <;> try (cases ht; done)
  case nilsl =>
    simp at ht; obtain ⟨rfl, rfl⟩ := ht
    simp only [V.rel] at hr; subst hr
    refine ⟨rfl, by simp, fun k hk => ?_⟩
    exact ⟨#[], rfl, by simpa using rels_nil⟩
  case sl0 z =>
    simp at ht; obtain ⟨rfl, rfl⟩ := ht
    simp only [V.rel] at hr; obtain ⟨a, c', rfl, _⟩ := hr
    refine ⟨rfl, by simp, fun k hk => ?_⟩
    have : k = 0 := by omega
    subst this
    exact ⟨#[], run_firstCells_zero a _ _ _ _, by simpa using rels_nil⟩
  case sl p o k c e =>
    cases hc : cellsAt Γ H (.ptr p o) (k * size) with
    | none => simp [hc] at ht
    | some l' =>
      simp [hc] at ht
      obtain ⟨rfl, rfl⟩ := ht
      simp only [V.rel] at hr
      obtain ⟨b, s, c', hp, rfl, _⟩ := hr
      have hrp : V.rel ι (.ptr p o) (.pointer (some ⟨b, s + o, none⟩)) := by simp only [V.rel]; exact ⟨b, s, hp, rfl⟩
      obtain ⟨a, ys, ha, hrun, hv, hl⟩ := cellsAt_ok h g hc hrp
      cases ha
      refine ⟨rfl, hl, fun j hj => ?_⟩
      have hjk : j * size ≤ k * size := Nat.mul_le_mul_right _ hj
      have hc2 : cellsAt Γ H (.ptr p o) (j * size) = some (l'.take (j * size)) := by
        simp only [cellsAt] at hc ⊢
        cases hg : H.get p with
        | none =>
          simp only [hg] at hc ⊢
          cases hro : roOf Γ.ro p with
          | none => rw [hro] at hc; cases hc
          | some l0 =>
            rw [hro] at hc
            obtain ⟨h1, h2⟩ := takeN_some hc
            show takeN (j * size) (dropN o l0) = _
            rw [takeN_eq, if_pos (by omega), h2, List.take_take, Nat.min_eq_left hjk]
        | some ob =>
          cases ob <;> simp only [hg] at hc ⊢ <;> try (cases hc; done)
          rename_i l0
          obtain ⟨h1, h2⟩ := takeN_some hc
          rw [takeN_eq, if_pos (by omega), h2, List.take_take, Nat.min_eq_left hjk]
      obtain ⟨a2, ys2, ha2, hrun2, hv2, _⟩ := cellsAt_ok h g hc2 hrp
      cases ha2
      exact ⟨ys2, hrun2, hv2⟩
  case str s =>
    cases hs : Nat.beq size 1 with
    | false => simp [hs] at ht
    | true =>
      have := beq_eq hs; subst this
      simp [] at ht
      obtain ⟨rfl, rfl⟩ := ht
      simp only [V.rel] at hr
      obtain ⟨b, rfl, rfl⟩ := hr
      have hsz : b.data.size = b.size := rfl
      refine ⟨?_, ?_, fun k hk => ⟨_, rfl, ?_⟩⟩
      · simp only [Builtin.lenOf, len_eq]; rw [run_ofPure]; simp [hsz]
      · rw [ofBytes_length, len_eq]; simp
      · rw [len_eq] at hk
        simp at hk
        have e1 : ((b.extract 0 k).data.map fun y => Value.int .u8 (y.toNat : Int)).toList = (b.data.toList.map fun y => Value.int .u8 (y.toNat : Int)).take k := by
          rw [Array.toList_map, bytes_extract b 0 k (Nat.zero_le _) (by rw [← hsz]; exact hk)]
          simp [List.map_take]
        rw [e1, Nat.mul_one]
        exact rels_take k (ofBytes_rels _)

theorem run_append_in {s t ty e : TypeId} {d : TypeDesc} {base : Option Addr} {sLen sCap m size : Nat} {x : Value} {new : Array Value} (hu : P.underlying s = some (.slice e)) (hut : P.underlying t = some d)
    (hd : (∃ e', d = .slice e') ∨ d = .string) (hsz : sizeT P e = some size) (hlen : (Builtin.lenOf x).run P w = .ok m w) (hnew : (Builtin.firstCells size m x).run P w = .ok new w) (hle : sLen + m ≤ sCap)
    (hst : match (motive := Option Addr → Prop) base with | some a => (storeCells (a.add (sLen * size)) new.toList).run P w = .ok () w' | none => w' = w) :
    (Builtin.append_ #[s, t] ty #[.slice base sLen sCap, x]).run P w = .ok (.slice base (sLen + m) sCap) w' := by
  unfold Builtin.append_
  simp only [List.getElem?_toArray, List.getElem?_cons_zero, List.getElem?_cons_succ]
  rw [run_ok_bind (run_underlying hu w)]
  simp only []
  rw [run_ok_bind (run_sizeOf hsz), run_ok_bind (run_underlying hut w)]
  rcases hd with ⟨e', rfl⟩ | rfl <;> simp only [] <;> rw [run_ok_bind (run_ofPure _)] <;> simp only [Bool.false_eq_true, if_false, Bool.not_false, if_true] <;>
    rw [run_ok_bind hlen, if_pos hle, run_ok_bind hnew] <;> (cases base with
    | none => subst hst; rfl
    | some a => simp only [] at hst ⊢; rw [run_ok_bind hst]; rfl)
theorem run_askRoom (k : Nat) : (askRoom k).run P w = .ok () w := by
  unfold askRoom
  by_cases h : k > roomBytes
  · rw [if_pos h]; rfl
  · rw [if_neg h]; rfl
theorem run_append_out {s t ty e : TypeId} {d : TypeDesc} {base : Option Addr} {sLen sCap m size bytes : Nat} {x z : Value} {old new : Array Value} (hu : P.underlying s = some (.slice e)) (hut : P.underlying t = some d)
    (hd : (∃ e', d = .slice e') ∨ d = .string) (hsz : sizeT P e = some size) (hby : bytesT P e = some bytes) (hz0 : zeroT P e = some z) (hb0 : bytes ≠ 0)
    (hlen : (Builtin.lenOf x).run P w = .ok m w) (hold : (Builtin.firstCells size sLen (.slice base sLen sCap)).run P { w with drawn := w.drawn + 1 } = .ok old { w with drawn := w.drawn + 1 })
    (hnew : (Builtin.firstCells size m x).run P { w with drawn := w.drawn + 1 } = .ok new { w with drawn := w.drawn + 1 })
    (hgt : ¬ (sLen + m ≤ sCap)) (hfit : 2 * (sLen + m) * bytes ≤ 281474976710656) :
    ∃ cap, sLen + m ≤ cap ∧ (Builtin.append_ #[s, t] ty #[.slice base sLen sCap, x]).run P w = .ok (.slice (some ⟨w.heap.size, 0, none⟩) (sLen + m) cap)
      (({ w with drawn := w.drawn + 1 } : World).alloc (.cells (old ++ new ++ Builtin.zeroCells z.cells (cap - (sLen + m))) e)) := by
  obtain ⟨i, hi, hib⟩ : ∃ i, P.info? e = some i ∧ i.bytes = bytes := by
    unfold bytesT at hby
    cases hi : P.info? e with
    | none => simp [hi] at hby
    | some i => simp [hi] at hby; exact ⟨i, rfl, hby⟩
  refine ⟨(Question.appendCap (sLen + m) sCap e).cut (w.tape w.drawn (.appendCap (sLen + m) sCap e)), by simp only [Question.cut]; omega, ?_⟩
  have hch : (choose (.appendCap (sLen + m) sCap e)).run P w = .ok ((Question.appendCap (sLen + m) sCap e).cut (w.tape w.drawn (.appendCap (sLen + m) sCap e))) { w with drawn := w.drawn + 1 } := by
    simp [choose, Sem.run, Question.forced]
  have hn2 : ¬ (Builtin.nextslicecap (sLen + m) sCap * i.bytes > 2 ^ 48) := by
    have h1 : Builtin.nextslicecap (sLen + m) sCap * i.bytes ≤ 2 * (sLen + m) * i.bytes := Nat.mul_le_mul_right _ (nextslicecap_le (by omega))
    rw [hib] at h1 ⊢
    have h2 : (2 : Nat) ^ 48 = 281474976710656 := by decide
    rw [h2]
    exact Nat.not_lt.2 (Nat.le_trans h1 hfit)
  have hn1 : ¬ (((sLen + m : Nat) : Int) > IntKind.i64.max ∧ (False ∨ i.bytes = 0)) := fun h => by
    rcases h.2 with h | h
    · exact h
    · exact hb0 (by rw [← hib]; exact h)
  unfold Builtin.append_
  simp only [List.getElem?_toArray, List.getElem?_cons_zero, List.getElem?_cons_succ]
  rw [run_ok_bind (run_underlying hu w)]
  simp only []
  rw [run_ok_bind (run_sizeOf hsz), run_ok_bind (run_underlying hut w)]
  rcases hd with ⟨e', rfl⟩ | rfl <;> simp only [] <;> rw [run_ok_bind (run_ofPure _)] <;> simp only [Bool.false_eq_true, if_false, Bool.not_false, if_true] <;>
    rw [run_ok_bind hlen, if_neg hgt, run_ok_bind (run_typeInfo hi), if_neg hn1, run_ok_bind (run_typeInfo hi), if_neg hn2, run_ok_bind hch, run_ok_bind (run_typeInfo hi), run_ok_bind (run_askRoom _),
      run_ok_bind hold, run_ok_bind hnew, run_ok_bind (run_zeroValue hz0), run_ok_bind (run_newRow e _)] <;> rfl

theorem cellsAt_some {p : Pth} {off k : Nat} {l : List V} (h : cellsAt Γ.noRo H (.ptr p off) k = some l) : ∃ l0, H.get p = some (.cells l0) ∧ k ≤ (l0.drop off).length ∧ l = (l0.drop off).take k := by
  simp only [cellsAt] at h
  cases hg : H.get p with
  | none =>
    simp only [hg] at h
    have : roOf Γ.noRo.ro p = Option.none := rfl
    rw [this] at h
    cases h
  | some ob =>
    cases ob <;> simp only [hg] at h <;> try (cases h; done)
    rename_i l0
    obtain ⟨h1, h2⟩ := takeN_some h
    rw [dropN_eq] at h1 h2
    exact ⟨l0, rfl, h1, h2⟩
theorem drew_step (h : HOK P ι H w) : Step P ι H w ι H { w with drawn := w.drawn + 1 } := Step.drew h _
/-- a new block for what was and what is appended -/
theorem grown_ok {H1 : Heap} {w1 : World} {size bytes need cap : Nat} {l : List V} {old new z : Array Value} {e : TypeId} (h0 : Step P ι H w ι H1 w1) (m0 : Mono H H1)
    (hg : grown H1 n (size + 1) bytes need l = .ok v H' n') (hn0 : H.get n = none) (hfr : Fr ι H H')
    (hl : V.rels ι l (old ++ new).toList) (hll : l.length = need * (size + 1)) (hz : z.size = size + 1) (hcap : need ≤ cap) :
    Post P ι H w H' v (.slice (some ⟨w1.heap.size, 0, none⟩) need cap) (w1.alloc (.cells (old ++ new ++ Builtin.zeroCells z (cap - need)) e)) := by
  unfold grown at hg
  cases h1 : Nat.ble ((2 * need + 1024) * bytes) 1073741824 with
  | false => simp [h1] at hg
  | true =>
    cases h2 : Nat.ble need 1073741824 with
    | false => simp [h1, h2] at hg
    | true =>
      simp only [h1, h2] at hg
      unfold fresh at hg
      cases hn : H1.get n with
      | some q => simp [hn] at hg
      | none =>
        simp [hn] at hg
        obtain ⟨rfl, rfl, rfl⟩ := hg
        have hι : ι n = none := hfr n hn0 (by rw [Tr.get_set_same]; simp)
        have hsz : (old ++ new).size = need * (size + 1) := by
          have := rels_length hl
          rw [Array.length_toList] at this
          omega
        have hzc : (Builtin.zeroCells z (cap - need)).size = (cap - need) * (size + 1) := by
          unfold Builtin.zeroCells; simp [hz]
        have hcs : (old ++ new ++ Builtin.zeroCells z (cap - need)).size = cap * (size + 1) := by
          rw [Array.size_append, hsz, hzc, ← Nat.add_mul]
          congr 1; omega
        refine ⟨_, ?_, h0.trans (Step.alloc (.cells (old ++ new ++ Builtin.zeroCells z (cap - need)) e) (T := (old ++ new ++ Builtin.zeroCells z (cap - need)).size) h0.hok hn hι (by simp) rfl rfl rfl rfl
          (newCells_ok rfl (.inl rfl) ?_)) m0 (Mono.set _ _ _)⟩
        · simp only [V.rel]
          refine ⟨w1.heap.size, 0, cap, upd_same _ _ _ _, by simp, hcap, fun h => absurd h (by omega), fun _ => ?_⟩
          have := upd_size ι n (w1.heap.size, 0) (old ++ new ++ Builtin.zeroCells z (cap - need)).size
          simp only at this
          rw [this, hcs]; omega
        · have e1 : (old ++ new ++ Builtin.zeroCells z (cap - need)).toList.take l.length = (old ++ new).toList := by
            rw [Array.toList_append, List.take_left']
            rw [hll, ← hsz, Array.length_toList]
          rw [e1]
          exact V.rels.mono (upd_le_new hι h0.hok) _ _ hl
theorem append_run {s t ty e : TypeId} {d : TypeDesc} {x y : Operand} {size bytes : Nat} {zs : List V} (c : Cxt P Γ ι H w ρ L R r) (hu : P.underlying s = some (.slice e)) (hut : P.underlying t = some d)
    (hd : (∃ e', d = .slice e') ∨ d = .string) (hsz : sizeT P e = some (size + 1)) (hby : bytesT P e = some (bytes + 1)) (hz : zeroCellsT P e = some zs) (hzl : zs.length = size + 1)
    (he : evAppend (size + 1) (bytes + 1) (r x) (r y) cal Γ L R H n = .ok v H' n') (hfr : Fr ι H H') :
    ∃ q w', (Builtin.append_ #[s, t] ty #[ρ x, ρ y]).run P w = .ok q w' ∧ Post P ι H w H' v q w' := by
  unfold evAppend at he
  obtain ⟨z, hz0, hzr⟩ := zeroCells_rel (ι := ι) hz
  have hzs : z.cells.size = size + 1 := by have := rels_length hzr; rw [Array.length_toList] at this; omega
  cases ht : tailOf Γ H (size + 1) (src L R (r y)) with
  | none => simp [ht] at he
  | some mn =>
    obtain ⟨m, new⟩ := mn
    simp only [ht] at he
    obtain ⟨hlen, hnl, hfirst⟩ := firsts_ok c.hok c.gok ht (c.hs y)
    obtain ⟨ys, hys, hyr⟩ := hfirst m (Nat.le_refl _)
    rw [← hnl, List.take_length] at hyr
    have dst := drew_step c.hok
    -- the same reads behind the draw
    obtain ⟨hlen1, _, hfirst1⟩ := firsts_ok dst.hok (c.gok.step dst) ht (c.hs y)
    obtain ⟨ys1, hys1, hyr1⟩ := hfirst1 m (Nat.le_refl _)
    rw [← hnl, List.take_length] at hyr1
    have hfitOf : ∀ need, Nat.ble ((2 * need + 1024) * (bytes + 1)) 1073741824 = true → 2 * need * (bytes + 1) ≤ 281474976710656 := fun need hb => by
      have h1 := ble_le hb
      have h2 : 2 * need * (bytes + 1) ≤ (2 * need + 1024) * (bytes + 1) := Nat.mul_le_mul_right _ (by omega)
      exact Nat.le_trans h2 (Nat.le_trans h1 (by decide))
    have hgb : ∀ {H1 : Heap} {need : Nat} {l : List V}, grown H1 n (size + 1) (bytes + 1) need l = .ok v H' n' → 2 * need * (bytes + 1) ≤ 281474976710656 ∧ H1.get n = none := fun {H1 need l} hg => by
      unfold grown at hg
      cases h1 : Nat.ble ((2 * need + 1024) * (bytes + 1)) 1073741824 with
      | false => simp [h1] at hg
      | true =>
        refine ⟨hfitOf need h1, ?_⟩
        cases h2 : Nat.ble need 1073741824 with
        | false => simp [h1, h2] at hg
        | true =>
          simp only [h1, h2] at hg
          unfold fresh at hg
          cases hn : H1.get n with
          | some q => simp [hn] at hg
          | none => rfl
    have hx := c.hs x
    cases hbx : src L R (r x) <;> simp only [hbx] at he <;> try (cases he; done)
    case nilsl =>
      rw [hbx] at hx; simp only [V.rel] at hx
      rw [hx]
      cases hm0 : Nat.beq m 0 with
      | true =>
        have := beq_eq hm0; subst this
        simp [] at he
        obtain ⟨rfl, rfl, rfl⟩ := he
        exact ⟨_, w, run_append_in (base := none) hu hut hd hsz hlen hys (Nat.le_refl _) rfl, Post.pure c.hok (by simp [V.rel])⟩
      | false =>
        simp only [hm0] at he
        have hmne : m ≠ 0 := fun e => by subst e; simp at hm0
        obtain ⟨hfit, hn0⟩ := hgb he
        obtain ⟨cap, hcap, hrun⟩ := run_append_out (P := P) (w := w) (ty := ty) (base := none) (sLen := 0) (sCap := 0) (old := #[]) (new := ys1) hu hut hd hsz hby hz0 (by omega) hlen (run_firstCells_none _ _ _ _ _) hys1 (by omega) (by simpa using hfit)
        refine ⟨_, _, hrun, ?_⟩
        have := grown_ok (old := #[]) (new := ys1) (z := z.cells) (cap := cap) (e := e) dst (Mono.refl H) he hn0 hfr (by simpa using hyr1) hnl hzs (by omega)
        simpa using this
    case sl0 zc =>
      rw [hbx] at hx; simp only [V.rel] at hx
      obtain ⟨ad, c', hxe, hzc⟩ := hx
      rw [hxe]
      cases hm0 : Nat.beq m 0 with
      | true =>
        have := beq_eq hm0; subst this
        simp [] at he
        obtain ⟨rfl, rfl, rfl⟩ := he
        have hyn : ys.toList = [] := by
          have := rels_length hyr
          rw [hnl, Nat.zero_mul] at this
          exact List.length_eq_zero_iff.1 this
        exact ⟨_, w, run_append_in (base := some ad) hu hut hd hsz hlen hys (by omega) (by rw [hyn]; rfl), Post.pure c.hok (by simp only [V.rel]; exact ⟨ad, c', rfl, hzc⟩)⟩
      | false =>
        cases zc with
        | false => simp [hm0] at he
        | true =>
        simp only [hm0] at he
        have hmne : m ≠ 0 := fun e => by subst e; simp at hm0
        have := hzc rfl; subst this
        obtain ⟨hfit, hn0⟩ := hgb he
        obtain ⟨cap, hcap, hrun⟩ := run_append_out (P := P) (w := w) (ty := ty) (base := some ad) (sLen := 0) (sCap := 0) (old := #[]) (new := ys1) hu hut hd hsz hby hz0 (by omega) hlen (run_firstCells_zero _ _ _ _ _) hys1 (by omega) (by simpa using hfit)
        refine ⟨_, _, hrun, ?_⟩
        have := grown_ok (old := #[]) (new := ys1) (z := z.cells) (cap := cap) (e := e) dst (Mono.refl H) he hn0 hfr (by simpa using hyr1) hnl hzs (by omega)
        simpa using this
    case sl p off k lo ex =>
      rw [hbx] at hx; simp only [V.rel] at hx
      obtain ⟨b, st, c', hp, hxe, hcc, hex0, hex1⟩ := hx
      rw [hxe]
      cases hle : Nat.ble (k + m) lo with
      | true =>
        have hle' := ble_le hle
        simp only [hle] at he
        cases hput : putAt H (.ptr p (off + k * (size + 1))) new with
        | none => simp [hput] at he
        | some H1 =>
          simp [hput] at he
          obtain ⟨rfl, rfl, rfl⟩ := he
          have hrp : V.rel ι (.ptr p (off + k * (size + 1))) (.pointer (some ((⟨b, st + off, none⟩ : Addr).add (k * (size + 1))))) := by
            simp only [V.rel]; exact ⟨b, st, hp, by rw [addr_add, Nat.add_assoc]⟩
          obtain ⟨a, w', ha, hrun, hst⟩ := putAt_ok c.hok hput hrp hyr
          cases ha
          refine ⟨_, w', run_append_in (base := some ⟨b, st + off, none⟩) hu hut hd hsz hlen hys (by omega) hrun, ι, ?_, hst⟩
          simp only [V.rel]
          exact ⟨b, st, c', hp, rfl, hcc, hex0, hex1⟩
      | false =>
        have hgt : ¬ (k + m ≤ lo) := fun hh => by
          have := Nat.ble_eq_true_of_le hh
          rw [this] at hle; cases hle
        simp only [hle] at he
        have hrp : V.rel ι (.ptr p off) (.pointer (some ⟨b, st + off, none⟩)) := by simp only [V.rel]; exact ⟨b, st, hp, rfl⟩
        cases ex with
        | zero =>
          simp only at he
          cases hca : cellsAt Γ H (.ptr p off) (k * (size + 1)) with
          | none => simp [hca] at he
          | some old =>
            simp only [hca] at he
            obtain ⟨a, olds, ha, hold, holdr, hol⟩ := cellsAt_ok dst.hok (c.gok.step dst) hca hrp
            cases ha
            have hfo : (Builtin.firstCells (size + 1) k (.slice (some ⟨b, st + off, none⟩) k c')).run P { w with drawn := w.drawn + 1 } = .ok olds { w with drawn := w.drawn + 1 } := hold
            have hall : V.rels ι (app old new) (olds ++ ys1).toList := by
              rw [app_eq, Array.toList_append]; exact rels_append holdr hyr1
            have hal : (app old new).length = (k + m) * (size + 1) := by
              rw [app_eq, List.length_append, hol, hnl, Nat.add_mul]
            have := hex0 rfl; subst this
            obtain ⟨hfit, hn0⟩ := hgb he
            obtain ⟨cap, hcap, hrun⟩ := run_append_out (P := P) (w := w) (ty := ty) (base := some ⟨b, st + off, none⟩) (sLen := k) (sCap := c') (old := olds) (new := ys1) hu hut hd hsz hby hz0 (by omega) hlen hfo hys1 hgt hfit
            exact ⟨_, _, hrun, grown_ok (old := olds) (new := ys1) (z := z.cells) (cap := cap) (e := e) dst (Mono.refl H) he hn0 hfr hall hal hzs hcap⟩
        | succ ee =>
          simp only at he
          cases hca : cellsAt Γ.noRo H (.ptr p off) (k * (size + 1)) with
          | none => simp [hca] at he
          | some old =>
            simp only [hca] at he
            obtain ⟨a, olds, ha, hold, holdr, hol⟩ := cellsAt_ok dst.hok (c.gok.step dst).noRo hca hrp
            cases ha
            have hfo : (Builtin.firstCells (size + 1) k (.slice (some ⟨b, st + off, none⟩) k c')).run P { w with drawn := w.drawn + 1 } = .ok olds { w with drawn := w.drawn + 1 } := hold
            have hall : V.rels ι (app old new) (olds ++ ys1).toList := by
              rw [app_eq, Array.toList_append]; exact rels_append holdr hyr1
            have hal : (app old new).length = (k + m) * (size + 1) := by
              rw [app_eq, List.length_append, hol, hnl, Nat.add_mul]
            cases hee : Nat.beq (Nat.succ ee) (size + 1) with
            | false => simp only [hee] at he; cases he
            | true =>
              cases hn0 : H.get n with
              | some q => simp only [hee, hn0] at he; cases he
              | none =>
                cases hao : allOne new with
                | false => simp only [hee, hn0, hao] at he; cases he
                | true =>
                  cases ho0 : Nat.beq off 0 with
                  | false => simp only [hee, hn0, hao, ho0] at he; cases he
                  | true =>
                  have hoff := beq_eq ho0
                  simp only [hee, hn0, hao, ho0] at he
                  have hes : ee + 1 = size + 1 := beq_eq hee
                  have hsize := hex1 (by omega)
                  rw [hes] at hsize
                  obtain ⟨hfit, hn1⟩ := hgb he
                  -- the block
                  obtain ⟨l0, hg, hk0, hold0⟩ := cellsAt_some hca
                  obtain ⟨b2, s2, cs, el, fr, hι2, hh, hf, hl, hsz2, hbz⟩ := cells_of c.hok hg
                  rw [hp] at hι2; cases hι2
                  have hkill := Step.kill c.hok hg (by simp)
                  by_cases hin : k + m ≤ c'
                  · -- it fits after all: the block goes on under the new name
                    have hιn : ι n = none := by
                      unfold grown at he
                      cases h1 : Nat.ble ((2 * (k + m) + 1024) * (bytes + 1)) 1073741824 with
                      | false => simp [h1] at he
                      | true =>
                        cases h2 : Nat.ble (k + m) 1073741824 with
                        | false => simp [h1, h2] at he
                        | true =>
                          simp only [h1, h2] at he
                          unfold fresh at he
                          simp [hn1] at he
                          obtain ⟨rfl, rfl, rfl⟩ := he
                          exact hfr n hn0 (by rw [Tr.get_set_same]; simp)
                    have hyl : ys.toList.length = m * (size + 1) := by rw [rels_length hyr, hnl]
                    have hcs : cs.size = st + off + c' * (size + 1) := by rw [← hbz.1, hsize]
                    have hkm : k * (size + 1) + m * (size + 1) ≤ c' * (size + 1) := by rw [← Nat.add_mul]; exact Nat.mul_le_mul_right _ hin
                    obtain ⟨w', cs', hrun, hsb, hh', hc', hsz'⟩ := run_storeCells_cells (P := P) (b := b) (el := el) (fr := fr) (st + off + k * (size + 1)) ys.toList 0 w cs hh hf (by omega) (allOne_rels hao hyr)
                    refine ⟨_, w', run_append_in (base := some ⟨b, st + off, none⟩) hu hut hd hsz hlen hys hin (by simp only [addr_add]; exact hrun), ?_⟩
                    have hwin : (cs'.toList.drop (st + off)).take ((k + m) * (size + 1)) = (cs.toList.drop (st + off)).take (k * (size + 1)) ++ ys.toList := by
                      simp only [Nat.add_zero] at hc'
                      rw [hc', window_overlay cs.toList ys.toList (st + off) ((k + m) * (size + 1)) (k * (size + 1)) (by rw [Array.length_toList, Nat.add_mul]; omega) (by rw [hyl, Nat.add_mul]; omega)]
                      rw [List.take_take, Nat.min_eq_left (by rw [Nat.add_mul]; omega), (List.drop_of_length_le (by rw [List.length_take, hyl, Nat.add_mul]; omega) : ((cs.toList.drop (st + off)).take ((k + m) * (size + 1))).drop (k * (size + 1) + ys.toList.length) = []), List.append_nil]
                    have hor : V.rels ι old ((cs.toList.drop (st + off)).take (k * (size + 1))) := by
                      rw [hold0]
                      have h5 := rels_take (k * (size + 1)) (rels_drop off hl)
                      rw [List.drop_take, List.take_take, List.drop_drop] at h5
                      rw [List.length_drop] at hk0
                      rw [Nat.min_eq_left hk0] at h5
                      exact h5
                    have hv : v = .sl n 0 (k + m) (k + m) (size + 1) ∧ H' = (H.set p .dead).set n (.cells (app old new)) := by
                      unfold grown at he
                      cases h1 : Nat.ble ((2 * (k + m) + 1024) * (bytes + 1)) 1073741824 with
                      | false => simp [h1] at he
                      | true =>
                        cases h2 : Nat.ble (k + m) 1073741824 with
                        | false => simp [h1, h2] at he
                        | true =>
                          simp only [h1, h2] at he
                          unfold fresh at he
                          simp [hn1] at he
                          obtain ⟨rfl, rfl, rfl⟩ := he
                          exact ⟨rfl, rfl⟩
                    obtain ⟨rfl, rfl⟩ := hv
                    have hle2 : ι.le (upd ι n (b, st + off) (ι.size b)) := upd_le hιn fun _ _ _ => rfl
                    refine ⟨upd ι n (b, st + off) (ι.size b), ?_, Step.move c.hok hg (by simp) hp hn0 hιn hsb ⟨b, st + off, cs', el, fr, upd_same _ _ _ _, hh', by rw [hsz']; exact hf, ?_, ?_⟩⟩
                    · simp only [V.rel]
                      refine ⟨b, st + off, c', upd_same _ _ _ _, by simp, hin, fun h => absurd h (by omega), fun _ => ?_⟩
                      have := upd_size ι n (b, st + off) (ι.size b)
                      simp only at this
                      rw [this]; omega
                    · rw [hal, hwin, app_eq]
                      exact V.rels.mono hle2 _ _ (rels_append hor hyr)
                    · have := upd_size ι n (b, st + off) (ι.size b)
                      simp only at this
                      exact ⟨by rw [this, hsz', hbz.1], by rw [hbz.2, hoff]⟩
                  · obtain ⟨cap, hcap, hrun⟩ := run_append_out (P := P) (w := w) (ty := ty) (base := some ⟨b, st + off, none⟩) (sLen := k) (sCap := c') (old := olds) (new := ys1) hu hut hd hsz hby hz0 (by omega) hlen hfo hys1 hin hfit
                    exact ⟨_, _, hrun, grown_ok (old := olds) (new := ys1) (z := z.cells) (cap := cap) (e := e) (hkill.trans (drew_step hkill.hok) (Mono.set _ _ _) (Mono.refl _)) (Mono.set _ _ _) he hn0 hfr hall hal hzs hcap⟩
    case jsl p si sc lo hi =>
      rw [hbx] at hx; simp only [V.rel] at hx
      obtain ⟨b, k, hp, hxe, hk0, hk1, hk2, hk3⟩ := hx
      rw [hxe]
      cases hm0 : Nat.beq m 0 with
      | true =>
        have := beq_eq hm0; subst this
        simp [] at he
        obtain ⟨rfl, rfl, rfl⟩ := he
        have hyn : ys.toList = [] := by
          have := rels_length hyr
          rw [hnl, Nat.zero_mul] at this
          exact List.length_eq_zero_iff.1 this
        exact ⟨_, w, run_append_in (base := some ⟨b, 0, none⟩) hu hut hd hsz hlen hys (by omega) (by rw [hyn]; rfl), Post.pure c.hok (by simp only [V.rel]; exact ⟨b, k, hp, rfl, hk0, hk1, hk2, hk3⟩)⟩
      | false =>
        simp only [hm0] at he
        cases hs1 : Nat.beq (size + 1) 1 with
        | false => simp [hs1] at he
        | true =>
        have hs0 : size = 0 := by have := beq_eq hs1; omega
        subst hs0
        cases hft : Nat.ble ((2 * (hi + m) + 1024) * (bytes + 1)) 1073741824 with
        | false => simp [hft] at he
        | true =>
        have hfit : 2 * (k + m) * (bytes + 1) ≤ 281474976710656 := by
          have h1 := ble_le hft
          have h2 : 2 * (k + m) * (bytes + 1) ≤ (2 * (hi + m) + 1024) * (bytes + 1) := Nat.mul_le_mul_right _ (by omega)
          exact Nat.le_trans h2 (Nat.le_trans h1 (by decide))
        cases hg : H.get p with
        | none => simp [hft, hg] at he
        | some ob =>
        cases ob <;> simp only [hs1, hft, hg] at he <;> try (cases he; done)
        rename_i l0
        cases hn0 : H.get n with
        | some q => simp only [hn0] at he; cases he
        | none =>
        simp only [hn0] at he
        cases hao : allOne new with
        | false => simp only [hao] at he; cases he
        | true =>
        simp only [hao] at he
        cases he
        have hιn : ι n = none := hfr n hn0 (by rw [Tr.get_set_same]; simp)
        have hnp : n ≠ p := fun e => by subst e; rw [hg] at hn0; cases hn0
        obtain ⟨b2, s2, cs, el, fr, hι2, hh, hf, hl, hsz2, hbz⟩ := cells_of c.hok hg
        rw [hp] at hι2; cases hι2
        have hyl : ys.toList.length = m := by rw [rels_length hyr, hnl]; omega
        by_cases hin : k + m ≤ ι.size b
        · obtain ⟨w', cs', hrun, hsb, hh', hc', hsz'⟩ := run_storeCells_cells (P := P) (b := b) (el := el) (fr := fr) (0 + k * (0 + 1)) ys.toList 0 w cs hh hf (by rw [← hbz.1]; omega) (allOne_rels hao hyr)
          refine ⟨_, w', run_append_in (base := some ⟨b, 0, none⟩) hu hut hd hsz hlen hys hin (by simp only [addr_add]; exact hrun), upd ι n (b, 0) (ι.size b), ?_,
            Step.move c.hok hg (by simp) hp hn0 hιn hsb ⟨b, 0, cs', el, fr, upd_same _ _ _ _, hh', by rw [hsz']; exact hf, rels_nil, ?_, rfl⟩⟩
          · have hsz3 := upd_size ι n (b, 0) (ι.size b)
            simp only at hsz3
            simp only [V.rel]
            exact ⟨b, k + m, upd_same _ _ _ _, by rw [hsz3], by show ((k + m : Nat) : Int) = ι.sym si + ((sc + m : Nat) : Int); omega, by omega, by omega, by rw [hsz3]; exact hin⟩
          · have hsz3 := upd_size ι n (b, 0) (ι.size b)
            simp only at hsz3
            rw [hsz3, hsz', hbz.1]
        · have hkc : 0 + k * (0 + 1) ≤ cs.size := by rw [← hbz.1]; omega
          have hold := run_loadCells_cells (P := P) (w := { w with drawn := w.drawn + 1 }) (b := b) (c := cs) (el := el) (fr := fr) hh (o := 0) (n := k * (0 + 1)) hkc
          generalize hol : ((cs.toList.drop 0).take (k * (0 + 1))).toArray = olds at hold
          have hols : olds.size = k := by
            rw [← hol]; simp; omega
          obtain ⟨cap, hcap, hrun⟩ := run_append_out (P := P) (w := w) (ty := ty) (base := some ⟨b, 0, none⟩) (sLen := k) (sCap := ι.size b) (old := olds) (new := ys1) hu hut hd hsz hby hz0 (by omega) hlen hold hys1 hin hfit
          have hkill := Step.kill c.hok hg (by simp)
          have hys1s : ys1.size = m := by
            have := rels_length hyr1
            rw [Array.length_toList] at this
            omega
          have hzc : (Builtin.zeroCells z.cells (cap - (k + m))).size = cap - (k + m) := by
            unfold Builtin.zeroCells; simp [hzs]
          have hcs : (olds ++ ys1 ++ Builtin.zeroCells z.cells (cap - (k + m))).size = cap := by
            rw [Array.size_append, Array.size_append, hols, hys1s, hzc]; omega
          have hdr := hkill.trans (drew_step hkill.hok) (Mono.set _ _ _) (Mono.refl _)
          refine ⟨_, _, hrun, _, ?_, hdr.trans (Step.alloc (.cells (olds ++ ys1 ++ Builtin.zeroCells z.cells (cap - (k + m))) e) (T := (olds ++ ys1 ++ Builtin.zeroCells z.cells (cap - (k + m))).size) hdr.hok
            (by rw [Tr.get_set_other _ _ _ _ (fun e => hnp e.symm)]; exact hn0) hιn (by simp) rfl rfl rfl rfl (newCells_ok rfl (.inl rfl) rels_nil)) (Mono.set _ _ _) (Mono.set _ _ _)⟩
          have hsz3 := upd_size ι n (w.heap.size, 0) (olds ++ ys1 ++ Builtin.zeroCells z.cells (cap - (k + m))).size
          simp only at hsz3
          simp only [V.rel]
          exact ⟨w.heap.size, k + m, upd_same _ _ _ _, by rw [hsz3, hcs], by show ((k + m : Nat) : Int) = ι.sym si + ((sc + m : Nat) : Int); omega, by omega, by omega, by rw [hsz3, hcs]; exact hcap⟩

theorem repl_rels {ι : Emb} {zs : List V} {z : Array Value} (h : V.rels ι zs z.toList) : ∀ m, V.rels ι (repl m zs) (List.replicate m z.toList).flatten
  | 0 => rels_nil
  | m + 1 => by
    show V.rels ι (app zs (repl m zs)) _
    rw [app_eq, List.replicate_succ, List.flatten_cons]
    exact rels_append h (repl_rels h m)
theorem zeroCells_list (z : Array Value) (hz : 0 < z.size) (m : Nat) : (Builtin.zeroCells z m).toList = (List.replicate m z.toList).flatten := by
  unfold Builtin.zeroCells
  apply List.ext_getElem?
  intro i
  simp only [Array.toList_map, Array.toList_range, List.getElem?_map]
  by_cases hi : i < m * z.size
  · rw [List.getElem?_range hi]
    simp only [Option.map_some]
    have hmod : i % z.size < z.size := Nat.mod_lt _ hz
    have hg : ∀ (m i : Nat), i < m * z.size → (List.replicate m z.toList).flatten[i]? = z.toList[i % z.size]? := by
      intro m
      induction m with
      | zero => intro i h; simp at h
      | succ m ih =>
        intro i h
        rw [List.replicate_succ, List.flatten_cons]
        by_cases h1 : i < z.size
        · rw [List.getElem?_append_left (by simpa using h1), Nat.mod_eq_of_lt h1]
        · rw [List.getElem?_append_right (by simpa using h1), Array.length_toList, ih (i - z.size) (by rw [Nat.succ_mul] at h; omega), ← Nat.mod_eq_sub_mod (by omega)]
    rw [hg m i hi]
    simp [hmod]
  · rw [List.getElem?_eq_none (by simpa using hi), List.getElem?_eq_none (by simp [List.length_flatten]; omega)]; rfl
theorem run_appendz {s t ty e : TypeId} {size bytes m : Nat} {z : Value} (hu : P.underlying s = some (.slice e)) (hut : P.underlying t = some (.int .i64)) (hsz : sizeT P e = some size) (hby : bytesT P e = some bytes) (hz0 : zeroT P e = some z)
    (_hb0 : bytes ≠ 0) (hm : m ≤ 1073741824) (hfit : 2 * m * bytes ≤ 281474976710656) :
    (m = 0 → (Builtin.append_ #[s, t] ty #[.slice none 0 0, .int .i64 (m : Int)]).run P w = .ok (.slice none 0 0) w) ∧
    (m ≠ 0 → size ≠ 0 → ∃ cap, m ≤ cap ∧ (Builtin.append_ #[s, t] ty #[.slice none 0 0, .int .i64 (m : Int)]).run P w = .ok (.slice (some ⟨w.heap.size, 0, none⟩) m cap)
      (({ w with drawn := w.drawn + 1 } : World).alloc (.cells (#[] ++ Builtin.zeroCells z.cells m ++ Builtin.zeroCells z.cells (cap - m)) e))) := by
  obtain ⟨i, hi, hib⟩ : ∃ i, P.info? e = some i ∧ i.bytes = bytes := by
    unfold bytesT at hby
    cases hi : P.info? e with
    | none => simp [hi] at hby
    | some i => simp [hi] at hby; exact ⟨i, rfl, hby⟩
  have hwrap : IntKind.i64.wrap (m : Int) = (m : Int) := wrap_small _ _ (by
    have h1 : IntKind.i64.min = -9223372036854775808 := by decide
    have h2 : IntKind.i64.max = 9223372036854775807 := by decide
    rw [h1, h2]; omega)
  have hl2 : ¬ ((m : Int) * (i.bytes : Int) > 2 ^ 48) := by
    rw [hib]
    have h2 : m * bytes ≤ 281474976710656 := Nat.le_trans (by rw [Nat.mul_assoc]; omega) hfit
    have h3 := Int.ofNat_le.2 h2
    rw [Int.natCast_mul] at h3
    have h4 : (2 : Int) ^ 48 = ((281474976710656 : Nat) : Int) := by decide
    rw [h4]
    exact Int.not_lt.2 h3
  have hn0 : ¬ ((m : Int) < 0) := by omega
  refine ⟨fun h0 => ?_, fun hm0 hs0 => ?_⟩
  · subst h0
    unfold Builtin.append_
    simp only [List.getElem?_toArray, List.getElem?_cons_zero, List.getElem?_cons_succ]
    rw [run_ok_bind (run_underlying hu w)]
    simp only []
    rw [run_ok_bind (run_sizeOf hsz), run_ok_bind (run_underlying hut w)]
    simp only []
    rw [run_ok_bind (run_ofPure _)]
    simp only [Bool.not_true, Bool.false_eq_true, if_false, if_true]
    have ha : (asInt (.int .i64 ((0 : Nat) : Int))).run P w = .ok ((0 : Nat) : Int) w := rfl
    rw [run_ok_bind ha]
    simp only [hwrap]
    rw [if_neg hn0, run_ok_bind (run_typeInfo hi), if_neg hl2, run_ok_bind (run_ofPure _)]
    simp
  · refine ⟨(Question.appendCap (0 + m) 0 e).cut (w.tape w.drawn (.appendCap (0 + m) 0 e)), by simp only [Question.cut]; omega, ?_⟩
    have hch : (choose (.appendCap (0 + m) 0 e)).run P w = .ok ((Question.appendCap (0 + m) 0 e).cut (w.tape w.drawn (.appendCap (0 + m) 0 e))) { w with drawn := w.drawn + 1 } := by
      simp [choose, Sem.run, Question.forced]
    have hn2 : ¬ (Builtin.nextslicecap (0 + m) 0 * i.bytes > 2 ^ 48) := by
      have h1 : Builtin.nextslicecap (0 + m) 0 * i.bytes ≤ 2 * (0 + m) * i.bytes := Nat.mul_le_mul_right _ (nextslicecap_le (by omega))
      rw [hib, Nat.zero_add] at h1
      rw [hib]
      have h2 : (2 : Nat) ^ 48 = 281474976710656 := by decide
      rw [h2, Nat.zero_add]
      exact Nat.not_lt.2 (Nat.le_trans h1 hfit)
    have hn1 : ¬ (((0 + m : Nat) : Int) > IntKind.i64.max ∧ (True ∨ i.bytes = 0)) := fun h => by
      have h1 := h.1
      have h2 : IntKind.i64.max = 9223372036854775807 := by decide
      rw [h2] at h1
      omega
    unfold Builtin.append_
    simp only [List.getElem?_toArray, List.getElem?_cons_zero, List.getElem?_cons_succ]
    rw [run_ok_bind (run_underlying hu w)]
    simp only []
    rw [run_ok_bind (run_sizeOf hsz), run_ok_bind (run_underlying hut w)]
    simp only []
    rw [run_ok_bind (run_ofPure _)]
    simp only [Bool.not_true, Bool.false_eq_true, if_false, if_true]
    have ha : (asInt (.int .i64 (m : Int))).run P w = .ok (m : Int) w := rfl
    rw [run_ok_bind ha]
    simp only [hwrap]
    rw [if_neg hn0, run_ok_bind (run_typeInfo hi), if_neg hl2, run_ok_bind (run_ofPure _), Int.toNat_natCast]
    rw [if_neg (by omega), run_ok_bind (run_typeInfo hi), if_neg hn1, run_ok_bind (run_typeInfo hi), if_neg hn2, run_ok_bind hch, run_ok_bind (run_typeInfo hi), run_ok_bind (run_askRoom _),
      run_ok_bind (run_firstCells_none _ _ _ _ _), if_neg (Nat.mul_ne_zero hm0 hs0)]
    refine (run_ok_bind (a := Builtin.zeroCells z.cells m) (w' := { w with drawn := w.drawn + 1 }) (by rw [run_ok_bind (run_zeroValue hz0)]; rfl)).trans ?_
    rw [run_ok_bind (run_zeroValue hz0), run_ok_bind (run_newRow e _)]
    simp only [Nat.zero_add]; rfl
theorem appendz_run {s t ty e : TypeId} {x y : Operand} {size bytes : Nat} {zs : List V} (c : Cxt P Γ ι H w ρ L R r) (hu : P.underlying s = some (.slice e)) (hut : P.underlying t = some (.int .i64))
    (hsz : sizeT P e = some (size + 1)) (hby : bytesT P e = some (bytes + 1)) (hz : zeroCellsT P e = some zs) (hzl : zs.length = size + 1)
    (he : evAppendz zs (size + 1) (bytes + 1) (r x) (r y) cal Γ L R H n = .ok v H' n') (hfr : Fr ι H H') :
    ∃ q w', (Builtin.append_ #[s, t] ty #[ρ x, ρ y]).run P w = .ok q w' ∧ Post P ι H w H' v q w' := by
  unfold evAppendz at he
  obtain ⟨z, hz0, hzr⟩ := zeroCells_rel (ι := ι) hz
  have hzs : z.cells.size = size + 1 := by have := rels_length hzr; rw [Array.length_toList] at this; omega
  have hx := c.hs x
  have hy := c.hs y
  cases hbx : src L R (r x) <;> simp only [hbx] at he <;> try (cases he; done)
  cases hby' : src L R (r y) <;> simp only [hby'] at he <;> try (cases he; done)
  rename_i k mi
  cases k <;> try (cases he; done)
  cases mi <;> try (cases he; done)
  rename_i m
  rw [hbx] at hx; simp only [V.rel] at hx
  rw [hby'] at hy; simp only [V.rel] at hy
  rw [hx, hy]
  have dst := drew_step c.hok
  cases hm0 : Nat.beq m 0 with
  | true =>
    have := beq_eq hm0; subst this
    simp [] at he
    obtain ⟨rfl, rfl, rfl⟩ := he
    exact ⟨_, w, (run_appendz (ty := ty) (m := 0) hu hut hsz hby hz0 (by omega) (by omega) (by omega)).1 rfl, Post.pure c.hok (by simp [V.rel])⟩
  | false =>
    simp only [hm0] at he
    have hmne : m ≠ 0 := fun e => by subst e; simp at hm0
    have hg : (2 * m * (bytes + 1) ≤ 281474976710656 ∧ m ≤ 1073741824) ∧ H.get n = none := by
      have he2 := he
      unfold grown at he2
      cases h1 : Nat.ble ((2 * m + 1024) * (bytes + 1)) 1073741824 with
      | false => simp [h1] at he2
      | true =>
        cases h2 : Nat.ble m 1073741824 with
        | false => simp [h1, h2] at he2
        | true =>
          simp only [h1, h2] at he2
          unfold fresh at he2
          have l1 := ble_le h1
          refine ⟨⟨Nat.le_trans (Nat.mul_le_mul_right _ (by omega)) (Nat.le_trans l1 (by decide)), ble_le h2⟩, ?_⟩
          cases hn : H.get n with
          | some q => simp [hn] at he2
          | none => rfl
    obtain ⟨cap, hcap, hrun⟩ := (run_appendz (P := P) (w := w) (ty := ty) (m := m) hu hut hsz hby hz0 (by omega) hg.1.2 hg.1.1).2 hmne (by omega)
    refine ⟨_, _, hrun, ?_⟩
    refine grown_ok (old := #[]) (new := Builtin.zeroCells z.cells m) (z := z.cells) (cap := cap) (e := e) dst (Mono.refl H) he hg.2 hfr ?_ ?_ hzs hcap
    · rw [Array.empty_append, zeroCells_list _ (by omega)]
      exact repl_rels hzr m
    · rw [repl_eq, List.length_flatten]; simp [hzl]
theorem copy_run {s t ty e : TypeId} {x y : Operand} {size : Nat} (c : Cxt P Γ ι H w ρ L R r) (hu : P.underlying s = some (.slice e)) (hsz : sizeT P e = some size)
    (he : evCopy size (r x) (r y) cal Γ L R H n = .ok v H' n') :
    ∃ q w', (Builtin.copy_ #[s, t] ty #[ρ x, ρ y]).run P w = .ok q w' ∧ Post P ι H w H' v q w' := by
  unfold evCopy at he
  have hx := c.hs x
  cases ht : tailOf Γ H size (src L R (r y)) with
  | none => cases hbx : src L R (r x) <;> simp [ht, hbx] at he
  | some ml =>
    obtain ⟨m, l⟩ := ml
    obtain ⟨hlen, hnl, hfirst⟩ := firsts_ok c.hok c.gok ht (c.hs y)
    have run : ∀ (base : Option Addr) (k c' j : Nat) (ys : Array Value) (w' : World), ρ x = .slice base k c' → Nat.min m k = j → (Builtin.firstCells size j (ρ y)).run P w = .ok ys w →
        (match (motive := Option Addr → Prop) base with | some a => (storeCells a ys.toList).run P w = .ok () w' | none => w' = w) →
        (Builtin.copy_ #[s, t] ty #[ρ x, ρ y]).run P w = .ok (.int .i64 (j : Int)) w' := by
      intro base k c' j ys w' hxe hj hys hst
      rw [hxe]
      unfold Builtin.copy_
      simp only [List.getElem?_toArray, List.getElem?_cons_zero, List.getElem?_cons_succ]
      rw [run_ok_bind (run_underlying hu w)]
      simp only []
      rw [run_ok_bind hlen, run_ok_bind (run_sizeOf hsz), hj, run_ok_bind hys]
      cases base with
      | none => subst hst; rfl
      | some a => simp only [] at hst ⊢; rw [run_ok_bind hst]; rfl
    cases hbx : src L R (r x) <;> simp only [ht, hbx] at he <;> try (cases he; done)
    case nilsl =>
      rw [hbx] at hx; simp only [V.rel] at hx
      simp at he
      obtain ⟨rfl, rfl, rfl⟩ := he
      obtain ⟨ys, hys, _⟩ := hfirst 0 (Nat.zero_le _)
      exact ⟨_, w, run none 0 0 0 ys w hx (Nat.min_zero m) hys rfl, Post.pure c.hok (by simp [V.rel])⟩
    case sl0 zc =>
      rw [hbx] at hx; simp only [V.rel] at hx
      obtain ⟨ad, c', hxe, _⟩ := hx
      simp at he
      obtain ⟨rfl, rfl, rfl⟩ := he
      obtain ⟨ys, hys, hyr⟩ := hfirst 0 (Nat.zero_le _)
      have hyn : ys.toList = [] := by
        have := rels_length hyr
        rw [Nat.zero_mul, List.take_zero] at this
        exact List.length_eq_zero_iff.1 this
      exact ⟨_, w, run (some ad) 0 c' 0 ys w hxe (Nat.min_zero m) hys (by rw [hyn]; rfl), Post.pure c.hok (by simp [V.rel])⟩
    case sl p off k lo ex =>
      rw [hbx] at hx; simp only [V.rel] at hx
      obtain ⟨b, st, c', hp, hxe, _⟩ := hx
      cases htk : takeN (min k m * size) l with
      | none => simp [htk] at he
      | some l' =>
        simp only [htk] at he
        cases hput : putAt H (.ptr p off) l' with
        | none => simp [hput] at he
        | some H1 =>
          simp [hput] at he
          obtain ⟨rfl, rfl, rfl⟩ := he
          obtain ⟨_, rfl⟩ := takeN_some htk
          obtain ⟨ys, hys, hyr⟩ := hfirst (min k m) (Nat.min_le_right _ _)
          have hrp : V.rel ι (.ptr p off) (.pointer (some ⟨b, st + off, none⟩)) := by simp only [V.rel]; exact ⟨b, st, hp, rfl⟩
          obtain ⟨a, w', ha, hrun, hst⟩ := putAt_ok c.hok hput hrp hyr
          cases ha
          exact ⟨_, w', run _ k c' (min k m) ys w' hxe (Nat.min_comm m k) hys hrun, ι, by simp [V.rel], hst⟩
theorem clear_eq (t ty : TypeId) (x : Value) : Builtin.clear_ #[t] ty #[x] = (do
    match ← underlying t, x with
    | _, .map none | _, .slice none _ _ | _, .slice _ 0 _ => pure ()
    | _, .map (some r) =>
      let .map _ clock ← getObj r | stuck "clear: map expected"
      setObj r (.map #[] clock)
    | .slice elem, .slice (some a) n _ =>
      storeCells a (Builtin.zeroCells (← zeroValue elem).cells n).toList
    | _, _ => stuck "clear: map or slice expected"
    pure (.tuple #[])) := rfl
theorem clear_run {s ty e : TypeId} {x : Operand} {zs : List V} (c : Cxt P Γ ι H w ρ L R r) (hu : P.underlying s = some (.slice e)) (hz : zeroCellsT P e = some zs)
    (he : evClear (some zs) (r x) cal Γ L R H n = .ok v H' n') :
    ∃ q w', (Builtin.clear_ #[s] ty #[ρ x]).run P w = .ok q w' ∧ Post P ι H w H' v q w' := by
  unfold evClear at he
  have hx := c.hs x
  obtain ⟨z, hz0, hzr⟩ := zeroCells_rel (ι := ι) hz
  cases hbx : src L R (r x) <;> simp only [hbx] at he <;> try (cases he; done)
  case nilsl =>
    rw [hbx] at hx; simp only [V.rel] at hx
    simp at he
    obtain ⟨rfl, rfl, rfl⟩ := he
    refine ⟨.tuple #[], w, ?_, Post.pure c.hok (by simp only [V.rel]; exact ⟨#[], rfl, rels_nil⟩)⟩
    rw [hx, clear_eq, run_ok_bind (run_underlying hu w)]; rfl
  case sl p off m lo ex =>
    rw [hbx] at hx; simp only [V.rel] at hx
    obtain ⟨b, st, c', hp, hxe, _⟩ := hx
    cases hput : putAt H (.ptr p off) (repl m zs) with
    | none => simp [hput] at he
    | some H1 =>
      simp [hput] at he
      obtain ⟨rfl, rfl, rfl⟩ := he
      have hrp : V.rel ι (.ptr p off) (.pointer (some ⟨b, st + off, none⟩)) := by simp only [V.rel]; exact ⟨b, st, hp, rfl⟩
      have hrep : V.rels ι (repl m zs) (Builtin.zeroCells z.cells m).toList := by
        have e1 : (Builtin.zeroCells z.cells m).toList = repl m z.cells.toList := zeroCells_eq z.cells m
        rw [e1, repl_eq, repl_eq]
        clear hput hbx e1 hxe
        induction m with
        | zero => simpa using rels_nil
        | succ m ih => rw [List.replicate_succ, List.replicate_succ, List.flatten_cons, List.flatten_cons]; exact rels_append hzr ih
      obtain ⟨a, w', ha, hrun, hst⟩ := putAt_ok c.hok hput hrp hrep
      cases ha
      refine ⟨.tuple #[], w', ?_, ι, by simp only [V.rel]; exact ⟨#[], rfl, rels_nil⟩, hst⟩
      rw [hxe, clear_eq, run_ok_bind (run_underlying hu w)]
      cases m with
      | zero =>
        have e2 : (Builtin.zeroCells z.cells 0).toList = [] := by simp [Builtin.zeroCells]
        rw [e2] at hrun
        have e3 : w = w' := by simpa [storeCells] using hrun
        subst e3
        rfl
      | succ m =>
        simp only []
        rw [run_ok_bind (run_zeroValue hz0), run_ok_bind hrun]; rfl
theorem clearm_run {s ty k e : TypeId} {x : Operand} (c : Cxt P Γ ι H w ρ L R r) (hu : P.underlying s = some (.map k e))
    (he : evClear none (r x) cal Γ L R H n = .ok v H' n') :
    ∃ q w', (Builtin.clear_ #[s] ty #[ρ x]).run P w = .ok q w' ∧ Post P ι H w H' v q w' := by
  unfold evClear at he
  have hx := c.hs x
  cases hbx : src L R (r x) <;> simp only [hbx] at he <;> try (cases he; done)
  rename_i p
  rw [hbx] at hx; simp only [V.rel] at hx
  cases hg : H.get p with
  | none => simp [hg] at he
  | some ob =>
    cases ob <;> simp only [hg] at he <;> try (cases he; done)
    rename_i es cl
    simp at he
    obtain ⟨rfl, rfl, rfl⟩ := he
    obtain ⟨bk, es', hι, hh, hr⟩ := map_of c.hok hg
    obtain ⟨b2, hι2, hme⟩ := hx
    rw [hι] at hι2; cases hι2
    obtain ⟨hsb, hnew⟩ := sameBut_putObj (ob' := .map #[] cl) hh
    refine ⟨.tuple #[], _, ?_, ι, by simp only [V.rel]; exact ⟨#[], rfl, rels_nil⟩, Step.write c.hok hg (by simp) hι hsb ⟨bk, _, hι, hnew, rfl⟩⟩
    rw [hme, clear_eq, run_ok_bind (run_underlying hu w)]
    simp only []
    rw [run_ok_bind (run_getObj_map hh)]
    simp only []
    rw [run_ok_bind (run_setObj_map _ hh)]; rfl
theorem len_eq' (t ty : TypeId) (x : Value) : Builtin.len_ #[t] ty #[x] = (do
  match ← underlying t, x with
  | .string, .string s => pure (goInt s.size)
  | .array n _, _ => pure (goInt n)
  | .pointer arr, _ =>
    let .array n _ ← underlying arr | stuck "len: pointer to array expected"
    pure (goInt n)
  | .slice _, .slice _ n _ => pure (goInt n)
  | .map _ _, .map none | .chan _ _, .chan none => pure (goInt 0)
  | .map _ _, .map (some r) =>
    let .map entries _ ← getObj r | stuck "len: map expected"
    pure (goInt entries.size)
  | .chan _ _, .chan (some r) =>
    let .chan _ buf _ _ _ timer ← getObj r | stuck "len: channel expected"
    pure (goInt (if timer then 0 else buf.size))
  | _, _ => stuck "len: string, array, pointer to array, slice, map or channel expected") := rfl
def lenFits (P : Program) (t : TypeId) : BK → Prop
  | .str => P.underlying t = some .string
  | .sl => ∃ e, P.underlying t = some (.slice e)
  | .mp => ∃ k e, P.underlying t = some (.map k e)
  | _ => False
theorem len_run {s ty : TypeId} {k : BK} {x : Operand} (c : Cxt P Γ ι H w ρ L R r) (hu : lenFits P s k)
    (he : evLen k (r x) cal Γ L R H n = .ok v H' n') :
    ∃ q w', (Builtin.len_ #[s] ty #[ρ x]).run P w = .ok q w' ∧ Post P ι H w H' v q w' := by
  obtain ⟨h1, rfl, rfl⟩ := ret_some he
  have hx := c.hs x
  cases k <;> simp only [lenFits] at hu
  case str =>
    cases hbx : src L R (r x) <;> simp only [hbx, lenOf] at h1 <;> try (cases h1; done)
    rw [hbx] at hx; simp only [V.rel] at hx
    obtain ⟨b, hxe, rfl⟩ := hx
    simp at h1; subst h1
    refine ⟨_, w, ?_, Post.pure c.hok (by simp only [V.rel]; exact rfl)⟩
    rw [hxe, len_eq', run_ok_bind (run_underlying hu w)]
    simp only [goInt, len_eq]
    rw [run_ofPure]
    simp
  case sl =>
    obtain ⟨e, hu⟩ := hu
    cases hbx : src L R (r x) <;> simp only [hbx, lenOf] at h1 <;> try (cases h1; done)
    case nilsl =>
      rw [hbx] at hx; simp only [V.rel] at hx
      simp at h1; subst h1
      refine ⟨_, w, ?_, Post.pure c.hok (by simp only [V.rel]; exact rfl)⟩
      rw [hx, len_eq', run_ok_bind (run_underlying hu w)]; rfl
    case sl0 =>
      rw [hbx] at hx; simp only [V.rel] at hx
      obtain ⟨ad, c', hxe, _⟩ := hx
      simp at h1; subst h1
      refine ⟨_, w, ?_, Post.pure c.hok (by simp only [V.rel]; exact rfl)⟩
      rw [hxe, len_eq', run_ok_bind (run_underlying hu w)]; rfl
    case sl =>
      rw [hbx] at hx; simp only [V.rel] at hx
      obtain ⟨b, st, c', hp, hxe, _⟩ := hx
      simp at h1; subst h1
      refine ⟨_, w, ?_, Post.pure c.hok (by simp only [V.rel]; exact rfl)⟩
      rw [hxe, len_eq', run_ok_bind (run_underlying hu w)]; rfl
    case jsl p si sc lo hi =>
      rw [hbx] at hx; simp only [V.rel] at hx
      obtain ⟨b, k, hp, hxe, hk0, hk1, hk2, hk3⟩ := hx
      simp at h1; subst h1
      refine ⟨.int .i64 (k : Int), w, ?_, Post.pure c.hok (by simp only [V.rel]; exact ⟨by rw [hk0], by rw [← hk0]; exact Int.ofNat_le.2 hk1, by rw [← hk0]; exact Int.ofNat_le.2 hk2⟩)⟩
      rw [hxe, len_eq', run_ok_bind (run_underlying hu w)]; rfl
    case inp p j =>
      rw [hbx] at hx; simp only [V.rel] at hx
      obtain ⟨a, k, cc, hxe, hk0, hk1, _⟩ := hx
      simp at h1; subst h1
      refine ⟨.int .i64 (k : Int), w, ?_, Post.pure c.hok (by simp only [V.rel]; exact ⟨by rw [hk0], by omega, hk1⟩)⟩
      rw [hxe, len_eq', run_ok_bind (run_underlying hu w)]; rfl
  case mp =>
    obtain ⟨kt, e, hu⟩ := hu
    cases hbx : src L R (r x) <;> simp only [hbx, lenOf] at h1 <;> try (cases h1; done)
    case nilmp =>
      rw [hbx] at hx; simp only [V.rel] at hx
      simp at h1; subst h1
      refine ⟨_, w, ?_, Post.pure c.hok (by simp only [V.rel]; exact rfl)⟩
      rw [hx, len_eq', run_ok_bind (run_underlying hu w)]; rfl
    case mp p =>
      rw [hbx] at hx; simp only [V.rel] at hx
      cases hg : H'.get p with
      | none => simp [hg] at h1
      | some ob =>
        cases ob <;> simp only [hg] at h1 <;> try (cases h1; done)
        rename_i es cl
        simp at h1; subst h1
        obtain ⟨bk, es', hι, hh, hr⟩ := map_of c.hok hg
        obtain ⟨b2, hι2, hme⟩ := hx
        rw [hι] at hι2; cases hι2
        have hl := ERel_length hr
        refine ⟨_, w, ?_, Post.pure c.hok (by simp only [V.rel]; exact rfl)⟩
        rw [hme, len_eq', run_ok_bind (run_underlying hu w)]
        simp only []
        rw [run_ok_bind (run_getObj_map hh)]
        simp only [goInt, len_eq]
        rw [run_ofPure, ← hl]; simp
theorem cap_run {s ty e : TypeId} {x : Operand} (c : Cxt P Γ ι H w ρ L R r) (hu : P.underlying s = some (.slice e)) (he : evCap (r x) cal Γ L R H n = .ok v H' n') :
    ∃ q w', (Builtin.cap_ #[s] ty #[ρ x]).run P w = .ok q w' ∧ Post P ι H w H' v q w' := by
  unfold evCap at he
  have hx := c.hs x
  have run : ∀ b m k, ρ x = .slice b m k → (Builtin.cap_ #[s] ty #[ρ x]).run P w = .ok (.int .i64 (k : Int)) w := by
    intro b m k hxe
    rw [hxe]
    unfold Builtin.cap_
    simp only [List.getElem?_toArray, List.getElem?_cons_zero]
    rw [run_ok_bind (run_underlying hu w)]; rfl
  cases hbx : src L R (r x) <;> simp only [hbx] at he <;> try (cases he; done)
  case nilsl =>
    rw [hbx] at hx; simp only [V.rel] at hx
    simp at he
    obtain ⟨rfl, rfl, rfl⟩ := he
    exact ⟨_, w, run _ _ _ hx, Post.pure c.hok (by simp only [V.rel]; exact rfl)⟩
  case sl0 zc =>
    rw [hbx] at hx; simp only [V.rel] at hx
    obtain ⟨ad, c', hxe, hzc⟩ := hx
    cases zc with
    | false => simp at he
    | true =>
      simp at he
      obtain ⟨rfl, rfl, rfl⟩ := he
      have := hzc rfl; subst this
      exact ⟨_, w, run _ _ _ hxe, Post.pure c.hok (by simp only [V.rel]; exact rfl)⟩
  case sl p off m lo ex =>
    rw [hbx] at hx; simp only [V.rel] at hx
    obtain ⟨b, st, c', hp, hxe, _, hex, _⟩ := hx
    cases ex with
    | succ e => simp at he
    | zero =>
      simp at he
      obtain ⟨rfl, rfl, rfl⟩ := he
      have := hex rfl; subst this
      exact ⟨_, w, run _ _ _ hxe, Post.pure c.hok (by simp only [V.rel])⟩
theorem mmAll_cons (mx : Bool) (k : IntKind) (u : V) (l : List V) (a : Int) : mmAll mx k (u :: l) a = (match u with
      | .int j b => (match keq k j with | true => mmAll mx k l (mm mx a b) | false => none)
      | _ => none) := rfl
theorem mm_max (k j : IntKind) (a b : Int) : Builtin.max2 (.int k a) (.int j b) = pure (.int k (mm true a b)) := by
  simp only [Builtin.max2, mm, ilt_eq]
  by_cases h : a < b
  · have : b > a := h
    simp [h]
  · have : ¬ (b > a) := h
    simp [h]
theorem mm_min (k j : IntKind) (a b : Int) : Builtin.min2 (.int k a) (.int j b) = pure (.int k (mm false a b)) := by
  simp only [Builtin.min2, mm, ilt_eq]
  by_cases h : b < a <;> simp [h]
theorem mmAll_ok (mx : Bool) (k : IntKind) : ∀ (l : List V) (xs : List Value) (a b : Int), mmAll mx k l a = some b → V.rels ι l xs →
    (xs.foldlM (if mx then Builtin.max2 else Builtin.min2) (Value.int k a)).run P w = .ok (.int k b) w
  | [], xs, a, b, h, hr => by
    rw [rels_nil_inv hr]
    have h' : some a = some b := h
    cases h'; rfl
  | u :: l, xs, a, b, h, hr => by
    obtain ⟨x, t, rfl, hx, ht⟩ := rels_cons_inv hr
    rw [mmAll_cons] at h
    cases u <;> simp only at h <;> try (cases h; done)
    rename_i j m
    cases hk : keq k j with
    | false => simp [hk] at h
    | true =>
      simp only [hk] at h
      simp only [V.rel] at hx; subst hx
      have ih := mmAll_ok mx k l t _ _ h ht
      rw [List.foldlM_cons]
      cases mx with
      | true => simp only [if_true] at ih ⊢; rw [mm_max, run_ok_bind (run_ofPure _)]; exact ih
      | false => simp only [Bool.false_eq_true, if_false] at ih ⊢; rw [mm_min, run_ok_bind (run_ofPure _)]; exact ih
theorem minmax_run {mx : Bool} {ats : Array TypeId} {ty : TypeId} {xs : Array Operand} (c : Cxt P Γ ι H w ρ L R r) (he : evMinmax mx (xs.toList.map r) cal Γ L R H n = .ok v H' n') :
    ∃ q w', (if mx then Builtin.max_ ats ty (xs.map ρ) else Builtin.min_ ats ty (xs.map ρ)).run P w = .ok q w' ∧ Post P ι H w H' v q w' := by
  unfold evMinmax at he
  have hr := srcs_rels c.hs xs.toList
  cases hl : srcs L R (xs.toList.map r) with
  | nil => simp [hl] at he
  | cons u t =>
    rw [hl] at hr he
    obtain ⟨x, ts, hxs, hx, ht⟩ := rels_cons_inv hr
    have two : ret? (mmTwo Γ.tab mx u t) H n = .ok v H' n' → ∃ q w', (if mx then Builtin.max_ ats ty (xs.map ρ) else Builtin.min_ ats ty (xs.map ρ)).run P w = .ok q w' ∧ Post P ι H w H' v q w' := by
      intro he
      obtain ⟨h1, rfl, rfl⟩ := ret_some he
      unfold mmTwo at h1
      cases t with
      | nil => cases h1
      | cons u2 t2 =>
      cases t2 with
      | cons => cases h1
      | nil =>
      simp only at h1
      obtain ⟨y, ts2, rfl, hy, ht2⟩ := rels_cons_inv ht
      have := rels_nil_inv ht2; subst this
      have hxl : (xs.map ρ).toList = [x, y] := by rw [Array.toList_map]; exact hxs
      cases mx with
      | true =>
        simp only [if_true] at h1 ⊢
        unfold Builtin.max_
        rw [hxl]
        cases hL : lessG Γ.tab u u2 with
        | none => simp [hL] at h1
        | some r0 =>
          obtain ⟨k, a, b, rfl, rfl, hd⟩ := lessG_ok c.gok.tab hL hx hy
          cases r0 with
          | true =>
            simp [hL] at h1; subst h1
            refine ⟨_, w, ?_, Post.pure c.hok hy⟩
            show (List.foldlM Builtin.max2 (Value.int k a) [Value.int k b]).run P w = _
            rw [List.foldlM_cons, mm_max, run_ok_bind (run_ofPure _)]
            simp only [mm, ilt_eq, hd]; rfl
          | false =>
            simp [hL] at h1; subst h1
            refine ⟨_, w, ?_, Post.pure c.hok hx⟩
            show (List.foldlM Builtin.max2 (Value.int k a) [Value.int k b]).run P w = _
            rw [List.foldlM_cons, mm_max, run_ok_bind (run_ofPure _)]
            simp only [mm, ilt_eq, hd]; rfl
      | false =>
        simp only [Bool.false_eq_true, if_false] at h1 ⊢
        unfold Builtin.min_
        rw [hxl]
        cases hL : lessG Γ.tab u2 u with
        | none => simp [hL] at h1
        | some r0 =>
          obtain ⟨k, a, b, rfl, rfl, hd⟩ := lessG_ok c.gok.tab hL hy hx
          cases r0 with
          | true =>
            simp [hL] at h1; subst h1
            refine ⟨_, w, ?_, Post.pure c.hok hy⟩
            show (List.foldlM Builtin.min2 (Value.int k b) [Value.int k a]).run P w = _
            rw [List.foldlM_cons, mm_min, run_ok_bind (run_ofPure _)]
            simp only [mm, ilt_eq, hd]; rfl
          | false =>
            simp [hL] at h1; subst h1
            refine ⟨_, w, ?_, Post.pure c.hok hx⟩
            show (List.foldlM Builtin.min2 (Value.int k b) [Value.int k a]).run P w = _
            rw [List.foldlM_cons, mm_min, run_ok_bind (run_ofPure _)]
            simp only [mm, ilt_eq, hd]; rfl
    simp only at he
    split at he
    case h_2 => exact two he
    rename_i k a
    cases hm : mmAll mx k t a with
    | none => simp only [hm] at he; exact two he
    | some b =>
      simp [hm] at he
      obtain ⟨rfl, rfl, rfl⟩ := he
      simp only [V.rel] at hx; subst hx
      have := mmAll_ok (P := P) (w := w) mx k t ts a b hm ht
      refine ⟨_, w, ?_, Post.pure c.hok (by simp only [V.rel]; exact rfl)⟩
      have hxl : (xs.map ρ).toList = Value.int k a :: ts := by rw [Array.toList_map]; exact hxs
      cases mx with
      | true => simp only [if_true] at this ⊢; unfold Builtin.max_; rw [hxl]; exact this
      | false => simp only [Bool.false_eq_true, if_false] at this ⊢; unfold Builtin.min_; rw [hxl]; exact this
end
end
end Go.Ev
/-
  A verified evaluator, part 18: every operation.
-/
namespace Go.Ev
noncomputable section
open Go

section
variable {P : Program} {Γ : Glo} {ι : Emb} {H H' : Heap} {w w' : World} {ρ : Operand → Value} {L : List V} {R : Regs} {r : Operand → Src} {cal : Cal} {n n' : Pth} {v : V} {o : Oper}

theorem sizeT_info {t : TypeId} {k : Nat} (h : sizeT P t = some k) : ∃ i, P.info? t = some i ∧ i.size = k := by
  unfold sizeT at h
  cases hi : P.info? t with
  | none => simp [hi] at h
  | some i => simp [hi] at h; exact ⟨i, rfl, h⟩
theorem zeroT_info {t : TypeId} {z : Value} (h : zeroT P t = some z) : ∃ i, P.info? t = some i ∧ i.zero = some z := by
  unfold zeroT at h
  cases hi : P.info? t with
  | none => simp [hi] at h
  | some i => simp [hi] at h; exact ⟨i, rfl, h⟩
theorem places_of : ∀ (fs : List Field), sizesKnown P fs = true →
    ∃ pl, fs.mapM (fun (f : Field) => (P.info? f.type).map fun i => (f.offset, i.size)) = some pl ∧ ∀ (i : Nat) (f : Field) (k : Nat), fs[i]? = some f → sizeT P f.type = some k → pl[i]? = some (f.offset, k)
  | [], _ => ⟨[], rfl, fun i f k h => by simp at h⟩
  | f :: fs, h => by
    have h' : (match sizeT P f.type with | some _ => sizesKnown P fs | none => false) = true := h
    cases hs : sizeT P f.type with
    | none => simp [hs] at h'
    | some k =>
      simp only [hs] at h'
      obtain ⟨pl, h1, h2⟩ := places_of fs h'
      obtain ⟨i, hi, hik⟩ := sizeT_info hs
      refine ⟨(f.offset, k) :: pl, by simp [List.mapM_cons, hi, h1, hik], fun j g k' hj hk => ?_⟩
      cases j with
      | zero => simp at hj; subst hj; rw [hs] at hk; cases hk; rfl
      | succ j => simp at hj; simpa using h2 j g k' hj hk
theorem structParts_ok (fs : Array Field) {pl : List (Nat × Nat)} (hp : ∀ (i : Nat) (f : Field) (k : Nat), fs.toList[i]? = some f → sizeT P f.type = some k → pl[i]? = some (f.offset, k)) :
    ∀ (ps : List (Nat × Operand)) (qs : List (Nat × Nat × Src)), structParts P fs r ps = some qs → PartsR (pl.toArray[·]?) r ps qs
  | [], qs, h => by
    have h' : some [] = some qs := h
    cases h'; rfl
  | p :: ps, qs, h => by
    simp only [structParts] at h
    cases hf : fs[p.1]? with
    | none => simp [hf] at h
    | some f =>
      cases ht : structParts P fs r ps with
      | none => simp [hf, ht] at h
      | some t =>
        cases hs : sizeT P f.type with
        | none => simp [hf, ht, hs] at h
        | some k =>
          simp [hf, ht, hs] at h
          subst h
          refine ⟨(f.offset, k, r p.2), t, rfl, ?_, rfl, structParts_ok fs hp ps t ht⟩
          have := hp p.1 f k (by simpa using hf) hs
          simpa using this
theorem arrayParts_ok (k : Nat) : ∀ (ps : List (Nat × Operand)), PartsR (fun i => some (i * k, k)) r ps (arrayParts k r ps)
  | [] => rfl
  | _p :: ps => ⟨_, _, rfl, rfl, rfl, arrayParts_ok k ps⟩
theorem ok_build (c : Cxt P Γ ι H w ρ L R r) {t : TypeId} {ps : Array (Nat × Operand)} (ho : o.op = .build t ps) (he : evI (opI P r (.build t ps)) cal Γ L R H n = .ok v H' n') :
    OpOK P ρ o w (Post P ι H w H' v) := by
  unfold opI at he
  cases hu : P.underlying t with
  | none => simp [hu] at he; cases he
  | some d =>
    cases hz : zeroCellsT P t with
    | none => cases d <;> simp [hu, hz] at he <;> cases he
    | some zs =>
      obtain ⟨z, hz0, hzr⟩ := zeroCells_rel (ι := ι) hz
      obtain ⟨it, hit, hitz⟩ := zeroT_info hz0
      have fin : ∀ (pl : Nat → Option (Nat × Nat)) (qs : List (Nat × Nat × Src)), PartsR pl r ps.toList qs → evBuild zs qs cal Γ L R H n = .ok v H' n' →
          (∀ cells, Instr.fill pl z.cells (ps.toList.map fun p => (p.1, ρ p.2)) = some cells → P.built t (ps.map fun (i, x) => (i, ρ x)).toList = some cells) → OpOK P ρ o w (Post P ι H w H' v) := by
        intro pl qs hp hev hb
        unfold evBuild at hev
        cases hl : layParts L R qs zs with
        | none => simp [hl] at hev
        | some l =>
          simp [hl] at hev
          obtain ⟨rfl, rfl, rfl⟩ := hev
          obtain ⟨cs', hfill, hr⟩ := fill_ok c.hs pl ps.toList qs zs l z.cells hp hzr hl
          exact OpOK.same c (s := Instr.build t (ps.map fun (i, x) => (i, ρ x))) (by unfold execOp; rw [ho]) (run_build w t _ cs' (hb cs' hfill)) (by simp only [V.rel]; exact ⟨cs', rfl, hr⟩)
      have hpl : (ps.map fun (x : Nat × Operand) => (x.1, ρ x.2)).toList = ps.toList.map fun p => (p.1, ρ p.2) := by simp
      cases d <;> simp only [hu, hz] at he <;> try (cases he; done)
      case struct fs =>
        cases hk : sizesKnown P fs.toList with
        | false => simp [hk] at he; cases he
        | true =>
          cases hq : structParts P fs r ps.toList with
          | none => simp [hk, hq] at he; cases he
          | some qs =>
            simp only [hk, hq] at he
            obtain ⟨pl, h1, h2⟩ := places_of fs.toList hk
            refine fin (pl.toArray[·]?) qs (structParts_ok fs h2 ps.toList qs hq) he fun cells hc => ?_
            unfold Program.built
            simp only [hit, hu, hitz, h1]
            rw [hpl]; exact hc
      case array m e =>
        cases hs : sizeT P e with
        | none => simp [hs] at he; cases he
        | some k =>
          simp only [hs] at he
          obtain ⟨ie, hie, hiek⟩ := sizeT_info hs
          refine fin (fun i => some (i * k, k)) _ (arrayParts_ok k ps.toList) he fun cells hc => ?_
          unfold Program.built
          simp only [hit, hu, hitz, hie, hiek]
          rw [hpl]; exact hc

/-- an operation that makes one new block -/
theorem newI_ok {f : FI} {ob : O} (hs : ∀ x, V.rel ι (src L R (r x)) (ρ x)) (hc : ∀ y, ρ (.const y) = y) (hok : HOK P ι H w) (hi : opI P r o.op = .new f) (he : evF f L R n = some (v, ob)) (hn : ι n = none) :
    NewOK P ρ o w ι n v ob := by
  cases ho : o.op <;> rw [ho] at hi <;> simp only [opI] at hi <;> try (cases hi; done)
  case alloc t =>
    cases hz : zeroCellsT P t with
    | none => simp [hz] at hi
    | some zs =>
      simp [hz] at hi; subst hi
      simp [evF] at he
      obtain ⟨rfl, rfl⟩ := he
      exact new_alloc ho hz
  case box t x =>
    simp at hi; subst hi
    unfold evF at he
    cases hco : cellsOf (src L R (r x)) with
    | none => simp [hco] at he
    | some l =>
      simp [hco] at he
      obtain ⟨rfl, rfl⟩ := he
      exact new_box ho (hs x) hco hn hok
  case buildSlice t m ps =>
    cases hu : P.underlying t with
    | none => simp [hu] at hi
    | some d =>
      cases d <;> simp only [hu] at hi <;> try (cases hi; done)
      rename_i e
      cases hk : sizeT P e with
      | none => simp [hk] at hi
      | some k =>
        cases hz : zeroCellsT P e with
        | none => simp [hk, hz] at hi
        | some zs =>
          simp only [hk, hz] at hi
          cases h1 : Nat.ble (m * k) 16777216 with
          | false => simp [h1] at hi
          | true =>
            cases h2 : Nat.beq (len zs) k with
            | false => simp [h1, h2] at hi
            | true =>
              simp [h1, h2] at hi; subst hi
              unfold evF at he
              cases hl : layParts L R (arrayParts k r ps.toList) (repl m zs) with
              | none => simp [hl] at he
              | some l =>
                simp [hl] at he
                obtain ⟨rfl, rfl⟩ := he
                have e2 := beq_eq h2
                rw [len_eq] at e2
                exact new_buildsl ho hu hk hz (ble_le h1) e2 hs hl hn hok
  case convert s d x =>
    unfold convI at hi
    split at hi <;> try (cases hi; done)
    · rename_i e hus hud
      split at hi <;> try (cases hi; done)
      rename_i hue
      simp at hi
      subst hi
      unfold evF at he
      have hx := hs x
      cases hbx : src L R (r x) <;> simp [hbx] at he
      rename_i s
      rw [hbx] at hx; simp only [V.rel] at hx
      obtain ⟨b, hxe, rfl⟩ := hx
      obtain ⟨rfl, rfl⟩ := he
      have hl : len (b.data.toList.map UInt8.toNat) = b.size := by rw [len_eq]; simp
      rw [hl]
      exact new_s2b ho hus hud hue hxe hn
    all_goals (split at hi <;> cases hi)
  case makeMap t rv =>
    cases rv with
    | none =>
      have hi' : I.new .mkmap = I.new f := hi
      cases hi'
      simp [evF] at he
      obtain ⟨rfl, rfl⟩ := he
      exact new_mkmap ho (.inl rfl) hc
    | some q =>
      cases q with
      | const y =>
        cases y <;> try (cases hi; done)
        rename_i k m
        have hi' : (match P.underlying t with | some (.map _ _) => I.new .mkmap | _ => .bad) = I.new f := hi
        split at hi' <;> try (cases hi'; done)
        rename_i hu
        cases hi'
        simp [evF] at he
        obtain ⟨rfl, rfl⟩ := he
        exact new_mkmap ho (.inr ⟨_, _, _, _, rfl, hu⟩) hc
      | _ => cases hi
  case makeSlice t xl xc =>
    cases hu : P.underlying t with
    | none => simp [hu] at hi
    | some d =>
      cases d <;> simp only [hu] at hi <;> try (cases hi; done)
      rename_i e
      cases hk : sizeT P e with
      | none => simp [hk] at hi
      | some k =>
        cases hby : bytesT P e with
        | none => simp [hk, hby] at hi
        | some by' =>
          cases hz : zeroCellsT P e with
          | none => simp [hk, hby, hz] at hi
          | some zs =>
            simp only [hk, hby, hz] at hi
            cases h2 : Nat.beq (len zs) k with
            | false => simp [h2] at hi
            | true =>
              simp [h2] at hi; subst hi
              have e2 := beq_eq h2
              rw [len_eq] at e2
              unfold evF at he
              have hxl := hs xl
              have hxc := hs xc
              cases hbl : src L R (r xl) <;> simp only [hbl] at he <;> try (cases he; done)
              rename_i kl a
              cases a <;> try (cases he; done)
              rename_i a
              cases hbc : src L R (r xc) <;> simp only [hbc] at he <;> try (cases he; done)
              rename_i kc b
              cases b <;> try (cases he; done)
              rename_i b
              simp only at he
              cases g1 : Nat.ble a b with
              | false => simp [g1] at he
              | true =>
                cases g2 : Nat.ble (b * by') 1073741824 with
                | false => simp [g1, g2] at he
                | true =>
                  cases g3 : Nat.ble b 1073741824 with
                  | false => simp [g1, g2, g3] at he
                  | true =>
                    simp [g1, g2, g3] at he
                    obtain ⟨rfl, rfl⟩ := he
                    rw [hbl] at hxl; rw [hbc] at hxc
                    simp only [V.rel] at hxl hxc
                    exact new_mksl ho hu hk hby hz e2 hxl hxc (ble_le g1) (ble_le g2) (ble_le g3) hn hok
  case makeFunc f a b =>
    cases f <;> first
      | (cases hi; done)
      | (simp only [] at hi; (repeat' split at hi) <;> cases hi)
  case next it b => cases b <;> cases hi
  all_goals (exfalso; (try unfold binI at hi); (try unfold builtinI at hi); (try unfold appendI at hi); (try unfold appendzI at hi); (repeat' split at hi) <;> (first | cases hi | contradiction))
end
end
end Go.Ev
/-
  A verified evaluator, part 19: calls of the language's own functions; calls.
-/
namespace Go.Ev
noncomputable section
open Go

section
variable {P : Program} {Γ : Glo} {ι : Emb} {H H' : Heap} {w w' : World} {ρ : Operand → Value} {L : List V} {R : Regs} {r : Operand → Src} {cal : Cal} {n n' : Pth} {v : V} {o : Oper}

theorem map_one {l : List Operand} {x : Src} (h : l.map r = [x]) : ∃ a, l = [a] ∧ x = r a := by
  match l, h with
  | [a], h => simp at h; exact ⟨a, rfl, h.symm⟩
theorem map_two {l : List Operand} {x y : Src} (h : l.map r = [x, y]) : ∃ a b, l = [a, b] ∧ x = r a ∧ y = r b := by
  match l, h with
  | [a, b], h => simp at h; exact ⟨a, b, rfl, h.1.symm, h.2.symm⟩
theorem arr_of {α : Type} {a : Array α} {l : List α} (h : a.toList = l) : a = l.toArray := by subst h; simp

theorem exec_builtin {cl : Call} {b : Builtin} {s : Sem Value} {q : Value} {w' : World} (ho : o.op = .call cl) (hb : cl.callee = .builtin b)
    (hs : ∀ cs, builtin b cl.argTypes o.type cs (cl.args.map ρ) = (do pure (Next.value (← s)) : Sem Next)) (hr : s.run P w = .ok q w') : (execOp ρ o).run P w = .ok (.value q) w' := by
  unfold execOp
  rw [ho]
  simp only []
  unfold resolve
  rw [hb]
  rw [run_ok_bind (run_ofPure _)]
  simp only [invoke]
  rw [hs]
  exact run_v hr
theorem ok_builtin (c : Cxt P Γ ι H w ρ L R r) {cl : Call} {b : Builtin} (ho : o.op = .call cl) (hb : cl.callee = .builtin b)
    (he : evI (builtinI P b cl.argTypes (cl.args.toList.map r)) cal Γ L R H n = .ok v H' n') (hfr : Fr ι H H') : OpOK P ρ o w (Post P ι H w H' v) := by
  have fin : ∀ {s : Sem Value}, (∀ cs, builtin b cl.argTypes o.type cs (cl.args.map ρ) = (do pure (Next.value (← s)) : Sem Next)) → (∃ q w', s.run P w = .ok q w' ∧ Post P ι H w H' v q w') →
      OpOK P ρ o w (Post P ι H w H' v) := fun {s} hs ⟨q, w', hr, hp⟩ => OpOK.value (exec_builtin ho hb hs hr) hp
  unfold builtinI at he
  split at he
  · -- append
    rename_i s t x y hat hxs
    obtain ⟨a, b, hal, rfl, rfl⟩ := map_two hxs
    have h1 := arr_of hat
    have h2 : cl.args.map ρ = #[ρ a, ρ b] := by rw [arr_of hal]; simp
    have key : ∀ e d, P.underlying s = some (.slice e) → P.underlying t = some d → ((∃ e', d = .slice e') ∨ d = .string) → evI (appendI P e (r a) (r b)) cal Γ L R H n = .ok v H' n' → OpOK P ρ o w (Post P ι H w H' v) := by
      intro e d hu hut hd he
      unfold appendI at he
      split at he
      · rename_i k m zs hk hm hz
        cases hl : Nat.beq (len zs) (k + 1) with
        | false => simp only [hl] at he; cases he
        | true =>
          simp only [hl] at he
          have e2 := beq_eq hl
          rw [len_eq] at e2
          refine fin (s := Builtin.append_ #[s, t] o.type #[ρ a, ρ b]) (fun cs => ?_) (append_run (cal := cal) c hu hut hd hk hm hz e2 he hfr)
          rw [h1, h2]; rfl
      · cases he
    split at he
    · rename_i e e' hu hut; exact key e _ hu hut (.inl ⟨_, rfl⟩) he
    · rename_i e hu hut; exact key e _ hu hut (.inr rfl) he
    · rename_i e hu hut
      unfold appendzI at he
      split at he
      · rename_i k m zs hk hm hz
        cases hl : Nat.beq (len zs) (k + 1) with
        | false => simp only [hl] at he; cases he
        | true =>
          simp only [hl] at he
          have e2 := beq_eq hl
          rw [len_eq] at e2
          refine fin (s := Builtin.append_ #[s, t] o.type #[ρ a, ρ b]) (fun cs => ?_) (appendz_run (cal := cal) c hu hut hk hm hz e2 he hfr)
          rw [h1, h2]; rfl
      · cases he
    · cases he
  · -- len
    rename_i t x hat hxs
    obtain ⟨a, hal, rfl⟩ := map_one hxs
    have h1 := arr_of hat
    have h2 : cl.args.map ρ = #[ρ a] := by rw [arr_of hal]; simp
    have hs : ∀ cs, builtin .len cl.argTypes o.type cs (cl.args.map ρ) = (do pure (Next.value (← Builtin.len_ #[t] o.type #[ρ a])) : Sem Next) := fun cs => by rw [h1, h2]; rfl
    split at he
    · rename_i hu; exact fin hs (len_run (cal := cal) (k := .str) c hu he)
    · rename_i e hu; exact fin hs (len_run (cal := cal) (k := .sl) c ⟨_, hu⟩ he)
    · rename_i k e hu; exact fin hs (len_run (cal := cal) (k := .mp) c ⟨_, _, hu⟩ he)
    · rename_i m e hu
      have he' : Res.ok (.int .i64 (.ofNat m)) H n = .ok v H' n' := he
      simp at he'
      obtain ⟨rfl, rfl, rfl⟩ := he'
      refine fin hs ⟨.int .i64 (m : Int), w, ?_, Post.pure c.hok (by simp [V.rel])⟩
      rw [len_eq', run_ok_bind (run_underlying hu w)]
      rfl
    · rename_i e hu
      split at he
      · rename_i m e' hu2
        have he' : Res.ok (.int .i64 (.ofNat m)) H n = .ok v H' n' := he
        simp at he'
        obtain ⟨rfl, rfl, rfl⟩ := he'
        refine fin hs ⟨.int .i64 (m : Int), w, ?_, Post.pure c.hok (by simp [V.rel])⟩
        rw [len_eq', run_ok_bind (run_underlying hu w)]
        simp only []
        rw [run_ok_bind (run_underlying hu2 w)]
        rfl
      · cases he
    · cases he
  · -- cap
    rename_i t x hat hxs
    obtain ⟨a, hal, rfl⟩ := map_one hxs
    have h1 := arr_of hat
    have h2 : cl.args.map ρ = #[ρ a] := by rw [arr_of hal]; simp
    split at he
    · rename_i e hu
      exact fin (s := Builtin.cap_ #[t] o.type #[ρ a]) (fun cs => by rw [h1, h2]; rfl) (cap_run (cal := cal) c hu he)
    · cases he
  · -- delete
    rename_i t t2 m k hat hxs
    obtain ⟨a, b, hal, rfl, rfl⟩ := map_two hxs
    have h1 := arr_of hat
    have h2 : cl.args.map ρ = #[ρ a, ρ b] := by rw [arr_of hal]; simp
    split at he
    · rename_i kt et hu
      split at he
      · rename_i e hk
        obtain ⟨w', hr, hst, rfl⟩ := delete_run (cal := cal) (ty := o.type) (at2 := t2) c hu hk he
        exact fin (s := Builtin.delete_ #[t, t2] o.type #[ρ a, ρ b]) (fun cs => by rw [h1, h2]; rfl) ⟨_, w', hr, ι, by simp only [V.rel]; exact ⟨#[], rfl, rels_nil⟩, hst⟩
      · cases he
    · cases he
  · -- clear
    rename_i t x hat hxs
    obtain ⟨a, hal, rfl⟩ := map_one hxs
    have h1 := arr_of hat
    have h2 : cl.args.map ρ = #[ρ a] := by rw [arr_of hal]; simp
    have hs : ∀ cs, builtin .clear cl.argTypes o.type cs (cl.args.map ρ) = (do pure (Next.value (← Builtin.clear_ #[t] o.type #[ρ a])) : Sem Next) := fun cs => by rw [h1, h2]; rfl
    split at he
    · rename_i e hu
      split at he
      · rename_i zs hz; exact fin hs (clear_run (cal := cal) c hu hz he)
      · cases he
    · rename_i kt et hu; exact fin hs (clearm_run (cal := cal) c hu he)
    · cases he
  · -- copy
    rename_i t t2 x y hat hxs
    obtain ⟨a, b, hal, rfl, rfl⟩ := map_two hxs
    have h1 := arr_of hat
    have h2 : cl.args.map ρ = #[ρ a, ρ b] := by rw [arr_of hal]; simp
    split at he
    · rename_i e hu
      split at he
      · rename_i k hk
        exact fin (s := Builtin.copy_ #[t, t2] o.type #[ρ a, ρ b]) (fun cs => by rw [h1, h2]; rfl) (copy_run (cal := cal) c hu hk he)
      · cases he
    · cases he
  · exact fin (s := Builtin.min_ cl.argTypes o.type (cl.args.map ρ)) (fun cs => rfl) (minmax_run (cal := cal) (ats := cl.argTypes) (ty := o.type) (mx := false) c he)
  · exact fin (s := Builtin.max_ cl.argTypes o.type (cl.args.map ρ)) (fun cs => rfl) (minmax_run (cal := cal) (ats := cl.argTypes) (ty := o.type) (mx := true) c he)
  · cases he
end
end
end Go.Ev
/-
  A verified evaluator, part 20: what is asked of calls and of code; calls; rounds; every operation.
  A verified evaluator, part 21: calls; rounds.
-/
namespace Go.Ev
noncomputable section
open Go

/-- the marks of the frame's loops over functions -/
structure Defs (w0 : World) (ι : Emb) (H : Heap) (w : World) (ds : List Deferred) : Prop where
  all : ∀ d ∈ ds, ∃ b, d.target = .collected b ∧ w0.heap.size ≤ b ∧ w.heap[b]? = some (.deferred (some [])) ∧ ∀ p s, Live H p → ι p ≠ some (b, s)
  apart : ds.Pairwise fun d e => d.target ≠ e.target
def Out.to (H : Heap) : Out → Prop
  | .bad => True
  | .nrm _ H' _ => Mono H H'
  | .brk _ _ H' _ => Mono H H'
  | .ret _ H' _ => Mono H H'
def Out.fr (ι : Emb) (H : Heap) : Out → Prop
  | .bad => True
  | .nrm _ H' _ => Fr ι H H'
  | .brk _ _ H' _ => Fr ι H H'
  | .ret _ H' _ => Fr ι H H'
/-- how code is left -/
def Left (P : Program) (ι : Emb) (U N : Nat) (H : Heap) (w0 w : World) (R' : Regs) (H' : Heap) (a : Act) (w' : World) : Prop :=
  ∃ ι', EnvR ι' U R' a.tmps ∧ N ≤ a.tmps.size ∧ Step P ι H w ι' H' w' ∧ Defs w0 ι' H' w' a.defers
def CodePost (P : Program) (ι : Emb) (U N : Nat) (H : Heap) (w0 w : World) : Out → Exit → Act → World → Prop
  | .bad, _, _, _ => False
  | .nrm R' H' _, e, a, w' => e = .normal ∧ Left P ι U N H w0 w R' H' a w'
  | .brk id R' H' _, e, a, w' => e = .exit id ∧ Left P ι U N H w0 w R' H' a w'
  | .ret R' H' _, e, a, w' => e = .ret ∧ Left P ι U N H w0 w R' H' a w'

def Callable (P : Program) (f : Nat) : Prop := ∃ fn, P.funcs[f]? = some fn ∧ fn.body.isSome = true ∧ (fn.name == "runtime.NumGoroutine") = false
structure CalOK (P : Program) (Γ : Glo) (cal : Cal) : Prop where
  fn : ∀ f args H n v H' n', cal.fn f args H n = .ok v H' n' → Mono H H' ∧ Callable P f ∧
    ∀ ι w (xs : Array Value), HOK P ι H w → GOK Γ ι H w → Fr ι H H' → V.rels ι args xs.toList → Calls P f xs w (fun e w' => ∃ x, e = .returned x ∧ Post P ι H w H' v x w')
  rd : ∀ c R H n, Out.to H (cal.rd c R H n) ∧
    ∀ code U N, c = codeIR P U N code true → cal.rd c R H n ≠ .bad → ∀ ι w w0 a l m, HOK P ι H w → GOK Γ ι H w → Out.fr ι H (cal.rd c R H n) → EnvR ι U R a.tmps → N ≤ a.tmps.size →
      Defs w0 ι H w a.defers → code.wpIn (Fence.wide.inRound l) m P (CodePost P ι U N H w0 w (cal.rd c R H n)) a w

section
variable {P : Program} {Γ : Glo} {ι ι' : Emb} {H H' : Heap} {w w' w0 : World}
theorem Defs.nil : Defs w0 ι H w [] := ⟨fun d hd => by simp at hd, List.Pairwise.nil⟩
theorem Defs.step {ds : List Deferred} (h : Defs w0 ι H w ds) (s : Step P ι H w ι' H' w') : Defs w0 ι' H' w' ds := by
  refine ⟨fun d hd => ?_, h.apart⟩
  obtain ⟨b, ht, h0, hh, hn⟩ := h.all d hd
  have hb : b < w.heap.size := (Array.getElem?_eq_some_iff.1 hh).1
  refine ⟨b, ht, h0, (s.kept b hb hn).trans hh, fun p q hl hp => ?_⟩
  obtain ⟨q', s', hq, hq'⟩ := s.back p b q hl hp hb
  exact hn q' s' hq hq'
theorem EnvR.step {U : Nat} {R : Regs} {tmps : Array Value} (h : EnvR ι U R tmps) (s : Step P ι H w ι' H' w') : EnvR ι' U R tmps := h.mono s.ext
end

/- arguments that become slots -/
theorem setOver_nil (R : Regs) (l : List V) : setOver R [] l = (match l with | [] => some R | _ :: _ => none) := rfl
theorem setOver_cons (R : Regs) (p : Pth) (ps : List Pth) (l : List V) : setOver R (p :: ps) l = (match l with
      | [] => none
      | v :: t => (match setOver R ps t with | some R' => some (Tr.set p v R') | none => none)) := rfl
theorem setOver_length : ∀ {ps : List Pth} {vs : List V} {R R1 : Regs}, setOver R ps vs = some R1 → vs.length = ps.length
  | [], vs, R, R1, h => by
    rw [setOver_nil] at h
    cases vs with
    | nil => rfl
    | cons => cases h
  | p :: ps, vs, R, R1, h => by
    rw [setOver_cons] at h
    cases vs with
    | nil => cases h
    | cons v t =>
      cases hs : setOver R ps t with
      | none => simp [hs] at h
      | some R' => simp [setOver_length hs]
theorem setOver_rel {ι : Emb} {val : Nat → Value} {q : Pth} : ∀ {ps : List Nat} {vs : List V} {xs : List Value} {R R1 : Regs}, setOver R (ps.map toPth) vs = some R1 → V.rels ι vs xs →
    (∀ (i t : Nat) (x : Value), ps[i]? = some t → xs[i]? = some x → val t = x) → (∀ v, R.get q = some v → (∀ t ∈ ps, toPth t ≠ q) → V.rel ι v (val q.num)) →
    ∀ v, R1.get q = some v → V.rel ι v (val q.num) ∧ ((∃ t ∈ ps, toPth t = q) ∨ R.get q = some v)
  | [], vs, xs, R, R1, h, hr, hv, h0, v, hq => by
    rw [List.map_nil, setOver_nil] at h
    cases vs with
    | cons => cases h
    | nil =>
      simp at h; subst h
      exact ⟨h0 v hq (fun t ht => by simp at ht), .inr hq⟩
  | t :: ps, vs, xs, R, R1, h, hr, hv, h0, v, hq => by
    rw [List.map_cons, setOver_cons] at h
    cases vs with
    | nil => cases h
    | cons u us =>
      obtain ⟨x, ys, rfl, hx, hys⟩ := rels_cons_inv hr
      cases hs : setOver R (ps.map toPth) us with
      | none => simp [hs] at h
      | some R' =>
        simp only [hs, Option.some.injEq] at h
        subst h
        rw [Tr.get_set] at hq
        by_cases e : toPth t = q
        · rw [if_pos e] at hq
          cases hq
          have h1 := hv 0 t x rfl rfl
          refine ⟨?_, .inl ⟨t, List.mem_cons_self .., e⟩⟩
          rw [← e, num_toPth, h1]; exact hx
        · rw [if_neg e] at hq
          obtain ⟨h1, h2⟩ := setOver_rel hs hys (fun i t' x' hi hx' => hv (i + 1) t' x' (by simpa using hi) (by simpa using hx'))
            (fun v' hv' hn => h0 v' hv' fun t' ht' => by
              rcases List.mem_cons.1 ht' with rfl | ht'
              · exact e
              · exact hn t' ht') v hq
          refine ⟨h1, ?_⟩
          rcases h2 with ⟨t', ht', e'⟩ | h2
          · exact .inl ⟨t', List.mem_cons_of_mem _ ht', e'⟩
          · exact .inr h2
theorem hasNat_iff (t : Nat) : ∀ l : List Nat, hasNat t l = true ↔ t ∈ l
  | [] => by simp [hasNat]
  | x :: l => by
    have ih := hasNat_iff t l
    show (match Nat.beq x t with | true => true | false => hasNat t l) = true ↔ _
    cases h : Nat.beq x t with
    | true => have := beq_eq h; subst this; simp
    | false =>
      have hne : x ≠ t := fun e => by subst e; simp at h
      simp [ih, Ne.symm hne]
theorem nodupN_cons {t : Nat} {l : List Nat} (h : nodupN (t :: l) = true) : t ∉ l ∧ nodupN l = true := by
  have h' : (match hasNat t l with | true => false | false => nodupN l) = true := h
  cases ht : hasNat t l with
  | true => simp [ht] at h'
  | false =>
    simp only [ht] at h'
    exact ⟨fun hm => by rw [(hasNat_iff t l).2 hm] at ht; exact Bool.noConfusion ht, h'⟩
theorem belowAll_mem {N : Nat} : ∀ {l : List Nat}, belowAll N l = true → ∀ t ∈ l, t < N
  | [], _, t, ht => by simp at ht
  | x :: l, h, t, ht => by
    have h' : (Nat.blt x N && belowAll N l) = true := h
    rw [Bool.and_eq_true] at h'
    rcases List.mem_cons.1 ht with rfl | ht
    · exact blt_lt h'.1
    · exact belowAll_mem h'.2 t ht
theorem allBits_mem {U : Nat} : ∀ {l : List Nat}, allBits U l = true → ∀ t ∈ l, bit U t = true
  | [], _, t, ht => by simp at ht
  | x :: l, h, t, ht => by
    have h' : (bit U x && allBits U l) = true := h
    rw [Bool.and_eq_true] at h'
    rcases List.mem_cons.1 ht with rfl | ht
    · exact h'.1
    · exact allBits_mem h'.2 t ht
def putAll (l : List (Nat × Value)) (tmps : Array Value) : Array Value := l.foldl (fun tmps (x : Nat × Value) => tmps.setIfInBounds x.1 x.2) tmps
theorem putAll_size : ∀ (l : List (Nat × Value)) (tmps : Array Value), (putAll l tmps).size = tmps.size
  | [], _ => rfl
  | x :: l, tmps => by
    show (putAll l (tmps.setIfInBounds x.1 x.2)).size = _
    rw [putAll_size l]; simp
theorem getD_set (tmps : Array Value) (t j : Nat) (x : Value) (ht : t < tmps.size) : (tmps.setIfInBounds t x).getD j undef = if t = j then x else tmps.getD j undef := by
  simp only [Array.getD_eq_getD_getElem?, Array.getElem?_setIfInBounds]
  by_cases e : t = j
  · subst e; simp [ht]
  · simp [e]
theorem putAll_get : ∀ (ps : List Nat) (xs : List Value) (tmps : Array Value), nodupN ps = true → (∀ t ∈ ps, t < tmps.size) →
    (∀ (i t : Nat) (x : Value), ps[i]? = some t → xs[i]? = some x → (putAll (ps.zip xs) tmps).getD t undef = x) ∧ ∀ j, j ∉ ps → (putAll (ps.zip xs) tmps).getD j undef = tmps.getD j undef
  | [], xs, tmps, _, _ => ⟨fun i t x h => by simp at h, fun j _ => by simp [putAll]⟩
  | t :: ps, [], tmps, _, _ => ⟨fun i t x _ h => by simp at h, fun j _ => by simp [putAll]⟩
  | t :: ps, x :: xs, tmps, hn, hb => by
    obtain ⟨h1, h2⟩ := nodupN_cons hn
    obtain ⟨ih1, ih2⟩ := putAll_get ps xs (tmps.setIfInBounds t x) h2 (fun t' ht' => by simpa using hb t' (List.mem_cons_of_mem _ ht'))
    have ht := hb t (List.mem_cons_self ..)
    refine ⟨fun i t' x' hi hx => ?_, fun j hj => ?_⟩
    · cases i with
      | zero =>
        simp at hi hx; subst hi; subst hx
        show (putAll (ps.zip xs) (tmps.setIfInBounds t x)).getD t undef = x
        rw [ih2 t h1, getD_set _ _ _ _ ht, if_pos rfl]
      | succ i =>
        exact ih1 i t' x' (by simpa using hi) (by simpa using hx)
    · show (putAll (ps.zip xs) (tmps.setIfInBounds t x)).getD j undef = _
      simp at hj
      rw [ih2 j hj.2, getD_set _ _ _ _ ht, if_neg (Ne.symm hj.1)]
/-- the arguments of yield, laid over the record's slots -/
theorem setOver_env {ι : Emb} {U N : Nat} {R R1 : Regs} {tmps args : Array Value} {ps : Array Nat} {vs : List V} (hs : setOver R (ps.toList.map toPth) vs = some R1) (hr : V.rels ι vs args.toList)
    (he : EnvR ι U R tmps) (hN : N ≤ tmps.size) (hb : belowAll N ps.toList = true) (ha : allBits U ps.toList = true) (hn : nodupN ps.toList = true) :
    args.size = ps.size ∧ EnvR ι U R1 ((ps.zip args).foldl (fun tmps (t, a) => tmps.setIfInBounds t a) tmps) ∧ N ≤ ((ps.zip args).foldl (fun tmps (t, a) => tmps.setIfInBounds t a) tmps).size := by
  have hfold : ((ps.zip args).foldl (fun tmps (x : Nat × Value) => tmps.setIfInBounds x.1 x.2) tmps) = putAll (ps.toList.zip args.toList) tmps := by
    rw [← Array.foldl_toList, Array.toList_zip]; rfl
  have hl := setOver_length hs
  have hrl := rels_length hr
  simp only [Array.length_toList, List.length_map] at hl hrl
  obtain ⟨g1, g2⟩ := putAll_get ps.toList args.toList tmps hn (fun t ht => Nat.lt_of_lt_of_le (belowAll_mem hb t ht) hN)
  refine ⟨by omega, ?_, ?_⟩
  · show EnvR ι U R1 ((ps.zip args).foldl (fun tmps (x : Nat × Value) => tmps.setIfInBounds x.1 x.2) tmps)
    rw [hfold]
    intro q v hq
    obtain ⟨h1, h2⟩ := setOver_rel (val := fun j => (putAll (ps.toList.zip args.toList) tmps).getD j undef) (q := q) hs hr (fun i t x hi hx => g1 i t x hi hx)
      (fun v hv hne => by
        rw [g2 q.num (fun hm => hne q.num hm (Pth.num_inj (num_toPth _)))]
        exact (he q v hv).2) v hq
    refine ⟨?_, h1⟩
    rcases h2 with ⟨t, ht, e⟩ | h2
    · rw [← e, num_toPth]; exact allBits_mem ha t ht
    · exact (he q v h2).1
  · show N ≤ ((ps.zip args).foldl (fun tmps (x : Nat × Value) => tmps.setIfInBounds x.1 x.2) tmps).size
    rw [hfold, putAll_size]; exact hN
end
end Go.Ev
namespace Go.Ev
noncomputable section
open Go

section
variable {P : Program} {Γ : Glo} {ι : Emb} {H H' : Heap} {w w' : World} {ρ : Operand → Value} {L : List V} {R : Regs} {r : Operand → Src} {cal : Cal} {n n' : Pth} {v : V} {o : Oper}

theorem run_callFunc {f : Nat} {xs : Array Value} (h : Callable P f) : (callFunc f xs).run P w = .ok (.enter f xs) w := by
  obtain ⟨fn, hf, hb, hn⟩ := h
  unfold callFunc
  have hp : (program).run P w = .ok P w := rfl
  rw [run_ok_bind hp]
  simp only [hf, hn, Bool.false_eq_true, if_false]
  cases hbd : fn.body with
  | none => simp [hbd] at hb
  | some c => simp []
theorem OpOK.enter {f : Nat} {xs : Array Value} {w' : World} {R : Value → World → Prop} (h : (execOp ρ o).run P w = .ok (.enter f xs) w') (hR : Calls P f xs w' (fun e w'' => ∃ x, e = .returned x ∧ R x w'')) : OpOK P ρ o w R := by
  unfold OpOK; rw [h]; exact hR
theorem exec_call {cl : Call} {q : Operand} {g : Nat} {a b : Array Value} (ho : o.op = .call cl) (hcl : cl.callee = .value q) (hq : ρ q = .func (.func g) a b) (hc : Callable P g) :
    (execOp ρ o).run P w = .ok (.enter g (a ++ cl.args.map ρ ++ b)) w := by
  unfold execOp
  rw [ho]
  simp only []
  unfold resolve
  rw [hcl]
  simp only [hq, Deferred.ofValue]
  rw [run_ok_bind (run_ofPure _)]
  simp only [invoke]
  exact run_callFunc hc
theorem exec_yield {cl : Call} {q : Operand} {l : Nat} (ho : o.op = .call cl) (hcl : cl.callee = .value q) (hq : ρ q = .func (.yield l) #[] #[]) :
    (execOp ρ o).run P w = (Instr.yield l (cl.args.map ρ)).run P w := by
  unfold execOp
  rw [ho]
  simp only []
  unfold resolve
  rw [hcl]
  simp only [hq, Deferred.ofValue]
  rw [run_ok_bind (run_ofPure _)]
  simp only [invoke, Array.empty_append]

theorem ok_call (k : CalOK P Γ cal) (c : Cxt P Γ ι H w ρ L R r) {cl : Call} {f : Nat} (ho : o.op = .call cl) (hcl : cl.callee = .value (.func f))
    (he : evI (.call f (cl.args.toList.map r)) cal Γ L R H n = .ok v H' n') (hfr : Fr ι H H') : OpOK P ρ o w (Post P ι H w H' v) := by
  have he' : cal.fn f (srcs L R (cl.args.toList.map r)) H n = .ok v H' n' := he
  obtain ⟨_, hcal, hk⟩ := k.fn _ _ _ _ _ _ _ he'
  refine OpOK.enter (exec_call ho hcl (c.hf f) hcal) (hk ι w _ c.hok c.gok hfr ?_)
  have := srcs_rels c.hs cl.args.toList
  simpa using this

theorem RoundIn.inRound {F : Fence} {m : Nat} {l : Nat} {f : FuncId} {tmps : Array Value} {as bd : Code} {Q : Ending → World → Prop} (l' : Nat) (h : RoundIn F m P l f tmps as bd w Q) :
    RoundIn (F.inRound l') m P l f tmps as bd w Q := h
theorem OpOK.round {l f : Nat} {tmps : Array Value} {as bd : Code} {w' : World} {R : Value → World → Prop} (h : (execOp ρ o).run P w = .ok (.round l f tmps as bd) w')
    (hR : ∀ m, RoundIn Fence.wide m P l f tmps as bd w' (fun e w'' => ∃ x, e = .returned x ∧ R x w'')) : OpOK P ρ o w R := by
  unfold OpOK; rw [h]; exact hR

/-- a named record of a loop over a function -/
theorem loop_of (h : HOK P ι H w) {p : Pth} {l : Nat} {busy done : Bool} {pend : Option (Option Nat)} {R : Regs} {ps : List Pth} {a b : IR} (hp : H.get p = some (.loop busy pend done R ps a b)) (hι : ι p = some (l, 0)) :
    ∃ lp U N, w.heap[l]? = some (.loop lp) ∧ lp.state = stateOf busy done ∧ pendR pend lp.pending ∧
      lp.params.toList.map toPth = ps ∧ a = codeIR P U N lp.assign true ∧ b = codeIR P U N lp.body true ∧ EnvR ι U R lp.tmps ∧ N ≤ lp.tmps.size ∧
      belowAll N lp.params.toList = true ∧ allBits U lp.params.toList = true ∧ nodupN lp.params.toList = true := by
  obtain ⟨l', lp, U, N, hι', rest⟩ := h.obj p _ hp
  rw [hι] at hι'; cases hι'
  exact ⟨lp, U, N, rest⟩
/-- the record is written to -/
theorem Step.loop (h : HOK P ι H w) {p : Pth} {l : Nat} {busy done busy' done' : Bool} {pend pend' : Option (Option Nat)} {R : Regs} {ps : List Pth} {a b : IR} (hp : H.get p = some (.loop busy pend done R ps a b))
    (hι : ι p = some (l, 0)) {lp : Loop} (hl : w.heap[l]? = some (.loop lp)) {st : LoopState} {pe : Option Code} (hs : st = stateOf busy' done') (hpe : pendR pend' pe) :
    Step P ι H w ι (H.set p (.loop busy' pend' done' R ps a b)) (w.putObj l (.loop { lp with state := st, pending := pe })) := by
  obtain ⟨lp', U, N, hl', _, _, rest⟩ := loop_of h hp hι
  rw [hl] at hl'; cases hl'
  have hsz : l < w.heap.size := (Array.getElem?_eq_some_iff.1 hl).1
  refine Step.write h hp (by simp) hι ⟨by simp, fun b' hb' => World.putObj_heap_other hb', rfl, rfl, rfl⟩ ?_
  exact ⟨l, { lp with state := st, pending := pe }, U, N, hι, World.putObj_heap_same hsz, hs, hpe, rest⟩

theorem round_ok (k : CalOK P Γ cal) (hok : HOK P ι H w) (gok : GOK Γ ι H w) {p : Pth} {l : Nat} {args : List V} {xs : Array Value} (hι : ι p = some (l, 0)) (hr : V.rels ι args xs.toList)
    (he : evYield cal p args H n = .ok v H' n') (hfr : Fr ι H H') :
    ∃ f tmps as bd, (Instr.yield l xs).run P w = .ok (.round l f tmps as bd) w ∧ ∀ m, RoundIn Fence.wide m P l f tmps as bd w (fun e w'' => ∃ x, e = .returned x ∧ Post P ι H w H' v x w'') := by
  unfold evYield at he
  split at he <;> try (cases he; done)
  rename_i pe0 R0 ps a b hg
  obtain ⟨lp, U, N, hl, hst, hpe, hps, ha, hb, henv, hN, hbel, hbits, hnod⟩ := loop_of hok hg hι
  subst hps
  split at he <;> try (cases he; done)
  rename_i R1 hso
  obtain ⟨hsz, henv1, hN1⟩ := setOver_env hso hr henv hN hbel hbits hnod
  refine ⟨lp.fn, _, lp.assign, lp.body, run_yield hl hsz, fun m => roundIn_of_wpIn trivial ?_⟩
  split at he <;> try (cases he; done)
  rename_i R2 H2 n2 hrd
  obtain ⟨hmo, hrun⟩ := k.rd a R1 H n
  rw [hrd] at hmo hrun
  have m02 : Mono H H2 := hmo
  split at he <;> try (cases he; done)
  rename_i pd2 R2' ps2 a2 b2 hg2
  -- the rest, whatever the body does
  have rest : ∀ (H3 : Heap), Mono (H2.set p (.loop true pd2 false R2' ps2 a2 b2)) H3 → Mono H3 H' → Fr ι H H2 ∧ ∀ ι2 w1, Step P ι H w ι2 H2 w1 → Fr ι2 (H2.set p (.loop true pd2 false R2' ps2 a2 b2)) H3 := by
    intro H3 m1 m2
    have f3 : Fr ι H H3 := Fr.split hfr m2
    have f2 : Fr ι H (H2.set p (.loop true pd2 false R2' ps2 a2 b2)) := Fr.split f3 m1
    have f1 : Fr ι H H2 := Fr.split f2 (Mono.set _ _ _)
    refine ⟨f1, fun ι2 w1 s q hq hq3 => Fr.after f3 s m02 q ?_ hq3⟩
    rw [Tr.get_set] at hq
    by_cases e : p = q
    · simp [e] at hq
    · rw [if_neg e] at hq; exact hq
  obtain ⟨hmo3, hrun3⟩ := k.rd b R2 (H2.set p (.loop true pd2 false R2' ps2 a2 b2)) n2
  -- from the assignment's end on
  have main : Fr ι H H2 → (∀ ι2 w1, Step P ι H w ι2 H2 w1 → Out.fr ι2 (H2.set p (.loop true pd2 false R2' ps2 a2 b2)) (cal.rd b R2 (H2.set p (.loop true pd2 false R2' ps2 a2 b2)) n2)) →
      cal.rd b R2 (H2.set p (.loop true pd2 false R2' ps2 a2 b2)) n2 ≠ .bad →
      (∀ ι2 w1 w2 e act w3, Step P ι H w ι2 H2 w1 → Step P ι2 H2 w1 ι2 (H2.set p (.loop true pd2 false R2' ps2 a2 b2)) w2 → ι2 p = some (l, 0) →
        CodePost P ι2 U N (H2.set p (.loop true pd2 false R2' ps2 a2 b2)) w w2 (cal.rd b R2 (H2.set p (.loop true pd2 false R2' ps2 a2 b2)) n2) e act w3 →
        roundPost P l (fun e w'' => ∃ x, e = .returned x ∧ Post P ι H w H' v x w'') e act w3) →
      lp.assign.wpIn (Fence.wide.inRound l) m P (Exit.then (fun a₁ w₁ => ∃ w₂, (Instr.beginRound l).run P w₁ = .ok () w₂ ∧
        lp.body.wpIn (Fence.wide.inRound l) m P (roundPost P l (fun e w'' => ∃ x, e = .returned x ∧ Post P ι H w H' v x w'')) a₁ w₂) (fun _ _ _ => False))
        { tmps := (lp.params.zip xs).foldl (fun tmps (t, a) => tmps.setIfInBounds t a) lp.tmps, defers := [] } w := by
    intro f1 f2 hnb fin
    refine wpIn_mono (hrun lp.assign U N ha (by simp) ι w w _ l m hok gok f1 henv1 hN1 Defs.nil) ?_
    intro e act w1 hpost
    obtain ⟨rfl, ι2, henv2, hN2, hs1, hdefs⟩ := hpost
    have hι2 : ι2 p = some (l, 0) := hs1.ext.name _ _ hι
    obtain ⟨lp2, U2, N2, hl2, hst2, hpe2, _⟩ := loop_of hs1.hok hg2 hι2
    have s2 := Step.loop (busy' := true) (done' := false) (pend' := pd2) (st := .busy) (pe := lp2.pending) hs1.hok hg2 hι2 hl2 rfl hpe2
    refine ⟨w1.putObj l (.loop { lp2 with state := .busy }), run_beginRound hl2 (by rw [hst2]; rfl), ?_⟩
    have gok2 := (gok.step hs1).step s2
    refine wpIn_mono (hrun3 lp.body U N hb hnb ι2 _ w act l m s2.hok gok2 (f2 ι2 w1 hs1) (henv2.step s2) hN2 (hdefs.step s2)) ?_
    intro e3 act3 w3 hpost3
    exact fin ι2 w1 _ e3 act3 w3 hs1 s2 hι2 hpost3
  -- the end of the round
  have close : ∀ (jump : Option Code) (R3 : Regs) (H3 : Heap) (pend' : Option (Option Nat)) (done' : Bool) (R' : Regs) (ps' : List Pth) (a' b' : IR) (pe3 : Option (Option Nat)),
      Mono (H2.set p (.loop true pd2 false R2' ps2 a2 b2)) H3 → H3.get p = some (.loop true pe3 false R' ps' a' b') → H' = H3.set p (.loop false pend' done' R' ps' a' b') → pendR pend' jump →
      (if jump.isNone then LoopState.ready else LoopState.done) = stateOf false done' → v = .bool jump.isNone →
      ∀ ι2 w1 w2 act w3, Step P ι H w ι2 H2 w1 → Step P ι2 H2 w1 ι2 (H2.set p (.loop true pd2 false R2' ps2 a2 b2)) w2 → ι2 p = some (l, 0) →
        Left P ι2 U N (H2.set p (.loop true pd2 false R2' ps2 a2 b2)) w w2 R3 H3 act w3 →
        ∃ x w', (Instr.endRound l jump).run P w3 = .ok x w' ∧ ∃ x', Ending.returned x = .returned x' ∧ Post P ι H w H' v x' w' := by
    intro jump R3 H3 pend' done' R' ps' a' b' pe3 m3 hg3 hH' hj hst' hv ι2 w1 w2 act w3 s1 s2 hι2 hleft
    obtain ⟨ι3, _, _, s3, _⟩ := hleft
    have hι3 : ι3 p = some (l, 0) := s3.ext.name _ _ hι2
    obtain ⟨lp3, U3, N3, hl3, _⟩ := loop_of s3.hok hg3 hι3
    have s4 := Step.loop (busy' := false) (done' := done') (pend' := pend') (st := if jump.isNone then .ready else .done) (pe := jump) s3.hok hg3 hι3 hl3 hst' hj
    refine ⟨_, _, run_endRound jump hl3, _, rfl, ι3, by rw [hv]; simp [V.rel], ?_⟩
    rw [hH']
    exact ((s1.trans s2 m02 (Mono.set _ _ _)).trans s3 (m02.trans (Mono.set _ _ _)) m3).trans s4 ((m02.trans (Mono.set _ _ _)).trans m3) (Mono.set _ _ _)
  split at he <;> try (cases he; done)
  · rename_i R3 H3 n3 hrd3
    rw [hrd3] at hmo3 main
    have m23 : Mono (H2.set p (.loop true pd2 false R2' ps2 a2 b2)) H3 := hmo3
    split at he <;> try (cases he; done)
    rename_i pe3 R' ps' a' b' hg3
    simp at he
    obtain ⟨rfl, rfl, rfl⟩ := he
    obtain ⟨f1, f2⟩ := rest H3 m23 (Mono.set _ _ _)
    refine main f1 f2 (by simp) fun ι2 w1 w2 e act w3 s1 s2 hι2 hp => ?_
    obtain ⟨rfl, hleft⟩ := hp
    exact close none R3 H3 none false R' ps' a' b' pe3 m23 hg3 rfl rfl rfl rfl ι2 w1 w2 act w3 s1 s2 hι2 hleft
  · rename_i id R3 H3 n3 hrd3
    rw [hrd3] at hmo3 main
    have m23 : Mono (H2.set p (.loop true pd2 false R2' ps2 a2 b2)) H3 := hmo3
    split at he <;> try (cases he; done)
    rename_i pe3 R' ps' a' b' hg3
    simp at he
    obtain ⟨rfl, rfl, rfl⟩ := he
    obtain ⟨f1, f2⟩ := rest H3 m23 (Mono.set _ _ _)
    refine main f1 f2 (by simp) fun ι2 w1 w2 e act w3 s1 s2 hι2 hp => ?_
    obtain ⟨rfl, hleft⟩ := hp
    exact close (some (.exit id)) R3 H3 (some (some id)) true R' ps' a' b' pe3 m23 hg3 rfl rfl rfl rfl ι2 w1 w2 act w3 s1 s2 hι2 hleft
  · rename_i R3 H3 n3 hrd3
    rw [hrd3] at hmo3 main
    have m23 : Mono (H2.set p (.loop true pd2 false R2' ps2 a2 b2)) H3 := hmo3
    split at he <;> try (cases he; done)
    rename_i pe3 R' ps' a' b' hg3
    simp at he
    obtain ⟨rfl, rfl, rfl⟩ := he
    obtain ⟨f1, f2⟩ := rest H3 m23 (Mono.set _ _ _)
    refine main f1 f2 (by simp) fun ι2 w1 w2 e act w3 s1 s2 hι2 hp => ?_
    obtain ⟨rfl, hleft⟩ := hp
    exact close (some .ret) R3 H3 (some none) true R' ps' a' b' pe3 m23 hg3 rfl rfl rfl rfl ι2 w1 w2 act w3 s1 s2 hι2 hleft
end
end
end Go.Ev
/-
  A verified evaluator, part 22: every operation; the memory's names only grow.
-/
namespace Go.Ev
noncomputable section
open Go

section
variable {P : Program} {Γ : Glo} {ι : Emb} {H H' : Heap} {w w' : World} {ρ : Operand → Value} {L : List V} {R : Regs} {r : Operand → Src} {cal : Cal} {n n' : Pth} {v : V} {o : Oper}

theorem ret_mono {u : Option V} (h : ret? u H n = .ok v H' n') : Mono H H' := by
  obtain ⟨_, rfl, _⟩ := ret_some h; exact Mono.refl _
theorem fresh_mono {ob : O} {u : V} (h : fresh H n ob u = .ok v H' n') : Mono H H' := by
  unfold fresh at h
  split at h
  · cases h; exact Mono.set _ _ _
  · cases h
theorem putAt_mono {a : V} {vs : List V} (h : putAt H a vs = some H') : Mono H H' := by
  unfold putAt at h
  split at h <;> try (cases h; done)
  split at h <;> try (cases h; done)
  split at h <;> try (cases h; done)
  cases h; exact Mono.set _ _ _
theorem grown_mono {size bytes need : Nat} {l : List V} (h : grown H n size bytes need l = .ok v H' n') : Mono H H' := by
  unfold grown at h
  split at h
  · exact fresh_mono h
  · cases h
theorem stepOf_mono {q p : Pth} {since : Nat} {seen : List Nat} {c : Nat} {left : List (V × V × Nat)} (h : stepOf H n q p since seen c left = .ok v H' n') : Mono H H' := by
  unfold stepOf at h
  split at h
  · cases h; exact Mono.refl _
  · split at h
    · cases h; exact Mono.set _ _ _
    · cases h
  · cases h
theorem evYield_mono (k : CalOK P Γ cal) {p : Pth} {args : List V} (h : evYield cal p args H n = .ok v H' n') : Mono H H' := by
  unfold evYield at h
  split at h <;> try (cases h; done)
  rename_i pe0 R0 ps a b hg
  split at h <;> try (cases h; done)
  rename_i R1 hso
  split at h <;> try (cases h; done)
  rename_i R2 H2 n2 hrd
  have m1 := (k.rd a R1 H n).1
  rw [hrd] at m1
  have m1' : Mono H H2 := m1
  split at h <;> try (cases h; done)
  rename_i pd2 R2' ps2 a2 b2 hg2
  have m2 := (k.rd b R2 (H2.set p (.loop true pd2 false R2' ps2 a2 b2)) n2).1
  have m12 : Mono H (H2.set p (.loop true pd2 false R2' ps2 a2 b2)) := m1'.trans (Mono.set _ _ _)
  split at h <;> try (cases h; done)
  all_goals
    rename_i hrd3
    rw [hrd3] at m2
    split at h <;> try (cases h; done)
    cases h
    exact (m12.trans m2).trans (Mono.set _ _ _)
theorem evI_mono (k : CalOK P Γ cal) (i : I) (h : evI i cal Γ L R H n = .ok v H' n') : Mono H H' := by
  cases i with
  | bad => cases h
  | mov s => cases h; exact Mono.refl _
  | pick c a b =>
    have h' : evPick c a b cal Γ L R H n = .ok v H' n' := h
    unfold evPick at h'
    repeat' split at h'
    all_goals first | (cases h'; exact Mono.refl _) | cases h'
  | new f =>
    have h' : evNew f cal Γ L R H n = .ok v H' n' := h
    unfold evNew at h'
    split at h'
    · exact fresh_mono h'
    · cases h'
  | build z p =>
    have h' : evBuild z p cal Γ L R H n = .ok v H' n' := h
    unfold evBuild at h'
    split at h'
    · cases h'; exact Mono.refl _
    · cases h'
  | load s => exact ret_mono h
  | loadn s m =>
    have h' : evLoadn s m cal Γ L R H n = .ok v H' n' := h
    unfold evLoadn at h'
    split at h'
    · cases h'; exact Mono.refl _
    · cases h'
  | store a x m =>
    have h' : evStore a x m cal Γ L R H n = .ok v H' n' := h
    unfold evStore at h'
    split at h' <;> try (cases h'; done)
    split at h' <;> try (cases h'; done)
    split at h' <;> try (cases h'; done)
    rename_i hp
    cases h'
    exact putAt_mono hp
  | nilchk mt s =>
    have h' : evNilchk mt s cal Γ L R H n = .ok v H' n' := h
    unfold evNilchk at h'
    split at h'
    · cases h'; exact Mono.refl _
    · cases h'
  | bin op x y => exact ret_mono h
  | eq b e x y =>
    have h' : evEq b e x y cal Γ L R H n = .ok v H' n' := h
    unfold evEq at h'
    split at h'
    · cases h'; exact Mono.refl _
    · cases h'
  | un op x => exact ret_mono h
  | conv c x =>
    have h' : evConv c x cal Γ L R H n = .ok v H' n' := h
    unfold evConv at h'
    repeat' split at h'
    all_goals first | (cases h'; exact Mono.refl _) | (cases h'; exact Mono.set _ _ _) | cases h'
  | mkfn f a b => cases h; exact Mono.refl _
  | slice s x l hh m =>
    have h' : evSlice s x l hh m cal Γ L R H n = .ok v H' n' := h
    unfold evSlice at h'
    repeat' split at h'
    all_goals first | exact ret_mono h' | (cases h'; exact Mono.refl _) | cases h'
  | faddr x off => exact ret_mono h
  | xaddr s x j =>
    have h' : evXaddr s x j cal Γ L R H n = .ok v H' n' := h
    unfold evXaddr at h'
    repeat' split at h'
    all_goals first | exact ret_mono h' | (cases h'; exact Mono.refl _) | cases h'
  | idxs x j =>
    have h' : evIdxs x j cal Γ L R H n = .ok v H' n' := h
    unfold evIdxs at h'
    repeat' split at h'
    all_goals first | (cases h'; exact Mono.refl _) | cases h'
  | idxa m s a x j =>
    have h' : evIdxa m s a x j cal Γ L R H n = .ok v H' n' := h
    unfold evIdxa at h'
    repeat' split at h'
    all_goals first | exact ret_mono h' | cases h'
  | field x off s a =>
    have h' : evField x off s a cal Γ L R H n = .ok v H' n' := h
    unfold evField at h'
    repeat' split at h'
    all_goals first | exact ret_mono h' | cases h'
  | lookup e z m q ok =>
    have h' : evLookup e z m q ok cal Γ L R H n = .ok v H' n' := h
    unfold evLookup at h'
    repeat' split at h'
    all_goals first | (cases h'; exact Mono.refl _) | cases h'
  | mapupd e m q x =>
    have h' : evMapupd e m q x cal Γ L R H n = .ok v H' n' := h
    unfold evMapupd at h'
    repeat' split at h'
    all_goals first | (cases h'; exact Mono.set _ _ _) | cases h'
  | range m =>
    have h' : evRange m cal Γ L R H n = .ok v H' n' := h
    unfold evRange at h'
    repeat' split at h'
    all_goals first | exact fresh_mono h' | cases h'
  | next it =>
    have h' : evNext it cal Γ L R H n = .ok v H' n' := h
    unfold evNext at h'
    repeat' split at h'
    all_goals first | exact stepOf_mono h' | (cases h'; exact Mono.refl _) | cases h'
  | entry it =>
    have h' : evEntry it cal Γ L R H n = .ok v H' n' := h
    unfold evEntry at h'
    repeat' split at h'
    all_goals first | (cases h'; exact Mono.refl _) | cases h'
  | extract s j =>
    have h' : evExtract s j cal Γ L R H n = .ok v H' n' := h
    unfold evExtract at h'
    repeat' split at h'
    all_goals first | exact ret_mono h' | cases h'
  | call f a => exact (k.fn _ _ _ _ _ _ _ h).1
  | callv mt f a =>
    have h' : evCallv mt f a cal Γ L R H n = .ok v H' n' := h
    unfold evCallv at h'
    split at h'
    · exact (k.fn _ _ _ _ _ _ _ h').1
    · exact evYield_mono k h'
    · split at h'
      · exact (k.fn _ _ _ _ _ _ _ h').1
      · cases h'
    · cases h'
  | mkif t x => cases h; exact Mono.refl _
  | mkmeth m x =>
    have h' : evMkmeth m x cal Γ L R H n = .ok v H' n' := h
    unfold evMkmeth at h'
    split at h'
    · cases h'; exact Mono.refl _
    · cases h'
  | invoke mt q a =>
    have h' : evInvoke mt q a cal Γ L R H n = .ok v H' n' := h
    unfold evInvoke at h'
    split at h'
    · split at h'
      · exact (k.fn _ _ _ _ _ _ _ h').1
      · cases h'
    · cases h'
  | appendz zs s b x y =>
    have h' : evAppendz zs s b x y cal Γ L R H n = .ok v H' n' := h
    unfold evAppendz at h'
    repeat' split at h'
    all_goals first | exact grown_mono h' | (cases h'; exact Mono.refl _) | cases h'
  | append s b x y =>
    have h' : evAppend s b x y cal Γ L R H n = .ok v H' n' := h
    unfold evAppend at h'
    repeat' split at h'
    all_goals first | exact grown_mono h' | exact (Mono.set _ _ _).trans (grown_mono h') | (cases h'; exact Mono.refl _) | (cases h'; exact (Mono.set _ _ _).trans (Mono.set _ _ _)) | (cases h'; exact putAt_mono ‹_›) | cases h'
  | len q x => exact ret_mono h
  | cap x =>
    have h' : evCap x cal Γ L R H n = .ok v H' n' := h
    unfold evCap at h'
    repeat' split at h'
    all_goals first | (cases h'; exact Mono.refl _) | cases h'
  | delete e m q =>
    have h' : evDelete e m q cal Γ L R H n = .ok v H' n' := h
    unfold evDelete at h'
    repeat' split at h'
    all_goals first | (cases h'; exact Mono.set _ _ _) | cases h'
  | clear z x =>
    have h' : evClear z x cal Γ L R H n = .ok v H' n' := h
    unfold evClear at h'
    repeat' split at h'
    all_goals first | (cases h'; exact Mono.refl _) | (cases h'; exact Mono.set _ _ _) | (cases h'; exact putAt_mono ‹_›) | cases h'
  | copy s d x =>
    have h' : evCopy s d x cal Γ L R H n = .ok v H' n' := h
    unfold evCopy at h'
    repeat' split at h'
    all_goals first | (cases h'; exact Mono.refl _) | (cases h'; exact putAt_mono ‹_›) | cases h'
  | minmax m l =>
    have h' : evMinmax m l cal Γ L R H n = .ok v H' n' := h
    unfold evMinmax at h'
    repeat' split at h'
    all_goals first | exact ret_mono h' | (cases h'; exact Mono.refl _) | cases h'

theorem arr_head (x : Value) (a : Array Value) : (#[x] ++ a)[0]? = some x := by
  rw [Array.getElem?_append_left (by simp)]; rfl
theorem arr_rest (x : Value) (a : Array Value) : (#[x] ++ a).extract 1 (#[x] ++ a).size = a := by
  apply Array.toList_inj.1
  simp [List.extract_eq_take_drop]
theorem exec_method {cl : Call} {g t : Nat} {m : String} {y : Value} {q : Operand} (ho : o.op = .call cl) (hcl : cl.callee = .value q) (hq : ρ q = .func (.method m) #[.iface t y] #[]) (hm : methAt P m t = some g) (hc : Callable P g) :
    (execOp ρ o).run P w = .ok (.enter g (#[y] ++ cl.args.map ρ)) w := by
  unfold execOp
  rw [ho]
  simp only []
  unfold resolve
  rw [hcl]
  simp only [hq, Deferred.ofValue]
  rw [run_ok_bind (run_ofPure _)]
  simp only [invoke]
  have hp : (program).run P w = .ok P w := rfl
  have e1 : (#[Value.iface t y] ++ cl.args.map ρ)[0]? = some (.iface t y) := arr_head _ _
  have e2 : (#[Value.iface t y] ++ cl.args.map ρ).extract 1 (#[Value.iface t y] ++ cl.args.map ρ).size = cl.args.map ρ := arr_rest _ _
  rw [e1, e2]
  unfold callMethod
  obtain ⟨dk, hdk⟩ : ∃ k, P.types.size + Made.depth = k + 1 := ⟨P.types.size + (Made.depth - 1), by unfold Made.depth; omega⟩
  rw [run_ok_bind hp, hdk, run_ok_bind (run_method hm _)]
  exact run_callFunc hc
theorem exec_invoke {cl : Call} {g t : Nat} {m : String} {y : Value} {q : Operand} (ho : o.op = .call cl) (hcl : cl.callee = .invoke q m) (hq : ρ q = .iface t y) (hm : methAt P m t = some g) (hc : Callable P g) :
    (execOp ρ o).run P w = .ok (.enter g (#[y] ++ cl.args.map ρ)) w := by
  unfold execOp
  rw [ho]
  simp only []
  unfold resolve
  rw [hcl]
  simp only [hq]
  rw [run_ok_bind (run_ofPure _)]
  simp only [invoke]
  have hp : (program).run P w = .ok P w := rfl
  have e1 : (#[Value.iface t y] ++ cl.args.map ρ)[0]? = some (.iface t y) := arr_head _ _
  have e2 : (#[Value.iface t y] ++ cl.args.map ρ).extract 1 (#[Value.iface t y] ++ cl.args.map ρ).size = cl.args.map ρ := arr_rest _ _
  rw [e1, e2]
  unfold callMethod
  obtain ⟨dk, hdk⟩ : ∃ k, P.types.size + Made.depth = k + 1 := ⟨P.types.size + (Made.depth - 1), by unfold Made.depth; omega⟩
  rw [run_ok_bind hp, hdk, run_ok_bind (run_method hm _)]
  exact run_callFunc hc
theorem ok_invoke (k : CalOK P Γ cal) (c : Cxt P Γ ι H w ρ L R r) {cl : Call} {q : Operand} {m : String} (ho : o.op = .call cl) (hcl : cl.callee = .invoke q m)
    (he : evI (.invoke (methAt P m) (r q) (cl.args.toList.map r)) cal Γ L R H n = .ok v H' n') (hfr : Fr ι H H') : OpOK P ρ o w (Post P ι H w H' v) := by
  have he' : evInvoke (methAt P m) (r q) (cl.args.toList.map r) cal Γ L R H n = .ok v H' n' := he
  unfold evInvoke at he'
  have hq := c.hs q
  have hargs : V.rels ι (srcs L R (cl.args.toList.map r)) (cl.args.map ρ).toList := by
    have := srcs_rels c.hs cl.args.toList
    simpa using this
  split at he' <;> try (cases he'; done)
  rename_i t u hsq
  rw [hsq] at hq
  simp only [V.rel] at hq
  obtain ⟨y, hqe, hy⟩ := hq
  split at he' <;> try (cases he'; done)
  rename_i g hm
  obtain ⟨_, hcal, hk⟩ := k.fn _ _ _ _ _ _ _ he'
  refine OpOK.enter (exec_invoke ho hcl hqe hm hcal) (hk ι w _ c.hok c.gok hfr ?_)
  rw [Array.toList_append]
  exact rels_cons hy hargs
theorem ok_callv (k : CalOK P Γ cal) (c : Cxt P Γ ι H w ρ L R r) {cl : Call} {q : Operand} (ho : o.op = .call cl) (hcl : cl.callee = .value q)
    (he : evI (.callv (methAt P) (r q) (cl.args.toList.map r)) cal Γ L R H n = .ok v H' n') (hfr : Fr ι H H') : OpOK P ρ o w (Post P ι H w H' v) := by
  have he' : evCallv (methAt P) (r q) (cl.args.toList.map r) cal Γ L R H n = .ok v H' n' := he
  unfold evCallv at he'
  have hq := c.hs q
  have hargs : V.rels ι (srcs L R (cl.args.toList.map r)) (cl.args.map ρ).toList := by
    have := srcs_rels c.hs cl.args.toList
    simpa using this
  split at he' <;> try (cases he'; done)
  · rename_i g a b hsq
    rw [hsq] at hq
    simp only [V.rel] at hq
    obtain ⟨a', b', hqe, ha, hb⟩ := hq
    obtain ⟨_, hcal, hk⟩ := k.fn _ _ _ _ _ _ _ he'
    refine OpOK.enter (exec_call ho hcl hqe hcal) (hk ι w _ c.hok c.gok hfr ?_)
    rw [app_eq, app_eq, Array.toList_append, Array.toList_append, List.append_assoc]
    exact rels_append ha (rels_append hargs hb)
  · rename_i p hsq
    rw [hsq] at hq
    simp only [V.rel] at hq
    obtain ⟨l, hι, hqe⟩ := hq
    obtain ⟨f, tmps, as, bd, hy, hR⟩ := round_ok k c.hok c.gok hι hargs he' hfr
    exact OpOK.round ((exec_yield ho hcl hqe).trans hy) hR
  · rename_i m t u hsq
    rw [hsq] at hq
    simp only [V.rel] at hq
    obtain ⟨y, hqe, hy⟩ := hq
    split at he' <;> try (cases he'; done)
    rename_i g hm
    obtain ⟨_, hcal, hk⟩ := k.fn _ _ _ _ _ _ _ he'
    refine OpOK.enter (exec_method ho hcl hqe hm hcal) (hk ι w _ c.hok c.gok hfr ?_)
    rw [Array.toList_append]
    exact rels_cons hy hargs
theorem OpOK.fresh {ob : O} {u : V} (c : Cxt P Γ ι H w ρ L R r) (hnew : ι n = none → NewOK P ρ o w ι n u ob) (hf : fresh H n ob u = .ok v H' n') (hfr : Fr ι H H') : OpOK P ρ o w (Post P ι H w H' v) := by
  unfold Ev.fresh at hf
  split at hf <;> try (cases hf; done)
  rename_i hn
  cases hf
  have hι : ι n = none := hfr n hn (by rw [Tr.get_set_same]; simp)
  obtain ⟨x, w', cb, T, hrun, hh, ht, hs, hout, hv, hob, hd⟩ := hnew hι
  exact OpOK.value hrun ⟨_, hv, Step.alloc cb c.hok hn hι hd hh ht hs hout hob⟩

/-- every operation -/
theorem op_ok (k : CalOK P Γ cal) (c : Cxt P Γ ι H w ρ L R r) (he : evI (opI P r o.op) cal Γ L R H n = .ok v H' n') (hfr : Fr ι H H') : OpOK P ρ o w (Post P ι H w H' v) := by
  by_cases hnew : ∃ f, opI P r o.op = .new f
  · obtain ⟨f, hf⟩ := hnew
    rw [hf] at he
    have he' : evNew f cal Γ L R H n = .ok v H' n' := he
    unfold evNew at he'
    split at he' <;> try (cases he'; done)
    rename_i u ob hev
    exact OpOK.fresh c (fun hι => newI_ok c.hs c.hc c.hok hf hev hι) he' hfr
  · cases ho : o.op <;> rw [ho] at he hnew
    case move x => exact ok_mov c (.inl ho) he
    case assign x => exact ok_mov c (.inr ho) he
    case pick a b d => exact ok_pick c ho he
    case build t ps => exact ok_build c ho he
    case load t a => exact ok_load c ho he
    case store t a x => exact ok_store c ho he
    case nilCheck x => exact ok_nilchk c ho he
    case binOp op t x y t' =>
      simp only [opI] at he
      cases hic : ifcEq P op t x y with
      | some neg => simp only [hic] at he; exact ok_ifcEq c ho hic he
      | none =>
      simp only [hic] at he
      unfold binI at he
      split at he <;> try (cases he; done)
      · exact ok_bin c ho he
      · exact ok_bin c ho he
      · split at he <;> try (cases he; done)
        rename_i e hk
        exact ok_eq (neg := false) c ho rfl hk he
      · split at he <;> try (cases he; done)
        rename_i e hk
        exact ok_eq (neg := true) c ho rfl hk he
    case unOp op t x => exact ok_un c ho he
    case convert s d x =>
      simp only [opI] at he
      cases hi : convI P s d (r x) with
      | conv ck y =>
        have hy : y = r x := by
          unfold convI at hi
          repeat' split at hi
          all_goals first | (cases hi; rfl) | cases hi
        subst hy
        rw [hi] at he
        exact ok_conv c ho hi he
      | new f => exact absurd ⟨f, by simp only [opI]; exact hi⟩ hnew
      | bad => rw [hi] at he; cases he
      | _ =>
        exfalso
        unfold convI at hi
        repeat' split at hi
        all_goals cases hi
    case makeFunc f a b =>
      cases f <;> try (cases he; done)
      · exact ok_mkfn c ho he
      · exact ok_mkmeth c ho he
    case makeInterface t x => exact ok_mkif c ho he
    case slice t x lo hi mx => exact ok_slice c ho he
    case fieldAddr t x f => exact ok_faddr c ho he
    case field t x f => exact ok_field c ho he
    case indexAddr t x i => exact ok_xaddr c ho he
    case index t x i => exact ok_index c ho he
    case lookup t m q ok => exact ok_lookup c ho he
    case mapUpdate t m q x => exact ok_mapupd c (.inl ho) he
    case insert t m q x => exact ok_mapupd c (.inr ho) he
    case range t x => exact ok_range c ho he hfr
    case next it b =>
      cases b <;> try (cases he; done)
      exact ok_next c ho he
    case entry it => exact ok_entry c ho he
    case extract x i => exact ok_extract c ho he
    case call cl =>
      simp only [opI] at he
      split at he <;> try (cases he; done)
      · rename_i b hcl; exact ok_builtin c ho hcl he hfr
      · rename_i f hcl; exact ok_call k c ho hcl he hfr
      · rename_i q hne hcl; exact ok_callv k c ho hcl he hfr
      · rename_i q m hcl; exact ok_invoke k c ho hcl he hfr
    all_goals (exfalso; first
      | (cases he; done)
      | (simp only [opI] at he hnew; (repeat' split at he) <;> first | (exact hnew ⟨_, rfl⟩) | (cases he; done) | (simp_all; done)))
theorem no_defer (he : evI (opI P r o.op) cal Γ L R H n = .ok v H' n') : ∀ d, o.op ≠ .defer d := fun d hd => by rw [hd] at he; cases he
end
end
end Go.Ev
/-
  A verified evaluator, part 23: regions in the text's order.
-/
namespace Go.Ev
noncomputable section
open Go

/-- the fences in use: none at all; in a round -/
def FW (F : Fence) : Prop := F = Fence.wide ∨ ∃ l, F = Fence.wide.inRound l
section
variable {P : Program} {Γ : Glo} {ι : Emb} {H H' : Heap} {w w' : World} {ρ : Operand → Value} {L : List V} {R : Regs} {r : Operand → Src} {cal : Cal} {n n' : Pth} {v : V} {o : Oper} {F : Fence} {m : Nat}
theorem FW.fn (h : FW F) (f : Nat) : F.fn f := by rcases h with rfl | ⟨l, rfl⟩ <;> exact trivial
theorem FW.depth (h : FW F) : F.depth.isSome = false := by rcases h with rfl | ⟨l, rfl⟩ <;> rfl
theorem FW.calls (h : FW F) {f : Nat} {xs : Array Value} {Q : Ending → World → Prop} (hc : Calls P f xs w Q) : CallsIn F m P f xs w Q := by
  have h1 : CallsIn Fence.wide m P f xs w Q := callsIn_wide.2 hc
  rcases h with rfl | ⟨l, rfl⟩
  · exact h1
  · exact CallsIn.inRound l h1
theorem FW.round (h : FW F) {l f : Nat} {tmps : Array Value} {as bd : Code} {Q : Ending → World → Prop} (hc : RoundIn Fence.wide m P l f tmps as bd w Q) : RoundIn F m P l f tmps as bd w Q := by
  rcases h with rfl | ⟨l', rfl⟩
  · exact hc
  · exact RoundIn.inRound l' hc
theorem OpOK.wpIn {a : Act} {R : Value → World → Prop} {next : Act → World → Prop} {Q : Exit → Act → World → Prop} (hF : FW F) (hd : ∀ c, o.op ≠ .defer c) (h : OpOK P a.eval o w R)
    (hn : ∀ x w', R x w' → next (a.put o.dst x) w') : o.wpIn F m P a w next Q := by
  refine ⟨fun f _ => hF.fn f, ?_⟩
  rw [Oper.semAt_eq _ _ _ hd]
  unfold OpOK at h
  split at h
  · rename_i x w' hr; rw [hr]; exact hn _ _ h
  · rename_i w' hr; rw [hr]; exact hn _ _ h
  · rename_i f args w' hr
    rw [hr, Oper.uponIn_enter]
    refine ⟨fun hs => Bool.noConfusion (hF.depth.symm.trans hs), hF.calls (h.mono fun e w'' => ?_)⟩
    rintro ⟨x, rfl, hx⟩
    exact hn _ _ hx
  · rename_i l f tmps as bd w' hr
    rw [hr, Oper.uponIn_round]
    refine ⟨fun hs => Bool.noConfusion (hF.depth.symm.trans hs), hF.round ((h (m - 1)).mono fun e w'' => ?_)⟩
    rintro ⟨x, rfl, hx⟩
    exact hn _ _ hx
  · exact h.elim

/- what a region's results so far say of the frame -/
structure EnvD (ι : Emb) (D : List (Option Nat)) (L : List V) (R : Regs) (tmps : Array Value) : Prop where
  loc : ∀ t i, idxOf t D 0 = some i → ∃ v, L[i]? = some v ∧ V.rel ι v (tmps.getD t undef)
  reg : ∀ t v, idxOf t D 0 = none → R.get (toPth t) = some v → V.rel ι v (tmps.getD t undef)
theorem idxOf_succ (t : Nat) : ∀ (D : List (Option Nat)) (i : Nat), idxOf t D (i + 1) = (idxOf t D i).map (· + 1)
  | [], i => rfl
  | d :: D, i => by
    have ih := idxOf_succ t D (i + 1)
    simp only [idxOf]
    cases d with
    | none => exact ih
    | some u =>
      cases h : Nat.beq u t with
      | true => simp only [h]; rfl
      | false => simp only [h]; exact ih
theorem idxOf_cons_none (t : Nat) (D : List (Option Nat)) : idxOf t (none :: D) 0 = (idxOf t D 0).map (· + 1) := idxOf_succ t D 0
theorem idxOf_cons_same (t : Nat) (D : List (Option Nat)) : idxOf t (some t :: D) 0 = some 0 := by simp [idxOf]
theorem idxOf_cons_other {u t : Nat} (D : List (Option Nat)) (h : u ≠ t) : idxOf t (some u :: D) 0 = (idxOf t D 0).map (· + 1) := by
  have hb : Nat.beq u t = false := by
    cases hb : Nat.beq u t with
    | false => rfl
    | true => exact absurd (beq_eq hb) h
  simp only [idxOf, hb]
  exact idxOf_succ t D 0
theorem EnvD.mono {ι' : Emb} (h : ι.le ι') {D : List (Option Nat)} {tmps : Array Value} (e : EnvD ι D L R tmps) : EnvD ι' D L R tmps :=
  ⟨fun t i hi => let ⟨v, h1, h2⟩ := e.loc t i hi; ⟨v, h1, V.rel.mono h _ _ h2⟩, fun t v h1 h2 => V.rel.mono h _ _ (e.reg t v h1 h2)⟩
theorem EnvD.put {D : List (Option Nat)} {a : Act} {dst : Option Nat} {x : Value} (e : EnvD ι D L R a.tmps) (hv : V.rel ι v x) (hd : ∀ t, dst = some t → t < a.tmps.size) :
    EnvD ι (dst :: D) (v :: L) R (a.put dst x).tmps := by
  cases dst with
  | none =>
    refine ⟨fun t i hi => ?_, fun t u hi hu => ?_⟩
    · rw [idxOf_cons_none] at hi
      cases h : idxOf t D 0 with
      | none => simp [h] at hi
      | some j =>
        simp [h] at hi; subst hi
        obtain ⟨u, h1, h2⟩ := e.loc t j h
        exact ⟨u, by simpa using h1, h2⟩
    · rw [idxOf_cons_none] at hi
      simp at hi
      exact e.reg t u hi hu
  | some d =>
    have hlt := hd d rfl
    have ht : (a.put (some d) x).tmps = a.tmps.setIfInBounds d x := rfl
    refine ⟨fun t i hi => ?_, fun t u hi hu => ?_⟩
    · by_cases hdt : d = t
      · subst hdt
        rw [idxOf_cons_same] at hi
        cases hi
        exact ⟨v, rfl, by rw [ht, getD_set _ _ _ _ hlt, if_pos rfl]; exact hv⟩
      · rw [idxOf_cons_other D hdt] at hi
        cases h : idxOf t D 0 with
        | none => simp [h] at hi
        | some j =>
          simp [h] at hi; subst hi
          obtain ⟨u, h1, h2⟩ := e.loc t j h
          exact ⟨u, by simpa using h1, by rw [ht, getD_set _ _ _ _ hlt, if_neg hdt]; exact h2⟩
    · by_cases hdt : d = t
      · subst hdt
        rw [idxOf_cons_same] at hi; cases hi
      · rw [idxOf_cons_other D hdt] at hi
        simp at hi
        rw [ht, getD_set _ _ _ _ hlt, if_neg hdt]
        exact e.reg t u hi hu
theorem put_size (a : Act) (dst : Option Nat) (x : Value) : (a.put dst x).tmps.size = a.tmps.size := by
  cases dst with
  | none => rfl
  | some d => show (a.tmps.setIfInBounds d x).size = _; simp
theorem put_defers (a : Act) (dst : Option Nat) (x : Value) : (a.put dst x).defers = a.defers := by cases dst <;> rfl
theorem src_ok {D : List (Option Nat)} {a : Act} (e : EnvD ι D L R a.tmps) (x : Operand) : V.rel ι (src L R (rs D x)) (a.eval x) := by
  cases x with
  | tmp t =>
    show V.rel ι (src L R (match idxOf t D 0 with | some i => .loc i | none => .reg (toPth t))) (a.tmps.getD t undef)
    cases h : idxOf t D 0 with
    | some i =>
      obtain ⟨v, h1, h2⟩ := e.loc t i h
      simp only [src, nth_eq, h1]; exact h2
    | none =>
      simp only [src]
      cases hR : R.get (toPth t) with
      | none => simp [V.rel]
      | some v => exact e.reg t v h hR
  | const y => exact ofV_rel 3 y
  | global g => show V.rel ι (.gptr g 0) _; simp only [V.rel]; rfl
  | func f => show V.rel ι (.fn f [] []) _; simp only [V.rel]; exact ⟨#[], #[], rfl, rels_nil, rels_nil⟩
theorem cxt_of {D : List (Option Nat)} {a : Act} (hok : HOK P ι H w) (gok : GOK Γ ι H w) (e : EnvD ι D L R a.tmps) : Cxt P Γ ι H w a.eval L R (rs D) :=
  ⟨hok, gok, src_ok e, fun _ => rfl, fun _ => rfl⟩
theorem met_ok {ops : Array Oper} {D : List (Option Nat)} {tmps : Array Value} {j : Nat} {g : Option (Nat × Bool)} {b : Bool} (e : EnvD ι D L R tmps) (hg : guardI ops D j o.guard = some g) (hm : met g L = some b) :
    Region.wanted o (yielded ops tmps) = b := by
  unfold guardI at hg
  unfold Region.wanted
  cases hgd : o.guard with
  | none =>
    simp [hgd] at hg; subst hg
    have hm' : some true = some b := hm
    cases hm'; rfl
  | some jw =>
    obtain ⟨q, want⟩ := jw
    simp only [hgd] at hg ⊢
    cases ho : ops[q]? with
    | none => simp [ho] at hg
    | some oq =>
      simp only [ho] at hg
      cases hd : oq.dst with
      | none => simp [hd] at hg
      | some t =>
        simp only [hd] at hg
        cases hi : idxOf t D 0 with
        | none => simp [hi] at hg
        | some i =>
          simp only [hi] at hg
          cases hb : Nat.beq (i + q + 1) j with
          | false => simp [hb] at hg
          | true =>
            simp [hb] at hg; subst hg
            obtain ⟨u, h1, h2⟩ := e.loc t i hi
            simp only [met, nth_eq, h1] at hm
            have hy : yielded ops tmps q = (match tmps[t]? with | some (.bool b) => some b | _ => none) := by
              unfold yielded
              simp only [ho, hd, Option.bind_some]
              rfl
            rw [hy]
            rw [Array.getD_eq_getD_getElem?] at h2
            cases u <;> try (cases hm; done)
            case bool c =>
              simp only [V.rel] at h2
              cases ht : tmps[t]? with
              | none => simp [ht, undef] at h2
              | some x =>
                simp [ht] at h2; subst h2
                cases want with
                | true =>
                  have hm' : some c = some b := hm
                  (first | (cases hm'; cases c <;> rfl) | (cases hm'; cases b <;> rfl))
                | false =>
                  have hm' : some (!c) = some b := hm
                  (first | (cases hm'; cases c <;> rfl) | (cases hm'; cases b <;> rfl))
            case tup l =>
              cases l with
              | cons => cases hm
              | nil =>
                have hm' : some false = some b := hm
                cases hm'
                simp only [V.rel] at h2
                obtain ⟨cs, hx, _⟩ := h2
                cases ht : tmps[t]? with
                | none => simp
                | some x => simp [ht] at hx; subst hx; simp

theorem below_cons {N : Nat} {d : Option Nat} {D : List (Option Nat)} (h : below N (d :: D) = true) : (∀ t, d = some t → t < N) ∧ below N D = true := by
  simp only [below, Bool.and_eq_true] at h
  refine ⟨fun t ht => ?_, h.2⟩
  subst ht
  exact blt_lt h.1
theorem below_dsts {N : Nat} : ∀ (l : List Oper) (D : List (Option Nat)), below N (dstsOf l D) = true → below N D = true
  | [], _D, h => h
  | o :: l, D, h => (below_cons (below_dsts l (o.dst :: D) h)).2

theorem opsIR_cons (ops : Array Oper) (o : Oper) (l : List Oper) (D : List (Option Nat)) (j : Nat) : opsIR P ops (o :: l) D j = (match guardI ops D j o.guard with
    | some g => .mk g (opI P (rs D) o.op)
    | none => .mk none .bad) :: opsIR P ops l (o.dst :: D) (j + 1) := rfl
theorem evOps_cons (o : IOp) (l : List IOp) (L : List V) (H : Heap) (n : Pth) : evOps cal Γ R (o :: l) L H n = (match evOp1 cal Γ R o L H n with | .ok L' H' n' => evOps cal Γ R l L' H' n' | .bad => .bad) := rfl

theorem undef_rel : V.rel ι (.tup []) undef := by simp only [V.rel]; exact ⟨#[], rfl, rels_nil⟩
/-- a region's operations, one after the other -/
theorem ops_ok (k : CalOK P Γ cal) (hF : FW F) {ops : Array Oper} {N : Nat} : ∀ (l : List Oper) (i : Nat) (D : List (Option Nat)) (L : List V) (H : Heap) (n : Pth) (L' : List V) (H' : Heap) (n' : Pth),
    ops.toList.drop i = l → below N (dstsOf l D) = true → evOps cal Γ R (opsIR P ops l D i) L H n = .ok L' H' n' → Mono H H' ∧
    ∀ (ι : Emb) (w : World) (a : Act) (Q : Exit → Act → World → Prop), HOK P ι H w → GOK Γ ι H w → Fr ι H H' → EnvD ι D L R a.tmps → N ≤ a.tmps.size →
      (∀ ι' a' w', Step P ι H w ι' H' w' → EnvD ι' (dstsOf l D) L' R a'.tmps → N ≤ a'.tmps.size → a'.defers = a.defers → Q .normal a' w') →
      wpOpsIn F m P ops Q (List.range' i l.length) a w
  | [], i, D, L, H, n, L', H', n', hl, hb, he => by
    have he' : ROut.ok L H n = .ok L' H' n' := he
    cases he'
    refine ⟨Mono.refl _, fun ι w a Q hok gok hfr henv hN hQ => ?_⟩
    exact hQ ι a w (Step.refl hok) henv hN rfl
  | o :: l, i, D, L, H, n, L', H', n', hl, hb, he => by
    rw [opsIR_cons, evOps_cons] at he
    cases h1 : evOp1 cal Γ R (match guardI ops D i o.guard with | some g => .mk g (opI P (rs D) o.op) | none => .mk none .bad) L H n with
    | bad => simp [h1] at he
    | ok L1 H1 n1 =>
      simp only [h1] at he
      have hoi : ops[i]? = some o := by
        have : ops.toList[i]? = some o := by
          have := congrArg (·[0]?) hl
          simpa [List.getElem?_drop] using this
        simpa using this
      have hl' : ops.toList.drop (i + 1) = l := by
        have := congrArg List.tail hl
        simpa [List.tail_drop] using this
      obtain ⟨m1, rest⟩ := ops_ok k hF l (i + 1) (o.dst :: D) L1 H1 n1 L' H' n' hl' hb he
      have hdst := (below_cons (below_dsts l (o.dst :: D) hb)).1
      cases hg : guardI ops D i o.guard with
      | none => simp only [hg] at h1; cases h1
      | some g =>
        simp only [hg] at h1
        unfold evOp1 at h1
        simp only at h1
        cases hm : met g L with
        | none => simp [hm] at h1
        | some b =>
          cases b with
          | true =>
            simp only [hm] at h1
            cases hev : evI (opI P (rs D) o.op) cal Γ L R H n with
            | bad => simp [hev] at h1
            | ok v H1' n1' =>
              simp [hev] at h1
              obtain ⟨rfl, rfl, rfl⟩ := h1
              have m0 := evI_mono k _ hev
              refine ⟨m0.trans m1, fun ι w a Q hok gok hfr henv hN hQ => ?_⟩
              have hw := met_ok (o := o) henv hg hm
              rw [List.length_cons, List.range'_succ]
              unfold wpOpsIn
              simp only [hoi]
              rw [if_pos hw]
              have hop := op_ok (o := o) k (cxt_of hok gok henv) hev (Fr.split hfr m1)
              refine hop.wpIn hF (no_defer hev) ?_
              rintro x w1 ⟨ι1, hv, hs⟩
              refine rest ι1 w1 _ Q hs.hok (gok.step hs) (Fr.after hfr hs m0) ((henv.mono hs.ext).put hv fun t ht => Nat.lt_of_lt_of_le (hdst t ht) hN) (by rw [put_size]; exact hN) ?_
              intro ι' a' w' hs' he' hN' hd'
              exact hQ ι' a' w' (hs.trans hs' m0 m1) he' hN' (by rw [hd', put_defers])
          | false =>
            simp [hm] at h1
            obtain ⟨rfl, rfl, rfl⟩ := h1
            refine ⟨m1, fun ι w a Q hok gok hfr henv hN hQ => ?_⟩
            have hw := met_ok (o := o) henv hg hm
            rw [List.length_cons, List.range'_succ]
            unfold wpOpsIn
            simp only [hoi]
            rw [if_neg (by rw [hw]; simp)]
            refine ⟨fun f _ => hF.fn f, rest ι w _ Q hok gok hfr (henv.put undef_rel fun t ht => Nat.lt_of_lt_of_le (hdst t ht) hN) (by rw [put_size]; exact hN) ?_⟩
            intro ι' a' w' hs' he' hN' hd'
            exact hQ ι' a' w' hs' he' hN' (by rw [hd', put_defers])
end
end
end Go.Ev
/-
  A verified evaluator, part 24: what a region that draws its order needs: parts of a memory; what an operation looks at.
-/
namespace Go.Ev
noncomputable section
open Go

/-- all that A holds B holds -/
def Sub (A B : Heap) : Prop := ∀ p o, A.get p = some o → B.get p = some o
section
variable {P : Program} {Γ : Glo} {ι ι' : Emb} {A A' B B' H H' : Heap} {w w' : World} {L : List V} {R : Regs} {cal : Cal} {n n' : Pth} {v : V}

theorem Sub.live (h : Sub A B) {p : Pth} (hl : Live A p) : Live B p := let ⟨o, h1, h2⟩ := hl; ⟨o, h p o h1, h2⟩
theorem HOK.sub (h : HOK P ι B w) (hs : Sub A B) : HOK P ι A w :=
  ⟨fun p o hp => h.obj p o (hs p o hp), fun p q b s s' hp hq => h.inj p q b s s' (hs.live hp) (hs.live hq), h.lt⟩
theorem GOK.sub (h : GOK Γ ι B w) (hs : Sub A B) : GOK Γ ι A w := ⟨h.val, fun g hg p s hl => h.off g hg p s (hs.live hl), h.tab, h.tabA, fun e he => let ⟨b, s, z, h1, h2, h3⟩ := h.lds e he; ⟨b, s, z, h1, fun q t hl => h2 q t (hs.live hl), h3⟩, fun e he => let ⟨b, s, c, el, fr, h1, h2, h3, h4⟩ := h.ro e he; ⟨b, s, c, el, fr, h1, h2, h3, fun q t hl => h4 q t (hs.live hl)⟩⟩
theorem live_congr (he : ∀ p, A.get p = B.get p) {p : Pth} : Live A p ↔ Live B p := by unfold Live; rw [he p]
theorem Step.congr (h : Step P ι H w ι' A w') (he : ∀ p, A.get p = B.get p) : Step P ι H w ι' B w' := by
  refine ⟨h.ext, fun p h1 h2 => ?_, h.hok.sub fun p o hp => by rw [he]; exact hp, h.kept, h.size, fun p b s hl hp hb => h.back p b s ((live_congr he).2 hl) hp hb, h.tape, h.os, h.out⟩
  obtain ⟨g1, g2⟩ := h.new p h1 h2
  exact ⟨g1, by rw [← he]; exact g2⟩
/-- what an operation does on a part of the memory, it does on the whole -/
theorem Step.frame (hok : HOK P ι B w) (sub : Sub A B) (st : Step P ι A w ι' A' w') (m : Mono A A') (dis : ∀ p, B.get p ≠ none → A.get p = none → A'.get p = none)
    (hB : ∀ p, B'.get p = match A'.get p with | some o => some o | none => B.get p) : Step P ι B w ι' B' w' := by
  have inA : ∀ p o, A'.get p = some o → B'.get p = some o := fun p o hp => by rw [hB, hp]
  have cases' : ∀ p o, B'.get p = some o → A'.get p = some o ∨ (A'.get p = none ∧ A.get p = none ∧ B.get p = some o) := fun p o hp => by
    rw [hB] at hp
    cases h : A'.get p with
    | some o' => rw [h] at hp; exact .inl hp
    | none =>
      rw [h] at hp
      refine .inr ⟨rfl, ?_, hp⟩
      cases ha : A.get p with
      | none => rfl
      | some o' => exact absurd h (m p (by simp [ha]))
  have liveCases : ∀ p, Live B' p → Live A' p ∨ (A.get p = none ∧ Live B p) := fun p hl => by
    obtain ⟨o, h1, h2⟩ := hl
    rcases cases' p o h1 with h | ⟨_, h3, h4⟩
    · exact .inl ⟨o, h, h2⟩
    · exact .inr ⟨h3, o, h4, h2⟩
  -- a block of the rest is none of the part's
  have apart : ∀ p b s, A.get p = none → Live B p → ι p = some (b, s) → ∀ q t, Live A q → ι q ≠ some (b, t) := fun p b s ha hl hp q t hq he => by
    have := hok.inj p q b s t hl (sub.live hq) hp he
    subst this
    obtain ⟨o, h1, _⟩ := hq
    rw [ha] at h1; cases h1
  have embB : ∀ p, Live B p → ∃ b s, ι p = some (b, s) ∧ b < w.heap.size := fun p hl => by
    obtain ⟨o, h1, h2⟩ := hl
    exact O.ok_emb (hok.obj p o h1) h2
  have restEmb : ∀ p b s, A.get p = none → Live B p → ι' p = some (b, s) → ι p = some (b, s) := fun p b s ha hl hp => by
    obtain ⟨b', s', h1, _⟩ := embB p hl
    have := st.ext.name p _ h1
    rw [this] at hp; cases hp; exact h1
  refine ⟨st.ext, fun p h1 h2 => ?_, ⟨fun p o hp => ?_, fun p q b s s' hp hq ep eq => ?_, st.hok.lt⟩, fun b hb hn => st.kept b hb fun p s hl => hn p s (sub.live hl), st.size, fun p b s hl hp hb => ?_, st.tape, st.os, st.out⟩
  · obtain ⟨g1, g2⟩ := st.new p h1 h2
    refine ⟨?_, ?_⟩
    · cases hb : B.get p with
      | none => rfl
      | some o => exact absurd (dis p (by simp [hb]) g1) g2
    · cases h : A'.get p with
      | none => exact absurd h g2
      | some o => rw [inA p o h]; simp
  · rcases cases' p o hp with h | ⟨_, h3, h4⟩
    · exact st.hok.obj p o h
    · refine O.ok_mono (hok.obj p o h4) st.ext fun b s hd hps => ?_
      have hl : Live B p := ⟨o, h4, hd⟩
      obtain ⟨b', s', h5, h6⟩ := embB p hl
      rw [hps] at h5; cases h5
      exact st.kept b h6 fun q t hq => apart p b s h3 hl hps q t hq
  · rcases liveCases p hp with lp | ⟨ap, bp⟩
    · rcases liveCases q hq with lq | ⟨aq, bq⟩
      · exact st.hok.inj p q b s s' lp lq ep eq
      · have e2 := restEmb q b s' aq bq eq
        obtain ⟨b', t, h5, h6⟩ := embB q bq
        rw [e2] at h5; cases h5
        obtain ⟨q', s2, hq', he'⟩ := st.back p b s lp ep h6
        exact absurd he' (apart q b s' aq bq e2 q' s2 hq')
    · have e1 := restEmb p b s ap bp ep
      rcases liveCases q hq with lq | ⟨aq, bq⟩
      · obtain ⟨b', t, h5, h6⟩ := embB p bp
        rw [e1] at h5; cases h5
        obtain ⟨q', s2, hq', he'⟩ := st.back q b s' lq eq h6
        exact absurd he' (apart p b s ap bp e1 q' s2 hq')
      · exact hok.inj p q b s s' bp bq e1 (restEmb q b s' aq bq eq)
  · rcases liveCases p hl with lp | ⟨ap, bp⟩
    · obtain ⟨q, s', hq, hq'⟩ := st.back p b s lp hp hb
      exact ⟨q, s', sub.live hq, hq'⟩
    · exact ⟨p, s, bp, restEmb p b s ap bp hp⟩

/- equal values -/
theorem veqs_cons (f : V → V → Bool) (x : V) (a m : List V) : (List.rec (motive := fun _ => List V → Bool) (fun m => match m with | [] => true | _ :: _ => false)
            (fun x _ ih2 m => match m with | [] => false | y :: m' => (match f x y with | true => ih2 m' | false => false)) (x :: a) : List V → Bool) m =
      (match m with | [] => false | y :: m' => (match f x y with | true => (List.rec (motive := fun _ => List V → Bool) (fun m => match m with | [] => true | _ :: _ => false)
            (fun x _ ih2 m => match m with | [] => false | y :: m' => (match f x y with | true => ih2 m' | false => false)) a : List V → Bool) m' | false => false)) := rfl
theorem veqs_eq (f : V → V → Bool) (hf : ∀ x y, f x y = true → x = y) : ∀ (a m : List V), (List.rec (motive := fun _ => List V → Bool) (fun m => match m with | [] => true | _ :: _ => false)
            (fun x _ ih2 m => match m with | [] => false | y :: m' => (match f x y with | true => ih2 m' | false => false)) a : List V → Bool) m = true → a = m
  | [], m, h => by cases m with | nil => rfl | cons => cases h
  | x :: a, m, h => by
    rw [veqs_cons] at h
    cases m with
    | nil => cases h
    | cons y m =>
      simp only at h
      cases hxy : f x y with
      | false => simp [hxy] at h
      | true =>
        simp only [hxy] at h
        rw [hf x y hxy, veqs_eq f hf a m h]
theorem veq_eq : ∀ (k : Nat) (x y : V), veq k x y = true → x = y
  | 0, x, y, h => by cases h
  | k + 1, x, y, h => by
    have ih := veq_eq k
    cases x <;> cases y <;> try (cases h; done)
    case bool a b => cases a <;> cases b <;> first | rfl | cases h
    case int k1 a k2 b =>
      have h' : (match keq k1 k2 with | true => ieq a b | false => false) = true := h
      cases hk : keq k1 k2 with
      | false => simp [hk] at h'
      | true =>
        simp only [hk] at h'
        rw [ieq_eq] at h'
        have := (keq_iff k1 k2).1 hk
        have e2 : a = b := by simpa using h'
        rw [this, e2]
    case str a b =>
      have h' : natsEq a b = true := h
      rw [natsEq_eq] at h'
      have e2 : a = b := by simpa using h'
      rw [e2]
    case nilp => rfl
    case ptr p o q r =>
      have h' : (match p.beq q with | true => Nat.beq o r | false => false) = true := h
      cases hk : p.beq q with
      | false => simp [hk] at h'
      | true =>
        simp only [hk] at h'
        rw [(Pth.beq_iff p q).1 hk, beq_eq h']
    case gptr p o q r =>
      have h' : (match Nat.beq p q with | true => Nat.beq o r | false => false) = true := h
      cases hk : Nat.beq p q with
      | false => simp [hk] at h'
      | true =>
        simp only [hk] at h'
        rw [beq_eq hk, beq_eq h']
    case nilsl => rfl
    case sl p o a b c q r d e f =>
      have h' : (match p.beq q, Nat.beq o r, Nat.beq a d, Nat.beq b e with
        | true, true, true, true => Nat.beq c f
        | _, _, _, _ => false) = true := h
      cases h1 : p.beq q <;> cases h2 : Nat.beq o r <;> cases h3 : Nat.beq a d <;> cases h4 : Nat.beq b e <;> simp only [h1, h2, h3, h4] at h' <;> try (cases h'; done)
      rw [(Pth.beq_iff p q).1 h1, beq_eq h2, beq_eq h3, beq_eq h4, beq_eq h']
    case nilmp => rfl
    case mp p q =>
      have h' : p.beq q = true := h
      rw [(Pth.beq_iff p q).1 h']
    case nilfn => rfl
    case fn f a b g c d =>
      have h' : (match Nat.beq f g with
        | true => (match (List.rec (motive := fun _ => List V → Bool) (fun m => match m with | [] => true | _ :: _ => false)
            (fun x _ ih2 m => match m with | [] => false | y :: m' => (match veq k x y with | true => ih2 m' | false => false)) a : List V → Bool) c with
          | true => (List.rec (motive := fun _ => List V → Bool) (fun m => match m with | [] => true | _ :: _ => false)
            (fun x _ ih2 m => match m with | [] => false | y :: m' => (match veq k x y with | true => ih2 m' | false => false)) b : List V → Bool) d
          | false => false)
        | false => false) = true := h
      cases hk : Nat.beq f g with
      | false => simp [hk] at h'
      | true =>
        simp only [hk] at h'
        split at h' <;> try (cases h'; done)
        rename_i h1
        rw [beq_eq hk, veqs_eq _ ih a c h1, veqs_eq _ ih b d h']
    case agg a c => rw [veqs_eq _ ih a c h]
    case tup a c => rw [veqs_eq _ ih a c h]
    case sym i k1 a b j k2 c d =>
      have h' : (match Nat.beq i j, keq k1 k2, ieq a c with | true, true, true => ieq b d | _, _, _ => false) = true := h
      cases h1 : Nat.beq i j <;> cases h2 : keq k1 k2 <;> cases h3 : ieq a c <;> simp only [h1, h2, h3] at h' <;> try (cases h'; done)
      rw [ieq_eq] at h3 h'
      have e3 : a = c := by simpa using h3
      have e4 : b = d := by simpa using h'
      rw [beq_eq h1, (keq_iff k1 k2).1 h2, e3, e4]
    case nilif => rfl
    case lin i k1 e a b j k2 f c d =>
      have h' : (match Nat.beq i j, keq k1 k2, ieq e f, ieq a c with | true, true, true, true => ieq b d | _, _, _, _ => false) = true := h
      cases h1 : Nat.beq i j <;> cases h2 : keq k1 k2 <;> cases h3 : ieq e f <;> cases h4 : ieq a c <;> simp only [h1, h2, h3, h4] at h' <;> try (cases h'; done)
      rw [ieq_eq] at h3 h4 h'
      have e3 : e = f := by simpa using h3
      have e4 : a = c := by simpa using h4
      have e5 : b = d := by simpa using h'
      rw [beq_eq h1, (keq_iff k1 k2).1 h2, e3, e4, e5]
    case jsl p i c a b q j d e f =>
      have h' : (match p.beq q, Nat.beq i j, Nat.beq c d, Nat.beq a e with | true, true, true, true => Nat.beq b f | _, _, _, _ => false) = true := h
      cases h1 : p.beq q <;> cases h2 : Nat.beq i j <;> cases h3 : Nat.beq c d <;> cases h4 : Nat.beq a e <;> simp only [h1, h2, h3, h4] at h' <;> try (cases h'; done)
      rw [(Pth.beq_iff _ _).1 h1, beq_eq h2, beq_eq h3, beq_eq h4, beq_eq h']
    case inp p i q j =>
      have h' : (match p.beq q with | true => Nat.beq i j | false => false) = true := h
      cases h1 : p.beq q <;> simp only [h1] at h' <;> try (cases h'; done)
      rw [(Pth.beq_iff _ _).1 h1, beq_eq h']
    case ept p i q j =>
      have h' : (match p.beq q with | true => Nat.beq i j | false => false) = true := h
      cases h1 : p.beq q <;> simp only [h1] at h' <;> try (cases h'; done)
      rw [(Pth.beq_iff _ _).1 h1, beq_eq h']
    case ifc t a u b =>
      have h' : (match Nat.beq t u with | true => veq k a b | false => false) = true := h
      cases h1 : Nat.beq t u with
      | false => simp [h1] at h'
      | true =>
        simp only [h1] at h'
        rw [beq_eq h1, ih a b h']

/- the classes -/
theorem pure_ok {i : I} (hc : clsOf i = .pure) (h : evI i cal Γ L R H n = .ok v H' n') : H' = H ∧ ∀ B m, evI i cal Γ L R B m = .ok v B m := by
  have viaRet : ∀ {u : Option V}, ret? u H n = .ok v H' n' → H' = H ∧ ∀ B m, ret? u B m = .ok v B m := fun {u} h => by
    obtain ⟨h1, h2, _⟩ := ret_some h
    subst h1; exact ⟨h2, fun _ _ => rfl⟩
  cases i <;> simp only [clsOf] at hc <;> try (cases hc; done)
  case mov s => cases h; exact ⟨rfl, fun _ _ => rfl⟩
  case pick c a b =>
    have h' : evPick c a b cal Γ L R H n = .ok v H' n' := h
    show _ ∧ ∀ B m, evPick c a b cal Γ L R B m = _
    unfold evPick at h' ⊢
    split at h' <;> try (cases h'; done)
    rename_i t ht
    cases t <;> cases h' <;> exact ⟨rfl, fun _ _ => rfl⟩
  case build z p =>
    have h' : evBuild z p cal Γ L R H n = .ok v H' n' := h
    show _ ∧ ∀ B m, evBuild z p cal Γ L R B m = _
    unfold evBuild at h' ⊢
    split at h' <;> try (cases h'; done)
    rename_i l hl
    cases h'
    exact ⟨rfl, fun _ _ => rfl⟩
  case mkif t x => cases h; exact ⟨rfl, fun _ _ => rfl⟩
  case mkmeth nm x =>
    have h' : evMkmeth nm x cal Γ L R H n = .ok v H' n' := h
    show _ ∧ ∀ B m, evMkmeth nm x cal Γ L R B m = _
    unfold evMkmeth at h' ⊢
    split at h' <;> try (cases h'; done)
    cases h'
    exact ⟨rfl, fun _ _ => rfl⟩
  case nilchk mt s =>
    have h' : evNilchk mt s cal Γ L R H n = .ok v H' n' := h
    show _ ∧ ∀ B m, evNilchk mt s cal Γ L R B m = _
    unfold evNilchk at h' ⊢
    split at h' <;> try (cases h'; done)
    rename_i hl
    cases h'
    exact ⟨rfl, fun _ _ => rfl⟩
  case bin op x y => exact viaRet h
  case eq b e x y =>
    have h' : evEq b e x y cal Γ L R H n = .ok v H' n' := h
    show _ ∧ ∀ B m, evEq b e x y cal Γ L R B m = _
    unfold evEq at h' ⊢
    split at h' <;> try (cases h'; done)
    rename_i hl
    cases h'
    exact ⟨rfl, fun _ _ => rfl⟩
  case un op x => exact viaRet h
  case conv c x =>
    have h' : evConv c x cal Γ L R H n = .ok v H' n' := h
    show _ ∧ ∀ B m, evConv c x cal Γ L R B m = _
    unfold evConv at h' ⊢
    cases c with
    | b2s => simp [] at hc
    | mark => simp [] at hc
    | int k =>
      cases hs : src L R x <;> rw [hs] at h' <;> try (cases h'; done)
      case sym i kx lo hi =>
        cases hsi : symIn k lo hi with
        | false => simp only [hsi] at h'; cases h'
        | true =>
          simp only [hsi] at h'
          cases h'
          exact ⟨rfl, fun _ _ => by simp only [hsi]⟩
      cases h'
      exact ⟨rfl, fun _ _ => rfl⟩
    | same =>
      cases hs : src L R x <;> rw [hs] at h' <;> try (cases h'; done)
      cases h'
      exact ⟨rfl, fun _ _ => rfl⟩
  case mkfn f a b => cases h; exact ⟨rfl, fun _ _ => rfl⟩
  case slice s x l hh m =>
    have h' : evSlice s x l hh m cal Γ L R H n = .ok v H' n' := h
    have key : ∃ u, ∀ B m', evSlice s x l hh m cal Γ L R B m' = ret? u B m' := by
      cases s with
      | str =>
        cases hs : src L R x <;> try exact ⟨none, fun _ _ => by simp only [evSlice, hs]; rfl⟩
        rename_i str
        cases h1 : bound? L R 0 l with
        | none => exact ⟨none, fun _ _ => by simp only [evSlice, hs, h1]; rfl⟩
        | some a =>
          cases h2 : bound? L R (len str) hh with
          | none => exact ⟨none, fun _ _ => by simp only [evSlice, hs, h1, h2]; rfl⟩
          | some b =>
            cases m with
            | some q => exact ⟨none, fun _ _ => by simp only [evSlice, hs, h1, h2]; rfl⟩
            | none =>
              cases h3 : Nat.ble a b with
              | false => exact ⟨none, fun _ _ => by simp only [evSlice, hs, h1, h2, h3]; rfl⟩
              | true =>
                cases h4 : Nat.ble b (len str) with
                | false => exact ⟨none, fun _ _ => by simp only [evSlice, hs, h1, h2, h3, h4]; rfl⟩
                | true => exact ⟨_, fun _ _ => by simp only [evSlice, hs, h1, h2, h3, h4]; rfl⟩
      | arr a b => exact ⟨none, fun _ _ => rfl⟩
      | sl size =>
        unfold evSlice
        repeat' split
        all_goals first | exact ⟨none, fun _ _ => rfl⟩ | exact ⟨some _, fun _ _ => rfl⟩
    obtain ⟨u, hu⟩ := key
    rw [hu] at h'
    obtain ⟨e1, e2⟩ := viaRet h'
    exact ⟨e1, fun B m' => (hu B m').trans (e2 B m')⟩
  case faddr x off => exact viaRet h
  case xaddr s x j =>
    have h' : evXaddr s x j cal Γ L R H n = .ok v H' n' := h
    have key : ∃ u, ∀ B m', evXaddr s x j cal Γ L R B m' = ret? u B m' := by
      unfold evXaddr
      repeat' split
      all_goals first | exact ⟨none, fun _ _ => rfl⟩ | exact ⟨some _, fun _ _ => rfl⟩ | exact ⟨_, fun _ _ => rfl⟩
    obtain ⟨u, hu⟩ := key
    rw [hu] at h'
    obtain ⟨e1, e2⟩ := viaRet h'
    exact ⟨e1, fun B m' => (hu B m').trans (e2 B m')⟩
  case idxs x j =>
    have h' : evIdxs x j cal Γ L R H n = .ok v H' n' := h
    have key : ∃ u, ∀ B m', evIdxs x j cal Γ L R B m' = ret? u B m' := by
      unfold evIdxs
      repeat' split
      all_goals first | exact ⟨none, fun _ _ => rfl⟩ | exact ⟨some _, fun _ _ => rfl⟩
    obtain ⟨u, hu⟩ := key
    rw [hu] at h'
    obtain ⟨e1, e2⟩ := viaRet h'
    exact ⟨e1, fun B m' => (hu B m').trans (e2 B m')⟩
  case idxa k s a x j =>
    have h' : evIdxa k s a x j cal Γ L R H n = .ok v H' n' := h
    have key : ∃ u, ∀ B m', evIdxa k s a x j cal Γ L R B m' = ret? u B m' := by
      unfold evIdxa
      repeat' split
      all_goals first | exact ⟨none, fun _ _ => rfl⟩ | exact ⟨_, fun _ _ => rfl⟩
    obtain ⟨u, hu⟩ := key
    rw [hu] at h'
    obtain ⟨e1, e2⟩ := viaRet h'
    exact ⟨e1, fun B m' => (hu B m').trans (e2 B m')⟩
  case field x off s a =>
    have h' : evField x off s a cal Γ L R H n = .ok v H' n' := h
    have key : ∃ u, ∀ B m', evField x off s a cal Γ L R B m' = ret? u B m' := by
      unfold evField
      repeat' split
      all_goals first | exact ⟨none, fun _ _ => rfl⟩ | exact ⟨_, fun _ _ => rfl⟩
    obtain ⟨u, hu⟩ := key
    rw [hu] at h'
    obtain ⟨e1, e2⟩ := viaRet h'
    exact ⟨e1, fun B m' => (hu B m').trans (e2 B m')⟩
  case extract s j =>
    have h' : evExtract s j cal Γ L R H n = .ok v H' n' := h
    have key : ∃ u, ∀ B m', evExtract s j cal Γ L R B m' = ret? u B m' := by
      unfold evExtract
      repeat' split
      all_goals first | exact ⟨none, fun _ _ => rfl⟩ | exact ⟨_, fun _ _ => rfl⟩
    obtain ⟨u, hu⟩ := key
    rw [hu] at h'
    obtain ⟨e1, e2⟩ := viaRet h'
    exact ⟨e1, fun B m' => (hu B m').trans (e2 B m')⟩
  case minmax m l =>
    have h' : evMinmax m l cal Γ L R H n = .ok v H' n' := h
    have key : ∃ u, ∀ B m', evMinmax m l cal Γ L R B m' = ret? u B m' := by
      unfold evMinmax
      repeat' split
      all_goals first | exact ⟨none, fun _ _ => rfl⟩ | exact ⟨some _, fun _ _ => rfl⟩ | exact ⟨_, fun _ _ => rfl⟩
    obtain ⟨u, hu⟩ := key
    rw [hu] at h'
    obtain ⟨e1, e2⟩ := viaRet h'
    exact ⟨e1, fun B m' => (hu B m').trans (e2 B m')⟩
theorem calm_ok {i : I} (hc : clsOf i = .calm) (h : evI i cal Γ L R H n = .ok v H' n') : H' = H := by
  have viaRet : ∀ {u : Option V}, ret? u H n = .ok v H' n' → H' = H := fun {u} h => (ret_some h).2.1
  cases i <;> simp only [clsOf] at hc <;> try (cases hc; done)
  case load s => exact viaRet h
  case loadn s m =>
    have h' : evLoadn s m cal Γ L R H n = .ok v H' n' := h
    unfold evLoadn at h'
    split at h' <;> cases h'
    rfl
  case conv c x =>
    have h' : evConv c x cal Γ L R H n = .ok v H' n' := h
    unfold evConv at h'
    cases c <;> simp [] at hc
    repeat' split at h'
    all_goals first | (exfalso; rename CK.b2s = CK.mark => hbm; cases hbm; done) | (cases h'; rfl) | cases h'
  case lookup e z m q ok =>
    have h' : evLookup e z m q ok cal Γ L R H n = .ok v H' n' := h
    unfold evLookup at h'
    repeat' split at h'
    all_goals first | (cases h'; rfl) | cases h'
  case len k x => exact viaRet h
  case cap x =>
    have h' : evCap x cal Γ L R H n = .ok v H' n' := h
    unfold evCap at h'
    repeat' split at h'
    all_goals first | (cases h'; rfl) | cases h'
theorem float_ok {i : I} (hc : clsOf i = .float) : ∃ f, i = .new f := by
  cases i <;> simp only [clsOf] at hc <;> try (cases hc; done)
  case new f => exact ⟨f, rfl⟩
  case conv c x => cases c <;> cases hc
end
end
end Go.Ev
/-
  A verified evaluator, part 25: a region that draws its order: what goes before what; merged memories; what an operation looks at.
-/
namespace Go.Ev
noncomputable section
open Go

/- what an operation looks at -/
section
variable {P : Program} {r r' : Operand → Src}
theorem structParts_congr (fs : Array Field) : ∀ (ps : List (Nat × Operand)), (∀ p ∈ ps, r p.2 = r' p.2) → structParts P fs r ps = structParts P fs r' ps
  | [], _ => rfl
  | p :: ps, h => by simp only [structParts, structParts_congr fs ps fun q hq => h q (List.mem_cons_of_mem _ hq), h p (List.mem_cons_self ..)]
theorem arrayParts_congr (k : Nat) : ∀ (ps : List (Nat × Operand)), (∀ p ∈ ps, r p.2 = r' p.2) → arrayParts k r ps = arrayParts k r' ps
  | [], _ => rfl
  | p :: ps, h => by simp only [arrayParts, arrayParts_congr k ps fun q hq => h q (List.mem_cons_of_mem _ hq), h p (List.mem_cons_self ..)]
theorem opI_congr (op : Op) (h : ∀ x ∈ op.operands.toList, r x = r' x) : opI P r op = opI P r' op := by
  cases op
  case build t ps =>
    have h' : ∀ p ∈ ps.toList, r p.2 = r' p.2 := fun p hp => h _ (by simp only [Op.operands]; exact List.mem_map.2 ⟨p, hp, rfl⟩)
    simp only [opI, structParts_congr _ _ h', arrayParts_congr _ _ h']
  case buildSlice t m ps =>
    have h' : ∀ p ∈ ps.toList, r p.2 = r' p.2 := fun p hp => h _ (by simp only [Op.operands]; exact List.mem_map.2 ⟨p, hp, rfl⟩)
    simp only [opI, arrayParts_congr _ _ h']
  case makeFunc f a b =>
    have ha : a.toList.map r = a.toList.map r' := List.map_congr_left fun x hx => h x (by simp only [Op.operands, Array.toList_append]; exact List.mem_append_left _ hx)
    have hb : b.toList.map r = b.toList.map r' := List.map_congr_left fun x hx => h x (by simp only [Op.operands, Array.toList_append]; exact List.mem_append_right _ hx)
    cases f <;> try (simp only [opI, ha, hb]; done)
    rename_i m
    simp only [opI]
    cases hla : a.toList with
    | nil => rfl
    | cons x l =>
      cases l with
      | cons y l => rfl
      | nil =>
        cases b.toList with
        | cons y l => rfl
        | nil =>
          simp only
          rw [h x (by simp only [Op.operands, Array.toList_append]; exact List.mem_append_left _ (by rw [hla]; simp))]
  case makeMap t rv =>
    cases rv with
    | none => rfl
    | some q =>
      cases q with
      | const y => cases y <;> rfl
      | _ => rfl
  case slice t x lo hi mx =>
    have hx : r x = r' x := h x (by simp [Op.operands])
    have h1 : lo.map r = lo.map r' := by cases lo with | none => rfl | some q => simp only [Option.map_some]; rw [h q (by simp [Op.operands])]
    have h2 : hi.map r = hi.map r' := by cases hi with | none => rfl | some q => simp only [Option.map_some]; rw [h q (by simp [Op.operands])]
    have h3 : mx.map r = mx.map r' := by cases mx with | none => rfl | some q => simp only [Option.map_some]; rw [h q (by simp [Op.operands])]
    simp only [opI, hx, h1, h2, h3]
  case next it b =>
    have hx : r it = r' it := h it (by simp [Op.operands])
    cases b <;> simp only [opI, hx]
  case call c =>
    have h1 : c.args.toList.map r = c.args.toList.map r' := List.map_congr_left fun x hx => h x (by
      simp only [Op.operands, Call.operands]
      cases c.callee <;> simp <;> first | exact hx | exact .inr hx | (right; simpa using hx) | simpa using hx)
    simp only [opI, h1]
    cases hc : c.callee with
    | value q =>
      cases q with
      | func f => rfl
      | _ =>
        simp only
        rw [h _ (by simp [Op.operands, Call.operands, hc])]
    | invoke q m =>
      simp only
      rw [h _ (by simp [Op.operands, Call.operands, hc])]
    | _ => rfl
  all_goals first
    | rfl
    | (simp only [Op.operands, List.mem_cons, List.not_mem_nil, or_false, forall_eq_or_imp, forall_eq] at h; simp only [opI, h]; done)
end

/- bits -/
theorem bit_eq (m i : Nat) : bit m i = m.testBit i := by
  unfold bit
  rw [Nat.testBit_eq_decide_div_mod_eq]
  show Nat.beq ((m >>> i) % 2) 1 = _
  rw [Nat.shiftRight_eq_div_pow]
  cases h : decide (m / 2 ^ i % 2 = 1) with
  | true => simp at h; rw [h]; rfl
  | false =>
    have h' : ¬ (m / 2 ^ i % 2 = 1) := by simpa using h
    cases hb : Nat.beq (m / 2 ^ i % 2) 1 with
    | false => rfl
    | true => exact absurd (beq_eq hb) h'
theorem bit_or (a b i : Nat) : bit (Nat.lor a b) i = (bit a i || bit b i) := by
  rw [bit_eq, bit_eq, bit_eq]
  show (a ||| b).testBit i = _
  rw [Nat.testBit_or]
theorem bit_pow (k i : Nat) : bit (2 ^ k) i = true ↔ k = i := by
  rw [bit_eq, Nat.testBit_two_pow]; simp
theorem bit_zero (i : Nat) : bit 0 i = false := by rw [bit_eq]; simp
theorem befOf_cons (acc : List Nat) (e : Edge) (l : List Edge) : befOf acc (e :: l) = (match Region.binds .any e with
    | true => Nat.lor (Nat.lor (2 ^ e.on) (match nth acc e.on with | some b => b | none => 0)) (befOf acc l)
    | false => befOf acc l) := rfl
theorem bit_befOf (acc : List Nat) (j : Nat) : ∀ (l : List Edge), bit (befOf acc l) j = true → ∃ e ∈ l, Region.binds .any e = true ∧ (e.on = j ∨ ∃ b, acc[e.on]? = some b ∧ bit b j = true)
  | [], h => by
    have h' : bit 0 j = true := h
    rw [bit_zero] at h'; cases h'
  | e :: l, h => by
    rw [befOf_cons] at h
    cases hb : Region.binds .any e with
    | false =>
      simp only [hb] at h
      obtain ⟨e', h1, h2⟩ := bit_befOf acc j l h
      exact ⟨e', List.mem_cons_of_mem _ h1, h2⟩
    | true =>
      simp only [hb] at h
      rw [bit_or, bit_or, Bool.or_eq_true, Bool.or_eq_true] at h
      rcases h with (h | h) | h
      · exact ⟨e, List.mem_cons_self .., hb, .inl ((bit_pow _ _).1 h)⟩
      · rw [nth_eq] at h
        cases ha : acc[e.on]? with
        | none => simp only [ha] at h; rw [bit_zero] at h; cases h
        | some b => simp only [ha] at h; exact ⟨e, List.mem_cons_self .., hb, .inr ⟨b, ha, h⟩⟩
      · obtain ⟨e', h1, h2⟩ := bit_befOf acc j l h
        exact ⟨e', List.mem_cons_of_mem _ h1, h2⟩
theorem befs_cons (o : Oper) (l : List Oper) (acc : List Nat) : befs (o :: l) acc = befs l (app acc [befOf acc o.after.toList]) := rfl
theorem befs_spec : ∀ (l : List Oper) (acc : List Nat), (befs l acc).length = acc.length + l.length ∧ (befs l acc).take acc.length = acc ∧
    ∀ j o, l[j]? = some o → (befs l acc)[acc.length + j]? = some (befOf ((befs l acc).take (acc.length + j)) o.after.toList)
  | [], acc => ⟨by simp [befs], by simp [befs], fun j o h => by simp at h⟩
  | o :: l, acc => by
    have e : app acc [befOf acc o.after.toList] = acc ++ [befOf acc o.after.toList] := app_eq _ _
    obtain ⟨h1, h2, h3⟩ := befs_spec l (app acc [befOf acc o.after.toList])
    rw [befs_cons]
    generalize befs l (app acc [befOf acc o.after.toList]) = bs at h1 h2 h3
    rw [e] at h1 h2 h3
    simp only [List.length_append, List.length_cons, List.length_nil] at h1 h2 h3
    have ht : bs.take acc.length = acc := by
      have := congrArg (List.take acc.length) h2
      rw [List.take_take] at this
      simpa using this
    refine ⟨by simp; omega, ht, fun j o' hj => ?_⟩
    cases j with
    | zero =>
      simp at hj; subst hj
      have h4 : (bs.take (acc.length + (0 + 1)))[acc.length]? = some (befOf acc o.after.toList) := by rw [h2]; simp
      rw [List.getElem?_take] at h4
      simp at h4
      simp only [Nat.add_zero, ht]
      exact h4
    | succ j =>
      have := h3 j o' (by simpa using hj)
      have e2 : acc.length + (0 + 1) + j = acc.length + (j + 1) := by omega
      rw [e2] at this
      exact this
theorem edgeBack_mem (i : Nat) : ∀ (l : List Edge), edgeBack i l = true → ∀ e ∈ l, Region.binds .any e = true → e.on < i
  | [], _, e, he, _ => by simp at he
  | x :: l, h, e, he, hb => by
    have h' : (match Region.binds .any x with
      | true => (match Nat.blt x.on i with | true => edgeBack i l | false => false)
      | false => edgeBack i l) = true := h
    cases hx : Region.binds .any x with
    | true =>
      simp only [hx] at h'
      cases hl : Nat.blt x.on i with
      | false => simp [hl] at h'
      | true =>
        simp only [hl] at h'
        rcases List.mem_cons.1 he with rfl | he
        · exact blt_lt hl
        · exact edgeBack_mem i l h' e he hb
    | false =>
      simp only [hx] at h'
      rcases List.mem_cons.1 he with rfl | he
      · rw [hx] at hb; cases hb
      · exact edgeBack_mem i l h' e he hb
theorem edgesBack_get : ∀ (l : List Oper) (i : Nat), edgesBack l i = true → ∀ j o, l[j]? = some o → ∀ e ∈ o.after.toList, Region.binds .any e = true → e.on < i + j
  | [], _, _, j, o, h => by simp at h
  | x :: l, i, h, j, o, hj => by
    have h' : (match edgeBack i x.after.toList with | true => edgesBack l (i + 1) | false => false) = true := h
    cases hx : edgeBack i x.after.toList with
    | false => simp [hx] at h'
    | true =>
      simp only [hx] at h'
      cases j with
      | zero => simp at hj; subst hj; exact fun e he hb => edgeBack_mem i _ hx e he hb
      | succ j =>
        have := edgesBack_get l (i + 1) h' j o (by simpa using hj)
        exact fun e he hb => by have := this e he hb; omega

/- operations apart -/
theorem apartFrom_cons (ops : Array Oper) (i : Nat) (d : Option Nat) (looks : List Nat) (o : Oper) (l : List Oper) (bs : List Nat) (m : Nat) : apartFrom ops i d looks (o :: l) bs m = (match nth bs m with
    | some b => (match bit b i with
      | true => (match d, o.dst with | some t, some u => !(Nat.beq t u) | _, _ => true)
      | false => !(clash d looks o.dst) && !(clash o.dst (looksOf ops o) d)) && apartFrom ops i d looks l bs (m + 1)
    | none => false) := rfl
/-- what is known of two operations, i standing before j -/
def Apart (ops : Array Oper) (b : Nat) (i : Nat) (oi oj : Oper) : Prop :=
  (∀ t u, oi.dst = some t → oj.dst = some u → t ≠ u) ∧ (bit b i = false → (∀ t, oj.dst = some t → t ∉ looksOf ops oi) ∧ (∀ t, oi.dst = some t → t ∉ looksOf ops oj))
theorem clash_false {d d' : Option Nat} {looks : List Nat} (h : clash d looks d' = false) : (∀ t, d' = some t → d ≠ some t) ∧ ∀ t, d' = some t → t ∉ looks := by
  refine ⟨fun t ht hd => ?_, fun t ht hm => ?_⟩
  · subst ht; subst hd
    simp [clash] at h
  · subst ht
    have := (hasNat_iff t looks).2 hm
    simp [clash, this] at h
theorem apartFrom_get (ops : Array Oper) (i : Nat) (oi : Oper) (bs : List Nat) : ∀ (l : List Oper) (m : Nat), apartFrom ops i oi.dst (looksOf ops oi) l bs m = true →
    ∀ j oj, l[j]? = some oj → ∃ b, bs[m + j]? = some b ∧ Apart ops b i oi oj
  | [], _, _, j, oj, hj => by simp at hj
  | o :: l, m, h, j, oj, hj => by
    rw [apartFrom_cons, nth_eq] at h
    cases hb : bs[m]? with
    | none => simp [hb] at h
    | some b =>
      simp only [hb, Bool.and_eq_true] at h
      cases j with
      | succ j =>
        obtain ⟨b', h1, h2⟩ := apartFrom_get ops i oi bs l (m + 1) h.2 j oj (by simpa using hj)
        exact ⟨b', by rw [← h1]; congr 1; omega, h2⟩
      | zero =>
        simp at hj; subst hj
        refine ⟨b, hb, ?_⟩
        have h1 := h.1
        cases hbit : bit b i with
        | true =>
          simp only [hbit] at h1
          refine ⟨fun t u ht hu => ?_, fun hf => by rw [hbit] at hf; cases hf⟩
          simp only [ht, hu, Bool.not_eq_true'] at h1
          intro e; subst e
          simp at h1
        | false =>
          simp only [hbit, Bool.and_eq_true, Bool.not_eq_true'] at h1
          obtain ⟨c1, c2⟩ := clash_false h1.1
          obtain ⟨c3, c4⟩ := clash_false h1.2
          exact ⟨fun t u ht hu e => by subst e; exact c1 t hu ht, fun _ => ⟨c2, c4⟩⟩
theorem apartAll_cons (ops : Array Oper) (bs : List Nat) (o : Oper) (l : List Oper) (m : Nat) : apartAll ops bs (o :: l) m = (apartFrom ops m o.dst (looksOf ops o) l bs (m + 1) && apartAll ops bs l (m + 1)) := rfl
theorem apartAll_get (ops : Array Oper) (bs : List Nat) : ∀ (l : List Oper) (m : Nat), apartAll ops bs l m = true → ∀ i j oi oj, i < j → l[i]? = some oi → l[j]? = some oj →
    ∃ b, bs[m + j]? = some b ∧ Apart ops b (m + i) oi oj
  | [], _, _, i, j, oi, oj, _, hi, _ => by simp at hi
  | o :: l, m, h, i, j, oi, oj, hij, hi, hj => by
    rw [apartAll_cons, Bool.and_eq_true] at h
    cases j with
    | zero => omega
    | succ j =>
      cases i with
      | zero =>
        simp at hi; subst hi
        obtain ⟨b, h1, h2⟩ := apartFrom_get ops m o bs l (m + 1) h.1 j oj (by simpa using hj)
        exact ⟨b, by rw [← h1]; congr 1; omega, by simpa using h2⟩
      | succ i =>
        obtain ⟨b, h1, h2⟩ := apartAll_get ops bs l (m + 1) h.2 i j oi oj (by omega) (by simpa using hi) (by simpa using hj)
        refine ⟨b, by rw [← h1]; congr 1; omega, ?_⟩
        have e : m + (i + 1) = m + 1 + i := by omega
        rw [e]; exact h2

/- merged memories -/
noncomputable def mergeS (S : Nat → Bool) (H : Heap) (pend : List Pend) : Heap :=
  List.rec H (fun q _ ih => match q with
    | .mk i p o => (match S i with
      | true => (match Tr.get p ih with | none => Tr.set p o ih | some _ => ih)
      | false => ih)) pend
theorem merge_eq (bef : Nat) (H : Heap) (pend : List Pend) : merge bef H pend = mergeS (bit bef) H pend := rfl
theorem mergeAll_eq (H : Heap) : ∀ (pend : List Pend), mergeAll H pend = mergeS (fun _ => true) H pend
  | [] => rfl
  | .mk i p o :: t => by
    have ih := mergeAll_eq H t
    show (match Tr.get p (mergeAll H t) with | none => Tr.set p o (mergeAll H t) | some _ => mergeAll H t) = _
    rw [ih]; rfl
def pget (S : Nat → Bool) (p : Pth) : List Pend → Option O
  | [] => none
  | .mk i p' o :: t => match pget S p t with
    | some x => some x
    | none => match S i, p'.beq p with | true, true => some o | _, _ => none
theorem mergeS_get (S : Nat → Bool) (H : Heap) (p : Pth) : ∀ (pend : List Pend), (mergeS S H pend).get p = match H.get p with | some o => some o | none => pget S p pend
  | [] => by
    show H.get p = _
    cases H.get p <;> rfl
  | .mk i p' o :: t => by
    have ih := mergeS_get S H p t
    show Tr.get p (match S i with
      | true => (match Tr.get p' (mergeS S H t) with | none => Tr.set p' o (mergeS S H t) | some _ => mergeS S H t)
      | false => mergeS S H t) = _
    cases hs : S i with
    | false =>
      simp only [ih, pget, hs]
      cases H.get p with
      | some x => rfl
      | none => cases pget S p t <;> rfl
    | true =>
      cases hp : Tr.get p' (mergeS S H t) with
      | none =>
        simp only
        rw [Tr.get_set]
        by_cases e : p' = p
        · subst e
          rw [if_pos rfl]
          rw [hp] at ih
          cases hh : H.get p' with
          | some x => rw [hh] at ih; cases ih
          | none =>
            rw [hh] at ih
            simp only at ih ⊢
            simp only [pget, ← ih, hs, (Pth.beq_iff p' p').2 rfl]
        · rw [if_neg e, ih]
          have hb : p'.beq p = false := by
            cases hb : p'.beq p with
            | false => rfl
            | true => exact absurd ((Pth.beq_iff p' p).1 hb) e
          cases H.get p with
          | some x => rfl
          | none =>
            simp only [pget, hb]
            cases pget S p t with
            | some x => rfl
            | none => cases S i <;> rfl
      | some y =>
        simp only
        rw [ih]
        cases hh : H.get p with
        | some x => rfl
        | none =>
          simp only [pget, hs]
          cases hg : pget S p t with
          | some x => rfl
          | none =>
            simp only
            cases hb : p'.beq p with
            | false => rfl
            | true =>
              have := (Pth.beq_iff p' p).1 hb
              subst this
              rw [hp, hh, hg] at ih
              cases ih
theorem pget_mem {S : Nat → Bool} {p : Pth} {o : O} : ∀ {pend : List Pend}, pget S p pend = some o → ∃ i, Pend.mk i p o ∈ pend ∧ S i = true
  | [], h => by cases h
  | .mk i p' o' :: t, h => by
    simp only [pget] at h
    cases hg : pget S p t with
    | some x =>
      rw [hg] at h; cases h
      obtain ⟨j, h1, h2⟩ := pget_mem hg
      exact ⟨j, List.mem_cons_of_mem _ h1, h2⟩
    | none =>
      rw [hg] at h
      cases hs : S i <;> cases hb : p'.beq p <;> simp only [hs, hb] at h <;> try (cases h; done)
      cases h
      have := (Pth.beq_iff p' p).1 hb
      subst this
      exact ⟨i, List.mem_cons_self .., hs⟩
/-- the names are different ones -/
def Names : List Pend → Prop
  | [] => True
  | .mk _ p _ :: t => (∀ i o, Pend.mk i p o ∉ t) ∧ Names t
theorem pget_of_mem {S : Nat → Bool} {p : Pth} {o : O} {i : Nat} : ∀ {pend : List Pend}, Names pend → Pend.mk i p o ∈ pend → S i = true → pget S p pend = some o
  | [], _, h, _ => by simp at h
  | .mk j q x :: t, hn, h, hs => by
    obtain ⟨h1, h2⟩ := hn
    rcases List.mem_cons.1 h with e | h
    · cases e
      have hnone : pget S p t = none := by
        cases hg : pget S p t with
        | none => rfl
        | some y =>
          obtain ⟨k, hk, _⟩ := pget_mem hg
          exact absurd hk (h1 k y)
      simp only [pget, hnone, hs, (Pth.beq_iff p p).2 rfl]
    · simp only [pget, pget_of_mem h2 h hs]
theorem names_unique {i j : Nat} {p : Pth} {o o' : O} : ∀ {pend : List Pend}, Names pend → Pend.mk i p o ∈ pend → Pend.mk j p o' ∈ pend → i = j ∧ o = o'
  | [], _, h, _ => by simp at h
  | .mk k q x :: t, hn, ha, hb => by
    obtain ⟨h1, h2⟩ := hn
    rcases List.mem_cons.1 ha with e | h
    · cases e
      rcases List.mem_cons.1 hb with e | h'
      · cases e; exact ⟨rfl, rfl⟩
      · exact absurd h' (h1 j o')
    · rcases List.mem_cons.1 hb with e | h'
      · cases e; exact absurd h (h1 i o)
      · exact names_unique h2 h h'
theorem merge_sub {S T : Nat → Bool} {H : Heap} {pd pend : List Pend} (hST : ∀ i, T i = true → S i = true) (hpd : ∀ q, q ∈ pd → q ∈ pend) (hn : Names pend) : Sub (mergeS T H pd) (mergeS S H pend) := by
  intro p o hp
  rw [mergeS_get] at hp ⊢
  cases h : H.get p with
  | some x => rw [h] at hp; exact hp
  | none =>
    rw [h] at hp
    obtain ⟨i, h1, h2⟩ := pget_mem hp
    exact pget_of_mem hn (hpd _ h1) (hST i h2)
end
end Go.Ev
/-
  A verified evaluator, part 26: a region that draws its order: what its evaluation in the text's order has shown.
-/
namespace Go.Ev
noncomputable section
open Go

section
variable {P : Program} {Γ : Glo} {cal : Cal} {R : Regs} {H : Heap} {n : Pth} {L : List V} {v : V} {i : I} {bef : Nat} {pend : List Pend}

theorem was_get {ℓ : Nat} {h : Heap} : ∀ {past : List Past}, was cal Γ R n i L v bef pend past = true → past.Pairwise (fun a b => match a, b with | .mk x _, .mk y _ => y < x) → Past.mk ℓ h ∈ past →
    (∀ ℓ' h', Past.mk ℓ' h' ∈ past → ℓ ≤ ℓ' → bit bef ℓ' = false) → ∃ H' n', evI i cal Γ L R (merge bef h pend) n = .ok v H' n'
  | [], _, _, hm, _ => by simp at hm
  | .mk x hx :: past, hw, hp, hm, hb => by
    have hw' : (match bit bef x with
      | true => true
      | false => (match evI i cal Γ L R (merge bef hx pend) n with
        | .ok v' _ _ => (match veq 100 v v' with | true => was cal Γ R n i L v bef pend past | false => false)
        | .bad => false)) = true := hw
    have hle : ℓ ≤ x := by
      rcases List.mem_cons.1 hm with e | hm'
      · cases e; exact Nat.le_refl _
      · have := (List.pairwise_cons.1 hp).1 _ hm'
        exact Nat.le_of_lt this
    have hbx := hb x hx (List.mem_cons_self ..) hle
    simp only [hbx] at hw'
    cases he : evI i cal Γ L R (merge bef hx pend) n with
    | bad => simp [he] at hw'
    | ok v' H' n' =>
      simp only [he] at hw'
      cases hv : veq 100 v v' with
      | false => simp [hv] at hw'
      | true =>
        simp only [hv] at hw'
        have hv' := veq_eq 100 v v' hv
        subst hv'
        rcases List.mem_cons.1 hm with e | hm'
        · cases e; exact ⟨H', n', he⟩
        · exact was_get hw' (List.pairwise_cons.1 hp).2 hm' fun ℓ' h' hm2 hl => hb ℓ' h' (List.mem_cons_of_mem _ hm2) hl
theorem stays_get {x : Nat} {b : Nat} : ∀ {calms : List Calm}, stays cal Γ R n bef H pend calms = true → Calm.mk x i L v b ∈ calms → bit bef x = false → ∃ H' n', evI i cal Γ L R (merge b H pend) n = .ok v H' n'
  | [], _, hm, _ => by simp at hm
  | .mk y j L' u c :: calms, hs, hm, hb => by
    have hs' : (match bit bef y with
      | true => stays cal Γ R n bef H pend calms
      | false => (match evI j cal Γ L' R (merge c H pend) n with
        | .ok v' _ _ => (match veq 100 u v' with | true => stays cal Γ R n bef H pend calms | false => false)
        | .bad => false)) = true := hs
    rcases List.mem_cons.1 hm with e | hm'
    · cases e
      simp only [hb] at hs'
      cases he : evI i cal Γ L R (merge b H pend) n with
      | bad => simp [he] at hs'
      | ok v' H' n' =>
        simp only [he] at hs'
        cases hv : veq 100 v v' with
        | false => simp [hv] at hs'
        | true => rw [← veq_eq 100 v v' hv] ; exact ⟨H', n', rfl⟩
    · refine stays_get ?_ hm' hb
      cases hy : bit bef y with
      | true => simp only [hy] at hs'; exact hs'
      | false =>
        simp only [hy] at hs'
        cases he : evI j cal Γ L' R (merge c H pend) n with
        | bad => simp [he] at hs'
        | ok v' H' n' =>
          simp only [he] at hs'
          cases hv : veq 100 u v' with
          | false => simp [hv] at hs'
          | true => simp only [hv] at hs'; exact hs'
theorem absent_get {x : Nat} {p : Pth} {o : O} : ∀ {pend : List Pend}, absent bef H pend = true → Pend.mk x p o ∈ pend → bit bef x = false → H.get p = none
  | [], _, hm, _ => by simp at hm
  | .mk y q u :: pend, hs, hm, hb => by
    have hs' : (match bit bef y with
      | true => absent bef H pend
      | false => (match H.get q with | none => absent bef H pend | some _ => false)) = true := hs
    rcases List.mem_cons.1 hm with e | hm'
    · cases e
      simp only [hb] at hs'
      cases hq : H.get p with
      | none => rfl
      | some z => simp [hq] at hs'
    · refine absent_get ?_ hm' hb
      cases hy : bit bef y with
      | true => simp only [hy] at hs'; exact hs'
      | false =>
        simp only [hy] at hs'
        cases hq : H.get q with
        | none => simp only [hq] at hs'; exact hs'
        | some z => simp [hq] at hs'
theorem allIn_get {x : Nat} {h : Heap} : ∀ {past : List Past}, allIn bef past = true → Past.mk x h ∈ past → bit bef x = true
  | [], _, hm => by simp at hm
  | .mk y q :: past, hs, hm => by
    have hs' : (match bit bef y with | true => allIn bef past | false => false) = true := hs
    cases hy : bit bef y with
    | false => simp [hy] at hs'
    | true =>
      simp only [hy] at hs'
      rcases List.mem_cons.1 hm with e | hm'
      · cases e; exact hy
      · exact allIn_get hs' hm'
theorem newName_get {x : Nat} {p : Pth} {o : O} : ∀ {pend : List Pend}, newName n pend = true → Pend.mk x p o ∈ pend → p ≠ n
  | [], _, hm => by simp at hm
  | .mk y q u :: pend, hs, hm => by
    have hs' : (match q.beq n with | true => false | false => newName n pend) = true := hs
    cases hq : q.beq n with
    | true => simp [hq] at hs'
    | false =>
      simp only [hq] at hs'
      rcases List.mem_cons.1 hm with e | hm'
      · cases e
        intro e2
        rw [(Pth.beq_iff p n).2 e2] at hq; cases hq
      · exact newName_get hs' hm'
end

/-- one operation of the region, evaluated where it stands -/
def DStep (P : Program) (Γ : Glo) (cal : Cal) (R : Regs) (D : Nat → List (Option Nat)) (bs : Nat → Nat) (L : Nat → List V) (H : Nat → Heap) (n : Nat → Pth) (pa : Nat → List Past) (ca : Nat → List Calm) (pe : Nat → List Pend)
    (i : Nat) (o : Oper) (b : Bool) (v : V) : Prop :=
  (b = false ∧ v = .tup [] ∧ H (i + 1) = H i ∧ pa (i + 1) = pa i ∧ ca (i + 1) = ca i ∧ pe (i + 1) = pe i) ∨
  (b = true ∧ clsOf (opI P (rs (D i)) o.op) = .pure ∧ (∃ H' n', evI (opI P (rs (D i)) o.op) cal Γ (L i) R (H i) (n i) = .ok v H' n') ∧ H (i + 1) = H i ∧ pa (i + 1) = pa i ∧ ca (i + 1) = ca i ∧ pe (i + 1) = pe i) ∨
  (b = true ∧ clsOf (opI P (rs (D i)) o.op) = .calm ∧ (∃ H' n', evI (opI P (rs (D i)) o.op) cal Γ (L i) R (merge (bs i) (H i) (pe i)) (n i) = .ok v H' n') ∧
    was cal Γ R (n i) (opI P (rs (D i)) o.op) (L i) v (bs i) (pe i) (pa i) = true ∧ H (i + 1) = H i ∧ pa (i + 1) = pa i ∧ ca (i + 1) = .mk i (opI P (rs (D i)) o.op) (L i) v (bs i) :: ca i ∧ pe (i + 1) = pe i) ∨
  (b = true ∧ clsOf (opI P (rs (D i)) o.op) = .float ∧ (∃ f ob, opI P (rs (D i)) o.op = .new f ∧ evF f (L i) R (n i) = some (v, ob) ∧ (H i).get (n i) = none ∧ newName (n i) (pe i) = true ∧ pe (i + 1) = .mk i (n i) ob :: pe i) ∧
    H (i + 1) = H i ∧ pa (i + 1) = pa i ∧ ca (i + 1) = ca i) ∨
  (b = true ∧ clsOf (opI P (rs (D i)) o.op) = .loud ∧ allIn (bs i) (pa i) = true ∧ (∃ n', evI (opI P (rs (D i)) o.op) cal Γ (L i) R (merge (bs i) (H i) (pe i)) (n i) = .ok v (H (i + 1)) n') ∧
    absent (bs i) (H (i + 1)) (pe i) = true ∧ stays cal Γ R (n i) (bs i) (H (i + 1)) (pe i) (ca i) = true ∧ pa (i + 1) = .mk i (H i) :: pa i ∧ ca (i + 1) = ca i ∧ pe (i + 1) = pe i)
structure DRun (P : Program) (Γ : Glo) (cal : Cal) (R : Regs) (ops : Array Oper) (D : Nat → List (Option Nat)) (bs : Nat → Nat) (L : Nat → List V) (H : Nat → Heap) (n : Nat → Pth) (pa : Nat → List Past) (ca : Nat → List Calm) (pe : Nat → List Pend) : Prop where
  step : ∀ i o, ops[i]? = some o → ∃ g b v, guardI ops (D i) i o.guard = some g ∧ met g (L i) = some b ∧ L (i + 1) = v :: L i ∧ DStep P Γ cal R D bs L H n pa ca pe i o b v
  L0 : L 0 = []
  pa0 : pa 0 = []
  ca0 : ca 0 = []
  pe0 : pe 0 = []

def DOut.L : DOut → List V | .ok L _ _ _ _ _ => L | .bad => []
noncomputable def DOut.H : DOut → Heap | .ok _ H _ _ _ _ => H | .bad => .nil
def DOut.n : DOut → Pth | .ok _ _ n _ _ _ => n | .bad => .e
def DOut.pa : DOut → List Past | .ok _ _ _ p _ _ => p | .bad => []
def DOut.ca : DOut → List Calm | .ok _ _ _ _ c _ => c | .bad => []
def DOut.pe : DOut → List Pend | .ok _ _ _ _ _ p => p | .bad => []
section
variable {P : Program} {Γ : Glo} {cal : Cal} {R : Regs} {ops : Array Oper}
theorem evDs_cons (o : DOp) (l : List DOp) (idx : Nat) (L : List V) (H : Heap) (n : Pth) (pa : List Past) (ca : List Calm) (pe : List Pend) : evDs cal Γ R (o :: l) idx L H n pa ca pe = (match evDOp cal Γ R idx o L H n pa ca pe with
      | .ok L' H' n' past' calms' pend' => evDs cal Γ R l (Nat.succ idx) L' H' n' past' calms' pend'
      | .bad => .bad) := rfl
theorem evDs_append (o : DOp) : ∀ (l : List DOp) (idx : Nat) (L : List V) (H : Heap) (n : Pth) (pa : List Past) (ca : List Calm) (pe : List Pend), evDs cal Γ R (l ++ [o]) idx L H n pa ca pe =
    (match evDs cal Γ R l idx L H n pa ca pe with
      | .ok L' H' n' pa' ca' pe' => evDOp cal Γ R (idx + l.length) o L' H' n' pa' ca' pe'
      | .bad => .bad)
  | [], idx, L, H, n, pa, ca, pe => by
    show (match evDOp cal Γ R idx o L H n pa ca pe with | .ok L' H' n' pa' ca' pe' => DOut.ok L' H' n' pa' ca' pe' | .bad => .bad) = evDOp cal Γ R idx o L H n pa ca pe
    cases evDOp cal Γ R idx o L H n pa ca pe <;> rfl
  | x :: l, idx, L, H, n, pa, ca, pe => by
    rw [List.cons_append, evDs_cons, evDs_cons]
    cases evDOp cal Γ R idx x L H n pa ca pe with
    | bad => rfl
    | ok L' H' n' pa' ca' pe' =>
      simp only
      rw [evDs_append o l]
      have : Nat.succ idx + l.length = idx + (x :: l).length := by simp; omega
      rw [this]
theorem dopsIR_cons (o : Oper) (l : List Oper) (bs : List Nat) (D : List (Option Nat)) (m : Nat) : dopsIR P ops (o :: l) bs D m = (match guardI ops D m o.guard, nth bs m with
    | some g, some b => .mk g (opI P (rs D) o.op) (clsOf (opI P (rs D) o.op)) b
    | _, _ => .mk none .bad .loud 0) :: dopsIR P ops l bs (o.dst :: D) (m + 1) := rfl
theorem dopsIR_length (bs : List Nat) : ∀ (l : List Oper) (D : List (Option Nat)) (m : Nat), (dopsIR P ops l bs D m).length = l.length
  | [], _, _ => rfl
  | o :: l, D, m => by rw [dopsIR_cons, List.length_cons, dopsIR_length bs l, List.length_cons]
theorem dstsOf_cons (o : Oper) (l : List Oper) (D : List (Option Nat)) : dstsOf (o :: l) D = dstsOf l (o.dst :: D) := rfl
theorem dopsIR_get (bs : List Nat) : ∀ (l : List Oper) (D : List (Option Nat)) (m j : Nat) (o : Oper), l[j]? = some o → (dopsIR P ops l bs D m)[j]? = some (match guardI ops (dstsOf (l.take j) D) (m + j) o.guard, nth bs (m + j) with
    | some g, some b => .mk g (opI P (rs (dstsOf (l.take j) D)) o.op) (clsOf (opI P (rs (dstsOf (l.take j) D)) o.op)) b
    | _, _ => .mk none .bad .loud 0)
  | [], _, _, j, o, h => by simp at h
  | x :: l, D, m, j, o, h => by
    rw [dopsIR_cons]
    cases j with
    | zero => simp at h; subst h; rfl
    | succ j =>
      have ih := dopsIR_get bs l (x.dst :: D) (m + 1) j o (by simpa using h)
      have e : m + 1 + j = m + (j + 1) := by omega
      rw [e] at ih
      rw [List.getElem?_cons_succ, List.take_succ_cons, dstsOf_cons]
      exact ih
theorem take_succ_of {α : Type} {l : List α} {i : Nat} {x : α} (h : l[i]? = some x) : l.take (i + 1) = l.take i ++ [x] := by
  rw [List.take_add_one, h]; rfl
/-- the region's evaluation, operation by operation -/
theorem run_of {H0 : Heap} {n0 : Pth} {LM : List V} {HM : Heap} {nM : Pth} {paM : List Past} {caM : List Calm} {peM : List Pend}
    (h : evDs cal Γ R (dopsIR P ops ops.toList (befs ops.toList []) [] 0) 0 [] H0 n0 [] [] [] = .ok LM HM nM paM caM peM) :
    ∃ (L : Nat → List V) (H : Nat → Heap) (n : Nat → Pth) (pa : Nat → List Past) (ca : Nat → List Calm) (pe : Nat → List Pend), H 0 = H0 ∧ L ops.size = LM ∧ H ops.size = HM ∧ pe ops.size = peM ∧
      DRun P Γ cal R ops (fun i => dstsOf (ops.toList.take i) []) (fun i => ((befs ops.toList [])[i]?).getD 0) L H n pa ca pe := by
  let dops := dopsIR P ops ops.toList (befs ops.toList []) [] 0
  have hlen : dops.length = ops.size := by show (dopsIR P ops ops.toList (befs ops.toList []) [] 0).length = _; rw [dopsIR_length]; simp
  let at' : Nat → DOut := fun i => evDs cal Γ R (dops.take i) 0 [] H0 n0 [] [] []
  have hM : at' ops.size = .ok LM HM nM paM caM peM := by
    show evDs cal Γ R (dops.take ops.size) 0 [] H0 n0 [] [] [] = _
    rw [← hlen, List.take_length]; exact h
  have hstep : ∀ i d, dops[i]? = some d → at' (i + 1) = (match at' i with | .ok L' H' n' pa' ca' pe' => evDOp cal Γ R i d L' H' n' pa' ca' pe' | .bad => .bad) := by
    intro i d hd
    show evDs cal Γ R (dops.take (i + 1)) 0 [] H0 n0 [] [] [] = _
    rw [take_succ_of hd, evDs_append]
    have hi : i < dops.length := (List.getElem?_eq_some_iff.1 hd).1
    have : 0 + (dops.take i).length = i := by simp; omega
    rw [this]
  have hok : ∀ k i, i + k = ops.size → at' i ≠ .bad := by
    intro k
    induction k with
    | zero => intro i hi hb; rw [Nat.add_zero] at hi; subst hi; rw [hM] at hb; cases hb
    | succ k ih =>
      intro i hi hb
      have hlt : i < dops.length := by omega
      have := hstep i dops[i] (by simp [hlt])
      rw [hb] at this
      exact ih (i + 1) (by omega) this
  refine ⟨fun i => (at' i).L, fun i => (at' i).H, fun i => (at' i).n, fun i => (at' i).pa, fun i => (at' i).ca, fun i => (at' i).pe, rfl, by show (at' _).L = _; rw [hM]; rfl, by show (at' _).H = _; rw [hM]; rfl,
    by show (at' _).pe = _; rw [hM]; rfl, ⟨fun i o ho => ?_, rfl, rfl, rfl, rfl⟩⟩
  have hlt : i < ops.size := (Array.getElem?_eq_some_iff.1 ho).1
  have hol : ops.toList[i]? = some o := by simpa using ho
  have hd := dopsIR_get (P := P) (ops := ops) (befs ops.toList []) ops.toList [] 0 i o hol
  rw [Nat.zero_add] at hd
  have hs := hstep i _ hd
  have hn1 := hok (ops.size - i) i (by omega)
  have hn2 := hok (ops.size - (i + 1)) (i + 1) (by omega)
  show ∃ g b v, guardI ops (dstsOf (ops.toList.take i) []) i o.guard = some g ∧ met g (at' i).L = some b ∧ (at' (i + 1)).L = v :: (at' i).L ∧
    DStep P Γ cal R (fun i => dstsOf (ops.toList.take i) []) (fun i => ((befs ops.toList [])[i]?).getD 0) (fun i => (at' i).L) (fun i => (at' i).H) (fun i => (at' i).n) (fun i => (at' i).pa) (fun i => (at' i).ca) (fun i => (at' i).pe) i o b v
  unfold DStep
  simp only
  cases e1 : at' i with
  | bad => exact absurd e1 hn1
  | ok L H n pa ca pe =>
    rw [e1] at hs
    simp only at hs
    rw [hs]
    rw [hs] at hn2
    cases hg : guardI ops (dstsOf (ops.toList.take i) []) i o.guard with
    | none =>
      exfalso
      simp only [hg] at hn2
      apply hn2
      show (match allIn 0 pa with | true => DOut.bad | false => DOut.bad) = DOut.bad
      cases allIn 0 pa <;> rfl
    | some g =>
      rw [nth_eq] at hs hn2 ⊢
      cases hb : (befs ops.toList [])[i]? with
      | none =>
        exfalso
        simp only [hg, hb] at hn2
        apply hn2
        show (match allIn 0 pa with | true => DOut.bad | false => DOut.bad) = DOut.bad
        cases allIn 0 pa <;> rfl
      | some b =>
        simp only [hg, hb, Option.getD_some] at hn2 ⊢
        unfold evDOp at hn2 ⊢
        simp only at hn2 ⊢
        cases hm : met g L with
        | none => simp only [hm] at hn2; exact absurd rfl hn2
        | some t =>
          cases t with
          | false =>
            refine ⟨g, false, .tup [], rfl, hm, rfl, .inl ⟨rfl, rfl, rfl, rfl, rfl, rfl⟩⟩
          | true =>
            simp only [hm] at hn2 ⊢
            unfold evD1 at hn2 ⊢
            cases hc : clsOf (opI P (rs (dstsOf (ops.toList.take i) [])) o.op) with
            | pure =>
              simp only [hc] at hn2 ⊢
              cases he : evI (opI P (rs (dstsOf (ops.toList.take i) [])) o.op) cal Γ L R H n with
              | bad => simp only [he] at hn2; exact absurd rfl hn2
              | ok v H' n' => exact ⟨g, true, v, rfl, hm, rfl, .inr (.inl ⟨rfl, trivial, ⟨H', n', he⟩, rfl, rfl, rfl, rfl⟩)⟩
            | calm =>
              simp only [hc] at hn2 ⊢
              cases he : evI (opI P (rs (dstsOf (ops.toList.take i) [])) o.op) cal Γ L R (merge b H pe) n with
              | bad => simp only [he] at hn2; exact absurd rfl hn2
              | ok v H' n' =>
                simp only [he] at hn2 ⊢
                cases hw : was cal Γ R n (opI P (rs (dstsOf (ops.toList.take i) [])) o.op) L v b pe pa with
                | false => simp only [hw] at hn2; exact absurd rfl hn2
                | true => exact ⟨g, true, v, rfl, hm, rfl, .inr (.inr (.inl ⟨rfl, trivial, ⟨H', n', he⟩, hw, rfl, rfl, rfl, rfl⟩))⟩
            | float =>
              simp only [hc] at hn2 ⊢
              obtain ⟨f, hf⟩ := float_ok hc
              rw [hf] at hn2 ⊢
              simp only at hn2 ⊢
              cases he : evF f L R n with
              | none => simp only [he] at hn2; exact absurd rfl hn2
              | some vo =>
                obtain ⟨v, ob⟩ := vo
                simp only [he] at hn2 ⊢
                cases hh : H.get n with
                | some q => simp only [hh] at hn2; exact absurd rfl hn2
                | none =>
                  cases hw : newName n pe with
                  | false => simp only [hh, hw] at hn2; exact absurd rfl hn2
                  | true =>
                    exact ⟨g, true, v, rfl, hm, rfl, .inr (.inr (.inr (.inl ⟨rfl, trivial, ⟨f, ob, rfl, he, hh, hw, rfl⟩, rfl, rfl, rfl⟩)))⟩
            | loud =>
              simp only [hc] at hn2 ⊢
              cases ha : allIn b pa with
              | false => simp only [ha] at hn2; exact absurd rfl hn2
              | true =>
                simp only [ha] at hn2 ⊢
                cases he : evI (opI P (rs (dstsOf (ops.toList.take i) [])) o.op) cal Γ L R (merge b H pe) n with
                | bad => simp only [he] at hn2; exact absurd rfl hn2
                | ok v H' n' =>
                  simp only [he] at hn2 ⊢
                  cases hab : absent b H' pe with
                  | false => simp only [hab] at hn2; exact absurd rfl hn2
                  | true =>
                    cases hst : stays cal Γ R n b H' pe ca with
                    | false => simp only [hab, hst] at hn2; exact absurd rfl hn2
                    | true => exact ⟨g, true, v, rfl, hm, rfl, .inr (.inr (.inr (.inr ⟨rfl, trivial, ha, ⟨n', he⟩, hab, hst, rfl, rfl, rfl⟩)))⟩
end
end
end Go.Ev
/-
  A verified evaluator, part 27: a region that draws its order: facts of its evaluation in the text's order.
-/
namespace Go.Ev
noncomputable section
open Go

def Past.idx : Past → Nat | .mk i _ => i
section
variable {P : Program} {Γ : Glo} {cal : Cal} {R : Regs} {ops : Array Oper} {D : Nat → List (Option Nat)} {bs : Nat → Nat} {L : Nat → List V} {H : Nat → Heap} {n : Nat → Pth} {pa : Nat → List Past} {ca : Nat → List Calm} {pe : Nat → List Pend}

/-- the value of operation j -/
def val (L : Nat → List V) (j : Nat) : V := ((L (j + 1))[0]?).getD .unk
/-- operation i has been done, and it is loud -/
def LoudEx (H : Nat → Heap) (pa : Nat → List Past) (i : Nat) : Prop := Past.mk i (H i) ∈ pa (i + 1)

theorem DRun.op (i : Nat) (hi : i < ops.size) : ∃ o, ops[i]? = some o := ⟨ops[i], by simp [hi]⟩
theorem DRun.L_cons (d : DRun P Γ cal R ops D bs L H n pa ca pe) {i : Nat} (hi : i < ops.size) : L (i + 1) = val L i :: L i := by
  obtain ⟨o, ho⟩ := DRun.op i hi
  obtain ⟨g, b, v, _, _, hL, _⟩ := d.step i o ho
  have : val L i = v := by unfold val; rw [hL]; rfl
  rw [this]; exact hL
theorem DRun.L_get (d : DRun P Γ cal R ops D bs L H n pa ca pe) : ∀ (i : Nat), i ≤ ops.size → (L i).length = i ∧ ∀ j, j < i → (L i)[i - 1 - j]? = some (val L j)
  | 0, _ => ⟨by rw [d.L0]; rfl, fun j hj => by omega⟩
  | i + 1, hi => by
    obtain ⟨h1, h2⟩ := d.L_get i (by omega)
    rw [d.L_cons (by omega)]
    refine ⟨by simp [h1], fun j hj => ?_⟩
    by_cases e : j = i
    · subst e; simp
    · have := h2 j (by omega)
      have e2 : i + 1 - 1 - j = (i - 1 - j) + 1 := by omega
      rw [e2, List.getElem?_cons_succ]; exact this
theorem merge_mono (S : Nat → Bool) (A : Heap) (pend : List Pend) : Mono A (mergeS S A pend) := fun p hp => by
  rw [mergeS_get]
  cases h : A.get p with
  | none => exact absurd h hp
  | some o => simp
/-- each step: the memory, the past, what is pending -/
theorem DRun.cases (d : DRun P Γ cal R ops D bs L H n pa ca pe) {i : Nat} (hi : i < ops.size) :
    (H (i + 1) = H i ∧ pa (i + 1) = pa i) ∨ (∃ o, ops[i]? = some o ∧ clsOf (opI P (rs (D i)) o.op) = .loud ∧ allIn (bs i) (pa i) = true ∧ (∃ n', evI (opI P (rs (D i)) o.op) cal Γ (L i) R (merge (bs i) (H i) (pe i)) (n i) = .ok (val L i) (H (i + 1)) n') ∧
      absent (bs i) (H (i + 1)) (pe i) = true ∧ stays cal Γ R (n i) (bs i) (H (i + 1)) (pe i) (ca i) = true ∧ pa (i + 1) = .mk i (H i) :: pa i ∧ ca (i + 1) = ca i ∧ pe (i + 1) = pe i) := by
  obtain ⟨o, ho⟩ := DRun.op i hi
  obtain ⟨g, b, v, _, _, hL, hd⟩ := d.step i o ho
  have hv : val L i = v := by unfold val; rw [hL]; rfl
  rcases hd with ⟨_, _, h1, h2, _⟩ | ⟨_, _, _, h1, h2, _⟩ | ⟨_, _, _, _, h1, h2, _⟩ | ⟨_, _, _, h1, h2, _⟩ | ⟨_, h1, h2, h3, h4⟩
  · exact .inl ⟨h1, h2⟩
  · exact .inl ⟨h1, h2⟩
  · exact .inl ⟨h1, h2⟩
  · exact .inl ⟨h1, h2⟩
  · exact .inr ⟨o, ho, h1, h2, by rw [hv]; exact h3, h4⟩
theorem DRun.pe_cases (d : DRun P Γ cal R ops D bs L H n pa ca pe) {i : Nat} (hi : i < ops.size) :
    pe (i + 1) = pe i ∨ ∃ o f ob, ops[i]? = some o ∧ opI P (rs (D i)) o.op = .new f ∧ evF f (L i) R (n i) = some (val L i, ob) ∧ (H i).get (n i) = none ∧ newName (n i) (pe i) = true ∧ pe (i + 1) = .mk i (n i) ob :: pe i ∧ H (i + 1) = H i ∧ pa (i + 1) = pa i := by
  obtain ⟨o, ho⟩ := DRun.op i hi
  obtain ⟨g, b, v, _, _, hL, hd⟩ := d.step i o ho
  have hv : val L i = v := by unfold val; rw [hL]; rfl
  rcases hd with ⟨_, _, _, _, _, h⟩ | ⟨_, _, _, _, _, _, h⟩ | ⟨_, _, _, _, _, _, _, h⟩ | ⟨_, _, ⟨f, ob, h1, h2, h3, h4, h5⟩, h6, h7, _⟩ | ⟨_, _, _, _, _, _, _, _, h⟩
  · exact .inl h
  · exact .inl h
  · exact .inl h
  · exact .inr ⟨o, f, ob, ho, h1, by rw [hv]; exact h2, h3, h4, h5, h6, h7⟩
  · exact .inl h
theorem DRun.mono1 (k : CalOK P Γ cal) (d : DRun P Γ cal R ops D bs L H n pa ca pe) {i : Nat} (hi : i < ops.size) : Mono (H i) (H (i + 1)) := by
  rcases d.cases hi with ⟨h, _⟩ | ⟨o, _, _, _, ⟨n', he⟩, _⟩
  · rw [h]; exact Mono.refl _
  · exact (merge_mono _ _ _).trans (evI_mono k _ he)
theorem DRun.mono (k : CalOK P Γ cal) (d : DRun P Γ cal R ops D bs L H n pa ca pe) : ∀ (c i : Nat), i + c ≤ ops.size → Mono (H i) (H (i + c))
  | 0, i, _ => Mono.refl _
  | c + 1, i, h => (d.mono k c i (by omega)).trans (by rw [← Nat.add_assoc]; exact d.mono1 k (by omega))
theorem DRun.mono' (k : CalOK P Γ cal) (d : DRun P Γ cal R ops D bs L H n pa ca pe) {i j : Nat} (hij : i ≤ j) (hj : j ≤ ops.size) : Mono (H i) (H j) := by
  have := d.mono k (j - i) i (by omega)
  rwa [Nat.add_sub_cancel' hij] at this
theorem DRun.pa_spec (d : DRun P Γ cal R ops D bs L H n pa ca pe) : ∀ (i : Nat), i ≤ ops.size → (pa i).Pairwise (fun a b => match a, b with | .mk x _, .mk y _ => y < x) ∧ ∀ ℓ h, Past.mk ℓ h ∈ pa i → ℓ < i ∧ h = H ℓ ∧ LoudEx H pa ℓ
  | 0, _ => by rw [d.pa0]; exact ⟨List.Pairwise.nil, fun ℓ h hm => by simp at hm⟩
  | i + 1, hi => by
    obtain ⟨h1, h2⟩ := d.pa_spec i (by omega)
    rcases d.cases (i := i) (by omega) with ⟨_, e⟩ | ⟨o, _, _, _, _, _, _, e, _⟩
    · rw [e]
      exact ⟨h1, fun ℓ h hm => let ⟨a, b⟩ := h2 ℓ h hm; ⟨by omega, b⟩⟩
    · have hl : LoudEx H pa i := by unfold LoudEx; rw [e]; exact List.mem_cons_self ..
      rw [e]
      refine ⟨List.pairwise_cons.2 ⟨fun q hq => ?_, h1⟩, fun ℓ h hm => ?_⟩
      · obtain ⟨ℓ, h⟩ := q
        exact (h2 ℓ h hq).1
      · rcases List.mem_cons.1 hm with e2 | hm
        · cases e2; exact ⟨by omega, rfl, hl⟩
        · obtain ⟨a, b⟩ := h2 ℓ h hm; exact ⟨by omega, b⟩
theorem DRun.pa_mem (d : DRun P Γ cal R ops D bs L H n pa ca pe) {ℓ : Nat} (hl : LoudEx H pa ℓ) : ∀ (i : Nat), i ≤ ops.size → ℓ < i → Past.mk ℓ (H ℓ) ∈ pa i
  | 0, _, h => by omega
  | i + 1, hi, h => by
    by_cases e : ℓ = i
    · subst e; exact hl
    · have := d.pa_mem hl i (by omega) (by omega)
      rcases d.cases (i := i) (by omega) with ⟨_, e⟩ | ⟨o, _, _, _, _, _, _, e, _⟩
      · rw [e]; exact this
      · rw [e]; exact List.mem_cons_of_mem _ this
theorem DRun.not_loud (d : DRun P Γ cal R ops D bs L H n pa ca pe) {i : Nat} (hi : i < ops.size) (h : ¬ LoudEx H pa i) : H (i + 1) = H i := by
  rcases d.cases hi with ⟨e, _⟩ | ⟨o, _, _, _, _, _, _, e, _⟩
  · exact e
  · exact absurd (by unfold LoudEx; rw [e]; exact List.mem_cons_self ..) h
theorem DRun.same (d : DRun P Γ cal R ops D bs L H n pa ca pe) : ∀ (c i : Nat), i + c ≤ ops.size → (∀ ℓ, i ≤ ℓ → ℓ < i + c → ¬ LoudEx H pa ℓ) → H (i + c) = H i
  | 0, i, _, _ => rfl
  | c + 1, i, h, hn => by
    rw [← Nat.add_assoc, d.not_loud (by omega) (hn (i + c) (by omega) (by omega))]
    exact d.same c i (by omega) fun ℓ h1 h2 => hn ℓ h1 (by omega)
theorem DRun.same' (d : DRun P Γ cal R ops D bs L H n pa ca pe) {i j : Nat} (hij : i ≤ j) (hj : j ≤ ops.size) (hn : ∀ ℓ, i ≤ ℓ → ℓ < j → ¬ LoudEx H pa ℓ) : H j = H i := by
  have := d.same (j - i) i (by omega) (fun ℓ h1 h2 => hn ℓ h1 (by omega))
  rwa [Nat.add_sub_cancel' hij] at this
theorem DRun.pe_spec (d : DRun P Γ cal R ops D bs L H n pa ca pe) : ∀ (i : Nat), i ≤ ops.size → Names (pe i) ∧ ∀ j p ob, Pend.mk j p ob ∈ pe i → j < i ∧ p = n j ∧ (H j).get p = none ∧ H (j + 1) = H j ∧ ¬ LoudEx H pa j
  | 0, _ => by rw [d.pe0]; exact ⟨trivial, fun j p ob hm => by simp at hm⟩
  | i + 1, hi => by
    obtain ⟨h1, h2⟩ := d.pe_spec i (by omega)
    rcases d.pe_cases (i := i) (by omega) with e | ⟨o, f, ob, _, _, _, g1, g2, e, g3, g4⟩
    · rw [e]
      exact ⟨h1, fun j p ob hm => let ⟨a, b⟩ := h2 j p ob hm; ⟨by omega, b⟩⟩
    · have hnl : ¬ LoudEx H pa i := fun hl => by
        unfold LoudEx at hl
        rw [g4] at hl
        have := ((d.pa_spec i (by omega)).2 _ _ hl).1
        omega
      rw [e]
      refine ⟨⟨fun j x hm => ?_, h1⟩, fun j p x hm => ?_⟩
      · exact newName_get g2 hm rfl
      · rcases List.mem_cons.1 hm with e2 | hm
        · cases e2; exact ⟨by omega, rfl, g1, g3, hnl⟩
        · obtain ⟨a, b⟩ := h2 j p x hm; exact ⟨by omega, b⟩
theorem DRun.pe_sub (d : DRun P Γ cal R ops D bs L H n pa ca pe) : ∀ (c i : Nat), i + c ≤ ops.size → ∀ q, q ∈ pe i → q ∈ pe (i + c)
  | 0, i, _, q, h => h
  | c + 1, i, hc, q, h => by
    have := d.pe_sub c i (by omega) q h
    rw [← Nat.add_assoc]
    rcases d.pe_cases (i := i + c) (by omega) with e | ⟨o, f, ob, _, _, _, _, _, e, _⟩
    · rw [e]; exact this
    · rw [e]; exact List.mem_cons_of_mem _ this
theorem DRun.pe_sub' (d : DRun P Γ cal R ops D bs L H n pa ca pe) {i j : Nat} (hij : i ≤ j) (hj : j ≤ ops.size) : ∀ q, q ∈ pe i → q ∈ pe j := by
  have := d.pe_sub (j - i) i (by omega)
  rwa [Nat.add_sub_cancel' hij] at this
/-- what was pending behind operation i and is of an earlier operation was pending before it -/
theorem DRun.pe_back (d : DRun P Γ cal R ops D bs L H n pa ca pe) {j : Nat} {p : Pth} {ob : O} : ∀ (c i : Nat), i + c ≤ ops.size → j < i → Pend.mk j p ob ∈ pe (i + c) → Pend.mk j p ob ∈ pe i
  | 0, i, _, _, h => h
  | c + 1, i, hc, hj, h => by
    rw [← Nat.add_assoc] at h
    rcases d.pe_cases (i := i + c) (by omega) with e | ⟨o, f, ob', _, _, _, _, _, e, _⟩
    · rw [e] at h; exact d.pe_back c i (by omega) hj h
    · rw [e] at h
      rcases List.mem_cons.1 h with e2 | h
      · cases e2; omega
      · exact d.pe_back c i (by omega) hj h
theorem DRun.ca_mem (d : DRun P Γ cal R ops D bs L H n pa ca pe) {q : Calm} : ∀ (c i : Nat), i + c ≤ ops.size → q ∈ ca i → q ∈ ca (i + c)
  | 0, i, _, h => h
  | c + 1, i, hc, h => by
    have := d.ca_mem c i (by omega) h
    rw [← Nat.add_assoc]
    obtain ⟨o, ho⟩ := DRun.op (i + c) (show i + c < ops.size by omega)
    obtain ⟨g, b, v, _, _, hL, hd⟩ := d.step (i + c) o ho
    rcases hd with ⟨_, _, _, _, e, _⟩ | ⟨_, _, _, _, _, e, _⟩ | ⟨_, _, _, _, _, _, e, _⟩ | ⟨_, _, _, _, _, e⟩ | ⟨_, _, _, _, _, _, _, e, _⟩
    · rw [e]; exact this
    · rw [e]; exact this
    · rw [e]; exact List.mem_cons_of_mem _ this
    · rw [e]; exact this
    · rw [e]; exact this
theorem DRun.ca_mem' (d : DRun P Γ cal R ops D bs L H n pa ca pe) {q : Calm} {i j : Nat} (hij : i ≤ j) (hj : j ≤ ops.size) (h : q ∈ ca i) : q ∈ ca j := by
  have := d.ca_mem (j - i) i (by omega) h
  rwa [Nat.add_sub_cancel' hij] at this
end
end
end Go.Ev
/-
  A verified evaluator, part 28: a region that draws its order: whatever the order.
-/
namespace Go.Ev
noncomputable section
open Go

theorem met_ok' {ι : Emb} {L : List V} {o : Oper} {ops : Array Oper} {D : List (Option Nat)} {tmps : Array Value} {j : Nat} {g : Option (Nat × Bool)} {b : Bool}
    (e : ∀ t ∈ looksOf ops o, ∀ i, idxOf t D 0 = some i → ∃ v, L[i]? = some v ∧ V.rel ι v (tmps.getD t undef)) (hg : guardI ops D j o.guard = some g) (hm : met g L = some b) :
    Region.wanted o (yielded ops tmps) = b := by
  -- the slots that are not looked at do not count
  let L' : List V := L
  unfold guardI at hg
  unfold Region.wanted
  cases hgd : o.guard with
  | none =>
    simp [hgd] at hg; subst hg
    have hm' : some true = some b := hm
    cases hm'; rfl
  | some jw =>
    obtain ⟨q, want⟩ := jw
    simp only [hgd] at hg ⊢
    cases ho : ops[q]? with
    | none => simp [ho] at hg
    | some oq =>
      simp only [ho] at hg
      cases hd : oq.dst with
      | none => simp [hd] at hg
      | some t =>
        simp only [hd] at hg
        cases hi : idxOf t D 0 with
        | none => simp [hi] at hg
        | some i =>
          simp only [hi] at hg
          cases hb : Nat.beq (i + q + 1) j with
          | false => simp [hb] at hg
          | true =>
            simp [hb] at hg; subst hg
            have hlk : t ∈ looksOf ops o := by
              unfold looksOf
              rw [app_eq, List.mem_append]
              right
              simp [hgd, ho, hd]
            obtain ⟨u, h1, h2⟩ := e t hlk i hi
            simp only [met, nth_eq, h1] at hm
            have hy : yielded ops tmps q = (match tmps[t]? with | some (.bool b) => some b | _ => none) := by
              unfold yielded
              simp only [ho, hd, Option.bind_some]
              rfl
            rw [hy]
            rw [Array.getD_eq_getD_getElem?] at h2
            cases u <;> try (cases hm; done)
            case bool c =>
              simp only [V.rel] at h2
              cases ht : tmps[t]? with
              | none => simp [ht, undef] at h2
              | some x =>
                simp [ht] at h2; subst h2
                cases want with
                | true =>
                  have hm' : some c = some b := hm
                  (first | (cases hm'; cases c <;> rfl) | (cases hm'; cases b <;> rfl))
                | false =>
                  have hm' : some (!c) = some b := hm
                  (first | (cases hm'; cases c <;> rfl) | (cases hm'; cases b <;> rfl))
            case tup l =>
              cases l with
              | cons => cases hm
              | nil =>
                have hm' : some false = some b := hm
                cases hm'
                simp only [V.rel] at h2
                obtain ⟨cs, hx, _⟩ := h2
                cases ht : tmps[t]? with
                | none => simp
                | some x => simp [ht] at hx; subst hx; simp

theorem tmpsOf_mem {t : Nat} : ∀ {l : List Operand}, Operand.tmp t ∈ l → t ∈ tmpsOf l
  | [], h => by simp at h
  | x :: l, h => by
    rcases List.mem_cons.1 h with e | h
    · subst e; exact List.mem_cons_self ..
    · have := tmpsOf_mem h
      cases x <;> first | exact this | exact List.mem_cons_of_mem _ this
theorem dstsOf_append (o : Oper) : ∀ (l : List Oper) (D : List (Option Nat)), dstsOf (l ++ [o]) D = o.dst :: dstsOf l D
  | [], D => rfl
  | x :: l, D => by rw [List.cons_append, dstsOf_cons, dstsOf_append o l, dstsOf_cons]
theorem idx_spec {ops : Array Oper} {t : Nat} : ∀ (i : Nat), i ≤ ops.size →
    (∀ c, idxOf t (dstsOf (ops.toList.take i) []) 0 = some c → c < i ∧ ∃ o, ops[i - 1 - c]? = some o ∧ o.dst = some t) ∧
    (idxOf t (dstsOf (ops.toList.take i) []) 0 = none → ∀ j o, j < i → ops[j]? = some o → o.dst ≠ some t)
  | 0, _ => ⟨fun c h => by simp [dstsOf, idxOf] at h, fun _ j o hj => by omega⟩
  | i + 1, hi => by
    obtain ⟨h1, h2⟩ := idx_spec (ops := ops) (t := t) i (by omega)
    have hlt : i < ops.size := by omega
    have ho : ops.toList[i]? = some ops[i] := by simp [hlt]
    rw [take_succ_of ho, dstsOf_append]
    generalize dstsOf (ops.toList.take i) [] = D at h1 h2
    cases hd : ops[i].dst with
    | none =>
      refine ⟨fun c hc => ?_, fun hn j o hj hoj => ?_⟩
      · rw [idxOf_cons_none] at hc
        cases h : idxOf t D 0 with
        | none => simp [h] at hc
        | some k =>
          simp [h] at hc; subst hc
          obtain ⟨g1, o, g2, g3⟩ := h1 k h
          have e : i + 1 - 1 - (k + 1) = i - 1 - k := by omega
          exact ⟨by omega, o, by rw [e]; exact g2, g3⟩
      · rw [idxOf_cons_none] at hn
        simp at hn
        by_cases e : j = i
        · subst e
          have : o = ops[j] := by
            have := Array.getElem?_eq_some_iff.1 hoj
            exact this.2.symm
          rw [this, hd]; simp
        · exact h2 hn j o (by omega) hoj
    | some u =>
      by_cases hut : u = t
      · subst hut
        refine ⟨fun c hc => ?_, fun hn => ?_⟩
        · rw [idxOf_cons_same] at hc
          cases hc
          exact ⟨by omega, ops[i], by simp [hlt], hd⟩
        · rw [idxOf_cons_same] at hn; cases hn
      · refine ⟨fun c hc => ?_, fun hn j o hj hoj => ?_⟩
        · rw [idxOf_cons_other D hut] at hc
          cases h : idxOf t D 0 with
          | none => simp [h] at hc
          | some k =>
            simp [h] at hc; subst hc
            obtain ⟨g1, o, g2, g3⟩ := h1 k h
            have e : i + 1 - 1 - (k + 1) = i - 1 - k := by omega
            exact ⟨by omega, o, by rw [e]; exact g2, g3⟩
        · rw [idxOf_cons_other D hut] at hn
          simp at hn
          by_cases e : j = i
          · subst e
            have : o = ops[j] := by
              have := Array.getElem?_eq_some_iff.1 hoj
              exact this.2.symm
            rw [this, hd]
            intro e2; cases e2; exact hut rfl
          · exact h2 hn j o (by omega) hoj
theorem mergeS_congr {S T : Nat → Bool} (A : Heap) : ∀ {pend : List Pend}, (∀ j p ob, Pend.mk j p ob ∈ pend → S j = T j) → mergeS S A pend = mergeS T A pend
  | [], _ => rfl
  | .mk i p o :: t, h => by
    have ih := mergeS_congr (S := S) (T := T) A (pend := t) fun j q ob hm => h j q ob (List.mem_cons_of_mem _ hm)
    have hi := h i p o (List.mem_cons_self ..)
    show (match S i with
      | true => (match Tr.get p (mergeS S A t) with | none => Tr.set p o (mergeS S A t) | some _ => mergeS S A t)
      | false => mergeS S A t) = (match T i with
      | true => (match Tr.get p (mergeS T A t) with | none => Tr.set p o (mergeS T A t) | some _ => mergeS T A t)
      | false => mergeS T A t)
    rw [ih, hi]
theorem Fr.refl (ι : Emb) (A : Heap) : Fr ι A A := fun _ h1 h2 => absurd h1 h2
theorem getD_true {S : Array Bool} {i j : Nat} (hi : i < S.size) : (S.setIfInBounds i true).getD j false = if i = j then true else S.getD j false := by
  simp only [Array.getD_eq_getD_getElem?, Array.getElem?_setIfInBounds]
  by_cases e : i = j
  · subst e; simp [hi]
  · simp [e]

section
variable {P : Program} {Γ : Glo} {cal : Cal} {R : Regs} {ops : Array Oper} {D : Nat → List (Option Nat)} {bs : Nat → Nat} {L : Nat → List V} {H : Nat → Heap} {n : Nat → Pth} {pa : Nat → List Past} {ca : Nat → List Calm} {pe : Nat → List Pend}
  {ι0 ι ι' : Emb} {w0 w w' : World} {a a0 : Act} {S : Array Bool} {q N : Nat}

/-- what is known of the operations -/
structure OrdR (ops : Array Oper) (bs : Nat → Nat) (N : Nat) : Prop where
  apart : ∀ (i j : Nat) (oi oj : Oper), i < j → ops[i]? = some oi → ops[j]? = some oj → Apart ops (bs j) i oi oj
  bef : ∀ (i : Nat) (o : Oper), ops[i]? = some o → ∀ j, bit (bs i) j = true → ∃ e ∈ o.after.toList, Region.binds .any e = true ∧ (e.on = j ∨ bit (bs e.on) j = true)
  back : ∀ (i : Nat) (o : Oper), ops[i]? = some o → ∀ e ∈ o.after.toList, Region.binds .any e = true → e.on < i
  dst : ∀ (i : Nat) (o : Oper) (t : Nat), ops[i]? = some o → o.dst = some t → t < N
/-- between two operations: those of S have been done; the loud ones among them are those before q -/
structure AnyInv (P : Program) (ops : Array Oper) (bs : Nat → Nat) (L : Nat → List V) (H : Nat → Heap) (pa : Nat → List Past) (pe : Nat → List Pend) (N : Nat) (ι0 : Emb) (w0 : World) (a0 : Act) (S : Array Bool) (q : Nat) (a : Act) (w : World) (ι : Emb) : Prop where
  size : S.size = ops.size
  closed : ∀ i, S.getD i false = true → ∀ j, bit (bs i) j = true → S.getD j false = true
  qle : q ≤ ops.size
  loud : ∀ ℓ, ℓ < ops.size → LoudEx H pa ℓ → (S.getD ℓ false = true ↔ ℓ < q)
  step : Step P ι0 (H 0) w0 ι (mergeS (fun i => S.getD i false) (H q) (pe ops.size)) w
  t1 : ∀ (j : Nat) (o : Oper) (t : Nat), ops[j]? = some o → S.getD j false = true → o.dst = some t → V.rel ι (val L j) (a.tmps.getD t undef)
  t2 : ∀ (t : Nat), (∀ (j : Nat) (o : Oper), ops[j]? = some o → S.getD j false = true → o.dst ≠ some t) → a.tmps.getD t undef = a0.tmps.getD t undef
  t3 : N ≤ a.tmps.size
  t4 : a.defers = a0.defers

theorem OrdR.distinct (od : OrdR ops bs N) {i j : Nat} {oi oj : Oper} (hne : i ≠ j) (hi : ops[i]? = some oi) (hj : ops[j]? = some oj) {t u : Nat} (ht : oi.dst = some t) (hu : oj.dst = some u) : t ≠ u := by
  rcases Nat.lt_or_gt_of_ne hne with h | h
  · exact (od.apart i j oi oj h hi hj).1 t u ht hu
  · exact fun e => (od.apart j i oj oi h hj hi).1 u t hu ht e.symm
theorem AnyInv.next (od : OrdR ops bs N) (iv : AnyInv P ops bs L H pa pe N ι0 w0 a0 S q a w ι) {i q' : Nat} {o : Oper} {x : Value} (ho : ops[i]? = some o) (_hi : S.getD i false = false)
    (hcl : ∀ j, bit (bs i) j = true → S.getD j false = true) (hle : ι.le ι') (hv : V.rel ι' (val L i) x) (hq : q' ≤ ops.size)
    (hl : ∀ ℓ, ℓ < ops.size → LoudEx H pa ℓ → ((S.setIfInBounds i true).getD ℓ false = true ↔ ℓ < q'))
    (hs : Step P ι0 (H 0) w0 ι' (mergeS (fun j => (S.setIfInBounds i true).getD j false) (H q') (pe ops.size)) w') :
    AnyInv P ops bs L H pa pe N ι0 w0 a0 (S.setIfInBounds i true) q' (a.put o.dst x) w' ι' := by
  have hlt : i < S.size := by rw [iv.size]; exact (Array.getElem?_eq_some_iff.1 ho).1
  have gd : ∀ j, (S.setIfInBounds i true).getD j false = if i = j then true else S.getD j false := fun j => getD_true hlt
  refine ⟨by simp [iv.size], fun j hj l hb => ?_, hq, hl, hs, fun j oj t hoj hj ht => ?_, fun t hn => ?_, by rw [put_size]; exact iv.t3, by rw [put_defers]; exact iv.t4⟩
  · rw [gd] at hj ⊢
    by_cases e2 : i = l
    · rw [if_pos e2]
    · rw [if_neg e2]
      by_cases e : i = j
      · subst e; exact hcl l hb
      · rw [if_neg e] at hj; exact iv.closed j hj l hb
  · rw [gd] at hj
    cases hd : o.dst with
    | none =>
      by_cases e : i = j
      · subst e; rw [ho] at hoj; cases hoj; rw [hd] at ht; cases ht
      · rw [if_neg e] at hj
        exact V.rel.mono hle _ _ (iv.t1 j oj t hoj hj ht)
    | some u =>
      have hu : u < a.tmps.size := Nat.lt_of_lt_of_le (od.dst i o u ho hd) iv.t3
      show V.rel ι' (val L j) ((a.tmps.setIfInBounds u x).getD t undef)
      rw [getD_set _ _ _ _ hu]
      by_cases e : i = j
      · subst e; rw [ho] at hoj; cases hoj
        rw [hd] at ht; cases ht
        rw [if_pos rfl]; exact hv
      · rw [if_neg e] at hj
        rw [if_neg (od.distinct e ho hoj hd ht)]
        exact V.rel.mono hle _ _ (iv.t1 j oj t hoj hj ht)
  · have h0 := iv.t2 t fun j oj hoj hj => hn j oj hoj (by rw [gd]; split <;> first | rfl | exact hj)
    cases hd : o.dst with
    | none => exact h0
    | some u =>
      have hu : u < a.tmps.size := Nat.lt_of_lt_of_le (od.dst i o u ho hd) iv.t3
      show (a.tmps.setIfInBounds u x).getD t undef = _
      rw [getD_set _ _ _ _ hu, if_neg]
      · exact h0
      · intro e; subst e
        exact hn i o ho (by rw [gd, if_pos rfl]) hd
/-- what operation i looks at is as it was evaluated -/
theorem AnyInv.slot (d : DRun P Γ cal R ops (fun i => dstsOf (ops.toList.take i) []) bs L H n pa ca pe) (od : OrdR ops bs N) (iv : AnyInv P ops bs L H pa pe N ι0 w0 a0 S q a w ι)
    {U : Nat} (henv : EnvR ι0 U R a0.tmps) {i : Nat} {o : Oper} (ho : ops[i]? = some o) (hi : S.getD i false = false) (hcl : ∀ j, bit (bs i) j = true → S.getD j false = true) {t : Nat} (ht : t ∈ looksOf ops o) :
    (∀ c, idxOf t (dstsOf (ops.toList.take i) []) 0 = some c → ∃ v, (L i)[c]? = some v ∧ V.rel ι v (a.tmps.getD t undef)) ∧
    (idxOf t (dstsOf (ops.toList.take i) []) 0 = none → ∀ v, R.get (toPth t) = some v → V.rel ι v (a.tmps.getD t undef)) := by
  have hlt : i < ops.size := (Array.getElem?_eq_some_iff.1 ho).1
  obtain ⟨h1, h2⟩ := idx_spec (ops := ops) (t := t) i (by omega)
  refine ⟨fun c hc => ?_, fun hn v hv => ?_⟩
  · obtain ⟨g1, oj, g2, g3⟩ := h1 c hc
    have hap := od.apart (i - 1 - c) i oj o (by omega) g2 ho
    have hb : bit (bs i) (i - 1 - c) = true := by
      cases hb : bit (bs i) (i - 1 - c) with
      | true => rfl
      | false => exact absurd ht ((hap.2 hb).2 t g3)
    have hL := (d.L_get i (by omega)).2 (i - 1 - c) (by omega)
    have e : i - 1 - (i - 1 - c) = c := by omega
    rw [e] at hL
    exact ⟨_, hL, iv.t1 _ oj t g2 (hcl _ hb) g3⟩
  · have h0 := iv.t2 t fun j oj hoj hj htj => by
      rcases Nat.lt_trichotomy j i with hlt' | rfl | hgt
      · exact h2 hn j oj hlt' hoj htj
      · rw [hi] at hj; cases hj
      · have hap := od.apart i j o oj hgt ho hoj
        cases hb : bit (bs j) i with
        | true =>
          have := iv.closed j hj i hb
          rw [hi] at this; cases this
        | false => exact absurd ht ((hap.2 hb).1 t htj)
    rw [h0]
    have := (henv (toPth t) v hv).2
    rw [num_toPth] at this
    exact V.rel.mono iv.step.ext _ _ this
end
end
end Go.Ev
/-
  A verified evaluator, part 29: a region that draws its order: one operation more, whichever is ready.
-/
namespace Go.Ev
noncomputable section
open Go

theorem exists_min {p : Nat → Prop} (h : ∃ n, p n) : ∃ n, p n ∧ ∀ m, m < n → ¬ p m := by
  obtain ⟨n, hn⟩ := h
  induction n using Nat.strongRecOn with
  | _ n ih =>
    by_cases hx : ∃ m, m < n ∧ p m
    · obtain ⟨m, h1, h2⟩ := hx; exact ih m h1 h2
    · exact ⟨n, hn, fun m hm hp => hx ⟨m, hm, hp⟩⟩
theorem exists_max {p : Nat → Prop} (b : Nat) (h : ∃ n, n < b ∧ p n) : ∃ n, n < b ∧ p n ∧ ∀ m, n < m → m < b → ¬ p m := by
  induction b with
  | zero => obtain ⟨n, h1, _⟩ := h; omega
  | succ b ih =>
    by_cases hb : p b
    · exact ⟨b, by omega, hb, fun m h1 h2 => by omega⟩
    · obtain ⟨n, h1, h2⟩ := h
      have hne : n ≠ b := fun e => by subst e; exact hb h2
      obtain ⟨k, g1, g2, g3⟩ := ih ⟨n, by omega, h2⟩
      refine ⟨k, by omega, g2, fun m h1 h2 => ?_⟩
      by_cases e : m = b
      · subst e; exact hb
      · exact g3 m h1 (by omega)
theorem pget_congr {S T : Nat → Bool} {p : Pth} : ∀ {pend : List Pend}, (∀ j ob, Pend.mk j p ob ∈ pend → S j = T j) → pget S p pend = pget T p pend
  | [], _ => rfl
  | .mk i p' o :: t, h => by
    have ih := pget_congr (S := S) (T := T) (p := p) (pend := t) fun j ob hm => h j ob (List.mem_cons_of_mem _ hm)
    simp only [pget, ih]
    cases hb : p'.beq p with
    | false => cases S i <;> cases T i <;> rfl
    | true =>
      have := (Pth.beq_iff p' p).1 hb
      subst this
      rw [h i o (List.mem_cons_self ..)]

section
variable {P : Program} {Γ : Glo} {cal : Cal} {R : Regs} {ops : Array Oper} {bs : Nat → Nat} {L : Nat → List V} {H : Nat → Heap} {n : Nat → Pth} {pa : Nat → List Past} {ca : Nat → List Calm} {pe : Nat → List Pend}
  {ι0 ι ι' : Emb} {w0 w w' : World} {a a0 : Act} {S : Array Bool} {q N U m : Nat} {F : Fence} {Q : Exit → Act → World → Prop}

/-- a calm operation's value holds whenever its turn comes -/
theorem calm_any (d : DRun P Γ cal R ops (fun i => dstsOf (ops.toList.take i) []) bs L H n pa ca pe) (iv : AnyInv P ops bs L H pa pe N ι0 w0 a0 S q a w ι) {i : Nat} {v : V} {I : I} (hi : i < ops.size)
    (hS : S.getD i false = false) (hcl : ∀ j, bit (bs i) j = true → S.getD j false = true)
    (hev : ∃ H' n', evI I cal Γ (L i) R (merge (bs i) (H i) (pe i)) (n i) = .ok v H' n') (hwas : was cal Γ R (n i) I (L i) v (bs i) (pe i) (pa i) = true)
    (hpa : pa (i + 1) = pa i) (hca : ca (i + 1) = .mk i I (L i) v (bs i) :: ca i) :
    ∃ pd nx H1 n1, (∀ x, x ∈ pd → x ∈ pe ops.size) ∧ evI I cal Γ (L i) R (merge (bs i) (H q) pd) nx = .ok v H1 n1 := by
  have hnl : ¬ LoudEx H pa i := fun hl => by
    unfold LoudEx at hl
    rw [hpa] at hl
    have := ((d.pa_spec i (by omega)).2 _ _ hl).1
    omega
  rcases Nat.le_total q i with hqi | hqi
  · by_cases hex : ∃ ℓ, q ≤ ℓ ∧ ℓ < i ∧ LoudEx H pa ℓ
    · obtain ⟨ℓ, ⟨h1, h2, h3⟩, hmin⟩ := exists_min hex
      have hH : H ℓ = H q := d.same' h1 (by omega) fun ℓ' g1 g2 g3 => hmin ℓ' g2 ⟨g1, by omega, g3⟩
      obtain ⟨H1, n1, he⟩ := was_get hwas (d.pa_spec i (by omega)).1 (d.pa_mem h3 i (by omega) h2) fun ℓ' h' hm hle => by
        obtain ⟨g1, _, g3⟩ := (d.pa_spec i (by omega)).2 ℓ' h' hm
        cases hb : bit (bs i) ℓ' with
        | false => rfl
        | true =>
          have := (iv.loud ℓ' (by omega) g3).1 (hcl ℓ' hb)
          omega
      rw [hH] at he
      exact ⟨pe i, n i, H1, n1, d.pe_sub' (by omega) (Nat.le_refl _), he⟩
    · have hH : H i = H q := d.same' hqi (by omega) fun ℓ' g1 g2 g3 => hex ⟨ℓ', g1, g2, g3⟩
      obtain ⟨H1, n1, he⟩ := hev
      rw [hH] at he
      exact ⟨pe i, n i, H1, n1, d.pe_sub' (by omega) (Nat.le_refl _), he⟩
  · by_cases hex : ∃ ℓ, ℓ < q ∧ (i ≤ ℓ ∧ LoudEx H pa ℓ)
    · obtain ⟨ℓ, h1, ⟨h2, h3⟩, hmax⟩ := exists_max q hex
      have hqM := iv.qle
      have hil : i < ℓ := Nat.lt_of_le_of_ne h2 fun e => hnl (by rw [e]; exact h3)
      have hH : H q = H (ℓ + 1) := d.same' (by omega) hqM fun ℓ' g1 g2 g3 => hmax ℓ' (by omega) g2 ⟨by omega, g3⟩
      rcases d.cases (i := ℓ) (by omega) with ⟨_, e⟩ | ⟨o, ho, hc, _, _, _, hst, _⟩
      · exfalso
        unfold LoudEx at h3
        rw [e] at h3
        have := ((d.pa_spec ℓ (by omega)).2 _ _ h3).1
        omega
      · have hmem : Calm.mk i I (L i) v (bs i) ∈ ca ℓ := d.ca_mem' (i := i + 1) (by omega) (by omega) (by rw [hca]; exact List.mem_cons_self ..)
        have hSl := (iv.loud ℓ (by omega) h3).2 h1
        have hbit : bit (bs ℓ) i = false := by
          cases hb : bit (bs ℓ) i with
          | false => rfl
          | true => have := iv.closed ℓ hSl i hb; rw [hS] at this; cases this
        obtain ⟨H1, n1, he⟩ := stays_get hst hmem hbit
        rw [← hH] at he
        exact ⟨pe ℓ, n ℓ, H1, n1, d.pe_sub' (by omega) (Nat.le_refl _), he⟩
    · have hH : H q = H i := d.same' hqi iv.qle fun ℓ' g1 g2 g3 => hex ⟨ℓ', g2, g1, g3⟩
      obtain ⟨H1, n1, he⟩ := hev
      rw [← hH] at he
      exact ⟨pe i, n i, H1, n1, d.pe_sub' (by omega) (Nat.le_refl _), he⟩

/-- one operation more -/
theorem step_any (k : CalOK P Γ cal) (hF : FW F) (d : DRun P Γ cal R ops (fun i => dstsOf (ops.toList.take i) []) bs L H n pa ca pe) (od : OrdR ops bs N)
    (gok0 : GOK Γ ι0 (H 0) w0) (hfr : Fr ι0 (H 0) (mergeS (fun _ => true) (H ops.size) (pe ops.size))) (henv : EnvR ι0 U R a0.tmps)
    (iv : AnyInv P ops bs L H pa pe N ι0 w0 a0 S q a w ι) {i : Nat} (hr : i ∈ Region.ready .any ops S) {K : Act → World → Prop}
    (hK : ∀ q' a' w' ι', AnyInv P ops bs L H pa pe N ι0 w0 a0 (S.setIfInBounds i true) q' a' w' ι' → K a' w') : wpOpIn F m P ops Q i K a w := by
  obtain ⟨hun, o, ho, hall⟩ := mem_ready.1 hr
  have hlt : i < ops.size := (Array.getElem?_eq_some_iff.1 ho).1
  have hS : S.getD i false = false := by
    have hs : i < S.size := by rw [iv.size]; exact hlt
    simp only [Array.getD_eq_getD_getElem?] at hun ⊢
    simp [hs] at hun ⊢; exact hun
  have hcl : ∀ j, bit (bs i) j = true → S.getD j false = true := fun j hb => by
    obtain ⟨e, he, hbd, h⟩ := od.bef i o ho j hb
    have h1 := hall e (by simpa using he) hbd
    rcases h with rfl | h
    · exact h1
    · exact iv.closed e.on h1 j h
  obtain ⟨g, b, v, hg, hm, hL, hd⟩ := d.step i o ho
  have hv : val L i = v := by unfold val; rw [hL]; rfl
  have slot := fun (t : Nat) (ht : t ∈ looksOf ops o) => iv.slot d od henv ho hS hcl ht
  have hw := met_ok' (o := o) (ops := ops) (tmps := a.tmps) (fun t ht c hc => (slot t ht).1 c hc) hg hm
  -- the operands
  have hrest : ∃ r' : Operand → Src, opI P r' o.op = opI P (rs (dstsOf (ops.toList.take i) [])) o.op ∧ ∀ x, V.rel ι (src (L i) R (r' x)) (a.eval x) := by
    classical
    refine ⟨fun x => if x ∈ o.op.operands.toList then rs (dstsOf (ops.toList.take i) []) x else .cst .unk, opI_congr _ fun x hx => by simp only [if_pos hx], fun x => ?_⟩
    by_cases hx : x ∈ o.op.operands.toList
    · simp only [if_pos hx]
      cases x with
      | tmp t =>
        have ht : t ∈ looksOf ops o := by
          unfold looksOf
          rw [app_eq, List.mem_append]
          exact .inl (tmpsOf_mem hx)
        obtain ⟨s1, s2⟩ := slot t ht
        show V.rel ι (src (L i) R (match idxOf t (dstsOf (ops.toList.take i) []) 0 with | some c => .loc c | none => .reg (toPth t))) (a.tmps.getD t undef)
        cases h : idxOf t (dstsOf (ops.toList.take i) []) 0 with
        | some c =>
          obtain ⟨u, h1, h2⟩ := s1 c h
          simp only [src, nth_eq, h1]; exact h2
        | none =>
          simp only [src]
          cases hR : R.get (toPth t) with
          | none => simp [V.rel]
          | some u => exact s2 h u hR
      | const y => exact ofV_rel 3 y
      | global g => show V.rel ι (.gptr g 0) _; simp only [V.rel]; rfl
      | func f => show V.rel ι (.fn f [] []) _; simp only [V.rel]; exact ⟨#[], #[], rfl, rels_nil, rels_nil⟩
    · simp only [if_neg hx, src, V.rel]
  obtain ⟨r', hr', hs⟩ := hrest
  -- the memory
  have hokB := iv.step.hok
  have gokB := gok0.step iv.step
  have m0 : Mono (H 0) (mergeS (fun i => S.getD i false) (H q) (pe ops.size)) := (d.mono' k (Nat.zero_le _) iv.qle).trans (merge_mono _ _ _)
  have frB := hfr.after iv.step m0
  have hnames := (d.pe_spec ops.size (Nat.le_refl _)).1
  have cxt : ∀ A, Sub A (mergeS (fun i => S.getD i false) (H q) (pe ops.size)) → Cxt P Γ ι A w a.eval (L i) R r' := fun A hA => ⟨hokB.sub hA, gokB.sub hA, hs, fun _ => rfl, fun _ => rfl⟩
  have hsz : i < S.size := by rw [iv.size]; exact hlt
  have notLoud : pa (i + 1) = pa i → ¬ LoudEx H pa i := fun hpa hl => by
    unfold LoudEx at hl
    rw [hpa] at hl
    have := ((d.pa_spec i (by omega)).2 _ _ hl).1
    omega
  have loudSame : ¬ LoudEx H pa i → ∀ ℓ, ℓ < ops.size → LoudEx H pa ℓ → ((S.setIfInBounds i true).getD ℓ false = true ↔ ℓ < q) := fun hn ℓ h1 h2 => by
    rw [getD_true hsz, if_neg (fun e => hn (by rw [e]; exact h2))]
    exact iv.loud ℓ h1 h2
  have noPend : pe (i + 1) = pe i → ∀ p ob, Pend.mk i p ob ∉ pe ops.size := fun hpe p ob hmem => by
    have h1 : Pend.mk i p ob ∈ pe (i + 1) := d.pe_back (ops.size - (i + 1)) (i + 1) (by omega) (by omega) (by rw [show i + 1 + (ops.size - (i + 1)) = ops.size by omega]; exact hmem)
    rw [hpe] at h1
    have := ((d.pe_spec i (by omega)).2 _ _ _ h1).1
    omega
  have stay : pa (i + 1) = pa i → pe (i + 1) = pe i → ∀ x w' ι', V.rel ι' v x → Step P ι (mergeS (fun i => S.getD i false) (H q) (pe ops.size)) w ι' (mergeS (fun i => S.getD i false) (H q) (pe ops.size)) w' → K (a.put o.dst x) w' := by
    intro hpa hpe x w' ι' hx hst
    refine hK q _ w' ι' (iv.next od ho hS hcl hst.ext (by rw [hv]; exact hx) iv.qle (loudSame (notLoud hpa)) ?_)
    have e : mergeS (fun j => (S.setIfInBounds i true).getD j false) (H q) (pe ops.size) = mergeS (fun i => S.getD i false) (H q) (pe ops.size) := mergeS_congr _ fun j p ob hmem => by
      rw [getD_true hsz, if_neg (fun e => by subst e; exact noPend hpe p ob hmem)]
    rw [e]
    exact iv.step.trans hst m0 (Mono.refl _)
  unfold wpOpIn
  simp only [ho]
  rw [hw]
  rcases hd with ⟨rfl, rfl, _, hpa, _, hpe⟩ | ⟨rfl, hc, ⟨H1, n1, he⟩, _, hpa, _, hpe⟩ | ⟨rfl, hc, hev, hwas, _, hpa, hca, hpe⟩ | ⟨rfl, hc, ⟨f, ob, hf, hevf, hHn, hnew, hpe⟩, hHi, hpa, _⟩ | ⟨rfl, hc, hall', ⟨n1, he⟩, hab, hst, hpa, _, hpe⟩
  · -- not wanted
    rw [if_neg (by simp)]
    exact ⟨fun f _ => hF.fn f, stay hpa hpe undef w ι undef_rel (Step.refl hokB)⟩
  · -- it only computes
    rw [if_pos rfl]
    have he2 := (pure_ok hc he).2 (mergeS (fun i => S.getD i false) (H q) (pe ops.size)) (n i)
    rw [← hr'] at he2
    have hop := op_ok (o := o) k (cxt _ fun _ _ h => h) he2 (Fr.refl _ _)
    exact hop.wpIn hF (no_defer he2) fun x w' ⟨ι', hx, hst⟩ => stay hpa hpe x w' ι' hx hst
  · -- it reads
    rw [if_pos rfl]
    obtain ⟨pd, nx, H1, n1, hpd, he⟩ := calm_any d iv hlt hS hcl hev hwas hpa hca
    have e1 := calm_ok hc he
    subst e1
    have hsub : Sub (merge (bs i) (H q) pd) (mergeS (fun i => S.getD i false) (H q) (pe ops.size)) := by
      rw [merge_eq]; exact merge_sub hcl hpd hnames
    rw [← hr'] at he
    have hop := op_ok (o := o) k (cxt _ hsub) he (Fr.refl _ _)
    refine hop.wpIn hF (no_defer he) fun x w' ⟨ι', hx, hst⟩ => stay hpa hpe x w' ι' hx (Step.frame hokB hsub hst (Mono.refl _) (fun p _ h => h) fun p => ?_)
    cases h : (merge (bs i) (H q) pd).get p with
    | none => rfl
    | some ob => exact hsub p ob h
  · -- a new block
    rw [if_pos rfl]
    have hmem : Pend.mk i (n i) ob ∈ pe ops.size := d.pe_sub' (i := i + 1) (by omega) (Nat.le_refl _) _ (by rw [hpe]; exact List.mem_cons_self ..)
    have hnl := notLoud hpa
    have hqn : (H q).get (n i) = none := by
      rcases Nat.le_total q i with hqi | hqi
      · cases h : (H q).get (n i) with
        | none => rfl
        | some z => exact absurd hHn (d.mono' k hqi (by omega) (n i) (by simp [h]))
      · have key : ∀ c, i + 1 + c ≤ q → (H (i + 1 + c)).get (n i) = none := by
          intro c
          induction c with
          | zero => intro _; rw [Nat.add_zero, hHi]; exact hHn
          | succ c ih =>
            intro hcq
            have ihc := ih (by omega)
            have hqM := iv.qle
            rcases d.cases (i := i + 1 + c) (by omega) with ⟨e, _⟩ | ⟨oc, hoc, hcc, _, _, habs, _, hpac, _⟩
            · rw [← Nat.add_assoc, e]; exact ihc
            · have hle : LoudEx H pa (i + 1 + c) := by unfold LoudEx; rw [hpac]; exact List.mem_cons_self ..
              have hSc := (iv.loud _ (by omega) hle).2 (by omega)
              have hbit : bit (bs (i + 1 + c)) i = false := by
                cases hb : bit (bs (i + 1 + c)) i with
                | false => rfl
                | true => have := iv.closed _ hSc i hb; rw [hS] at this; cases this
              rw [← Nat.add_assoc]
              exact absent_get habs (d.pe_sub' (i := i + 1) (by omega) (by omega) _ (by rw [hpe]; exact List.mem_cons_self ..)) hbit
        rcases Nat.eq_or_lt_of_le hqi with e | hlt2
        · rw [← e]; exact hHn
        · have := key (q - (i + 1)) (by omega)
          rwa [show i + 1 + (q - (i + 1)) = q by omega] at this
    have hBn : (mergeS (fun i => S.getD i false) (H q) (pe ops.size)).get (n i) = none := by
      rw [mergeS_get, hqn]
      cases h : pget (fun i => S.getD i false) (n i) (pe ops.size) with
      | none => rfl
      | some z =>
        obtain ⟨j, h1, h2⟩ := pget_mem h
        obtain ⟨e, _⟩ := names_unique hnames h1 hmem
        subst e
        rw [hS] at h2; cases h2
    have hFM : (mergeS (fun _ => true) (H ops.size) (pe ops.size)).get (n i) ≠ none := by
      rw [mergeS_get]
      cases h : (H ops.size).get (n i) with
      | some z => simp
      | none => simp only; rw [pget_of_mem hnames hmem rfl]; simp
    have hι : ι (n i) = none := frB (n i) hBn hFM
    obtain ⟨x, w', cb, T, hrun, hheap, ht, hos, hout, hx, hob, hdead⟩ := newI_ok (o := o) (n := n i) hs (fun _ => rfl) hokB (hr'.trans hf) hevf hι
    have hst := Step.alloc cb hokB hBn hι hdead hheap ht hos hout hob
    have hnd : ∀ c, o.op ≠ .defer c := fun c hc' => by rw [hc'] at hf; cases hf
    refine OpOK.wpIn (R := fun y w2 => y = x ∧ w2 = w') hF hnd (OpOK.value hrun ⟨rfl, rfl⟩) ?_
    rintro _ _ ⟨rfl, rfl⟩
    refine hK q _ _ _ (iv.next od ho hS hcl hst.ext (by rw [hv]; exact hx) iv.qle (loudSame hnl) ?_)
    refine Step.congr (iv.step.trans hst m0 (Mono.set _ _ _)) fun p => ?_
    rw [Tr.get_set, mergeS_get, mergeS_get]
    by_cases e : n i = p
    · subst e
      rw [if_pos rfl, hqn]
      simp only
      rw [pget_of_mem hnames hmem (by rw [getD_true hsz, if_pos rfl])]
    · rw [if_neg e]
      cases (H q).get p with
      | some z => rfl
      | none =>
        simp only
        refine pget_congr fun j ob' hmem' => ?_
        rw [getD_true hsz, if_neg]
        intro e2
        subst e2
        exact e ((d.pe_spec ops.size (Nat.le_refl _)).2 _ _ _ hmem').2.1.symm
  · -- it acts
    rw [if_pos rfl]
    have hl : LoudEx H pa i := by unfold LoudEx; rw [hpa]; exact List.mem_cons_self ..
    have hqi : q ≤ i := by
      rcases Nat.lt_or_ge i q with h | h
      · have := (iv.loud i hlt hl).2 h
        rw [hS] at this; cases this
      · exact h
    have hbl : ∀ ℓ, ℓ < i → LoudEx H pa ℓ → bit (bs i) ℓ = true := fun ℓ h1 h2 => allIn_get hall' (d.pa_mem h2 i (by omega) h1)
    have hH : H i = H q := d.same' hqi (by omega) fun ℓ g1 g2 g3 => by
      have := (iv.loud ℓ (by omega) g3).1 (hcl ℓ (hbl ℓ g2 g3))
      omega
    have hsub : Sub (merge (bs i) (H i) (pe i)) (mergeS (fun i => S.getD i false) (H q) (pe ops.size)) := by
      rw [merge_eq, hH]; exact merge_sub hcl (d.pe_sub' (by omega) (Nat.le_refl _)) hnames
    have mA : Mono (merge (bs i) (H i) (pe i)) (H (i + 1)) := evI_mono k _ he
    have dis : ∀ p, (mergeS (fun i => S.getD i false) (H q) (pe ops.size)).get p ≠ none → (merge (bs i) (H i) (pe i)).get p = none → (H (i + 1)).get p = none := by
      intro p hBp hAp
      rw [merge_eq, mergeS_get] at hAp
      have hHi : (H i).get p = none := by
        cases h : (H i).get p with
        | none => rfl
        | some z => rw [h] at hAp; cases hAp
      rw [hHi] at hAp
      rw [mergeS_get, ← hH, hHi] at hBp
      simp only at hBp hAp
      cases h : pget (fun i => S.getD i false) p (pe ops.size) with
      | none => exact absurd h hBp
      | some z =>
        obtain ⟨j, h1, h2⟩ := pget_mem h
        obtain ⟨g1, g2, g3, _⟩ := (d.pe_spec ops.size (Nat.le_refl _)).2 _ _ _ h1
        rcases Nat.lt_trichotomy j i with hji | rfl | hji
        · have h3 : Pend.mk j p z ∈ pe i := d.pe_back (ops.size - i) i (by omega) hji (by rw [show i + (ops.size - i) = ops.size by omega]; exact h1)
          cases hb : bit (bs i) j with
          | true =>
            rw [pget_of_mem (d.pe_spec i (by omega)).1 h3 hb] at hAp; cases hAp
          | false => exact absent_get hab h3 hb
        · rw [hS] at h2; cases h2
        · cases h4 : (H (i + 1)).get p with
          | none => rfl
          | some y => exact absurd g3 (d.mono' k (i := i + 1) (j := j) (by omega) (by omega) p (by simp [h4]))
    have hfrA : Fr ι (merge (bs i) (H i) (pe i)) (H (i + 1)) := fun p h1 h2 => by
      refine frB p ?_ ?_
      · cases h : (mergeS (fun i => S.getD i false) (H q) (pe ops.size)).get p with
        | none => rfl
        | some z => exact absurd (dis p (by rw [h]; simp) h1) h2
      · exact merge_mono _ _ _ p (d.mono' k (i := i + 1) (by omega) (Nat.le_refl _) p h2)
    rw [← hr'] at he
    have hop := op_ok (o := o) k (cxt _ hsub) he hfrA
    have hB' : ∀ p, (mergeS (fun j => (S.setIfInBounds i true).getD j false) (H (i + 1)) (pe ops.size)).get p =
        match (H (i + 1)).get p with | some o => some o | none => (mergeS (fun i => S.getD i false) (H q) (pe ops.size)).get p := fun p => by
      rw [mergeS_get, mergeS_get]
      cases h : (H (i + 1)).get p with
      | some z => rfl
      | none =>
        have hHi : (H i).get p = none := by
          cases h2 : (H i).get p with
          | none => rfl
          | some z => exact absurd h (d.mono1 k hlt p (by simp [h2]))
        rw [← hH, hHi]
        simp only
        refine pget_congr fun j ob' hmem' => ?_
        rw [getD_true hsz, if_neg (fun e => by subst e; exact noPend hpe p ob' hmem')]
    refine hop.wpIn hF (no_defer he) fun x w' ⟨ι', hx, hst⟩ => ?_
    have hst2 := Step.frame (B' := mergeS (fun j => (S.setIfInBounds i true).getD j false) (H (i + 1)) (pe ops.size)) hokB hsub hst mA dis hB'
    refine hK (i + 1) _ w' ι' (iv.next od ho hS hcl hst.ext (by rw [hv]; exact hx) (by omega) (fun ℓ h1 h2 => ?_) (iv.step.trans hst2 m0 fun p hp => ?_))
    · rw [getD_true hsz]
      by_cases e : i = ℓ
      · subst e; simp
      · rw [if_neg e]
        rcases Nat.lt_trichotomy ℓ i with g1 | g1 | g1
        · exact ⟨fun _ => by omega, fun _ => hcl ℓ (hbl ℓ g1 h2)⟩
        · exact absurd g1.symm e
        · rw [iv.loud ℓ h1 h2]; omega
    · rw [hB']
      cases h : (H (i + 1)).get p with
      | some z => simp
      | none => exact hp
end
end
end Go.Ev
/-
  A verified evaluator, part 30: a region that draws its order, whole.
-/
namespace Go.Ev
noncomputable section
open Go

/-- how many are not listed -/
def unl (M : Nat) (S : Array Bool) : Nat := ((List.range M).filter fun i => !(S.getD i true)).length
theorem unl_zero {M : Nat} {S : Array Bool} (h : unl M S = 0) (i : Nat) (hi : i < M) : S.getD i true = true := by
  unfold unl at h
  have h1 := List.length_eq_zero_iff.1 h
  cases hs : S.getD i true with
  | true => rfl
  | false =>
    have : i ∈ (List.range M).filter fun i => !(S.getD i true) := List.mem_filter.2 ⟨List.mem_range.2 hi, by simp only [hs]; rfl⟩
    rw [h1] at this; cases this
theorem filter_lt {α : Type} {p q : α → Bool} : ∀ {l : List α}, (∀ x, p x = true → q x = true) → ∀ x, x ∈ l → q x = true → p x = false → (l.filter p).length < (l.filter q).length
  | [], _, x, hx, _, _ => by simp at hx
  | y :: l, h, x, hx, h1, h2 => by
    have mono : ∀ (l : List α), (l.filter p).length ≤ (l.filter q).length := fun l => by
      induction l with
      | nil => simp
      | cons z l ih =>
        rw [List.filter_cons, List.filter_cons]
        cases hp : p z with
        | true => rw [h z hp]; simpa using ih
        | false => cases q z <;> simp <;> omega
    rw [List.filter_cons, List.filter_cons]
    rcases List.mem_cons.1 hx with rfl | hx
    · rw [h1, h2]
      have := mono l
      simp
      omega
    · have ih := filter_lt h x hx h1 h2
      cases hp : p y with
      | true => rw [h y hp]; simpa using ih
      | false => cases q y <;> simp <;> omega
theorem unl_set {M i : Nat} {S : Array Bool} (hi : i < M) (hs : S.getD i true = false) : unl M (S.setIfInBounds i true) < unl M S := by
  unfold unl
  have hlt : i < S.size := by
    rcases Nat.lt_or_ge i S.size with h | h
    · exact h
    · simp [Array.getD_eq_getD_getElem?, Array.getElem?_eq_none h] at hs
  have gd : ∀ j, (S.setIfInBounds i true).getD j true = if i = j then true else S.getD j true := fun j => by
    simp only [Array.getD_eq_getD_getElem?, Array.getElem?_setIfInBounds]
    by_cases e : i = j
    · subst e; simp [hlt]
    · simp [e]
  refine filter_lt (fun j hj => ?_) i (List.mem_range.2 hi) (by rw [hs]; rfl) (by rw [gd, if_pos rfl]; rfl)
  rw [gd] at hj
  by_cases e : i = j
  · rw [if_pos e] at hj; cases hj
  · rw [if_neg e] at hj; exact hj

section
variable {P : Program} {Γ : Glo} {cal : Cal} {R : Regs} {ops : Array Oper} {bs : Nat → Nat} {L : Nat → List V} {H : Nat → Heap} {n : Nat → Pth} {pa : Nat → List Past} {ca : Nat → List Calm} {pe : Nat → List Pend}
  {ι0 ι ι' : Emb} {w0 w w' : World} {a a0 : Act} {S : Array Bool} {q N U m : Nat} {F : Fence} {Q : Exit → Act → World → Prop}

/-- none is ready: all are listed -/
theorem ready_nil (od : OrdR ops bs N) (hsz : S.size = ops.size) (h : Region.ready .any ops S = []) : ∀ i, i < ops.size → S.getD i false = true := by
  intro i
  induction i using Nat.strongRecOn with
  | _ i ih =>
    intro hi
    cases hs : S.getD i false with
    | true => rfl
    | false =>
      exfalso
      obtain ⟨o, ho⟩ := DRun.op i hi
      have hmem : i ∈ Region.ready .any ops S := mem_ready.2 ⟨by
        simp only [Array.getD_eq_getD_getElem?] at hs ⊢
        have hlt : i < S.size := by omega
        simp [hlt] at hs ⊢; exact hs, o, ho, fun e he hb => by
        have hlt := od.back i o ho e (by simpa using he) hb
        exact ih e.on hlt (by omega)⟩
      rw [h] at hmem; cases hmem

theorem any_ok (k : CalOK P Γ cal) (hF : FW F) (d : DRun P Γ cal R ops (fun i => dstsOf (ops.toList.take i) []) bs L H n pa ca pe) (od : OrdR ops bs N)
    (gok0 : GOK Γ ι0 (H 0) w0) (hfr : Fr ι0 (H 0) (mergeS (fun _ => true) (H ops.size) (pe ops.size))) (henv : EnvR ι0 U R a0.tmps)
    (hQ : ∀ ι' a' w', Step P ι0 (H 0) w0 ι' (mergeS (fun _ => true) (H ops.size) (pe ops.size)) w' → EnvD ι' (dstsOf ops.toList []) (L ops.size) R a'.tmps → N ≤ a'.tmps.size → a'.defers = a0.defers → Q .normal a' w') :
    ∀ (fuel : Nat) (S : Array Bool) (q : Nat) (a : Act) (w : World) (ι : Emb), AnyInv P ops bs L H pa pe N ι0 w0 a0 S q a w ι → unl ops.size S ≤ fuel → wpAnyIn F m P .any ops Q fuel S a w := by
  have done : ∀ (S : Array Bool) (q : Nat) (a : Act) (w : World) (ι : Emb), AnyInv P ops bs L H pa pe N ι0 w0 a0 S q a w ι → (∀ i, i < ops.size → S.getD i false = true) → Q .normal a w := by
    intro S q a w ι iv hall
    have hH : H ops.size = H q := d.same' iv.qle (Nat.le_refl _) fun ℓ g1 g2 g3 => by
      have := (iv.loud ℓ g2 g3).1 (hall ℓ g2); omega
    have hB : mergeS (fun i => S.getD i false) (H q) (pe ops.size) = mergeS (fun _ => true) (H ops.size) (pe ops.size) := by
      rw [hH]
      exact mergeS_congr _ fun j p ob hmem => hall j ((d.pe_spec ops.size (Nat.le_refl _)).2 _ _ _ hmem).1
    have hst := iv.step
    rw [hB] at hst
    refine hQ ι a w hst ⟨fun t c hc => ?_, fun t v hn hv => ?_⟩ iv.t3 iv.t4
    · obtain ⟨h1, _⟩ := idx_spec (ops := ops) (t := t) ops.size (Nat.le_refl _)
      have htk : ops.toList.take ops.size = ops.toList := by rw [← Array.length_toList, List.take_length]
      rw [htk] at h1
      obtain ⟨g1, o, g2, g3⟩ := h1 c hc
      have hL := (d.L_get ops.size (Nat.le_refl _)).2 (ops.size - 1 - c) (by omega)
      have e : ops.size - 1 - (ops.size - 1 - c) = c := by omega
      rw [e] at hL
      exact ⟨_, hL, iv.t1 _ o t g2 (hall _ (by omega)) g3⟩
    · obtain ⟨_, h2⟩ := idx_spec (ops := ops) (t := t) ops.size (Nat.le_refl _)
      have htk : ops.toList.take ops.size = ops.toList := by rw [← Array.length_toList, List.take_length]
      rw [htk] at h2
      rw [iv.t2 t fun j o hoj _ => h2 hn j o ((Array.getElem?_eq_some_iff.1 hoj).1) hoj]
      have := (henv (toPth t) v hv).2
      rw [num_toPth] at this
      exact V.rel.mono iv.step.ext _ _ this
  intro fuel
  induction fuel with
  | zero =>
    intro S q a w ι iv hu
    have hall : ∀ i, i < ops.size → S.getD i false = true := fun i hi => by
      have h1 := unl_zero (Nat.le_zero.1 hu) i hi
      have hlt : i < S.size := by rw [iv.size]; exact hi
      simp only [Array.getD_eq_getD_getElem?] at h1 ⊢
      simp [hlt] at h1 ⊢; exact h1
    refine ⟨?_, done S q a w ι iv hall⟩
    cases hr : Region.ready .any ops S with
    | nil => rfl
    | cons i l =>
      exfalso
      have hmem : i ∈ Region.ready .any ops S := by rw [hr]; exact List.mem_cons_self ..
      obtain ⟨hun, o, ho, _⟩ := mem_ready.1 hmem
      have hlt : i < ops.size := (Array.getElem?_eq_some_iff.1 ho).1
      have h1 := unl_zero (Nat.le_zero.1 hu) i hlt
      rw [hun] at h1; cases h1
  | succ fuel ih =>
    intro S q a w ι iv hu
    refine ⟨fun hr => done S q a w ι iv (ready_nil od iv.size hr), fun i hi => ?_⟩
    refine step_any k hF d od gok0 hfr henv iv hi fun q' a' w' ι' iv' => ih _ q' a' w' ι' iv' ?_
    obtain ⟨hun, o, ho, _⟩ := mem_ready.1 hi
    have hlt : i < ops.size := (Array.getElem?_eq_some_iff.1 ho).1
    have := unl_set hlt hun
    omega

/-- what regIR has looked at -/
theorem ordR_of (hb : below N (dstsOf ops.toList []) = true) (ha : apartAll ops (befs ops.toList []) ops.toList 0 = true) (he : edgesBack ops.toList 0 = true) :
    OrdR ops (fun i => ((befs ops.toList [])[i]?).getD 0) N := by
  refine ⟨fun i j oi oj hij hi hj => ?_, fun i o ho j hbit => ?_, fun i o ho e hm hbd => ?_, fun i o t ho ht => ?_⟩
  · obtain ⟨b, h1, h2⟩ := apartAll_get ops _ ops.toList 0 ha i j oi oj hij (by simpa using hi) (by simpa using hj)
    rw [Nat.zero_add] at h1 h2
    simp only [h1, Option.getD_some]
    exact h2
  · obtain ⟨_, _, h3⟩ := befs_spec ops.toList []
    have h4 := h3 i o (by simpa using ho)
    simp only [List.length_nil, Nat.zero_add] at h4
    simp only [h4, Option.getD_some] at hbit
    obtain ⟨e, g1, g2, g3⟩ := bit_befOf _ _ _ hbit
    refine ⟨e, g1, g2, ?_⟩
    rcases g3 with rfl | ⟨b, g4, g5⟩
    · exact .inl rfl
    · rw [List.getElem?_take] at g4
      by_cases hlt : e.on < i
      · rw [if_pos hlt] at g4
        right
        simp only [g4, Option.getD_some]; exact g5
      · rw [if_neg hlt] at g4; cases g4
  · have := edgesBack_get ops.toList 0 he i o (by simpa using ho) e hm hbd
    omega
  · have hlt : i < ops.size := (Array.getElem?_eq_some_iff.1 ho).1
    have hsplit : ops.toList = ops.toList.take (i + 1) ++ ops.toList.drop (i + 1) := (List.take_append_drop _ _).symm
    have hol : ops.toList[i]? = some o := by simpa using ho
    have hd : ∀ (l1 l2 : List Oper) (D : List (Option Nat)), dstsOf (l1 ++ l2) D = dstsOf l2 (dstsOf l1 D) := by
      intro l1
      induction l1 with
      | nil => intro l2 D; rfl
      | cons x l1 ih => intro l2 D; rw [List.cons_append, dstsOf_cons, ih, dstsOf_cons]
    rw [hsplit, hd] at hb
    have h1 := below_dsts _ _ hb
    rw [take_succ_of hol, dstsOf_append] at h1
    exact (below_cons h1).1 t ht
/-- a region that draws its order -/
theorem regd_ok (k : CalOK P Γ cal) (hF : FW F) (hmix : P.follows .mixedOrders = true) {id : Nat} {H0 : Heap} {n0 : Pth} {LM : List V} {HM : Heap} {nM : Pth} {paM : List Past} {caM : List Calm} {peM : List Pend}
    (h : evDs cal Γ R (dopsIR P ops ops.toList (befs ops.toList []) [] 0) 0 [] H0 n0 [] [] [] = .ok LM HM nM paM caM peM)
    (hb : below N (dstsOf ops.toList []) = true) (ha : apartAll ops (befs ops.toList []) ops.toList 0 = true) (he : edgesBack ops.toList 0 = true) :
    Mono H0 (mergeAll HM peM) ∧ ∀ (ι : Emb) (w : World) (a : Act) (Q : Exit → Act → World → Prop), HOK P ι H0 w → GOK Γ ι H0 w → Fr ι H0 (mergeAll HM peM) → EnvR ι U R a.tmps → N ≤ a.tmps.size →
      (∀ ι' a' w', Step P ι H0 w ι' (mergeAll HM peM) w' → EnvD ι' (dstsOf ops.toList []) LM R a'.tmps → N ≤ a'.tmps.size → a'.defers = a.defers → Q .normal a' w') →
      (Code.region id ops true).wpIn F m P Q a w := by
  obtain ⟨L, H, n, pa, ca, pe, rfl, rfl, rfl, rfl, d⟩ := run_of h
  have od := ordR_of hb ha he
  rw [mergeAll_eq]
  refine ⟨(d.mono' k (Nat.zero_le _) (Nat.le_refl _)).trans (merge_mono _ _ _), fun ι w a Q hok gok hfr henv hN hQ => ?_⟩
  refine wpIn_region_any hmix ?_
  have hst0 := drew_step hok
  refine any_ok k hF d od (gok.step hst0) hfr henv (fun ι' a' w' hs hE hN' hD => hQ ι' a' w' (hst0.trans hs (Mono.refl _) ((d.mono' k (Nat.zero_le _) (Nat.le_refl _)).trans (merge_mono _ _ _))) hE hN' hD) ops.size _ 0 a _ ι ?_ ?_
  · refine ⟨by simp, fun i hi => ?_, Nat.zero_le _, fun ℓ hl _ => ?_, ?_, fun j o t _ hj => ?_, fun t _ => rfl, hN, rfl⟩
    · exfalso
      simp [Array.getD_eq_getD_getElem?, Array.getElem?_replicate] at hi
      split at hi <;> simp at hi
    · constructor
      · intro h
        simp [Array.getD_eq_getD_getElem?, Array.getElem?_replicate] at h
        split at h <;> simp at h
      · intro h; omega
    · have e : mergeS (fun i => (Array.replicate ops.size false).getD i false) (H 0) (pe ops.size) = mergeS (fun _ => false) (H 0) (pe ops.size) := mergeS_congr _ fun j p ob _ => by
        simp [Array.getD_eq_getD_getElem?, Array.getElem?_replicate]
        split <;> rfl
      rw [e]
      refine Step.congr (Step.refl hst0.hok) fun p => ?_
      rw [mergeS_get]
      cases (H 0).get p with
      | some o => rfl
      | none =>
        simp only
        cases hp : pget (fun _ => false) p (pe ops.size) with
        | none => rfl
        | some z => obtain ⟨_, _, h2⟩ := pget_mem hp; cases h2
    · exfalso
      simp [Array.getD_eq_getD_getElem?, Array.getElem?_replicate] at hj
      split at hj <;> simp at hj
  · unfold unl
    have := List.length_filter_le (fun i => !((Array.replicate ops.size false).getD i true)) (List.range ops.size)
    simpa using this
end
end
end Go.Ev
