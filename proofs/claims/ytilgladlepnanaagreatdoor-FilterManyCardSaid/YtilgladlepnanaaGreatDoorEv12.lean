/-
  A verified evaluator, part 12: slices of slices, conversions, comparisons, lengths, aggregates.
-/
import Derived.Test.YtilgladlepnanaaGreatDoorEv11
namespace Go.Ev
noncomputable section
open Go

section
variable {P : Program} {Γ : Glo} {ι : Emb} {H H' : Heap} {w : World} {ρ : Operand → Value} {L : List V} {R : Regs} {r : Operand → Src} {cal : Cal} {n n' : Pth} {v : V} {o : Oper}

theorem addr_add_zero (a : Addr) : a.add 0 = a := by simp [Addr.add]
theorem hmOK_some {mx hi : Option Operand} (h : hmOK (mx.map r) (hi.map r) = true) : mx = none ∨ hi.isSome = true := by
  cases mx <;> cases hi <;> simp [hmOK] at h <;> simp
theorem bytes_extract (s : ByteArray) (a b : Nat) (h1 : a ≤ b) (h2 : b ≤ s.size) : (s.extract a b).data.toList = (s.data.toList.drop a).take (b - a) := by
  simp [ByteArray.data_extract, Array.toList_extract, List.extract_eq_take_drop]
theorem ok_slice (c : Cxt P Γ ι H w ρ L R r) {t : TypeId} {x : Operand} {lo hi mx : Option Operand} (ho : o.op = .slice t x lo hi mx)
    (he : evI (opI P r (.slice t x lo hi mx)) cal Γ L R H n = .ok v H' n') : OpOK P ρ o w (Post P ι H w H' v) := by
  unfold opI at he
  have hx := c.hs x
  cases hu : P.underlying t with
  | none => simp [hu] at he; cases he
  | some d =>
    cases d <;> simp only [hu] at he <;> try (cases he; done)
    case string =>
      have he' : evSlice .str (r x) (lo.map r) (hi.map r) (mx.map r) cal Γ L R H n = .ok v H' n' := he
      unfold evSlice at he'
      simp only at he'
      cases hbx : src L R (r x) <;> simp only [hbx] at he' <;> try (cases he'; done)
      rename_i s
      cases hl : bound? L R 0 (lo.map r) with
      | none => simp [hl] at he'
      | some a =>
        cases hh : bound? L R (len s) (hi.map r) with
        | none => simp [hl, hh] at he'
        | some b =>
          cases mx with
          | some m => simp [hl, hh] at he'
          | none =>
            simp only [hl, hh, Option.map_none] at he'
            cases h1 : Nat.ble a b with
            | false => simp [h1] at he'
            | true =>
              cases h2 : Nat.ble b (len s) with
              | false => simp [h1, h2] at he'
              | true =>
                simp only [h1, h2] at he'
                obtain ⟨h3, rfl, rfl⟩ := ret_some he'
                rw [hbx] at hx
                simp only [V.rel] at hx
                obtain ⟨bs, hxe, rfl⟩ := hx
                have l1 := ble_le h1
                have l2 := ble_le h2
                rw [len_eq] at l2 hh
                simp at l2 hh
                rw [takeN_eq, dropN_eq] at h3
                by_cases hle : b - a ≤ ((bs.data.toList.map UInt8.toNat).drop a).length
                · rw [if_pos hle] at h3
                  simp at h3; subst h3
                  have hsz : bs.data.size = bs.size := rfl
                  refine OpOK.same c (s := Instr.sliceAt t (ρ x) (lo.map ρ) (hi.map ρ) none) (x := .string (bs.extract a b)) (by unfold execOp; rw [ho]; rfl) ?_ ?_
                  · unfold Instr.sliceAt
                    rw [run_ok_bind (run_underlying hu w)]
                    simp only []
                    unfold Instr.slice
                    rw [run_ok_bind (run_underlying hu w), hxe]
                    simp only [Option.isSome_none, Bool.false_eq_true, if_false]
                    have hb := run_sliceBounds (P := P) (w := w) (isSlice := false) (m := bs.size) (cp := bs.size) (a := a) (b := b) (d := bs.size) (lo := lo) (hi := hi) (mx := none) c.hs hl (by rw [← hsz]; exact hh) rfl l1 (by rw [← hsz]; exact l2) (Nat.le_refl _) (.inl rfl) bs.size (.inl rfl) (fun _ => by rw [← hsz]; exact l2)
                    simp only [Option.map_none] at hb
                    rw [run_ok_bind hb]; rfl
                  · simp only [V.rel]
                    refine ⟨_, rfl, ?_⟩
                    rw [bytes_extract bs a b l1 (by rw [← hsz]; exact l2)]
                    simp [List.map_take, List.map_drop]
                · rw [if_neg hle] at h3; simp at h3
    case slice e =>
      cases hsz : sizeT P e with
      | none => simp [hsz] at he; cases he
      | some k =>
        have he' : evSlice (.sl k) (r x) (lo.map r) (hi.map r) (mx.map r) cal Γ L R H n = .ok v H' n' := by simp only [hsz] at he; exact he
        unfold evSlice at he'
        simp only at he'
        cases hm : hmOK (mx.map r) (hi.map r) with
        | false => simp [hm] at he'
        | true =>
        have hm' := hmOK_some hm
        simp only [hm] at he'
        cases hbx : src L R (r x) <;> simp only [hbx] at he' <;> try (cases he'; done)
        case nilsl =>
          cases hl : bound? L R 0 (lo.map r) with
          | none => simp [hl] at he'
          | some a =>
            cases hh : bound? L R 0 (hi.map r) with
            | none => simp [hl, hh] at he'
            | some b =>
              cases hmm : bound? L R 0 (mx.map r) with
              | none => simp [hl, hh, hmm] at he'
              | some d =>
                simp only [hl, hh, hmm] at he'
                cases h1 : Nat.beq a 0 <;> cases h2 : Nat.beq b 0 <;> cases h3 : Nat.beq d 0 <;> simp [h1, h2, h3] at he'
                obtain ⟨rfl, rfl, rfl⟩ := he'
                have := beq_eq h1; subst this
                have := beq_eq h2; subst this
                have := beq_eq h3; subst this
                rw [hbx] at hx
                simp only [V.rel] at hx
                refine OpOK.same c (s := Instr.sliceAt t (ρ x) (lo.map ρ) (hi.map ρ) (mx.map ρ)) (x := .slice none 0 0) (by unfold execOp; rw [ho]) ?_ (by simp [V.rel])
                unfold Instr.sliceAt
                rw [run_ok_bind (run_underlying hu w)]
                simp only []
                unfold Instr.slice
                rw [run_ok_bind (run_underlying hu w), hx]
                simp only []
                have hb := run_sliceBounds (P := P) (w := w) (isSlice := true) (m := 0) (cp := 0) (a := 0) (b := 0) (d := 0) (lo := lo) (hi := hi) (mx := mx) c.hs hl hh hmm (Nat.le_refl _) (Nat.le_refl _) (Nat.le_refl _) hm' 0 (.inr (Nat.le_refl _)) (fun _ => Nat.le_refl _)
                rw [run_ok_bind hb]
                simp only []
                rw [run_ok_bind (run_sizeOf hsz)]
                cases mx <;> simp [run_ofPure]
        case sl0 zc =>
          cases hl : bound? L R 0 (lo.map r) with
          | none => simp [hl] at he'
          | some a =>
            cases hh : bound? L R 0 (hi.map r) with
            | none => simp [hl, hh] at he'
            | some b =>
              cases hmm : bound? L R 0 (mx.map r) with
              | none => simp [hl, hh, hmm] at he'
              | some d =>
                simp only [hl, hh, hmm] at he'
                cases h1 : Nat.beq a 0 <;> cases h2 : Nat.beq b 0 <;> cases h3 : Nat.beq d 0 <;> simp [h1, h2, h3] at he'
                obtain ⟨rfl, rfl, rfl⟩ := he'
                have := beq_eq h1; subst this
                have := beq_eq h2; subst this
                have := beq_eq h3; subst this
                rw [hbx] at hx
                simp only [V.rel] at hx
                obtain ⟨ad, c', hxe, hz⟩ := hx
                have hb := run_sliceBounds (P := P) (w := w) (isSlice := true) (m := 0) (cp := 0) (a := 0) (b := 0) (d := 0) (lo := lo) (hi := hi) (mx := mx) c.hs hl hh hmm (Nat.le_refl _) (Nat.le_refl _) (Nat.le_refl _) hm' c' (.inr (Nat.zero_le _)) (fun _ => Nat.zero_le _)
                refine OpOK.same c (s := Instr.sliceAt t (ρ x) (lo.map ρ) (hi.map ρ) (mx.map ρ)) (x := .slice (if (if mx.isSome then 0 else c') = 0 then some ad else (some ad).map (·.add (0 * k))) 0 ((if mx.isSome then 0 else c') - 0)) (by unfold execOp; rw [ho]) ?_ ?_
                · unfold Instr.sliceAt
                  rw [run_ok_bind (run_underlying hu w)]
                  simp only []
                  unfold Instr.slice
                  rw [run_ok_bind (run_underlying hu w), hxe]
                  simp only []
                  rw [run_ok_bind hb]
                  simp only []
                  rw [run_ok_bind (run_sizeOf hsz)]; rfl
                · simp only [V.rel]
                  refine ⟨ad, (if mx.isSome then 0 else c') - 0, ?_, fun hz' => ?_⟩
                  · simp only [Nat.zero_mul, Option.map_some, addr_add_zero, ite_self]
                  · cases mx with
                    | none => simp at hz'; simpa using hz hz'
                    | some y => simp
        case sl p off m cp ex =>
          cases hl : bound? L R 0 (lo.map r) with
          | none => simp [hl] at he'
          | some a =>
            cases hh : bound? L R m (hi.map r) with
            | none => simp [hl, hh] at he'
            | some b =>
              cases hmm : bound? L R cp (mx.map r) with
              | none => simp [hl, hh, hmm] at he'
              | some d =>
                simp only [hl, hh, hmm] at he'
                cases h1 : Nat.ble a b with
                | false => simp [h1] at he'
                | true =>
                cases h2 : Nat.ble b d with
                | false => simp [h1, h2] at he'
                | true =>
                cases h3 : Nat.ble d cp with
                | false => simp [h1, h2, h3] at he'
                | true =>
                simp only [h1, h2, h3] at he'
                have l1 := ble_le h1
                have l2 := ble_le h2
                have l3 := ble_le h3
                rw [hbx] at hx
                simp only [V.rel] at hx
                obtain ⟨bk, s, c', hp, hxe, hcc, hex⟩ := hx
                have hdm : mx = none → d = cp := fun e => by subst e; simp [bound?] at hmm; exact hmm.symm
                have hb := run_sliceBounds (P := P) (w := w) (isSlice := true) (m := m) (cp := cp) (a := a) (b := b) (d := d) (lo := lo) (hi := hi) (mx := mx) c.hs hl hh hmm l1 l2 l3 hm' c' (.inr hcc) (fun e => by have := hdm e; omega)
                have hrun : (Instr.sliceAt t (ρ x) (lo.map ρ) (hi.map ρ) (mx.map ρ)).run P w =
                    .ok (.slice (if (if mx.isSome then d else c') = a then some ⟨bk, s + off, none⟩ else (some (⟨bk, s + off, none⟩ : Addr)).map (·.add (a * k))) (b - a) ((if mx.isSome then d else c') - a)) w := by
                  unfold Instr.sliceAt
                  rw [run_ok_bind (run_underlying hu w)]
                  simp only []
                  unfold Instr.slice
                  rw [run_ok_bind (run_underlying hu w), hxe]
                  simp only []
                  rw [run_ok_bind hb]
                  simp only []
                  rw [run_ok_bind (run_sizeOf hsz)]; rfl
                have fin : ∀ (u : V), u = v → H = H' → V.rel ι u (.slice (if (if mx.isSome then d else c') = a then some ⟨bk, s + off, none⟩ else (some (⟨bk, s + off, none⟩ : Addr)).map (·.add (a * k))) (b - a) ((if mx.isSome then d else c') - a)) →
                    OpOK P ρ o w (Post P ι H w H' v) := fun u e1 e2 hr => by
                  subst e1; subst e2
                  exact OpOK.same c (s := Instr.sliceAt t (ρ x) (lo.map ρ) (hi.map ρ) (mx.map ρ)) (by unfold execOp; rw [ho]) hrun hr
                cases ha0 : Nat.beq a 0 with
                | true =>
                  have := beq_eq ha0; subst this
                  simp only [ha0] at he'
                  simp at he'
                  obtain ⟨e1, e2, _⟩ := he'
                  refine fin _ e1 e2 ?_
                  simp only [V.rel]
                  cases mx with
                  | none =>
                    have hdc := hdm rfl
                    refine ⟨bk, s, c', hp, ?_, by omega, fun h0 => by have := hex.1 h0; omega, hex.2⟩
                    simp only [Nat.zero_mul, Option.map_some, addr_add, Nat.add_zero, ite_self, Nat.sub_zero, Option.isSome_none, Bool.false_eq_true, if_false]
                  | some y =>
                    refine ⟨bk, s, d, hp, ?_, Nat.le_refl _, fun _ => rfl, fun h0 => absurd rfl h0⟩
                    simp only [Nat.zero_mul, Option.map_some, addr_add, Nat.add_zero, ite_self, Nat.sub_zero, Option.isSome_some, if_true]
                | false =>
                  have hane : a ≠ 0 := fun e => by subst e; simp at ha0
                  cases hda : Nat.beq d a with
                  | false =>
                    have hdane : d ≠ a := fun e => by subst e; simp at hda
                    simp only [ha0, hda] at he'
                    have hne : ¬ ((if mx.isSome then d else c') = a) := by
                      cases mx with
                      | none => have := hdm rfl; simp; omega
                      | some y => simpa using hdane
                    cases mx with
                    | some y =>
                      simp at he'
                      obtain ⟨e1, e2, _⟩ := he'
                      refine fin _ e1 e2 ?_
                      rw [if_neg hne]
                      simp only [V.rel]
                      refine ⟨bk, s, d - a, hp, ?_, Nat.le_refl _, fun _ => rfl, fun h0 => absurd rfl h0⟩
                      simp only [Option.map_some, addr_add, Nat.add_assoc, Option.isSome_some, if_true]
                    | none =>
                      have hdc := hdm rfl
                      cases ex with
                      | zero =>
                        simp at he'
                        obtain ⟨e1, e2, _⟩ := he'
                        refine fin _ e1 e2 ?_
                        rw [if_neg hne]
                        simp only [V.rel]
                        have := hex.1 rfl
                        refine ⟨bk, s, c' - a, hp, ?_, by omega, fun _ => by omega, fun h0 => absurd rfl h0⟩
                        simp only [Option.map_some, addr_add, Nat.add_assoc, Option.isSome_none, Bool.false_eq_true, if_false]
                      | succ e =>
                        cases hek : Nat.beq (Nat.succ e) k with
                        | false => simp only [Option.map_none, hek] at he'; cases he'
                        | true =>
                          have := beq_eq hek; subst this
                          simp only [Option.map_none, hek] at he'
                          simp at he'
                          obtain ⟨e1, e2, _⟩ := he'
                          refine fin _ e1 e2 ?_
                          rw [if_neg hne]
                          simp only [V.rel]
                          refine ⟨bk, s, c' - a, hp, ?_, by omega, fun h0 => absurd h0 (by omega), fun _ => ?_⟩
                          · simp only [Option.map_some, addr_add, Nat.add_assoc, Option.isSome_none, Bool.false_eq_true, if_false]
                          · have h0 := hex.2 (by omega)
                            rw [← h0, Nat.sub_mul]
                            have hac : a * (e + 1) ≤ c' * (e + 1) := Nat.mul_le_mul_right _ (by omega)
                            omega
                  | true =>
                    have := beq_eq hda; subst this
                    have hbd : b = d := by omega
                    subst hbd
                    simp only [ha0, hda] at he'
                    by_cases hz0 : mx = none ∧ ex ≠ 0
                    · obtain ⟨rfl, hex0⟩ := hz0
                      cases ex with
                      | zero => exact absurd rfl hex0
                      | succ e =>
                        simp at he'
                        obtain ⟨e1, e2, _⟩ := he'
                        refine fin _ e1 e2 ?_
                        simp only [V.rel, Nat.sub_self, Option.isSome_none, Bool.false_eq_true, if_false]
                        by_cases hcb : c' = b
                        · rw [if_pos hcb]; exact ⟨_, _, rfl, fun h => by cases h⟩
                        · rw [if_neg hcb]; exact ⟨_, _, rfl, fun h => by cases h⟩
                    have key : (if mx.isSome then b else c') = b ∧ V.sl p off 0 0 0 = v ∧ H = H' := by
                      cases mx with
                      | none =>
                        have := hdm rfl
                        cases ex with
                        | succ e => exact absurd ⟨rfl, Nat.succ_ne_zero e⟩ hz0
                        | zero => simp at he'; refine ⟨by simp; have := hex.1 rfl; omega, he'.1, he'.2.1⟩
                      | some y => simp at he'; exact ⟨by simp, he'.1, he'.2.1⟩
                    obtain ⟨k1, e1, e2⟩ := key
                    refine fin _ e1 e2 ?_
                    rw [k1, if_pos rfl]
                    have hba : b - b = 0 := Nat.sub_self b
                    simp only [V.rel, hba]
                    exact ⟨bk, s, 0, hp, rfl, Nat.le_refl _, fun _ => rfl, fun h0 => absurd rfl h0⟩

theorem bytesOf_cons (u : V) (t : List V) : bytesOf (u :: t) = (match u with
      | .int .u8 (.ofNat n) => (match Nat.blt n 256, bytesOf t with | true, some r => some (n :: r) | _, _ => none)
      | _ => none) := rfl
theorem bytesOf_rels : ∀ {l : List V} {bs : List Nat} {xs : List Value}, bytesOf l = some bs → V.rels ι l xs → xs = bs.map (fun (b : Nat) => Value.int .u8 (b : Int)) ∧ ∀ b ∈ bs, b < 256
  | [], bs, xs, h, hr => by
    have h' : some [] = some bs := h
    simp at h'; subst h'
    rw [rels_nil_inv hr]; simp
  | u :: t, bs, xs, h, hr => by
    obtain ⟨x, ys, rfl, hx, ht⟩ := rels_cons_inv hr
    have h' := h
    rw [bytesOf_cons] at h'
    cases u <;> (try (simp at h'; done))
    rename_i k m
    cases k <;> (try (simp at h'; done))
    cases m <;> (try (simp at h'; done))
    rename_i b
    simp only [] at h'
    cases hb : Nat.blt b 256 with
    | false => simp [hb] at h'
    | true =>
      cases hbt : bytesOf t with
      | none => simp [hb, hbt] at h'
      | some rr =>
        simp [hb, hbt] at h'
        subst h'
        obtain ⟨e1, e2⟩ := bytesOf_rels hbt ht
        simp only [V.rel] at hx
        subst hx; subst e1
        refine ⟨by simp, fun z hz => ?_⟩
        rcases List.mem_cons.1 hz with rfl | hz
        · exact blt_lt hb
        · exact e2 z hz
theorem convI_inv {s d : TypeId} {ds dd : TypeDesc} {y : Src} {ck : CK} (hi : convI P s d y = .conv ck y) (hs : P.underlying s = some ds) (hd : P.underlying d = some dd) :
    (∃ k k', ds = .int k' ∧ dd = .int k ∧ ck = .int k) ∨ (ds = .string ∧ dd = .string ∧ ck = .same) ∨ (∃ e, ds = .slice e ∧ dd = .string ∧ P.underlying e = some (.int .u8) ∧ ck = .b2s) ∨
      (∃ e, ds = .slice e ∧ dd = .slice e ∧ s = d ∧ P.underlying e = some (.int .u8) ∧ ck = .mark) := by
  unfold convI at hi
  rw [hs, hd] at hi
  cases ds <;> cases dd <;> simp only at hi <;> try (cases hi; done)
  · cases hi; exact .inl ⟨_, _, rfl, rfl, rfl⟩
  · cases hi; exact .inr (.inl ⟨rfl, rfl, rfl⟩)
  · rename_i e
    cases hue : P.underlying e with
    | none => simp [hue] at hi
    | some q => cases q <;> simp [hue] at hi; rename_i kq; cases kq <;> simp at hi
  · rename_i e
    cases hue : P.underlying e with
    | none => simp [hue] at hi
    | some q =>
      cases q <;> simp [hue] at hi
      rename_i kq
      cases kq <;> simp at hi
      exact .inr (.inr (.inl ⟨e, rfl, rfl, hue, hi.symm⟩))
  · rename_i e0 e
    cases hsd : Nat.beq s d with
    | false => simp [hsd] at hi
    | true =>
      have := beq_eq hsd; subst this
      rw [hs] at hd; cases hd
      cases hue : P.underlying e0 with
      | none => simp [hsd, hue] at hi
      | some q =>
        cases q <;> simp [hsd, hue] at hi
        rename_i kq
        cases kq <;> simp at hi
        exact .inr (.inr (.inr ⟨e0, rfl, rfl, rfl, hue, hi.symm⟩))
theorem ok_conv (c : Cxt P Γ ι H w ρ L R r) {s d : TypeId} {x : Operand} {ck : CK} (ho : o.op = .convert s d x) (hi : convI P s d (r x) = .conv ck (r x))
    (he : evI (.conv ck (r x)) cal Γ L R H n = .ok v H' n') : OpOK P ρ o w (Post P ι H w H' v) := by
  have he' : evConv ck (r x) cal Γ L R H n = .ok v H' n' := he
  unfold evConv at he'
  have hx := c.hs x
  have hexec : execOp ρ o = (do pure (Next.value (← convert s d (ρ x))) : Sem Next) := by unfold execOp; rw [ho]
  cases hs : P.underlying s with
  | none => unfold convI at hi; simp [hs] at hi
  | some ds =>
    cases hd : P.underlying d with
    | none => unfold convI at hi; simp [hs, hd] at hi
    | some dd =>
      have hinv := convI_inv hi hs hd
      cases ck with
      | int k =>
        cases hbx : src L R (r x) <;> simp [hbx] at he'
        rename_i kx m
        obtain ⟨rfl, rfl, rfl⟩ := he'
        rw [hbx] at hx; simp only [V.rel] at hx
        have hh : (∃ k', ds = .int k') ∧ dd = .int k := by
          rcases hinv with ⟨k1, k2, h1, h2, h3⟩ | ⟨_, _, h3⟩ | ⟨_, _, _, _, h3⟩ | ⟨_, _, _, _, _, h3⟩ <;> cases h3
          exact ⟨⟨k2, h1⟩, h2⟩
        obtain ⟨⟨k', rfl⟩, rfl⟩ := hh
        refine OpOK.same c (s := convert s d (ρ x)) (x := .int k (k.wrap m)) hexec ?_ (by simp [V.rel, wr_eq])
        rw [hx]
        unfold convert
        rw [run_ok_bind (run_underlying hs w), run_ok_bind (run_underlying hd w)]; rfl
      | mark =>
        have hh : ∃ e, ds = .slice e ∧ dd = .slice e ∧ s = d ∧ P.underlying e = some (.int .u8) := by
          rcases hinv with ⟨_, _, _, _, h3⟩ | ⟨_, _, h3⟩ | ⟨_, _, _, _, h3⟩ | ⟨e, h1, h2, h4, h5, _⟩ <;> try (cases h3; done)
          exact ⟨e, h1, h2, h4, h5⟩
        obtain ⟨e, rfl, rfl, rfl, hue⟩ := hh
        cases hbx : src L R (r x) <;> simp [hbx] at he'
        rename_i p off m cp ex
        cases hg : H.get p with
        | none => simp [hg] at he'
        | some ob =>
          cases ob <;> simp [hg] at he'
          rename_i l
          obtain ⟨rfl, rfl, rfl⟩ := he'
          rw [hbx] at hx
          have hxx := hx
          simp only [V.rel] at hx
          obtain ⟨b, s0, c', hp, hxe, _⟩ := hx
          obtain ⟨b2, s2, cs, el, fr, hι2, hh2, hf, hl, hsz2, hbz⟩ := cells_of c.hok hg
          rw [hp] at hι2; cases hι2
          let w' : World := w.freeze { block := b, off := cs.size } 1
          have hw' : w'.heap = w.heap.modify b (fun x => match x with
              | .cells c_1 elem (lo, hi) => .cells c_1 elem (if (lo == hi) = true then (cs.size, cs.size + 1) else (min lo cs.size, max hi (cs.size + 1)))
              | o => o) := by
            show (w.freeze { block := b, off := cs.size } 1).heap = _
            unfold World.freeze; rw [if_neg (by decide)]; rfl
          have hlt := (Array.getElem?_eq_some_iff.1 hh2).1
          have hsb : SameBut b w w' := by
            refine ⟨by rw [hw']; simp, fun b' hb' => by rw [hw', Array.getElem?_modify, if_neg (fun e => hb' e.symm)], ?_, ?_, ?_⟩
            · show (w.freeze _ 1).tape = _
              unfold World.freeze; rw [if_neg (by decide)]
            · show (w.freeze _ 1).os = _
              unfold World.freeze; rw [if_neg (by decide)]
            · show (w.freeze _ 1).output = _
              unfold World.freeze; rw [if_neg (by decide)]
          obtain ⟨fr', hh', hf'⟩ : ∃ fr', w'.heap[b]? = some (.cells cs el fr') ∧ (fr'.1 = fr'.2 ∨ cs.size ≤ fr'.1) := by
            obtain ⟨f1, f2⟩ := fr
            refine ⟨if (f1 == f2) = true then (cs.size, cs.size + 1) else (min f1 cs.size, max f2 (cs.size + 1)), ?_, ?_⟩
            · rw [hw', Array.getElem?_modify, if_pos rfl, hh2]; rfl
            · by_cases e12 : f1 = f2
              · rw [if_pos (by simpa using e12)]; exact .inr (Nat.le_refl _)
              · rw [if_neg (by simpa using e12)]
                rcases hf with h0 | h0
                · exact absurd h0 e12
                · exact .inr (by simp only at h0 ⊢; omega)
          refine OpOK.value (x := ρ x) (w' := w') ?_ ⟨ι, hxx, Step.write c.hok hg (by simp) hp hsb ⟨b, s0, cs, el, fr', hp, hh', hf', hl, hbz⟩⟩
          rw [hexec]
          refine run_v ?_
          unfold convert
          rw [run_ok_bind (run_underlying hs w), run_ok_bind (run_underlying hd w), hxe]
          simp only [BEq.rfl]
          rw [run_ok_bind (run_underlying hue w)]
          simp only []
          have hm : (markStringish ⟨b, s0 + off, none⟩).run P w = .ok () w' := by
            unfold markStringish
            have hs2 : (shape b).run P w = .ok (some (el, cs.size)) w := by simp only [shape, Sem.run, World.shape?, hh2]
            rw [run_ok_bind hs2]
            simp [freeze, Sem.run, w']
          rw [run_ok_bind hm]; rfl
      | same =>
        cases hbx : src L R (r x) <;> simp [hbx] at he'
        obtain ⟨rfl, rfl, rfl⟩ := he'
        rw [hbx] at hx
        have hxx := hx
        simp only [V.rel] at hx
        obtain ⟨bs, hxe, hbs⟩ := hx
        have hh : ds = .string ∧ dd = .string := by
          rcases hinv with ⟨_, _, _, _, h3⟩ | ⟨h1, h2, _⟩ | ⟨_, _, _, _, h3⟩ | ⟨_, _, _, _, _, h3⟩ <;> try (cases h3; done)
          exact ⟨h1, h2⟩
        obtain ⟨rfl, rfl⟩ := hh
        refine OpOK.same c (s := convert s d (ρ x)) (x := ρ x) hexec ?_ hxx
        rw [hxe]
        unfold convert
        rw [run_ok_bind (run_underlying hs w), run_ok_bind (run_underlying hd w)]; rfl
      | b2s =>
        have hh : ∃ e, ds = .slice e ∧ dd = .string ∧ P.underlying e = some (.int .u8) := by
          rcases hinv with ⟨_, _, _, _, h3⟩ | ⟨_, _, h3⟩ | ⟨e, h1, h2, h4, _⟩ | ⟨_, _, _, _, _, h3⟩ <;> try (cases h3; done)
          exact ⟨e, h1, h2, h4⟩
        obtain ⟨e, rfl, rfl, hue⟩ := hh
        cases hbx : src L R (r x) <;> simp [hbx] at he'
        case nilsl =>
          obtain ⟨rfl, rfl, rfl⟩ := he'
          rw [hbx] at hx; simp only [V.rel] at hx
          refine OpOK.same c (s := convert s d (ρ x)) (x := .string .empty) hexec ?_ (by simp only [V.rel]; exact ⟨_, rfl, rfl⟩)
          rw [hx]; exact run_convert_bytes_nil w s e hs hue 0 0 d hd
        case sl p off m cp ex =>
          cases hca : cellsAt Γ H (.ptr p off) m with
          | none => simp [hca] at he'
          | some l =>
            cases hbo : bytesOf l with
            | none => simp [hca, hbo] at he'
            | some bs =>
              simp [hca, hbo] at he'
              obtain ⟨rfl, rfl, rfl⟩ := he'
              rw [hbx] at hx; simp only [V.rel] at hx
              obtain ⟨b, s0, c', hp, hxe, _⟩ := hx
              obtain ⟨a, ys, hae, hload, hr, hlen⟩ := cellsAt_ok c.hok c.gok hca (x := .pointer (some ⟨b, s0 + off, none⟩)) (by simp only [V.rel]; exact ⟨b, s0, hp, rfl⟩)
              simp at hae; subst hae
              obtain ⟨e1, e2⟩ := bytesOf_rels hbo hr
              have hys : ys = ((bs.map (fun (b : Nat) => (b : Int))).map (Value.int .u8)).toArray := by
                apply Array.toList_inj.1
                rw [e1]; simp
              refine OpOK.same c (s := convert s d (ρ x)) (x := .string ((bs.map fun (b : Nat) => (b : Int)).foldl (fun r n => r.push (UInt8.ofNat n.toNat)) ByteArray.empty)) hexec ?_ ?_
              · rw [hxe, run_convert_bytes_string w s d e _ m c' hs hue hd]
                exact run_bytesToString w _ m c' _ (by rw [hload, hys])
              · simp only [V.rel]
                refine ⟨_, rfl, ?_⟩
                rw [foldl_push_bytes]
                simp only [List.map_map, Array.toList_append]
                have e0 : ByteArray.empty.data.toList = [] := rfl
                rw [e0]
                simp only [List.nil_append, List.map_map]
                rw [List.map_congr_left (g := id)]
                · simp
                · intro z hz
                  have := e2 z hz
                  simp [Nat.mod_eq_of_lt this]
end
end
end Go.Ev
