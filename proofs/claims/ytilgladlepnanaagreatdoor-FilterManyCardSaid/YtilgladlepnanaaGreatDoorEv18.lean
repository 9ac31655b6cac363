/-
  A verified evaluator, part 18: every operation.
-/
import Derived.Test.YtilgladlepnanaaGreatDoorEv17
import Derived.Laws.Tables
namespace Go.Ev
noncomputable section
open Go

section
variable {P : Program} {Γ : Glo} {ι : Emb} {H H' : Heap} {w w' : World} {ρ : Operand → Value} {L : List V} {R : Regs} {r : Operand → Src} {cal : Cal} {n n' : Pth} {v : V} {o : Oper}

theorem sizeT_info {t : TypeId} {k : Nat} (h : sizeT P t = some k) : ∃ i, P.info? t = some i ∧ i.size = k := by
  unfold sizeT at h
  cases hi : P.info? t with
  | none => simp [hi] at h
  | some i => simp [hi] at h; exact ⟨i, rfl, h⟩
theorem zeroT_info {t : TypeId} {z : Value} (h : zeroT P t = some z) : ∃ i, P.info? t = some i ∧ i.zero = some z := by
  unfold zeroT at h
  cases hi : P.info? t with
  | none => simp [hi] at h
  | some i => simp [hi] at h; exact ⟨i, rfl, h⟩
theorem places_of : ∀ (fs : List Field), sizesKnown P fs = true →
    ∃ pl, fs.mapM (fun (f : Field) => (P.info? f.type).map fun i => (f.offset, i.size)) = some pl ∧ ∀ (i : Nat) (f : Field) (k : Nat), fs[i]? = some f → sizeT P f.type = some k → pl[i]? = some (f.offset, k)
  | [], _ => ⟨[], rfl, fun i f k h => by simp at h⟩
  | f :: fs, h => by
    have h' : (match sizeT P f.type with | some _ => sizesKnown P fs | none => false) = true := h
    cases hs : sizeT P f.type with
    | none => simp [hs] at h'
    | some k =>
      simp only [hs] at h'
      obtain ⟨pl, h1, h2⟩ := places_of fs h'
      obtain ⟨i, hi, hik⟩ := sizeT_info hs
      refine ⟨(f.offset, k) :: pl, by simp [List.mapM_cons, hi, h1, hik], fun j g k' hj hk => ?_⟩
      cases j with
      | zero => simp at hj; subst hj; rw [hs] at hk; cases hk; rfl
      | succ j => simp at hj; simpa using h2 j g k' hj hk
theorem structParts_ok (fs : Array Field) {pl : List (Nat × Nat)} (hp : ∀ (i : Nat) (f : Field) (k : Nat), fs.toList[i]? = some f → sizeT P f.type = some k → pl[i]? = some (f.offset, k)) :
    ∀ (ps : List (Nat × Operand)) (qs : List (Nat × Nat × Src)), structParts P fs r ps = some qs → PartsR (pl.toArray[·]?) r ps qs
  | [], qs, h => by
    have h' : some [] = some qs := h
    cases h'; rfl
  | p :: ps, qs, h => by
    simp only [structParts] at h
    cases hf : fs[p.1]? with
    | none => simp [hf] at h
    | some f =>
      cases ht : structParts P fs r ps with
      | none => simp [hf, ht] at h
      | some t =>
        cases hs : sizeT P f.type with
        | none => simp [hf, ht, hs] at h
        | some k =>
          simp [hf, ht, hs] at h
          subst h
          refine ⟨(f.offset, k, r p.2), t, rfl, ?_, rfl, structParts_ok fs hp ps t ht⟩
          have := hp p.1 f k (by simpa using hf) hs
          simpa using this
theorem arrayParts_ok (k : Nat) : ∀ (ps : List (Nat × Operand)), PartsR (fun i => some (i * k, k)) r ps (arrayParts k r ps)
  | [] => rfl
  | p :: ps => ⟨_, _, rfl, rfl, rfl, arrayParts_ok k ps⟩
theorem ok_build (c : Cxt P Γ ι H w ρ L R r) {t : TypeId} {ps : Array (Nat × Operand)} (ho : o.op = .build t ps) (he : evI (opI P r (.build t ps)) cal Γ L R H n = .ok v H' n') :
    OpOK P ρ o w (Post P ι H w H' v) := by
  unfold opI at he
  cases hu : P.underlying t with
  | none => simp [hu] at he; cases he
  | some d =>
    cases hz : zeroCellsT P t with
    | none => cases d <;> simp [hu, hz] at he <;> cases he
    | some zs =>
      obtain ⟨z, hz0, hzr⟩ := zeroCells_rel (ι := ι) hz
      obtain ⟨it, hit, hitz⟩ := zeroT_info hz0
      have fin : ∀ (pl : Nat → Option (Nat × Nat)) (qs : List (Nat × Nat × Src)), PartsR pl r ps.toList qs → evBuild zs qs cal Γ L R H n = .ok v H' n' →
          (∀ cells, Instr.fill pl z.cells (ps.toList.map fun p => (p.1, ρ p.2)) = some cells → P.built t (ps.map fun (i, x) => (i, ρ x)).toList = some cells) → OpOK P ρ o w (Post P ι H w H' v) := by
        intro pl qs hp hev hb
        unfold evBuild at hev
        cases hl : layParts L R qs zs with
        | none => simp [hl] at hev
        | some l =>
          simp [hl] at hev
          obtain ⟨rfl, rfl, rfl⟩ := hev
          obtain ⟨cs', hfill, hr⟩ := fill_ok c.hs pl ps.toList qs zs l z.cells hp hzr hl
          exact OpOK.same c (s := Instr.build t (ps.map fun (i, x) => (i, ρ x))) (by unfold execOp; rw [ho]) (run_build w t _ cs' (hb cs' hfill)) (by simp only [V.rel]; exact ⟨cs', rfl, hr⟩)
      have hpl : (ps.map fun (x : Nat × Operand) => (x.1, ρ x.2)).toList = ps.toList.map fun p => (p.1, ρ p.2) := by simp
      cases d <;> simp only [hu, hz] at he <;> try (cases he; done)
      case struct fs =>
        cases hk : sizesKnown P fs.toList with
        | false => simp [hk] at he; cases he
        | true =>
          cases hq : structParts P fs r ps.toList with
          | none => simp [hk, hq] at he; cases he
          | some qs =>
            simp only [hk, hq] at he
            obtain ⟨pl, h1, h2⟩ := places_of fs.toList hk
            refine fin (pl.toArray[·]?) qs (structParts_ok fs h2 ps.toList qs hq) he fun cells hc => ?_
            unfold Program.built
            simp only [hit, hu, hitz, h1]
            rw [hpl]; exact hc
      case array m e =>
        cases hs : sizeT P e with
        | none => simp [hs] at he; cases he
        | some k =>
          simp only [hs] at he
          obtain ⟨ie, hie, hiek⟩ := sizeT_info hs
          refine fin (fun i => some (i * k, k)) _ (arrayParts_ok k ps.toList) he fun cells hc => ?_
          unfold Program.built
          simp only [hit, hu, hitz, hie, hiek]
          rw [hpl]; exact hc

/-- an operation that makes one new block -/
theorem newI_ok {f : FI} {ob : O} (hs : ∀ x, V.rel ι (src L R (r x)) (ρ x)) (hc : ∀ y, ρ (.const y) = y) (hok : HOK P ι H w) (hi : opI P r o.op = .new f) (he : evF f L R n = some (v, ob)) (hn : ι n = none) :
    NewOK P ρ o w ι n v ob := by
  cases ho : o.op <;> rw [ho] at hi <;> simp only [opI] at hi <;> try (cases hi; done)
  case alloc t =>
    cases hz : zeroCellsT P t with
    | none => simp [hz] at hi
    | some zs =>
      simp [hz] at hi; subst hi
      simp [evF] at he
      obtain ⟨rfl, rfl⟩ := he
      exact new_alloc ho hz
  case box t x =>
    simp at hi; subst hi
    unfold evF at he
    cases hco : cellsOf (src L R (r x)) with
    | none => simp [hco] at he
    | some l =>
      simp [hco] at he
      obtain ⟨rfl, rfl⟩ := he
      exact new_box ho (hs x) hco hn hok
  case buildSlice t m ps =>
    cases hu : P.underlying t with
    | none => simp [hu] at hi
    | some d =>
      cases d <;> simp only [hu] at hi <;> try (cases hi; done)
      rename_i e
      cases hk : sizeT P e with
      | none => simp [hk] at hi
      | some k =>
        cases hz : zeroCellsT P e with
        | none => simp [hk, hz] at hi
        | some zs =>
          simp only [hk, hz] at hi
          cases h1 : Nat.ble (m * k) 16777216 with
          | false => simp [h1] at hi
          | true =>
            cases h2 : Nat.beq (len zs) k with
            | false => simp [h1, h2] at hi
            | true =>
              simp [h1, h2] at hi; subst hi
              unfold evF at he
              cases hl : layParts L R (arrayParts k r ps.toList) (repl m zs) with
              | none => simp [hl] at he
              | some l =>
                simp [hl] at he
                obtain ⟨rfl, rfl⟩ := he
                have e2 := beq_eq h2
                rw [len_eq] at e2
                exact new_buildsl ho hu hk hz (ble_le h1) e2 hs hl hn hok
  case convert s d x =>
    unfold convI at hi
    split at hi <;> try (cases hi; done)
    · rename_i e hus hud
      split at hi <;> try (cases hi; done)
      rename_i hue
      simp at hi
      subst hi
      unfold evF at he
      have hx := hs x
      cases hbx : src L R (r x) <;> simp [hbx] at he
      rename_i s
      rw [hbx] at hx; simp only [V.rel] at hx
      obtain ⟨b, hxe, rfl⟩ := hx
      obtain ⟨rfl, rfl⟩ := he
      have hl : len (b.data.toList.map UInt8.toNat) = b.size := by rw [len_eq]; simp
      rw [hl]
      exact new_s2b ho hus hud hue hxe hn
    all_goals (split at hi <;> cases hi)
  case makeMap t rv =>
    cases rv with
    | none =>
      have hi' : I.new .mkmap = I.new f := hi
      cases hi'
      simp [evF] at he
      obtain ⟨rfl, rfl⟩ := he
      exact new_mkmap ho (.inl rfl) hc
    | some q =>
      cases q with
      | const y =>
        cases y <;> try (cases hi; done)
        rename_i k m
        have hi' : (match P.underlying t with | some (.map _ _) => I.new .mkmap | _ => .bad) = I.new f := hi
        split at hi' <;> try (cases hi'; done)
        rename_i hu
        cases hi'
        simp [evF] at he
        obtain ⟨rfl, rfl⟩ := he
        exact new_mkmap ho (.inr ⟨_, _, _, _, rfl, hu⟩) hc
      | _ => cases hi
  case makeSlice t xl xc =>
    cases hu : P.underlying t with
    | none => simp [hu] at hi
    | some d =>
      cases d <;> simp only [hu] at hi <;> try (cases hi; done)
      rename_i e
      cases hk : sizeT P e with
      | none => simp [hk] at hi
      | some k =>
        cases hby : bytesT P e with
        | none => simp [hk, hby] at hi
        | some by' =>
          cases hz : zeroCellsT P e with
          | none => simp [hk, hby, hz] at hi
          | some zs =>
            simp only [hk, hby, hz] at hi
            cases h2 : Nat.beq (len zs) k with
            | false => simp [h2] at hi
            | true =>
              simp [h2] at hi; subst hi
              have e2 := beq_eq h2
              rw [len_eq] at e2
              unfold evF at he
              have hxl := hs xl
              have hxc := hs xc
              cases hbl : src L R (r xl) <;> simp only [hbl] at he <;> try (cases he; done)
              rename_i kl a
              cases a <;> try (cases he; done)
              rename_i a
              cases hbc : src L R (r xc) <;> simp only [hbc] at he <;> try (cases he; done)
              rename_i kc b
              cases b <;> try (cases he; done)
              rename_i b
              simp only at he
              cases g1 : Nat.ble a b with
              | false => simp [g1] at he
              | true =>
                cases g2 : Nat.ble (b * by') 1073741824 with
                | false => simp [g1, g2] at he
                | true =>
                  cases g3 : Nat.ble b 1073741824 with
                  | false => simp [g1, g2, g3] at he
                  | true =>
                    simp [g1, g2, g3] at he
                    obtain ⟨rfl, rfl⟩ := he
                    rw [hbl] at hxl; rw [hbc] at hxc
                    simp only [V.rel] at hxl hxc
                    exact new_mksl ho hu hk hby hz e2 hxl hxc (ble_le g1) (ble_le g2) (ble_le g3) hn hok
  case makeFunc f a b =>
    cases f <;> first
      | (cases hi; done)
      | (simp only [opI] at hi; (repeat' split at hi) <;> cases hi)
  case next it b => cases b <;> cases hi
  all_goals (exfalso; (try unfold binI at hi); (try unfold builtinI at hi); (try unfold appendI at hi); (try unfold appendzI at hi); (repeat' split at hi) <;> (first | cases hi | contradiction))
end
end
end Go.Ev
