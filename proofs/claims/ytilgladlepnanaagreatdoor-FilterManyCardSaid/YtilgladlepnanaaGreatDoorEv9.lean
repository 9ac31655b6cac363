/-
  A verified evaluator, part 9: operations that make one new block.
-/
import Derived.Test.YtilgladlepnanaaGreatDoorEv8
namespace Go.Ev
noncomputable section
open Go

/-- an operation that makes one block, ob, under the name n, and has the value v -/
def NewOK (P : Program) (ρ : Operand → Value) (o : Oper) (w : World) (ι : Emb) (n : Pth) (v : V) (ob : O) : Prop :=
  ∃ x w' c T, (execOp ρ o).run P w = .ok (.value x) w' ∧ w'.heap = w.heap.push c ∧ w'.tape = w.tape ∧ w'.os = w.os ∧ w'.output = w.output ∧
    V.rel (upd ι n (w.heap.size, 0) T) v x ∧ ob.ok P (upd ι n (w.heap.size, 0) T) w' n ∧ ob ≠ .dead

theorem wrap_i64 {a : Nat} (h : a ≤ 1073741824) : IntKind.i64.wrap (a : Int) = (a : Int) := by
  have h1 : IntKind.i64.min = -9223372036854775808 := rfl
  have h2 : IntKind.i64.max = 9223372036854775807 := rfl
  exact wrap_small _ _ (by rw [h1, h2]; omega)
section
variable {P : Program} {ι : Emb} {w w' : World} {n : Pth}
theorem newCells_ok {c : Array Value} {el : TypeId} {fr : Nat × Nat} {l : List V} (hh : w'.heap = w.heap.push (.cells c el fr)) (hf : fr.1 = fr.2 ∨ c.size ≤ fr.1)
    (hr : V.rels (upd ι n (w.heap.size, 0) c.size) l (c.toList.take l.length)) : (O.cells l).ok P (upd ι n (w.heap.size, 0) c.size) w' n :=
  ⟨w.heap.size, 0, c, el, fr, upd_same _ _ _ _, by rw [hh]; simp, hf, by simpa using hr, upd_size _ _ _ _, rfl⟩
theorem newCells_whole {c : Array Value} {el : TypeId} {l : List V} (hh : w'.heap = w.heap.push (.cells c el (0, 0)))
    (hr : V.rels (upd ι n (w.heap.size, 0) c.size) l c.toList) : (O.cells l).ok P (upd ι n (w.heap.size, 0) c.size) w' n :=
  newCells_ok hh (.inl rfl) (by rw [List.take_of_length_le (by rw [rels_length hr]; exact Nat.le_refl _)]; exact hr)
end

section
variable {P : Program} {ι : Emb} {w : World} {n : Pth} {ρ : Operand → Value} {o : Oper} {L : List V} {R : Regs} {r : Operand → Src} {v : V} {ob : O} {H : Heap}
theorem new_alloc {t : TypeId} {zs : List V} (ho : o.op = .alloc t) (hz : zeroCellsT P t = some zs) :
    NewOK P ρ o w ι n (.ptr n 0) (.cells zs) := by
  obtain ⟨z, hz', hr0⟩ := zeroCells_rel (ι := ι) hz
  have hr : V.rels (upd ι n (w.heap.size, 0) z.cells.size) zs z.cells.toList := by
    obtain ⟨z2, hz2, hr2⟩ := zeroCells_rel (ι := upd ι n (w.heap.size, 0) z.cells.size) hz
    rw [hz'] at hz2; cases hz2; exact hr2
  have hrun : (Instr.alloc t true (.tuple #[])).run P w = .ok (.pointer (some ⟨w.heap.size, 0, none⟩)) (w.alloc (.cells z.cells t)) := by
    unfold Instr.alloc
    rw [run_ok_bind (run_zeroValue hz')]
    simp only []
    rw [run_ok_bind (run_newVar t z)]; rfl
  refine ⟨_, w.alloc (.cells z.cells t), .cells z.cells t, _, by unfold execOp; rw [ho]; exact run_v hrun, rfl, rfl, rfl, rfl, ?_, newCells_whole rfl hr, by simp⟩
  simp only [V.rel]
  exact ⟨w.heap.size, 0, upd_same _ _ _ _, rfl⟩
theorem new_box {t : TypeId} {x : Operand} {s : Src} {l : List V} (ho : o.op = .box t x) (hs : V.rel ι (src L R s) (ρ x)) (hc : cellsOf (src L R s) = some l) (hn : ι n = none) (hok : HOK P ι H w) :
    NewOK P ρ o w ι n (.ptr n 0) (.cells l) := by
  have hr := V.rels.mono (upd_le_new (T := (ρ x).cells.size) hn hok) _ _ (cellsOf_rel hc hs)
  have hrun : (Instr.box t (ρ x)).run P w = .ok (.pointer (some ⟨w.heap.size, 0, none⟩)) (w.alloc (.cells (ρ x).cells t)) := by
    unfold Instr.box
    rw [run_ok_bind (run_newVar t _)]; rfl
  refine ⟨_, w.alloc (.cells (ρ x).cells t), .cells (ρ x).cells t, _, by unfold execOp; rw [ho]; exact run_v hrun, rfl, rfl, rfl, rfl, ?_, newCells_whole rfl hr, by simp⟩
  simp only [V.rel]
  exact ⟨w.heap.size, 0, upd_same _ _ _ _, rfl⟩
theorem new_mkmap {t : TypeId} {rv : Option Operand} (ho : o.op = .makeMap t rv)
    (hrv : rv = none ∨ ∃ k m a b, rv = some (.const (.int k m)) ∧ P.underlying t = some (.map a b)) (hρ : ∀ y, ρ (.const y) = y) : NewOK P ρ o w ι n (.mp n) (.map [] 0) := by
  have hrun : (Instr.makeMap t (rv.map ρ)).run P w = .ok (.map (some w.heap.size)) (w.alloc (.map #[] 0)) := by
    rcases hrv with rfl | ⟨k, m, a, b, rfl, hu⟩
    · simp [Instr.makeMap, Sem.run_bind, run_newObj_alloc, Result.andThen, run_ofPure]
    · simp [Instr.makeMap, Sem.run_bind, run_newObj_alloc, Result.andThen, run_ofPure, hρ, run_underlying hu, asInt, asIntOf]
  refine ⟨_, w.alloc (.map #[] 0), .map #[] 0, 0, by unfold execOp; rw [ho]; exact run_v hrun, rfl, rfl, rfl, rfl, ?_, ?_, by simp⟩
  · simp only [V.rel]; exact ⟨w.heap.size, upd_same _ _ _ _, rfl⟩
  · exact ⟨w.heap.size, #[], upd_same _ _ _ _, by show (w.heap.push _)[_]? = _; simp, rfl⟩
theorem new_buildsl {t e : TypeId} {m k : Nat} {ps : Array (Nat × Operand)} {zs : List V} {l : List V} (ho : o.op = .buildSlice t m ps) (hu : P.underlying t = some (.slice e)) (hk : sizeT P e = some k)
    (hz : zeroCellsT P e = some zs) (hb : m * k ≤ 16777216) (hzk : zs.length = k) (hs : ∀ x, V.rel ι (src L R (r x)) (ρ x)) (hl : layParts L R (arrayParts k r ps.toList) (repl m zs) = some l) (hn : ι n = none) (hok : HOK P ι H w) :
    NewOK P ρ o w ι n (.sl n 0 m m 0) (.cells l) := by
  obtain ⟨z, hz', hzr⟩ := zeroCells_rel (ι := ι) hz
  have hzl := rels_length hzr
  simp only [Array.length_toList] at hzl
  have hzs : z.cells.size = k := by omega
  -- the zeroes
  have hrep : V.rels ι (repl m zs) (repl m z.cells.toList) := by
    rw [repl_eq, repl_eq]
    clear hl hb ho
    induction m with
    | zero => simpa using rels_nil
    | succ m ih => rw [List.replicate_succ, List.replicate_succ, List.flatten_cons, List.flatten_cons]; exact rels_append hzr ih
  have hparts : ∀ l : List (Nat × Operand), PartsR (fun i => some (i * k, k)) r l (arrayParts k r l) := fun l => by
    induction l with
    | nil => rfl
    | cons p t ih => exact ⟨_, _, rfl, rfl, rfl, ih⟩
  have main : ∀ c0 : Array Value, c0.toList = repl m z.cells.toList → ∃ cs', Instr.fill (fun i => some (i * k, k)) c0 (ps.toList.map fun p => (p.1, ρ p.2)) = some cs' ∧ V.rels ι l cs'.toList :=
    fun c0 hc0 => fill_ok hs _ ps.toList _ (repl m zs) l c0 (hparts _) (by rw [hc0]; exact hrep) hl
  have hrun : ∃ cs' : Array Value, V.rels ι l cs'.toList ∧ (Instr.buildSlice t m (ps.map fun (i, x) => (i, ρ x))).run P w = .ok (.slice (some ⟨w.heap.size, 0, none⟩) m m) (w.alloc (.cells cs' e)) := by
    have hnot : ¬ (m * k > 2 ^ 24) := by omega
    unfold Instr.buildSlice
    by_cases hz0 : m * k = 0
    · obtain ⟨cs', hfill, hr'⟩ := main #[] (by
        rw [repl_eq]
        rcases Nat.mul_eq_zero.1 hz0 with h0 | h0
        · subst h0; rfl
        · have : z.cells = #[] := Array.eq_empty_of_size_eq_zero (by omega)
          rw [this]; simp)
      refine ⟨cs', hr', ?_⟩
      rw [run_ok_bind (run_underlying hu w)]
      simp only []
      rw [run_ok_bind (run_sizeOf hk)]
      rw [if_neg hnot, if_pos hz0, hz0]
      have hp : (ps.map fun (x : Nat × Operand) => (x.1, ρ x.2)).toList = ps.toList.map fun p => (p.1, ρ p.2) := by simp
      have hr0 : ((Array.range 0).map fun i => (#[] : Array Value)[i % (#[] : Array Value).size]!) = #[] := by simp
      rw [run_ok_bind (run_ofPure _)]
      simp only [hr0, hp, hfill]
      rw [run_ok_bind (run_newRow e cs')]; rfl
    · obtain ⟨cs', hfill, hr'⟩ := main ((Array.range (m * k)).map (fun i => z.cells[i % z.cells.size]!)) (by rw [← hzs]; exact zeroCells_eq z.cells m)
      refine ⟨cs', hr', ?_⟩
      rw [run_ok_bind (run_underlying hu w)]
      simp only []
      rw [run_ok_bind (run_sizeOf hk)]
      rw [if_neg hnot, if_neg hz0]
      have hp : (ps.map fun (x : Nat × Operand) => (x.1, ρ x.2)).toList = ps.toList.map fun p => (p.1, ρ p.2) := by simp
      rw [run_ok_bind (run_zeroValue hz'), run_ok_bind (run_ofPure _)]
      simp only [hp, hfill]
      rw [run_ok_bind (run_newRow e cs')]; rfl
  obtain ⟨cs', hr', hrun⟩ := hrun
  refine ⟨_, w.alloc (.cells cs' e), .cells cs' e, _, by unfold execOp; rw [ho]; exact run_v hrun, rfl, rfl, rfl, rfl, ?_, newCells_whole rfl (V.rels.mono (upd_le_new hn hok) _ _ hr'), by simp⟩
  simp only [V.rel]
  exact ⟨w.heap.size, 0, m, upd_same _ _ _ _, by simp, Nat.le_refl _, fun _ => rfl, fun h => absurd rfl h⟩
theorem new_mksl {t e : TypeId} {k bytes a b : Nat} {xl xc : Operand} {zs : List V} {kl kc : IntKind} (ho : o.op = .makeSlice t xl xc) (hu : P.underlying t = some (.slice e)) (hk : sizeT P e = some k)
    (hby : bytesT P e = some bytes) (hz : zeroCellsT P e = some zs) (hzk : zs.length = k) (hl : ρ xl = .int kl (a : Int)) (hc : ρ xc = .int kc (b : Int)) (hab : a ≤ b) (hbb : b * bytes ≤ 1073741824) (hbl : b ≤ 1073741824)
    (hn : ι n = none) (hok : HOK P ι H w) : NewOK P ρ o w ι n (.sl n 0 a b 0) (.cells (repl b zs)) := by
  obtain ⟨z, hz', hzr⟩ := zeroCells_rel (ι := ι) hz
  have hzl := rels_length hzr
  simp only [Array.length_toList] at hzl
  have hzs : z.cells.size = k := by omega
  have hrep : V.rels ι (repl b zs) (repl b z.cells.toList) := by
    rw [repl_eq, repl_eq]
    clear hbb hbl hab ho hc
    induction b with
    | zero => simpa using rels_nil
    | succ m ih => rw [List.replicate_succ, List.replicate_succ, List.flatten_cons, List.flatten_cons]; exact rels_append hzr ih
  obtain ⟨i, hi, hib⟩ : ∃ i, P.info? e = some i ∧ i.bytes = bytes := by
    unfold bytesT at hby
    cases hi : P.info? e with
    | none => simp [hi] at hby
    | some i => simp [hi] at hby; exact ⟨i, rfl, hby⟩
  have wa : IntKind.i64.wrap (a : Int) = (a : Int) := wrap_i64 (by omega)
  have wb : IntKind.i64.wrap (b : Int) = (b : Int) := wrap_i64 hbl
  have tl : ∀ c : Nat, c ≤ b → (decide ((c : Int) < 0) || decide ((bytes : Int) * (c : Int) > 2 ^ 48)) = false := fun c hc => by
    have h1 : ¬ ((c : Int) < 0) := by omega
    have h2 : bytes * c ≤ b * bytes := by rw [Nat.mul_comm b]; exact Nat.mul_le_mul_left _ hc
    have h3 : ¬ ((bytes : Int) * (c : Int) > 2 ^ 48) := by
      have this : ((bytes * c : Nat) : Int) ≤ ((1073741824 : Nat) : Int) := Int.ofNat_le.2 (Nat.le_trans h2 hbb)
      rw [Int.natCast_mul] at this
      omega
    rw [decide_eq_false h1, decide_eq_false h3]; rfl
  have hrun : (Instr.makeSlice t (ρ xl) (ρ xc)).run P w = .ok (.slice (some ⟨w.heap.size, 0, none⟩) a b) (w.alloc (.cells (repl b z.cells.toList).toArray e)) := by
    unfold Instr.makeSlice
    rw [run_ok_bind (run_underlying hu w)]
    simp only [hl, hc, asInt, asIntOf]
    simp only [Sem.run_bind, run_ofPure, Result.andThen, run_typeInfo hi, hib, wa, wb, tl b (Nat.le_refl b), tl a hab]
    have c1 : ¬ ((a : Int) < 0) := by omega
    have c2 : ¬ ((a : Int) > (b : Int)) := by omega
    simp only [c1, c2, decide_false, Bool.or_false, Bool.false_eq_true, if_false, or_self, Sem.run_bind, Result.andThen]
    have room : ¬ (b * bytes > roomBytes) := by unfold roomBytes; omega
    simp only [Int.toNat_natCast, askRoom, if_neg room, run_ofPure, run_sizeOf hk]
    by_cases hz0 : b * k = 0
    · have e0 : (repl b z.cells.toList).toArray = #[] := by
        rw [repl_eq]
        rcases Nat.mul_eq_zero.1 hz0 with h0 | h0
        · rw [h0]; rfl
        · have : z.cells = #[] := Array.eq_empty_of_size_eq_zero (by omega)
          rw [this]; simp
      have hr0 : ((Array.range 0).map fun i => (#[] : Array Value)[i % (#[] : Array Value).size]!) = #[] := by simp
      simp only [hz0, if_true, e0]
      rw [run_ok_bind (run_ofPure _)]
      simp only [hr0]
      rw [run_ok_bind (run_newRow e #[])]; rfl
    · have e1 : (Array.range (b * k)).map (fun i => z.cells[i % z.cells.size]!) = (repl b z.cells.toList).toArray := by
        apply Array.toList_inj.1
        rw [← hzs, zeroCells_eq z.cells b]
      simp only [if_neg hz0, Sem.run_bind, run_zeroValue hz', Result.andThen, run_ofPure, e1, run_newRow]
  refine ⟨_, w.alloc (.cells (repl b z.cells.toList).toArray e), .cells (repl b z.cells.toList).toArray e, _, by unfold execOp; rw [ho]; exact run_v hrun, rfl, rfl, rfl, rfl, ?_,
    newCells_whole rfl (by simpa using V.rels.mono (upd_le_new hn hok) _ _ hrep), by simp⟩
  simp only [V.rel]
  exact ⟨w.heap.size, 0, b, upd_same _ _ _ _, by simp, Nat.le_refl _, fun _ => rfl, fun h => absurd rfl h⟩
theorem ofBytes_rels {ι : Emb} : ∀ l : List UInt8, V.rels ι (ofBytes (l.map UInt8.toNat)) (l.map fun b => Value.int .u8 (b.toNat : Int))
  | [] => rels_nil
  | b :: t => rels_cons (by simp [V.rel]) (ofBytes_rels t)
theorem ofBytes_length : ∀ l : List Nat, (ofBytes l).length = l.length
  | [] => rfl
  | _ :: t => by show (ofBytes t).length + 1 = _; rw [ofBytes_length t]; rfl
theorem new_s2b {s d e : TypeId} {x : Operand} {b : ByteArray} (ho : o.op = .convert s d x) (hus : P.underlying s = some .string) (hud : P.underlying d = some (.slice e))
    (hue : P.underlying e = some (.int .u8)) (hx : ρ x = .string b) (hn : ι n = none) :
    NewOK P ρ o w ι n (.sl n 0 b.size b.size 1) (.cells (ofBytes (b.data.toList.map UInt8.toNat))) := by
  let cap := (Question.appendCap b.size 0 e).cut (w.tape w.drawn (.appendCap b.size 0 e))
  have hcap : b.size ≤ cap := by show b.size ≤ b.size + _; omega
  let c : Array Value := (b.data.map fun y => Value.int .u8 (y.toNat : Int)) ++ Array.replicate (cap - b.size) (.int .u8 0)
  let w1 : World := { w with drawn := w.drawn + 1 }
  let w' : World := (w1.alloc (.cells c e)).freeze { block := w.heap.size, off := c.size } 1
  have hheap : w'.heap = w.heap.push (.cells c e (c.size, c.size + 1)) := by
    show ((w1.alloc (.cells c e)).freeze { block := w.heap.size, off := c.size } 1).heap = _
    unfold World.freeze
    rw [if_neg (by decide)]
    show ((w1.heap.push (.cells c e)).modify w.heap.size (fun x => match x with
      | .cells c_1 elem (lo, hi) => .cells c_1 elem (if (lo == hi) = true then (c.size, c.size + 1) else (min lo c.size, max hi (c.size + 1)))
      | o => o)) = _
    apply Array.ext_getElem?
    intro i
    rw [Array.getElem?_modify, Array.getElem?_push, Array.getElem?_push]
    show (if w.heap.size = i then _ else _) = _
    by_cases hi : i = w.heap.size
    · subst hi; simp [w1]
    · have : ¬ w.heap.size = i := fun e => hi e.symm
      simp [hi, this, w1]
  have hrun : (convert s d (ρ x)).run P w = .ok (.slice (some ⟨w.heap.size, 0, none⟩) b.size cap) w' := by
    rw [hx]
    unfold convert
    rw [run_ok_bind (run_underlying hus w), run_ok_bind (run_underlying hud w)]
    simp only []
    rw [run_ok_bind (run_underlying hue w)]
    simp only []
    unfold Conv.stringToBytes
    have h1 : (choose (.appendCap b.size 0 e)).run P w = .ok cap w1 := by
      simp [choose, Sem.run, Question.forced, cap, w1]
    rw [run_ok_bind h1]
    simp only []
    rw [run_ok_bind (run_newRow e _)]
    have h2 : (markStringish ⟨w1.heap.size, 0, none⟩).run P (w1.alloc (.cells c e)) = .ok () w' := by
      unfold markStringish
      have h3 : (shape w1.heap.size).run P (w1.alloc (.cells c e)) = .ok (some (e, c.size)) (w1.alloc (.cells c e)) := by
        have h4 : (w1.alloc (.cells c e)).heap[w1.heap.size]? = some (.cells c e) := by show (w1.heap.push _)[_]? = _; simp
        simp only [shape, Sem.run, World.shape?, h4]
      rw [run_ok_bind h3]
      simp [freeze, Sem.run, w', w1]
    rw [run_ok_bind h2]; rfl
  refine ⟨_, w', .cells c e (c.size, c.size + 1), _, by unfold execOp; rw [ho]; exact run_v hrun, hheap, ?_, ?_, ?_, ?_, newCells_ok hheap (.inr (Nat.le_refl _)) ?_, by simp⟩
  · show ((w1.alloc (.cells c e)).freeze _ 1).tape = _
    unfold World.freeze; rw [if_neg (by decide)]; rfl
  · show ((w1.alloc (.cells c e)).freeze _ 1).os = _
    unfold World.freeze; rw [if_neg (by decide)]; rfl
  · show ((w1.alloc (.cells c e)).freeze _ 1).output = _
    unfold World.freeze; rw [if_neg (by decide)]; rfl
  · simp only [V.rel]
    refine ⟨w.heap.size, 0, cap, upd_same _ _ _ _, by simp, hcap, fun h => absurd h (by decide), fun _ => ?_⟩
    have hus2 := upd_size ι n (w.heap.size, 0) c.size
    simp only at hus2
    rw [hus2]
    have hcs : c.size = cap := by simp [c]; omega
    omega
  · rw [ofBytes_length]
    have : c.toList.take (b.data.toList.map UInt8.toNat).length = b.data.toList.map fun y => Value.int .u8 (y.toNat : Int) := by
      simp [c]
    rw [this]
    exact ofBytes_rels _
end
end
end Go.Ev
