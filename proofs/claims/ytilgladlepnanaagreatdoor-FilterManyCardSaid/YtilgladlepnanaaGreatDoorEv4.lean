/-
  A verified evaluator, part 4: what its memory says of the model's; steps from one memory to another.
-/
import Derived.Test.YtilgladlepnanaaGreatDoorEv3
namespace Go.Ev
noncomputable section
open Go

def ERel (ι : Emb) : List (V × V × Nat) → List MapEntry → Prop
  | [], es => es = []
  | e :: t, es => ∃ m ms, es = m :: ms ∧ V.rel ι e.1 m.key ∧ V.rel ι e.2.1 m.val ∧ m.born = e.2.2 ∧ ERel ι t ms
theorem ERel.mono {ι ι' : Emb} (h : ι.le ι') : ∀ {l : List (V × V × Nat)} {es : List MapEntry}, ERel ι l es → ERel ι' l es
  | [], _, e => e
  | _ :: _, _, ⟨m, ms, e, hk, hv, hb, ht⟩ => ⟨m, ms, e, V.rel.mono h _ _ hk, V.rel.mono h _ _ hv, hb, ht.mono h⟩

/-- the frame's slots (those of U alone) -/
def EnvR (ι : Emb) (U : Nat) (R : Regs) (tmps : Array Value) : Prop :=
  ∀ p v, R.get p = some v → bit U p.num = true ∧ V.rel ι v (tmps.getD p.num undef)
theorem EnvR.mono {ι ι' : Emb} (h : ι.le ι') {U : Nat} {R : Regs} {tmps : Array Value} (hr : EnvR ι U R tmps) : EnvR ι' U R tmps :=
  fun p v hp => ⟨(hr p v hp).1, V.rel.mono h _ _ (hr p v hp).2⟩

def pendR : Option (Option Nat) → Option Code → Prop
  | none, c => c = none
  | some none, c => c = some .ret
  | some (some id), c => c = some (.exit id)
def stateOf (busy done : Bool) : LoopState := match busy, done with | true, _ => .busy | false, true => .done | false, false => .ready

def O.ok (P : Program) (ι : Emb) (w : World) (p : Pth) : O → Prop
  | .dead => True
  | .cells l => ∃ b s c el fr, ι p = some (b, s) ∧ w.heap[b]? = some (.cells c el fr) ∧ (fr.1 = fr.2 ∨ c.size ≤ fr.1) ∧ V.rels ι l ((c.toList.drop s).take l.length) ∧ ι.size b = c.size ∧ s = 0
  | .map es clock => ∃ b es', ι p = some (b, 0) ∧ w.heap[b]? = some (.map es' clock) ∧ ERel ι es es'.toList
  | .siter s pos => ∃ b t, ι p = some (b, 0) ∧ w.heap[b]? = some (.stringIter t pos) ∧ t.data.toList.map UInt8.toNat = s
  | .miter m since seen st => ∃ b m' seen', ι p = some (b, 0) ∧ w.heap[b]? = some (.mapIter m' since seen' st) ∧ seen'.toList = seen ∧
      (match m with | none => m' = none | some q => ∃ bm, ι q = some (bm, 0) ∧ m' = some bm)
  | .loop busy pend done R ps a b => ∃ l lp U N, ι p = some (l, 0) ∧ w.heap[l]? = some (.loop lp) ∧ lp.state = stateOf busy done ∧ pendR pend lp.pending ∧
      lp.params.toList.map toPth = ps ∧ a = codeIR P U N lp.assign true ∧ b = codeIR P U N lp.body true ∧ EnvR ι U R lp.tmps ∧ N ≤ lp.tmps.size ∧
      belowAll N lp.params.toList = true ∧ allBits U lp.params.toList = true ∧ nodupN lp.params.toList = true

def Live (H : Heap) (p : Pth) : Prop := ∃ o, H.get p = some o ∧ o ≠ .dead
theorem O.ok_emb {P : Program} {ι : Emb} {w : World} {p : Pth} {o : O} (h : o.ok P ι w p) (hd : o ≠ .dead) : ∃ b s, ι p = some (b, s) ∧ b < w.heap.size := by
  cases o with
  | dead => exact absurd rfl hd
  | cells l => obtain ⟨b, s, c, el, fr, hp, hh, _⟩ := h; exact ⟨b, s, hp, (Array.getElem?_eq_some_iff.1 hh).1⟩
  | map es k => obtain ⟨b, es', hp, hh, _⟩ := h; exact ⟨b, 0, hp, (Array.getElem?_eq_some_iff.1 hh).1⟩
  | siter s pos => obtain ⟨b, t, hp, hh, _⟩ := h; exact ⟨b, 0, hp, (Array.getElem?_eq_some_iff.1 hh).1⟩
  | miter m a s st => obtain ⟨b, m', s', hp, hh, _⟩ := h; exact ⟨b, 0, hp, (Array.getElem?_eq_some_iff.1 hh).1⟩
  | loop => obtain ⟨l, lp, U, N, hp, hh, _⟩ := h; exact ⟨l, 0, hp, (Array.getElem?_eq_some_iff.1 hh).1⟩
theorem O.ok_mono {P : Program} {ι ι' : Emb} {w w' : World} {p : Pth} {o : O} (h : o.ok P ι w p) (hle : ι.le ι')
    (hw : ∀ b s, o ≠ .dead → ι p = some (b, s) → w'.heap[b]? = w.heap[b]?) : o.ok P ι' w' p := by
  cases o with
  | dead => trivial
  | cells l =>
    obtain ⟨b, s, c, el, fr, hp, hh, hf, hr, hz⟩ := h
    exact ⟨b, s, c, el, fr, hle.name _ _ hp, (hw b s (by simp) hp).trans hh, hf, V.rels.mono hle _ _ hr, (hle.same _ _ _ hp).trans hz.1, hz.2⟩
  | map es k =>
    obtain ⟨b, es', hp, hh, hr⟩ := h
    exact ⟨b, es', hle.name _ _ hp, (hw b 0 (by simp) hp).trans hh, hr.mono hle⟩
  | siter s pos =>
    obtain ⟨b, t, hp, hh, hr⟩ := h
    exact ⟨b, t, hle.name _ _ hp, (hw b 0 (by simp) hp).trans hh, hr⟩
  | miter m a s st =>
    obtain ⟨b, m', s', hp, hh, hs, hm⟩ := h
    refine ⟨b, m', s', hle.name _ _ hp, (hw b 0 (by simp) hp).trans hh, hs, ?_⟩
    cases m with
    | none => exact hm
    | some q => obtain ⟨bm, hq, e⟩ := hm; exact ⟨bm, hle.name _ _ hq, e⟩
  | loop =>
    obtain ⟨l, lp, U, N, hp, hh, h1, h2, h3, h4, h5, h6, h7⟩ := h
    exact ⟨l, lp, U, N, hle.name _ _ hp, (hw l 0 (by simp) hp).trans hh, h1, h2, h3, h4, h5, h6.mono hle, h7⟩

structure HOK (P : Program) (ι : Emb) (H : Heap) (w : World) : Prop where
  obj : ∀ p o, H.get p = some o → o.ok P ι w p
  inj : ∀ p q b s s', Live H p → Live H q → ι p = some (b, s) → ι q = some (b, s') → p = q
  lt : ∀ p b s, ι p = some (b, s) → b < w.heap.size

/-- the package-level variables that are known (numbers alone), apart from the named blocks -/
structure GOK (Γ : Glo) (ι : Emb) (H : Heap) (w : World) : Prop where
  val : ∀ (g i : Nat) (v : V), (Γ g)[i]? = some v → ∃ (c : Array Value) (el : TypeId) (fr : Nat × Nat) (k : IntKind) (m : Int), w.heap[g]? = some (Obj.cells c el fr) ∧ v = V.int k m ∧ c[i]? = some (Value.int k m)
  off : ∀ g, Γ g ≠ [] → ∀ p s, Live H p → ι p ≠ some (g, s)

structure Step (P : Program) (ι : Emb) (H : Heap) (w : World) (ι' : Emb) (H' : Heap) (w' : World) : Prop where
  ext : ι.le ι'
  new : ∀ p, ι p = none → ι' p ≠ none → H.get p = none ∧ H'.get p ≠ none
  hok : HOK P ι' H' w'
  kept : ∀ b, b < w.heap.size → (∀ p s, Live H p → ι p ≠ some (b, s)) → w'.heap[b]? = w.heap[b]?
  size : w.heap.size ≤ w'.heap.size
  back : ∀ p b s, Live H' p → ι' p = some (b, s) → b < w.heap.size → ∃ q s', Live H q ∧ ι q = some (b, s')
  tape : w'.tape = w.tape
  os : w'.os = w.os
  out : w'.output = w.output

/-- no name that is new in H' is in use -/
def Fr (ι : Emb) (H H' : Heap) : Prop := ∀ p, H.get p = none → H'.get p ≠ none → ι p = none
def Mono (H H' : Heap) : Prop := ∀ p, H.get p ≠ none → H'.get p ≠ none
theorem Mono.refl (H : Heap) : Mono H H := fun _ h => h
theorem Mono.trans {A B C : Heap} (h : Mono A B) (k : Mono B C) : Mono A C := fun p hp => k p (h p hp)
theorem Mono.set (H : Heap) (p : Pth) (o : O) : Mono H (H.set p o) := fun q hq => by
  rw [Tr.get_set]; by_cases e : p = q
  · simp [e]
  · simp [e, hq]

section
variable {P : Program} {ι ι' : Emb} {H H' : Heap} {w w' : World}
theorem Step.refl (h : HOK P ι H w) : Step P ι H w ι H w :=
  ⟨Emb.le.refl _, fun _ h1 h2 => absurd h1 h2, h, fun _ _ _ => rfl, Nat.le_refl _, fun p b s hl hp _ => ⟨p, s, hl, hp⟩, rfl, rfl, rfl⟩
theorem Step.trans {ι₂ : Emb} {H₂ : Heap} {w₂ : World} (h : Step P ι H w ι' H' w') (k : Step P ι' H' w' ι₂ H₂ w₂) (m1 : Mono H H') (m2 : Mono H' H₂) : Step P ι H w ι₂ H₂ w₂ := by
  refine ⟨h.ext.trans k.ext, fun p hp hp2 => ?_, k.hok, fun b hb hn => ?_, Nat.le_trans h.size k.size, fun p b s hl hp hb => ?_, k.tape.trans h.tape, k.os.trans h.os, k.out.trans h.out⟩
  · cases hp' : ι' p with
    | none =>
      obtain ⟨h1, h2⟩ := k.new p hp' hp2
      refine ⟨?_, h2⟩
      cases hg : H.get p with
      | none => rfl
      | some o => exact absurd h1 (m1 p (by simp [hg]))
    | some q =>
      obtain ⟨h1, h2⟩ := h.new p hp (by simp [hp'])
      exact ⟨h1, m2 p h2⟩
  · have e1 := h.kept b hb hn
    have e2 := k.kept b (Nat.lt_of_lt_of_le hb h.size) (fun p s hl hp => by
      obtain ⟨q, s', hq, hq'⟩ := h.back p b s hl hp hb
      exact hn q s' hq hq')
    exact e2.trans e1
  · obtain ⟨q, s', hq, hq'⟩ := k.back p b s hl hp (Nat.lt_of_lt_of_le hb h.size)
    exact h.back q b s' hq hq' hb
theorem GOK.step {Γ : Glo} (g : GOK Γ ι H w) (h : Step P ι H w ι' H' w') : GOK Γ ι' H' w' := by
  have lt : ∀ x, Γ x ≠ [] → x < w.heap.size := fun x hx => by
    cases hl : Γ x with
    | nil => exact absurd hl hx
    | cons v t =>
      obtain ⟨c, el, fr, k, m, hh, _⟩ := g.val x 0 v (by simp [hl])
      exact (Array.getElem?_eq_some_iff.1 hh).1
  refine ⟨fun x i v hv => ?_, fun x hx p s hl hp => ?_⟩
  · obtain ⟨c, el, fr, k, m, hh, e, hc⟩ := g.val x i v hv
    have hx : Γ x ≠ [] := fun e => by simp [e] at hv
    exact ⟨c, el, fr, k, m, (h.kept x (lt x hx) (g.off x hx)).trans hh, e, hc⟩
  · obtain ⟨q, s', hq, hq'⟩ := h.back p x s hl hp (lt x hx)
    exact g.off x hx q s' hq hq'
/-- a draw -/
theorem Step.drew (h : HOK P ι H w) (n : Nat) : Step P ι H w ι H { w with drawn := n } :=
  ⟨Emb.le.refl _, fun _ h1 h2 => absurd h1 h2, ⟨fun p o ho => O.ok_mono (h.obj p o ho) (Emb.le.refl _) fun _ _ _ _ => rfl, h.inj, h.lt⟩, fun _ _ _ => rfl, Nat.le_refl _,
    fun p b s hl hp _ => ⟨p, s, hl, hp⟩, rfl, rfl, rfl⟩
theorem Fr.split {A B C : Heap} (h : Fr ι A C) (m2 : Mono B C) : Fr ι A B := fun p hp hb => h p hp (m2 p hb)
theorem Fr.after {C : Heap} (h : Fr ι H C) (s : Step P ι H w ι' H' w') (m1 : Mono H H') : Fr ι' H' C := fun p hp hc => by
  have h0 : H.get p = none := by
    cases hg : H.get p with
    | none => rfl
    | some o => exact absurd hp (m1 p (by simp [hg]))
  cases hι : ι' p with
  | none => rfl
  | some q =>
    have := s.new p (h p h0 hc) (by simp [hι])
    exact absurd hp this.2
theorem Fr.nil_of {ι : Emb} {H H' : Heap} (h : ∀ p, ι p = none) : Fr ι H H' := fun p _ _ => h p
end

noncomputable def upd (ι : Emb) (n : Pth) (x : Nat × Nat) (T : Nat) : Emb := ⟨fun p => if n = p then some x else ι p, fun b => if b = x.1 then T else ι.size b, ι.sym⟩
theorem upd_same (ι : Emb) (n : Pth) (x : Nat × Nat) (T : Nat) : upd ι n x T n = some x := by simp [upd]
theorem upd_size (ι : Emb) (n : Pth) (x : Nat × Nat) (T : Nat) : (upd ι n x T).size x.1 = T := by simp [upd]
theorem upd_other {ι : Emb} {n p : Pth} {x : Nat × Nat} {T : Nat} (h : n ≠ p) : upd ι n x T p = ι p := by simp [upd, h]
theorem upd_le {ι : Emb} {n : Pth} {x : Nat × Nat} {T : Nat} (h : ι n = none) (hT : ∀ p s, ι p = some (x.1, s) → T = ι.size x.1) : ι.le (upd ι n x T) := by
  refine ⟨fun p q hp => ?_, fun p b s hp => ?_, rfl⟩
  · by_cases e : n = p
    · subst e; rw [h] at hp; cases hp
    · rw [upd_other e, hp]
  · show (if b = x.1 then T else ι.size b) = ι.size b
    by_cases e : b = x.1
    · rw [if_pos e, e]; exact hT p s (by rw [← e]; exact hp)
    · rw [if_neg e]
theorem upd_le_new {P : Program} {ι : Emb} {H : Heap} {w : World} {n : Pth} {T : Nat} (h : ι n = none) (hk : HOK P ι H w) : ι.le (upd ι n (w.heap.size, 0) T) :=
  upd_le h fun p s hp => absurd (hk.lt p _ s hp) (Nat.lt_irrefl _)

/-- the same world but for the block b -/
structure SameBut (b : Nat) (w w' : World) : Prop where
  size : w'.heap.size = w.heap.size
  other : ∀ b', b' ≠ b → w'.heap[b']? = w.heap[b']?
  tape : w'.tape = w.tape
  os : w'.os = w.os
  out : w'.output = w.output
theorem SameBut.trans {b : Nat} {w w' w'' : World} (h : SameBut b w w') (k : SameBut b w' w'') : SameBut b w w'' :=
  ⟨k.size.trans h.size, fun b' hb => (k.other b' hb).trans (h.other b' hb), k.tape.trans h.tape, k.os.trans h.os, k.out.trans h.out⟩
theorem SameBut.refl (b : Nat) (w : World) : SameBut b w w := ⟨rfl, fun _ _ => rfl, rfl, rfl, rfl⟩

section
variable {P : Program} {ι : Emb} {H : Heap} {w w' : World}
/-- one block more -/
theorem Step.alloc {n : Pth} {o : O} {T : Nat} (ob : Obj) (h : HOK P ι H w) (hn : H.get n = none) (hι : ι n = none) (hd : o ≠ .dead)
    (hh : w'.heap = w.heap.push ob) (ht : w'.tape = w.tape) (hs : w'.os = w.os) (ho : w'.output = w.output)
    (hok : o.ok P (upd ι n (w.heap.size, 0) T) w' n) : Step P ι H w (upd ι n (w.heap.size, 0) T) (H.set n o) w' := by
  have old : ∀ b, b < w.heap.size → w'.heap[b]? = w.heap[b]? := fun b hb => by
    rw [hh, Array.getElem?_push]; simp [Nat.ne_of_lt hb]
  have liveOld : ∀ p, n ≠ p → Live (H.set n o) p → Live H p := fun p hp hl => by
    obtain ⟨o', h1, h2⟩ := hl; rw [Tr.get_set_other _ _ _ _ hp] at h1; exact ⟨o', h1, h2⟩
  have lt : ∀ p b s, Live H p → ι p = some (b, s) → b < w.heap.size := fun p b s hl hp => by
    obtain ⟨o', h1, h2⟩ := hl
    obtain ⟨b', s', hp', hb'⟩ := O.ok_emb (h.obj p o' h1) h2
    rw [hp] at hp'; cases hp'; exact hb'
  refine ⟨upd_le_new hι h, fun p hp hp' => ?_, ⟨fun p o' hp => ?_, fun p q b s s' hp hq ep eq => ?_, fun p b s hp => ?_⟩, fun b hb _ => old b hb, by rw [hh]; simp, fun p b s hl hp hb => ?_, ht, hs, ho⟩
  · by_cases e : n = p
    · subst e; exact ⟨hn, by rw [Tr.get_set_same]; simp⟩
    · rw [upd_other e] at hp'; exact absurd hp hp'
  · by_cases e : n = p
    · subst e; rw [Tr.get_set_same] at hp; cases hp; exact hok
    · rw [Tr.get_set_other _ _ _ _ e] at hp
      exact O.ok_mono (h.obj p o' hp) (upd_le_new hι h) fun b s hd' hb => old b (lt p b s ⟨o', hp, hd'⟩ hb)
  · by_cases e1 : n = p
    · by_cases e2 : n = q
      · rw [← e1, ← e2]
      · subst e1
        rw [upd_same] at ep; cases ep
        rw [upd_other e2] at eq
        have := lt q _ _ (liveOld q e2 hq) eq
        omega
    · by_cases e2 : n = q
      · subst e2
        rw [upd_same] at eq; cases eq
        rw [upd_other e1] at ep
        have := lt p _ _ (liveOld p e1 hp) ep
        omega
      · rw [upd_other e1] at ep; rw [upd_other e2] at eq
        exact h.inj p q b s s' (liveOld p e1 hp) (liveOld q e2 hq) ep eq
  · rw [hh]
    by_cases e : n = p
    · subst e; rw [upd_same] at hp; cases hp; simp
    · rw [upd_other e] at hp; have := h.lt p b s hp; simp; omega
  · by_cases e : n = p
    · subst e; rw [upd_same] at hp; cases hp; omega
    · rw [upd_other e] at hp; exact ⟨p, s, liveOld p e hl, hp⟩
/-- a block that is written to -/
theorem Step.write {p : Pth} {o o' : O} {b s : Nat} (h : HOK P ι H w) (hp : H.get p = some o) (hd : o ≠ .dead) (hι : ι p = some (b, s)) (hw : SameBut b w w')
    (hok : o'.ok P ι w' p) : Step P ι H w ι (H.set p o') w' := by
  have liveOld : ∀ q, Live (H.set p o') q → Live H q := fun q hl => by
    by_cases e : p = q
    · subst e; exact ⟨o, hp, hd⟩
    · obtain ⟨x, h1, h2⟩ := hl; rw [Tr.get_set_other _ _ _ _ e] at h1; exact ⟨x, h1, h2⟩
  refine ⟨Emb.le.refl _, fun q h1 h2 => absurd h1 h2, ⟨fun q x hq => ?_, fun q r b' s' s'' hq hr => h.inj q r b' s' s'' (liveOld q hq) (liveOld r hr), fun q b' s' hq => by rw [hw.size]; exact h.lt q b' s' hq⟩,
    fun b' _ hn => hw.other b' fun e => hn p s ⟨o, hp, hd⟩ (by rw [e]; exact hι), Nat.le_of_eq hw.size.symm, fun q b' s' hl hq _ => ⟨q, s', liveOld q hl, hq⟩, hw.tape, hw.os, hw.out⟩
  by_cases e : p = q
  · subst e; rw [Tr.get_set_same] at hq; cases hq; exact hok
  · rw [Tr.get_set_other _ _ _ _ e] at hq
    refine O.ok_mono (h.obj q x hq) (Emb.le.refl _) fun b' s' hd' hq' => hw.other b' fun eb => e ?_
    subst eb
    exact h.inj p q b' s s' ⟨o, hp, hd⟩ ⟨x, hq, hd'⟩ hι hq'
theorem Step.kill {p : Pth} {o : O} (h : HOK P ι H w) (hp : H.get p = some o) (hd : o ≠ .dead) : Step P ι H w ι (H.set p .dead) w := by
  obtain ⟨b, s, hι, _⟩ := O.ok_emb (h.obj p o hp) hd
  exact Step.write h hp hd hι (SameBut.refl b w) trivial
/-- a block that goes on under another name, from a place in it on, and is written to -/
theorem Step.move {p n : Pth} {o o' : O} {b s s' : Nat} (h : HOK P ι H w) (hp : H.get p = some o) (hd : o ≠ .dead) (hι : ι p = some (b, s)) (hn : H.get n = none) (hιn : ι n = none)
    (hw : SameBut b w w') (hok : o'.ok P (upd ι n (b, s') (ι.size b)) w' n) : Step P ι H w (upd ι n (b, s') (ι.size b)) ((H.set p .dead).set n o') w' := by
  have hule : ι.le (upd ι n (b, s') (ι.size b)) := upd_le hιn fun _ _ _ => rfl
  have hpn : n ≠ p := fun e => by subst e; rw [hn] at hp; cases hp
  have liveOld : ∀ q, n ≠ q → Live ((H.set p .dead).set n o') q → Live H q ∧ p ≠ q := fun q hq hl => by
    obtain ⟨x, h1, h2⟩ := hl
    rw [Tr.get_set_other _ _ _ _ hq] at h1
    by_cases e : p = q
    · subst e; rw [Tr.get_set_same] at h1; cases h1; exact absurd rfl h2
    · rw [Tr.get_set_other _ _ _ _ e] at h1; exact ⟨⟨x, h1, h2⟩, e⟩
  refine ⟨hule, fun q h1 h2 => ?_, ⟨fun q x hq => ?_, fun q r b' t t' hq hr eq er => ?_, fun q b' t hq => ?_⟩,
    fun b' _ hnn => hw.other b' fun e => hnn p s ⟨o, hp, hd⟩ (by rw [e]; exact hι), Nat.le_of_eq hw.size.symm, fun q b' t hl hq hb => ?_, hw.tape, hw.os, hw.out⟩
  · by_cases e : n = q
    · subst e; exact ⟨hn, by rw [Tr.get_set_same]; simp⟩
    · rw [upd_other e] at h2; exact absurd h1 h2
  · by_cases e : n = q
    · subst e; rw [Tr.get_set_same] at hq; cases hq; exact hok
    · rw [Tr.get_set_other _ _ _ _ e] at hq
      by_cases e2 : p = q
      · subst e2; rw [Tr.get_set_same] at hq; cases hq; trivial
      · rw [Tr.get_set_other _ _ _ _ e2] at hq
        refine O.ok_mono (h.obj q x hq) (hule) fun b' t hd' hq' => hw.other b' fun eb => e2 ?_
        subst eb
        exact h.inj p q b' s t ⟨o, hp, hd⟩ ⟨x, hq, hd'⟩ hι hq'
  · by_cases e1 : n = q
    · by_cases e2 : n = r
      · rw [← e1, ← e2]
      · subst e1
        rw [upd_same] at eq; cases eq
        rw [upd_other e2] at er
        obtain ⟨h1, h2⟩ := liveOld r e2 hr
        exact absurd (h.inj p r _ _ _ ⟨o, hp, hd⟩ h1 hι er) h2
    · by_cases e2 : n = r
      · subst e2
        rw [upd_same] at er; cases er
        rw [upd_other e1] at eq
        obtain ⟨h1, h2⟩ := liveOld q e1 hq
        exact absurd (h.inj p q _ _ _ ⟨o, hp, hd⟩ h1 hι eq) h2
      · rw [upd_other e1] at eq; rw [upd_other e2] at er
        exact h.inj q r b' t t' (liveOld q e1 hq).1 (liveOld r e2 hr).1 eq er
  · rw [hw.size]
    by_cases e : n = q
    · subst e; rw [upd_same] at hq; cases hq; exact h.lt p _ _ hι
    · rw [upd_other e] at hq; exact h.lt q b' t hq
  · by_cases e : n = q
    · subst e; rw [upd_same] at hq; cases hq; exact ⟨p, s, ⟨o, hp, hd⟩, hι⟩
    · rw [upd_other e] at hq; exact ⟨q, t, (liveOld q e hl).1, hq⟩
end

/- the model's own reads and writes -/
def oneC : Value → Bool
  | .agg _ => false
  | .tuple _ => false
  | _ => true
theorem addr_add (b o n : Nat) : (⟨b, o, none⟩ : Addr).add n = ⟨b, o + n, none⟩ := by
  unfold Addr.add; by_cases h : n = 0 <;> simp [h]
section
variable {P : Program} {w : World} {b : Nat} {c : Array Value} {el : TypeId} {fr : Nat × Nat}
theorem cell_of (h : w.heap[b]? = some (.cells c el fr)) (o : Nat) : w.cell? ⟨b, o, none⟩ = c[o]? := by simp [World.cell?, h]
theorem run_load_cell (h : w.heap[b]? = some (.cells c el fr)) {o : Nat} {x : Value} (hx : c[o]? = some x) : (load ⟨b, o, none⟩).run P w = .ok x w := by
  simp [load, Sem.run, cell_of h, hx]
theorem run_loadCellsFrom (h : w.heap[b]? = some (.cells c el fr)) (o : Nat) : ∀ (n i : Nat) (acc : Array Value), o + i + n ≤ c.size →
    (loadCellsFrom ⟨b, o, none⟩ i n acc).run P w = .ok (acc ++ ((c.toList.drop (o + i)).take n).toArray) w
  | 0, i, acc, _ => by simp [loadCellsFrom]
  | n + 1, i, acc, hle => by
    have hlt : o + i < c.size := by omega
    have hx : c[o + i]? = some c[o + i] := by simp [hlt]
    unfold loadCellsFrom
    rw [Sem.run_bind, addr_add, run_load_cell h hx]
    simp only [Result.andThen]
    rw [run_loadCellsFrom h o n (i + 1) _ (by omega)]
    congr 1
    have e : c.toList.drop (o + i) = c[o + i] :: c.toList.drop (o + (i + 1)) := by
      rw [List.drop_eq_getElem_cons (by simpa using hlt)]; simp [Nat.add_assoc]
    rw [e]
    apply Array.toList_inj.1
    simp
theorem run_loadCells_cells (h : w.heap[b]? = some (.cells c el fr)) {o n : Nat} (hle : o + n ≤ c.size) :
    (loadCells ⟨b, o, none⟩ n).run P w = .ok ((c.toList.drop o).take n).toArray w := by
  unfold loadCells
  rw [run_loadCellsFrom h o n 0 #[] (by omega)]; simp
theorem frozen_of (h : w.heap[b]? = some (.cells c el fr)) (hf : fr.1 = fr.2 ∨ c.size ≤ fr.1) {o : Nat} (ho : o < c.size) : w.frozen? ⟨b, o, none⟩ = false := by
  obtain ⟨lo, hi⟩ := fr
  simp only [World.frozen?, h]
  simp only [Bool.and_eq_false_iff, decide_eq_false_iff_not]
  simp at hf
  omega
theorem setCell_block (h : w.heap[b]? = some (.cells c el fr)) (o : Nat) (x : Value) :
    SameBut b w (w.setCell ⟨b, o, none⟩ x) ∧ (w.setCell ⟨b, o, none⟩ x).heap[b]? = some (.cells (c.setIfInBounds o x) el fr) := by
  refine ⟨⟨by simp [World.setCell], fun b' hb => ?_, rfl, rfl, rfl⟩, ?_⟩
  · simp only [World.setCell]
    rw [Array.getElem?_modify]; simp [Ne.symm hb]
  · simp only [World.setCell]
    rw [Array.getElem?_modify]; simp [h]
theorem run_store_cell (h : w.heap[b]? = some (.cells c el fr)) (hf : fr.1 = fr.2 ∨ c.size ≤ fr.1) {o : Nat} (ho : o < c.size) {x : Value} (h1 : oneC x = true) :
    (store ⟨b, o, none⟩ x).run P w = .ok () (w.setCell ⟨b, o, none⟩ x) := by
  have hc : w.cell? ⟨b, o, none⟩ = some c[o] := by rw [cell_of h]; simp [ho]
  have hz := frozen_of h hf ho
  unfold store
  cases x <;> simp [oneC] at h1 <;> simp [Sem.run, hc, hz]
theorem run_storeCells_cells (o : Nat) : ∀ (vs : List Value) (i : Nat) (w : World) (c : Array Value), w.heap[b]? = some (.cells c el fr) → (fr.1 = fr.2 ∨ c.size ≤ fr.1) →
    o + i + vs.length ≤ c.size → (∀ x ∈ vs, oneC x = true) →
    ∃ w' c', (storeCells ⟨b, o, none⟩ vs i).run P w = .ok () w' ∧ SameBut b w w' ∧ w'.heap[b]? = some (.cells c' el fr) ∧
      c'.toList = c.toList.take (o + i) ++ vs ++ c.toList.drop (o + i + vs.length) ∧ c'.size = c.size
  | [], i, w, c, h, hf, hle, h1 => ⟨w, c, by simp [storeCells], SameBut.refl _ _, h, by simp, rfl⟩
  | x :: vs, i, w, c, h, hf, hle, h1 => by
    have hlt : o + i < c.size := by simp at hle; omega
    have hs := setCell_block h (o + i) x
    obtain ⟨w', c', hr, hsb, hh, hc, hz⟩ := run_storeCells_cells o vs (i + 1) (w.setCell ⟨b, o + i, none⟩ x) (c.setIfInBounds (o + i) x) hs.2 (by simpa using hf)
      (by simp at hle ⊢; omega) (fun y hy => h1 y (List.mem_cons_of_mem _ hy))
    refine ⟨w', c', ?_, hs.1.trans hsb, hh, ?_, by simpa using hz⟩
    · unfold storeCells
      rw [Sem.run_bind, addr_add, run_store_cell h hf hlt (h1 x (List.mem_cons_self ..))]
      exact hr
    · rw [hc]
      simp only [Array.toList_setIfInBounds, List.length_cons]
      have e1 : (c.toList.set (o + i) x).take (o + (i + 1)) = c.toList.take (o + i) ++ [x] := by
        have hl : (c.toList.take (o + i)).length = o + i := by simp; omega
        rw [List.set_eq_take_append_cons_drop, if_pos (by simpa using hlt), List.take_append, hl]
        have : o + (i + 1) - (o + i) = 1 := by omega
        rw [this, List.take_of_length_le (by rw [hl]; omega)]; simp
      have e2 : (c.toList.set (o + i) x).drop (o + (i + 1) + vs.length) = c.toList.drop (o + i + (vs.length + 1)) := by
        rw [List.drop_set_of_lt (by omega)]; congr 1; omega
      rw [e1, e2]; simp
end
end
end Go.Ev
