/-
  A verified evaluator, part 36: summaries of calls.
  A verified evaluator, part 37: a summary is sound wherever the blocks fit it.
-/
import Derived.Test.YtilgladlepnanaaGreatDoorEv35
namespace Go.Ev
noncomputable section
open Go

/-- a call's summary: the function, its arguments, the blocks that they lead to, the result, the blocks behind the call (those of before, and new ones that are kept), the names of the new ones -/
structure Smy where
  f : Nat
  args : List V
  pre : List (Pth × O)
  res : V
  post : List (Pth × O)
  new : List Pth

def hp (l : List (Pth × O)) : Heap := List.rec .nil (fun e _ ih => Tr.set e.1 e.2 ih) l
theorem hp_cons (e : Pth × O) (l : List (Pth × O)) : hp (e :: l) = Tr.set e.1 e.2 (hp l) := rfl
theorem hp_mem : ∀ {l : List (Pth × O)} {p : Pth} {o : O}, (hp l).get p = some o → (p, o) ∈ l
  | [], p, o, h => by
    have h' : Tr.get p (.nil : Heap) = some o := h
    rw [Tr.get_nil] at h'; cases h'
  | e :: l, p, o, h => by
    rw [hp_cons, Tr.get_set] at h
    by_cases he : e.1 = p
    · rw [if_pos he] at h; cases h; subst he; exact List.mem_cons_self ..
    · rw [if_neg he] at h; exact List.mem_cons_of_mem _ (hp_mem h)
theorem hp_some : ∀ {l : List (Pth × O)} {p : Pth}, p ∈ l.map (·.1) → (hp l).get p ≠ none
  | [], p, h => by simp at h
  | e :: l, p, h => by
    rw [hp_cons, Tr.get_set]
    by_cases he : e.1 = p
    · rw [if_pos he]; simp
    · rw [if_neg he]
      rw [List.map_cons, List.mem_cons] at h
      rcases h with h | h
      · exact absurd h.symm he
      · exact hp_some h
/-- what the call does, whatever the blocks are -/
def Smy.ok (P : Program) (s : Smy) : Prop := Callable P s.f ∧ ∀ (κ : Emb) (w : World) (xs : Array Value), HOK P κ (hp s.pre) w → (∀ p, κ p ≠ none → (hp s.pre).get p ≠ none) → V.rels κ s.args xs.toList →
  Calls P s.f xs w (fun e w' => ∃ x, e = .returned x ∧ ∃ κ', V.rel κ' s.res x ∧ Step P κ (hp s.pre) w κ' (hp s.post) w')

/- checks -/
def memP (p : Pth) (l : List Pth) : Bool := List.rec false (fun q _ ih => match q.beq p with | true => true | false => ih) l
def nodupP (l : List Pth) : Bool := List.rec true (fun q t ih => match memP q t with | true => false | false => ih) l
def names (l : List (Pth × O)) : List Pth := List.rec [] (fun e _ ih => e.1 :: ih) l
theorem names_eq : ∀ l : List (Pth × O), names l = l.map (·.1)
  | [] => rfl
  | e :: l => by show e.1 :: names l = _; rw [names_eq l]; rfl
theorem memP_iff (p : Pth) : ∀ l : List Pth, memP p l = true ↔ p ∈ l
  | [] => by simp [memP]
  | q :: l => by
    have ih := memP_iff p l
    have h : memP p (q :: l) = (match q.beq p with | true => true | false => memP p l) := rfl
    rw [h]
    cases hb : q.beq p with
    | true => simp [(Pth.beq_iff q p).1 hb]
    | false =>
      have hne : p ≠ q := fun e => by subst e; rw [(Pth.beq_iff p p).2 rfl] at hb; cases hb
      simp [ih, hne]
theorem nodupP_ok : ∀ {l : List Pth}, nodupP l = true → l.Nodup
  | [], _ => List.nodup_nil
  | q :: t, h => by
    have h' : (match memP q t with | true => false | false => nodupP t) = true := h
    cases hm : memP q t with
    | true => simp [hm] at h'
    | false =>
      simp only [hm] at h'
      refine List.nodup_cons.2 ⟨fun hq => ?_, nodupP_ok h'⟩
      rw [(memP_iff q t).2 hq] at hm; cases hm
def oren (l : Asc) (fuel : Nat) (o : O) : O :=
  match o with
  | .dead => .dead
  | .cells c => .cells (rens l fuel c)
  | .map es k => .map (List.rec [] (fun e _ ih => (ren l fuel e.1, ren l fuel e.2.1, e.2.2) :: ih) es : List (V × V × Nat)) k
  | o => .dead
def emtch (l : Asc) (fuel : Nat) (es : List (V × V × Nat)) : List (V × V × Nat) → Bool :=
  List.rec (motive := fun _ => List (V × V × Nat) → Bool) (fun m => match m with | [] => true | _ :: _ => false)
    (fun e _ ih m => match m with
      | [] => false
      | a :: m' => (match mtch l fuel e.1 a.1, mtch l fuel e.2.1 a.2.1, Nat.beq e.2.2 a.2.2 with | true, true, true => ih m' | _, _, _ => false)) es
def omtch (l : Asc) (fuel : Nat) (o a : O) : Bool :=
  match o, a with
  | .cells c, .cells d => mtchs l fuel c d
  | .map es k, .map fs j => (match Nat.beq k j with | true => emtch l fuel es fs | false => false)
  | _, _ => false
def premtch (l : Asc) (fuel : Nat) (H : Heap) (pre : List (Pth × O)) : Bool :=
  List.rec true (fun e _ ih => match asc l e.1 with
    | some q => (match H.get q with
      | some a => (match omtch l fuel e.2 a with | true => ih | false => false)
      | none => false)
    | none => false) pre
/-- fresh names for the new blocks -/
def freshN (l : Asc) (new : List Pth) : Pth → Asc := List.rec (motive := fun _ => Pth → Asc) (fun _ => l) (fun p _ ih n => (p, n) :: ih n.succ) new
def nextN (new : List Pth) : Pth → Pth := List.rec (motive := fun _ => Pth → Pth) (fun n => n) (fun _ _ ih n => ih n.succ) new
def freeN (H : Heap) (new : List Pth) : Pth → Bool :=
  List.rec (motive := fun _ => Pth → Bool) (fun _ => true) (fun _ _ ih n => match H.get n with | none => ih n.succ | some _ => false) new
def lay (l : Asc) (fuel : Nat) (post : List (Pth × O)) (H : Heap) : Heap :=
  List.rec H (fun e _ ih => match asc l e.1 with | some q => Tr.set q (oren l fuel e.2) ih | none => ih) post
def imgs (l : Asc) (ps : List Pth) : List Pth := List.rec [] (fun p _ ih => match asc l p with | some q => q :: ih | none => ih) ps
def fstOf (l : Asc) : List Pth := List.rec [] (fun e _ ih => e.1 :: ih) l
def subP (a b : List Pth) : Bool := List.rec true (fun p _ ih => match memP p b with | true => ih | false => false) a
def noneP (a b : List Pth) : Bool := List.rec true (fun p _ ih => match memP p b with | true => false | false => ih) a
def liveO (l : List (Pth × O)) (new : List Pth) : Bool :=
  List.rec true (fun e _ ih => match memP e.1 new with
    | true => (match e.2 with | .dead => false | _ => ih)
    | false => ih) l
/-- candidates for the names: by what the pattern and the value show -/
def uni (fuel : Nat) : V → V → Asc → Asc :=
  Nat.rec (motive := fun _ => V → V → Asc → Asc) (fun _ _ l => l) (fun _ ih v a l => match v, a with
    | .ptr p _, .ptr q _ => (match asc l p with | some _ => l | none => (p, q) :: l)
    | .sl p _ _ _ _, .sl q _ _ _ _ => (match asc l p with | some _ => l | none => (p, q) :: l)
    | .mp p, .mp q => (match asc l p with | some _ => l | none => (p, q) :: l)
    | .agg x, .agg y => (List.rec (motive := fun _ => List V → Asc → Asc) (fun _ l => l)
            (fun x _ ih2 m l => match m with | [] => l | y :: m' => ih2 m' (ih x y l)) x : List V → Asc → Asc) y l
    | .ifc _ x, .ifc _ y => ih x y l
    | _, _ => l) fuel
def unis (fuel : Nat) (x : List V) : List V → Asc → Asc :=
  List.rec (motive := fun _ => List V → Asc → Asc) (fun _ l => l) (fun x _ ih2 m l => match m with | [] => l | y :: m' => ih2 m' (uni fuel x y l)) x
def uniH (fuel : Nat) (H : Heap) (pre : List (Pth × O)) : Asc → Asc :=
  List.rec (motive := fun _ => Asc → Asc) (fun l => l) (fun e _ ih l => match asc l e.1 with
    | some q => (match e.2, H.get q with
      | .cells c, some (.cells d) => ih (unis fuel c d l)
      | _, _ => ih l)
    | none => ih l) pre
/-- the summary's checks: of itself -/
def Smy.good (s : Smy) : Bool :=
  match noneP s.new (names s.pre), subP (names s.pre) (names s.post), subP (names s.post) (app (names s.pre) s.new), nodupP (names s.post), nodupP s.new, liveO s.post s.new with
  | true, true, true, true, true, true => subP s.new (names s.post)
  | _, _, _, _, _, _ => false
def Smy.run (s : Smy) (l : Asc) (as : List V) (H : Heap) (n : Pth) : Res :=
  match subP (fstOf l) (names s.pre), mtchs l 40 s.args as, premtch l 40 H s.pre, nodupP (imgs l (names s.pre)), freeN H s.new n with
  | true, true, true, true, true => .ok (ren (freshN l s.new n) 40 s.res) (lay (freshN l s.new n) 40 s.post H) (nextN s.new n)
  | _, _, _, _, _ => .bad
def orElse (r : Res) (q : Res) : Res :=
  match r with
  | .bad => q
  | r => r
def smyCal (s : Smy) (c : Cal) : Cal :=
  ⟨fun f as H n => match Nat.beq f s.f with
    | true => orElse (s.run (uniH 40 H s.pre (unis 40 s.args as [])) as H n) (c.fn f as H n)
    | false => c.fn f as H n, c.rd⟩
end
end Go.Ev
namespace Go.Ev
noncomputable section
open Go

theorem subP_ok : ∀ {a b : List Pth}, subP a b = true → ∀ p ∈ a, p ∈ b
  | [], _, _, p, hp => by simp at hp
  | q :: a, b, h, p, hp => by
    have h' : (match memP q b with | true => subP a b | false => false) = true := h
    cases hm : memP q b with
    | false => simp [hm] at h'
    | true =>
      simp only [hm] at h'
      rcases List.mem_cons.1 hp with rfl | hp
      · exact (memP_iff _ _).1 hm
      · exact subP_ok h' p hp
theorem noneP_ok : ∀ {a b : List Pth}, noneP a b = true → ∀ p ∈ a, p ∉ b
  | [], _, _, p, hp => by simp at hp
  | q :: a, b, h, p, hp => by
    have h' : (match memP q b with | true => false | false => noneP a b) = true := h
    cases hm : memP q b with
    | true => simp [hm] at h'
    | false =>
      simp only [hm] at h'
      rcases List.mem_cons.1 hp with rfl | hp
      · exact fun hb => by rw [(memP_iff _ _).2 hb] at hm; cases hm
      · exact noneP_ok h' p hp
theorem liveO_ok : ∀ {l : List (Pth × O)} {new : List Pth}, liveO l new = true → ∀ e ∈ l, e.1 ∈ new → e.2 ≠ .dead
  | [], _, _, e, he, _ => by simp at he
  | x :: l, new, h, e, he, hn => by
    have h' : (match memP x.1 new with
      | true => (match x.2 with | .dead => false | _ => liveO l new)
      | false => liveO l new) = true := h
    rcases List.mem_cons.1 he with rfl | he
    · rw [(memP_iff _ _).2 hn] at h'
      intro hd
      simp [hd] at h'
    · refine liveO_ok (l := l) ?_ e he hn
      cases hm : memP x.1 new with
      | false => simpa [hm] using h'
      | true =>
        simp only [hm] at h'
        cases hx : x.2 <;> simp [hx] at h' <;> exact h'
theorem imgs_mem {l : Asc} : ∀ {ps : List Pth} {p q : Pth}, p ∈ ps → asc l p = some q → q ∈ imgs l ps
  | [], _, _, h, _ => by simp at h
  | x :: ps, p, q, h, ha => by
    have hi : imgs l (x :: ps) = (match asc l x with | some q => q :: imgs l ps | none => imgs l ps) := rfl
    rw [hi]
    rcases List.mem_cons.1 h with rfl | h
    · rw [ha]; exact List.mem_cons_self ..
    · cases asc l x with
      | none => exact imgs_mem h ha
      | some y => exact List.mem_cons_of_mem _ (imgs_mem h ha)
theorem imgs_inj {l : Asc} : ∀ {ps : List Pth}, (imgs l ps).Nodup → ∀ {p p' q : Pth}, p ∈ ps → p' ∈ ps → asc l p = some q → asc l p' = some q → p = p'
  | [], _, _, _, _, h, _, _, _ => by simp at h
  | x :: ps, hnd, p, p', q, h, h', ha, ha' => by
    have hi : imgs l (x :: ps) = (match asc l x with | some q => q :: imgs l ps | none => imgs l ps) := rfl
    rw [hi] at hnd
    rcases List.mem_cons.1 h with rfl | h <;> rcases List.mem_cons.1 h' with rfl | h'
    · rfl
    · rw [ha] at hnd
      exact absurd (imgs_mem h' ha') (List.nodup_cons.1 hnd).1
    · rw [ha'] at hnd
      exact absurd (imgs_mem (ps := ps) (by assumption) ha) (List.nodup_cons.1 hnd).1
    · refine imgs_inj (ps := ps) ?_ h h' ha ha'
      cases hx : asc l x with
      | none => rw [hx] at hnd; exact hnd
      | some y => rw [hx] at hnd; exact (List.nodup_cons.1 hnd).2
theorem fstOf_mem {l : Asc} {p q : Pth} (h : asc l p = some q) : p ∈ fstOf l := by
  have h1 := asc_mem h
  clear h
  induction l with
  | nil => simp at h1
  | cons e l ih =>
    have hf : fstOf (e :: l) = e.1 :: fstOf l := rfl
    rw [hf]
    rcases List.mem_cons.1 h1 with rfl | h1
    · exact List.mem_cons_self ..
    · exact List.mem_cons_of_mem _ (ih h1)

/- fresh names -/
theorem freshN_cons (l : Asc) (p : Pth) (t : List Pth) (n : Pth) : freshN l (p :: t) n = (p, n) :: freshN l t n.succ := rfl
theorem freeN_cons (H : Heap) (p : Pth) (t : List Pth) (n : Pth) : freeN H (p :: t) n = (match H.get n with | none => freeN H t n.succ | some _ => false) := rfl
theorem fresh_out {l : Asc} : ∀ {new : List Pth} {n p : Pth}, p ∉ new → asc (freshN l new n) p = asc l p
  | [], _, _, _ => rfl
  | x :: t, n, p, h => by
    rw [freshN_cons, asc_cons]
    have hne : x ≠ p := fun e => h (by rw [e]; exact List.mem_cons_self ..)
    have hb : x.beq p = false := by
      cases hb : x.beq p with
      | false => rfl
      | true => exact absurd ((Pth.beq_iff _ _).1 hb) hne
    simp only [hb]
    exact fresh_out fun hp => h (List.mem_cons_of_mem _ hp)
theorem fresh_in {l : Asc} {H : Heap} : ∀ {new : List Pth} {n p : Pth}, new.Nodup → freeN H new n = true → p ∈ new → ∃ q, asc (freshN l new n) p = some q ∧ H.get q = none ∧ n.num ≤ q.num
  | [], _, _, _, _, h => by simp at h
  | x :: t, n, p, hnd, hf, h => by
    rw [freeN_cons] at hf
    rw [freshN_cons, asc_cons]
    cases hg : H.get n with
    | some o => simp [hg] at hf
    | none =>
      simp only [hg] at hf
      cases hb : x.beq p with
      | true => exact ⟨n, rfl, hg, Nat.le_refl _⟩
      | false =>
        rcases List.mem_cons.1 h with rfl | h
        · rw [(Pth.beq_iff p p).2 rfl] at hb; cases hb
        · obtain ⟨q, h1, h2, h3⟩ := fresh_in (l := l) (List.nodup_cons.1 hnd).2 hf h
          rw [Pth.num_succ] at h3
          exact ⟨q, h1, h2, by omega⟩
theorem fresh_inj {l : Asc} {H : Heap} : ∀ {new : List Pth} {n p p' q : Pth}, new.Nodup → freeN H new n = true → p ∈ new → p' ∈ new → asc (freshN l new n) p = some q → asc (freshN l new n) p' = some q → p = p'
  | [], _, _, _, _, _, _, h, _, _, _ => by simp at h
  | x :: t, n, p, p', q, hnd, hf, h, h', ha, ha' => by
    rw [freeN_cons] at hf
    rw [freshN_cons, asc_cons] at ha ha'
    cases hg : H.get n with
    | some o => simp [hg] at hf
    | none =>
      simp only [hg] at hf
      have step : ∀ z, z ∈ x :: t → x.beq z = false → z ∈ t := fun z hz hb => by
        rcases List.mem_cons.1 hz with rfl | hz
        · rw [(Pth.beq_iff z z).2 rfl] at hb; cases hb
        · exact hz
      cases hb : x.beq p with
      | true =>
        have e1 := (Pth.beq_iff _ _).1 hb
        cases hb' : x.beq p' with
        | true => rw [← e1, (Pth.beq_iff _ _).1 hb']
        | false =>
          simp only [hb] at ha
          simp only [hb'] at ha'
          obtain ⟨q', h1, _, h3⟩ := fresh_in (l := l) (List.nodup_cons.1 hnd).2 hf (step p' h' hb')
          rw [h1] at ha'
          cases ha; cases ha'
          rw [Pth.num_succ] at h3; omega
      | false =>
        simp only [hb] at ha
        cases hb' : x.beq p' with
        | true =>
          simp only [hb'] at ha'
          obtain ⟨q', h1, _, h3⟩ := fresh_in (l := l) (List.nodup_cons.1 hnd).2 hf (step p h hb)
          rw [h1] at ha
          cases ha; cases ha'
          rw [Pth.num_succ] at h3; omega
        | false =>
          simp only [hb'] at ha'
          exact fresh_inj (List.nodup_cons.1 hnd).2 hf (step p h hb) (step p' h' hb') ha ha'

/- laying -/
theorem lay_cons (l : Asc) (k : Nat) (e : Pth × O) (t : List (Pth × O)) (H : Heap) : lay l k (e :: t) H = (match asc l e.1 with | some q => Tr.set q (oren l k e.2) (lay l k t H) | none => lay l k t H) := rfl
theorem lay_in {l : Asc} {k : Nat} {H : Heap} : ∀ {post : List (Pth × O)}, (post.map (·.1)).Nodup → (∀ p p' q, p ∈ post.map (·.1) → p' ∈ post.map (·.1) → asc l p = some q → asc l p' = some q → p = p') →
    ∀ {p : Pth} {o : O} {q : Pth}, (p, o) ∈ post → asc l p = some q → (lay l k post H).get q = some (oren l k o)
  | [], _, _, _, _, _, h, _ => by simp at h
  | e :: t, hnd, hi, p, o, q, h, ha => by
    rw [lay_cons]
    rw [List.map_cons, List.nodup_cons] at hnd
    rcases List.mem_cons.1 h with rfl | h
    · simp only [ha]; rw [Tr.get_set_same]
    · have ih := lay_in (H := H) (k := k) (l := l) hnd.2 (fun a b c ha hb => hi a b c (List.mem_cons_of_mem _ ha) (List.mem_cons_of_mem _ hb)) h ha
      cases he : asc l e.1 with
      | none => exact ih
      | some q' =>
        simp only
        rw [Tr.get_set_other _ _ _ _ fun e2 => ?_]
        · exact ih
        · subst e2
          have := hi e.1 p q' (List.mem_cons_self ..) (List.mem_cons_of_mem _ (List.mem_map.2 ⟨_, h, rfl⟩)) he ha
          exact hnd.1 (by rw [this]; exact List.mem_map.2 ⟨_, h, rfl⟩)
theorem lay_out {l : Asc} {k : Nat} {H : Heap} : ∀ {post : List (Pth × O)} {q : Pth}, (∀ p ∈ post.map (·.1), asc l p ≠ some q) → (lay l k post H).get q = H.get q
  | [], _, _ => rfl
  | e :: t, q, h => by
    rw [lay_cons]
    have ih := lay_out (H := H) (k := k) (l := l) (post := t) (q := q) fun p hp => h p (List.mem_cons_of_mem _ hp)
    cases he : asc l e.1 with
    | none => exact ih
    | some q' =>
      simp only
      rw [Tr.get_set_other _ _ _ _ fun e2 => h e.1 (List.mem_cons_self ..) (by rw [he, e2])]
      exact ih
theorem lay_mono {l : Asc} {k : Nat} {H : Heap} : ∀ {post : List (Pth × O)}, Mono H (lay l k post H)
  | [] => Mono.refl _
  | e :: t => by
    rw [lay_cons]
    cases asc l e.1 with
    | none => exact lay_mono
    | some q => exact (lay_mono (post := t)).trans (Mono.set _ _ _)

/- blocks -/
theorem premtch_ok {l : Asc} {k : Nat} {H : Heap} : ∀ {pre : List (Pth × O)}, premtch l k H pre = true → ∀ e ∈ pre, ∃ q a, asc l e.1 = some q ∧ H.get q = some a ∧ omtch l k e.2 a = true
  | [], _, e, he => by simp at he
  | x :: t, h, e, he => by
    have h' : (match asc l x.1 with
      | some q => (match H.get q with
        | some a => (match omtch l k x.2 a with | true => premtch l k H t | false => false)
        | none => false)
      | none => false) = true := h
    cases h1 : asc l x.1 with
    | none => simp [h1] at h'
    | some q =>
      cases h2 : H.get q with
      | none => simp [h1, h2] at h'
      | some a =>
        cases h3 : omtch l k x.2 a with
        | false => simp [h1, h2, h3] at h'
        | true =>
          simp only [h1, h2, h3] at h'
          rcases List.mem_cons.1 he with rfl | he
          · exact ⟨q, a, h1, h2, h3⟩
          · exact premtch_ok h' e he
section
variable {P : Program} {ι κ : Emb} {w : World} {l : Asc} {k : Nat}
theorem emtch_ok : ∀ {es fs : List (V × V × Nat)} {ms : List MapEntry}, emtch l k es fs = true → ERel ι fs ms → ERel (via l ι) es ms
  | [], [], ms, _, h => h
  | [], _ :: _, _, h, _ => by cases h
  | _ :: _, [], _, h, _ => by cases h
  | e :: es, a :: fs, ms, h, hr => by
    obtain ⟨m, t, rfl, hk, hv, hb, ht⟩ := hr
    have h' : (match mtch l k e.1 a.1, mtch l k e.2.1 a.2.1, Nat.beq e.2.2 a.2.2 with | true, true, true => emtch l k es fs | _, _, _ => false) = true := h
    cases h1 : mtch l k e.1 a.1 <;> cases h2 : mtch l k e.2.1 a.2.1 <;> cases h3 : Nat.beq e.2.2 a.2.2 <;> simp only [h1, h2, h3] at h' <;> try (cases h'; done)
    exact ⟨m, t, rfl, mtch_ok k _ _ _ h1 hk, mtch_ok k _ _ _ h2 hv, hb.trans (beq_eq h3).symm, emtch_ok h' ht⟩
theorem omtch_ok {o a : O} {p q : Pth} (h : omtch l k o a = true) (hq : asc l p = some q) (hr : a.ok P ι w q) : o.ok P (via l ι) w p ∧ a ≠ .dead := by
  cases o <;> cases a <;> try (cases h; done)
  · rename_i c d
    refine ⟨?_, by simp⟩
    obtain ⟨b, s, cs, el, fr, hp, hh, hf, hl, hz⟩ := hr
    have hm := mtchs_ok (l := l) (fuel := k) h hl
    have e1 : c.length = d.length := by rw [← rels_length hm, rels_length hl]
    exact ⟨b, s, cs, el, fr, (via_some hq).trans hp, hh, hf, by rw [e1]; exact hm, hz⟩
  · rename_i es c1 fs c2
    refine ⟨?_, by simp⟩
    have h' : (match Nat.beq c1 c2 with | true => emtch l k es fs | false => false) = true := h
    cases hb : Nat.beq c1 c2 with
    | false => simp [hb] at h'
    | true =>
      simp only [hb] at h'
      obtain ⟨b, es', hp, hh, hr⟩ := hr
      exact ⟨b, es', (via_some hq).trans hp, by rw [beq_eq hb]; exact hh, emtch_ok h' hr⟩
theorem rens_length (a : List V) : (rens l k a).length = a.length := by
  induction a with
  | nil => rfl
  | cons x t ih => show (ren l k x :: rens l k t).length = _; simp [ih]
theorem eren_ok (hn : NamesV l κ ι) : ∀ {es : List (V × V × Nat)} {ms : List MapEntry}, ERel κ es ms → ERel ι (List.rec [] (fun e _ ih => (ren l k e.1, ren l k e.2.1, e.2.2) :: ih) es : List (V × V × Nat)) ms
  | [], _, h => h
  | _ :: _, _, ⟨m, t, e, hk, hv, hb, ht⟩ => ⟨m, t, e, ren_ok hn k _ _ hk, ren_ok hn k _ _ hv, hb, eren_ok hn ht⟩
theorem oren_ok (hn : NamesV l κ ι) {o : O} {p q : Pth} (hq : asc l p = some q) (hr : o.ok P κ w p) : (oren l k o).ok P ι w q := by
  cases o <;> try trivial
  · rename_i c
    obtain ⟨b, s, cs, el, fr, hp, hh, hf, hl, hz⟩ := hr
    obtain ⟨e1, e2⟩ := hn.name p q b s hq hp
    exact ⟨b, s, cs, el, fr, e1, hh, hf, by rw [rens_length]; exact rens_ok hn hl, e2.trans hz.1, hz.2⟩
  · rename_i es c1
    obtain ⟨b, es', hp, hh, hr⟩ := hr
    exact ⟨b, es', (hn.name p q b 0 hq hp).1, hh, eren_ok hn hr⟩
theorem oren_live {o : O} (h : oren l k o ≠ .dead) : o ≠ .dead := fun e => by subst e; exact h rfl
end

theorem good_inv {s : Smy} (h : s.good = true) : (∀ p ∈ s.new, p ∉ names s.pre) ∧ (∀ p ∈ names s.pre, p ∈ names s.post) ∧ (∀ p ∈ names s.post, p ∈ names s.pre ∨ p ∈ s.new) ∧ (names s.post).Nodup ∧ s.new.Nodup ∧
    (∀ e ∈ s.post, e.1 ∈ s.new → e.2 ≠ .dead) ∧ ∀ p ∈ s.new, p ∈ names s.post := by
  unfold Smy.good at h
  cases h1 : noneP s.new (names s.pre) <;> cases h2 : subP (names s.pre) (names s.post) <;> cases h3 : subP (names s.post) (app (names s.pre) s.new) <;> cases h4 : nodupP (names s.post) <;>
    cases h5 : nodupP s.new <;> cases h6 : liveO s.post s.new <;> simp only [h1, h2, h3, h4, h5, h6] at h <;> try (cases h; done)
  refine ⟨noneP_ok h1, subP_ok h2, fun p hp => ?_, nodupP_ok h4, nodupP_ok h5, liveO_ok h6, subP_ok h⟩
  have := subP_ok h3 p hp
  rw [app_eq] at this
  exact List.mem_append.1 this
section
variable {P : Program}
theorem run_ok {s : Smy} (hg : s.good = true) (hs : s.ok P) {l : Asc} {as : List V} {H H' : Heap} {n n' : Pth} {v : V} (h : s.run l as H n = .ok v H' n') :
    Mono H H' ∧ ∀ ι w (xs : Array Value), HOK P ι H w → Fr ι H H' → V.rels ι as xs.toList → Calls P s.f xs w (fun e w' => ∃ x, e = .returned x ∧ Post P ι H w H' v x w') := by
  obtain ⟨g1, g2, g3, g4, g5, g6, g7⟩ := good_inv hg
  unfold Smy.run at h
  cases h1 : subP (fstOf l) (names s.pre) <;> cases h2 : mtchs l 40 s.args as <;> cases h3 : premtch l 40 H s.pre <;> cases h4 : nodupP (imgs l (names s.pre)) <;> cases h5 : freeN H s.new n <;>
    simp only [h1, h2, h3, h4, h5] at h <;> try (cases h; done)
  simp only [Res.ok.injEq] at h
  obtain ⟨rfl, rfl, rfl⟩ := h
  refine ⟨lay_mono, fun ι w xs hok hfr hxs => ?_⟩
  generalize hl2 : freshN l s.new n = l2 at hfr ⊢
  have hsub := subP_ok h1
  have hpre := premtch_ok h3
  have hinj := fun {p p' q : Pth} => imgs_inj (nodupP_ok h4) (p := p) (p' := p') (q := q)
  -- the names
  have out : ∀ {p}, p ∉ s.new → asc l2 p = asc l p := fun {p} hp => by rw [← hl2]; exact fresh_out hp
  have ins : ∀ {p}, p ∈ s.new → ∃ q, asc l2 p = some q ∧ H.get q = none := fun {p} hp => by
    obtain ⟨q, e1, e2, _⟩ := fresh_in (l := l) g5 h5 hp
    exact ⟨q, by rw [← hl2]; exact e1, e2⟩
  have ininj : ∀ {p p' q}, p ∈ s.new → p' ∈ s.new → asc l2 p = some q → asc l2 p' = some q → p = p' := fun {p p' q} a b c d => by
    rw [← hl2] at c d
    exact fresh_inj g5 h5 a b c d
  have preN : ∀ {p q}, asc l p = some q → p ∈ names s.pre := fun {p q} ha => hsub p (fstOf_mem ha)
  have preH : ∀ {p}, p ∈ names s.pre → ∃ q a, asc l p = some q ∧ H.get q = some a ∧ a ≠ .dead := fun {p} hp => by
    rw [names_eq] at hp
    obtain ⟨e, he, rfl⟩ := List.mem_map.1 hp
    obtain ⟨q, a, e1, e2, e3⟩ := hpre e he
    exact ⟨q, a, e1, e2, (omtch_ok (P := P) e3 e1 (hok.obj q a e2)).2⟩
  have injAll : ∀ p p' q, p ∈ s.post.map (·.1) → p' ∈ s.post.map (·.1) → asc l2 p = some q → asc l2 p' = some q → p = p' := fun p p' q hp hp' ha ha' => by
    rw [← names_eq] at hp hp'
    have cross : ∀ {p p' : Pth}, p ∈ s.new → p' ∈ names s.pre → asc l2 p = some q → asc l2 p' = some q → p = p' := fun {p p'} a b c d => by
      obtain ⟨q', e1, e2⟩ := ins a
      rw [e1] at c; cases c
      rw [out fun hn => g1 _ hn b] at d
      obtain ⟨q2, a2, e3, e4, _⟩ := preH b
      rw [e3] at d; cases d
      rw [e2] at e4; cases e4
    rcases g3 p hp with hp | hp <;> rcases g3 p' hp' with hp' | hp'
    · rw [out fun hn => g1 _ hn hp] at ha
      rw [out fun hn => g1 _ hn hp'] at ha'
      exact hinj hp hp' ha ha'
    · exact (cross hp' hp ha' ha).symm
    · exact cross hp hp' ha ha'
    · exact ininj hp hp' ha ha'
  have g4' : (s.post.map (·.1)).Nodup := by rw [← names_eq]; exact g4
  have freshι : ∀ {p q}, p ∈ s.new → asc l2 p = some q → ι q = none := fun {p q} hp ha => by
    obtain ⟨q', e1, e2⟩ := ins hp
    have hqq : q' = q := by rw [e1] at ha; simpa using ha
    rw [hqq] at e1 e2
    refine hfr q e2 ?_
    have hp2 := g7 p hp
    rw [names_eq] at hp2
    obtain ⟨e, he, rfl⟩ := List.mem_map.1 hp2
    rw [lay_in g4' injAll he e1]; simp
  -- the call, by the summary's own names
  have hκ : HOK P (via l ι) (hp s.pre) w := by
    refine ⟨fun p o hp => ?_, fun p p' b q q' hp hp' ep ep' => ?_, fun p b q hp => ?_⟩
    · obtain ⟨q, a, e1, e2, e3⟩ := hpre _ (hp_mem hp)
      exact (omtch_ok e3 e1 (hok.obj q a e2)).1
    · obtain ⟨o, ho, _⟩ := hp
      obtain ⟨o', ho', _⟩ := hp'
      have m1 : p ∈ names s.pre := by rw [names_eq]; exact List.mem_map.2 ⟨_, hp_mem ho, rfl⟩
      have m2 : p' ∈ names s.pre := by rw [names_eq]; exact List.mem_map.2 ⟨_, hp_mem ho', rfl⟩
      obtain ⟨x, a, e1, e2, e3⟩ := preH m1
      obtain ⟨x', a', e1', e2', e3'⟩ := preH m2
      rw [via_some e1] at ep
      rw [via_some e1'] at ep'
      have := hok.inj x x' b q q' ⟨a, e2, e3⟩ ⟨a', e2', e3'⟩ ep ep'
      subst this
      exact hinj m1 m2 e1 e1'
    · obtain ⟨x, _, e2⟩ := via_inv hp
      exact hok.lt x b q e2
  refine (hs.2 (via l ι) w xs hκ (fun p hp => ?_) (mtchs_ok h2 hxs)).mono ?_
  · cases hv : via l ι p with
    | none => exact absurd hv hp
    | some z =>
      obtain ⟨q, e1, _⟩ := via_inv hv
      have := preN e1
      rw [names_eq] at this
      exact hp_some this
  rintro e w' ⟨x, rfl, κ', hv, st⟩
  classical
  let ι' : Emb := ⟨fun q => if hq : ∃ p, p ∈ s.new ∧ asc l2 p = some q then κ' (Classical.choose hq) else ι q, fun b => if b < w.heap.size then ι.size b else κ'.size b, ι.sym⟩
  have ιnew : ∀ {p q}, p ∈ s.new → asc l2 p = some q → ι' q = κ' p := fun {p q} hp ha => by
    have hq : ∃ p, p ∈ s.new ∧ asc l2 p = some q := ⟨p, hp, ha⟩
    show (if hq : ∃ p, p ∈ s.new ∧ asc l2 p = some q then κ' (Classical.choose hq) else ι q) = _
    rw [dif_pos hq]
    have hc := Classical.choose_spec hq
    rw [ininj hc.1 hp hc.2 ha]
  have ιold : ∀ {q}, (∀ p, p ∈ s.new → asc l2 p ≠ some q) → ι' q = ι q := fun {q} hn => by
    show (if hq : ∃ p, p ∈ s.new ∧ asc l2 p = some q then κ' (Classical.choose hq) else ι q) = _
    rw [dif_neg (fun ⟨p, h1, h2⟩ => hn p h1 h2)]
  have ιkeep : ∀ {q z}, ι q = some z → ι' q = some z := fun {q z} hq => by
    rw [ιold fun p hp ha => ?_]
    · exact hq
    · rw [freshι hp ha] at hq; cases hq
  have sizeOld : ∀ {b}, b < w.heap.size → ι'.size b = ι.size b := fun {b} hb => by
    show (if b < w.heap.size then ι.size b else κ'.size b) = _; rw [if_pos hb]
  have κold : ∀ {p z}, p ∉ s.new → κ' p = some z → via l ι p = some z := fun {p z} hp hz => by
    cases hk : via l ι p with
    | none =>
      obtain ⟨e1, e2⟩ := st.new p hk (by rw [hz]; simp)
      cases hg : (Go.Ev.hp s.post).get p with
      | none => exact absurd hg e2
      | some o =>
        have m : p ∈ names s.post := by rw [names_eq]; exact List.mem_map.2 ⟨_, hp_mem hg, rfl⟩
        rcases g3 p m with m | m
        · rw [names_eq] at m; exact absurd e1 (hp_some m)
        · exact absurd m hp
    | some z' =>
      have := st.ext.name p z' hk
      rw [hz] at this; exact this.symm
  have postLive : ∀ {p}, p ∈ s.new → Live (hp s.post) p := fun {p} hp => by
    have m := g7 p hp
    rw [names_eq] at m
    cases hg : (Go.Ev.hp s.post).get p with
    | none => exact absurd hg (hp_some m)
    | some o => exact ⟨o, hg, g6 _ (hp_mem hg) hp⟩
  have names : NamesV l2 κ' ι' := by
    refine ⟨fun p q b z ha hk => ?_, ?_⟩
    · by_cases hp : p ∈ s.new
      · refine ⟨(ιnew hp ha).trans hk, ?_⟩
        by_cases hb : b < w.heap.size
        · rw [sizeOld hb]
          obtain ⟨p0, z0, _, hk0⟩ := st.back p b z (postLive hp) hk hb
          exact (st.ext.same p0 b z0 hk0).symm
        · show (if b < w.heap.size then ι.size b else κ'.size b) = _; rw [if_neg hb]
      · have hk0 := κold hp hk
        rw [out hp] at ha
        rw [via_some ha] at hk0
        refine ⟨ιkeep hk0, ?_⟩
        rw [sizeOld (hok.lt q b z hk0)]
        exact (st.ext.same p b z (by rw [via_some ha]; exact hk0)).symm
    · exact st.ext.syms.symm
  refine ⟨x, rfl, ι', ren_ok names 40 _ _ hv, ?_⟩
  -- what stands where
  have image : ∀ {p o q}, (p, o) ∈ s.post → asc l2 p = some q → (lay l2 40 s.post H).get q = some (oren l2 40 o) := fun {p o q} hm ha => lay_in g4' injAll hm ha
  have split : ∀ q, (∃ p o, (p, o) ∈ s.post ∧ asc l2 p = some q) ∨ ((∀ p ∈ s.post.map (·.1), asc l2 p ≠ some q) ∧ (lay l2 40 s.post H).get q = H.get q) := fun q => by
    by_cases hq : ∃ p ∈ s.post.map (·.1), asc l2 p = some q
    · obtain ⟨p, hp, ha⟩ := hq
      obtain ⟨e, he, rfl⟩ := List.mem_map.1 hp
      exact .inl ⟨e.1, e.2, he, ha⟩
    · have hq' : ∀ p ∈ s.post.map (·.1), asc l2 p ≠ some q := fun p hp ha => hq ⟨p, hp, ha⟩
      exact .inr ⟨hq', lay_out hq'⟩
  have postGet : ∀ {p o}, (p, o) ∈ s.post → (hp s.post).get p = some o := fun {p o} hm => by
    have m : p ∈ s.post.map (·.1) := List.mem_map.2 ⟨_, hm, rfl⟩
    cases hg : (hp s.post).get p with
    | none => exact absurd hg (hp_some m)
    | some o' =>
      have hm' := hp_mem hg
      -- one entry a name
      have : ∀ {l : List (Pth × O)}, (l.map (·.1)).Nodup → (p, o) ∈ l → (p, o') ∈ l → o = o' := fun {l} hnd a b => by
        induction l with
        | nil => simp at a
        | cons e t ih =>
          rw [List.map_cons, List.nodup_cons] at hnd
          rcases List.mem_cons.1 a with a | a <;> rcases List.mem_cons.1 b with b | b
          · rw [← a] at b; cases b; rfl
          · exact absurd (by rw [← a]; exact List.mem_map.2 ⟨_, b, rfl⟩) hnd.1
          · exact absurd (by rw [← b]; exact List.mem_map.2 ⟨_, a, rfl⟩) hnd.1
          · exact ih hnd.2 a b
      rw [this g4' hm hm']
  have oldOf : ∀ {q}, (∀ p ∈ s.post.map (·.1), asc l2 p ≠ some q) → ∀ p, p ∈ s.new → asc l2 p ≠ some q := fun {q} hq p hp => by
    have := g7 p hp
    rw [names_eq] at this
    exact hq p this
  have preImg : ∀ {p b z}, Live (hp s.pre) p → via l ι p = some (b, z) → ∃ q, asc l2 p = some q ∧ Live H q ∧ ι q = some (b, z) ∧ p ∈ s.post.map (·.1) := fun {p b z} hl hk => by
    obtain ⟨o, ho, _⟩ := hl
    have m1 : p ∈ Go.Ev.names s.pre := by rw [names_eq]; exact List.mem_map.2 ⟨_, hp_mem ho, rfl⟩
    obtain ⟨q, a, e1, e2, e3⟩ := preH m1
    rw [via_some e1] at hk
    exact ⟨q, by rw [out fun hn => g1 _ hn m1]; exact e1, ⟨a, e2, e3⟩, hk, by rw [← names_eq]; exact g2 p m1⟩
  have back : ∀ {p q b z}, p ∈ s.post.map (·.1) → asc l2 p = some q → Live (hp s.post) p → κ' p = some (b, z) → b < w.heap.size → ∃ q', (∃ p', p' ∈ s.post.map (·.1) ∧ asc l2 p' = some q') ∧ ∃ z', Live H q' ∧ ι q' = some (b, z') := fun {p q b z} _ _ hl hk hb => by
    obtain ⟨p0, z0, hl0, hk0⟩ := st.back p b z hl hk hb
    obtain ⟨q', e1, e2, e3, e4⟩ := preImg hl0 hk0
    exact ⟨q', ⟨p0, e4, e1⟩, z0, e2, e3⟩
  have imgκ : ∀ {p o q z}, (p, o) ∈ s.post → asc l2 p = some q → ι' q = some z → κ' p = some z := fun {p o q z} hm ha hz => by
    by_cases hp : p ∈ s.new
    · rw [ιnew hp ha] at hz; exact hz
    · have m : p ∈ Go.Ev.names s.post := by rw [names_eq]; exact List.mem_map.2 ⟨_, hm, rfl⟩
      have m1 : p ∈ Go.Ev.names s.pre := (g3 p m).resolve_right hp
      have ha' : asc l p = some q := by rw [← out hp]; exact ha
      have : ι' q = ι q := ιold fun p' hp' ha2 => by
        obtain ⟨q2, a2, e3, e4, _⟩ := preH m1
        rw [e3] at ha'; cases ha'
        obtain ⟨q3, e5, e6⟩ := ins hp'
        rw [e5] at ha2; cases ha2
        rw [e6] at e4; cases e4
      rw [this] at hz
      exact st.ext.name p z (by rw [via_some ha']; exact hz)
  have liveImg : ∀ {p o q}, (p, o) ∈ s.post → asc l2 p = some q → Live (lay l2 40 s.post H) q → Live (hp s.post) p := fun {p o q} hm ha hl => by
    obtain ⟨o', h1, h2⟩ := hl
    rw [image hm ha] at h1; cases h1
    exact ⟨o, postGet hm, oren_live h2⟩
  have liveOld : ∀ {q}, (lay l2 40 s.post H).get q = H.get q → Live (lay l2 40 s.post H) q → Live H q := fun {q} he hl => by
    obtain ⟨o, h1, h2⟩ := hl
    rw [he] at h1; exact ⟨o, h1, h2⟩
  refine ⟨⟨fun p q hp => ιkeep hp, fun p b z hp => sizeOld (hok.lt p b z hp), rfl⟩, fun q hq hq' => ?_, ⟨fun q o hq => ?_, fun q q' b z z' hq hq' eq eq' => ?_, fun q b z hq => ?_⟩, fun b hb hn => ?_, st.size, fun q b z hq hz hb => ?_, st.tape, st.os, st.out⟩
  · -- new names
    by_cases hn : ∃ p, p ∈ s.new ∧ asc l2 p = some q
    · obtain ⟨p, hp, ha⟩ := hn
      obtain ⟨q', e1, e2⟩ := ins hp
      rw [e1] at ha; cases ha
      refine ⟨e2, ?_⟩
      have m := g7 p hp
      rw [names_eq] at m
      obtain ⟨e, he, rfl⟩ := List.mem_map.1 m
      rw [image he e1]; simp
    · rw [ιold fun p hp ha => hn ⟨p, hp, ha⟩] at hq'
      exact absurd hq hq'
  · -- the blocks
    rcases split q with ⟨p, o', hm, ha⟩ | ⟨hno, he⟩
    · rw [image hm ha] at hq; cases hq
      exact oren_ok names ha (st.hok.obj p o' (postGet hm))
    · rw [he] at hq
      have hιq : ι' q = ι q := ιold (oldOf hno)
      refine O.ok_mono (hok.obj q o hq) ⟨fun p z hp => ιkeep hp, fun p b z hp => sizeOld (hok.lt p b z hp), rfl⟩ fun b z hd hb => st.kept b (hok.lt q b z hb) fun p z' hl hk => ?_
      obtain ⟨q', e1, e2, e3, e4⟩ := preImg hl hk
      have := hok.inj q q' b z z' ⟨o, hq, hd⟩ e2 hb e3
      subst this
      exact hno p e4 e1
  · -- one name a block
    have outer : ∀ {q q' b z z'}, (∃ p o, (p, o) ∈ s.post ∧ asc l2 p = some q) → ((∀ p ∈ s.post.map (·.1), asc l2 p ≠ some q') ∧ (lay l2 40 s.post H).get q' = H.get q') → Live (lay l2 40 s.post H) q → Live (lay l2 40 s.post H) q' →
        ι' q = some (b, z) → ι' q' = some (b, z') → False := fun {q q' b z z'} ⟨p, o, hm, ha⟩ ⟨hno, he⟩ hl hl' e1 e2 => by
      have l' := liveOld he hl'
      rw [ιold (oldOf hno)] at e2
      obtain ⟨q2, ⟨p2, hp2, ha2⟩, z2, e3, e4⟩ := back (List.mem_map.2 ⟨_, hm, rfl⟩) ha (liveImg hm ha hl) (imgκ hm ha e1) (hok.lt q' b z' e2)
      have := hok.inj q' q2 b z' z2 l' e3 e2 e4
      subst this
      exact hno p2 hp2 ha2
    rcases split q with h1 | h1 <;> rcases split q' with h2 | h2
    · obtain ⟨p, o, hm, ha⟩ := h1
      obtain ⟨p', o', hm', ha'⟩ := h2
      have := st.hok.inj p p' b z z' (liveImg hm ha hq) (liveImg hm' ha' hq') (imgκ hm ha eq) (imgκ hm' ha' eq')
      subst this
      rw [ha] at ha'; cases ha'; rfl
    · exact (outer h1 h2 hq hq' eq eq').elim
    · exact (outer h2 h1 hq' hq eq' eq).elim
    · rw [ιold (oldOf h1.1)] at eq
      rw [ιold (oldOf h2.1)] at eq'
      exact hok.inj q q' b z z' (liveOld h1.2 hq) (liveOld h2.2 hq') eq eq'
  · -- in the memory
    by_cases hn : ∃ p, p ∈ s.new ∧ asc l2 p = some q
    · obtain ⟨p, hp, ha⟩ := hn
      rw [ιnew hp ha] at hq
      exact st.hok.lt p b z hq
    · rw [ιold fun p hp ha => hn ⟨p, hp, ha⟩] at hq
      exact Nat.lt_of_lt_of_le (hok.lt q b z hq) st.size
  · -- what stays
    refine st.kept b hb fun p z hl hk => ?_
    obtain ⟨q', e1, e2, e3, e4⟩ := preImg hl hk
    exact hn q' z e2 e3
  · -- where it comes from
    rcases split q with ⟨p, o, hm, ha⟩ | ⟨hno, he⟩
    · obtain ⟨q', _, z', e1, e2⟩ := back (List.mem_map.2 ⟨_, hm, rfl⟩) ha (liveImg hm ha hq) (imgκ hm ha hz) hb
      exact ⟨q', z', e1, e2⟩
    · rw [ιold (oldOf hno)] at hz
      exact ⟨q, z, liveOld he hq, hz⟩
theorem smyCal_ok {s : Smy} (hg : s.good = true) (hs : s.ok P) {c : Cal} (k : CalOK P (fun _ => []) c) : CalOK P (fun _ => []) (smyCal s c) := by
  refine ⟨fun f as H n v H' n' he => ?_, k.rd⟩
  have he' : (match Nat.beq f s.f with
    | true => orElse (s.run (uniH 40 H s.pre (unis 40 s.args as [])) as H n) (c.fn f as H n)
    | false => c.fn f as H n) = .ok v H' n' := he
  cases hf : Nat.beq f s.f with
  | false => simp only [hf] at he'; exact k.fn _ _ _ _ _ _ _ he'
  | true =>
    have := beq_eq hf
    subst this
    simp only [hf] at he'
    cases hr : s.run (uniH 40 H s.pre (unis 40 s.args as [])) as H n with
    | bad => rw [hr] at he'; exact k.fn _ _ _ _ _ _ _ he'
    | ok v2 H2 n2 =>
      rw [hr] at he'
      have he2 : Res.ok v2 H2 n2 = .ok v H' n' := he'
      cases he2
      obtain ⟨m, hk⟩ := run_ok hg hs hr
      exact ⟨m, hs.1, fun ι w xs hok _ hfr hxs => hk ι w xs hok hfr hxs⟩
end
end
end Go.Ev
