/-
  A verified evaluator, part 38: an evaluation gives a summary, what is not wanted being forgotten; a call whose number is Around of an input.
  A verified evaluator, part 39: what contracts proved by hand need: cells, look-ups, a block more.
  A verified evaluator, part 40: slices.Sorted(maps.Keys(m)) of a map keyed by ints, whatever the order in which the keys come.
-/
import Derived.Test.YtilgladlepnanaaGreatDoorEv37
import Derived.Below
import Derived.Laws.AppendOwn
namespace Go.Ev
noncomputable section
open Go

def idAsc (ps : List Pth) : Asc := List.rec [] (fun p _ ih => (p, p) :: ih) ps
def keptO (l : Asc) (H : Heap) (post : List (Pth × O)) : Bool :=
  List.rec true (fun e _ ih => match H.get e.1 with
    | some a => (match e.2 with
      | .dead => ih
      | o => (match omtch l 40 o a with | true => ih | false => false))
    | none => false) post
/-- the summary says no more than the evaluation -/
def Smy.chk (s : Smy) (r : Res) : Bool :=
  match r with
  | .ok v H _ => (match mtch (idAsc (names s.post)) 40 s.res v with | true => keptO (idAsc (names s.post)) H s.post | false => false)
  | .bad => false
theorem idAsc_some : ∀ {ps : List Pth} {p q : Pth}, asc (idAsc ps) p = some q → q = p ∧ p ∈ ps
  | [], _, _, h => by cases h
  | x :: ps, p, q, h => by
    have h' : (match x.beq p with | true => some x | false => asc (idAsc ps) p) = some q := h
    cases hb : x.beq p with
    | true =>
      simp [hb] at h'
      have := (Pth.beq_iff _ _).1 hb
      exact ⟨by rw [← h', this], by rw [this]; exact List.mem_cons_self ..⟩
    | false =>
      simp only [hb] at h'
      obtain ⟨e1, e2⟩ := idAsc_some h'
      exact ⟨e1, List.mem_cons_of_mem _ e2⟩
theorem idAsc_in : ∀ {ps : List Pth} {p : Pth}, p ∈ ps → asc (idAsc ps) p = some p
  | [], _, h => by simp at h
  | x :: ps, p, h => by
    show (match x.beq p with | true => some x | false => asc (idAsc ps) p) = some p
    cases hb : x.beq p with
    | true => rw [(Pth.beq_iff _ _).1 hb]
    | false =>
      rcases List.mem_cons.1 h with rfl | h
      · rw [(Pth.beq_iff p p).2 rfl] at hb; cases hb
      · exact idAsc_in h
theorem keptO_ok {l : Asc} {H : Heap} : ∀ {post : List (Pth × O)}, keptO l H post = true → ∀ e ∈ post, ∃ a, H.get e.1 = some a ∧ (e.2 = .dead ∨ omtch l 40 e.2 a = true)
  | [], _, e, he => by simp at he
  | x :: t, h, e, he => by
    have h' : (match H.get x.1 with
      | some a => (match x.2 with
        | .dead => keptO l H t
        | o => (match omtch l 40 o a with | true => keptO l H t | false => false))
      | none => false) = true := h
    cases hg : H.get x.1 with
    | none => simp [hg] at h'
    | some a =>
      simp only [hg] at h'
      have key : (x.2 = .dead ∨ omtch l 40 x.2 a = true) ∧ keptO l H t = true := by
        cases hx : x.2 <;> simp only [hx] at h'
        case dead => exact ⟨.inl rfl, h'⟩
        all_goals
          refine ⟨.inr ?_, ?_⟩ <;> (generalize hm : omtch l 40 _ a = b at h' ⊢; cases b <;> simp_all)
      rcases List.mem_cons.1 he with rfl | he
      · exact ⟨a, hg, key.1⟩
      · exact keptO_ok key.2 e he
theorem GOK.none {ι : Emb} {H : Heap} {w : World} : GOK (fun _ => []) ι H w := ⟨fun g i v h => (by cases h), fun g h => absurd rfl h⟩
section
variable {P : Program}
theorem smy_of {s : Smy} {c : Cal} (k : CalOK P (fun _ => []) c) {n : Pth} (h : s.chk (c.fn s.f s.args (hp s.pre) n) = true) : s.ok P := by
  cases hr : c.fn s.f s.args (hp s.pre) n with
  | bad => rw [hr] at h; cases h
  | ok v H1 n1 =>
    rw [hr] at h
    have h' : (match mtch (idAsc (names s.post)) 40 s.res v with | true => keptO (idAsc (names s.post)) H1 s.post | false => false) = true := h
    cases hm : mtch (idAsc (names s.post)) 40 s.res v with
    | false => simp [hm] at h'
    | true =>
      simp only [hm] at h'
      obtain ⟨_, hc, hk⟩ := k.fn _ _ _ _ _ _ _ hr
      refine ⟨hc, fun κ w xs hok hdom hxs => (hk κ w xs hok GOK.none (fun p hp _ => ?_) hxs).mono ?_⟩
      · cases hκ : κ p with
        | none => rfl
        | some z => exact absurd hp (hdom p (by rw [hκ]; simp))
      rintro e w' ⟨x, rfl, κ1, hv, st⟩
      classical
      let κ' : Emb := ⟨fun p => if κ p = none then via (idAsc (names s.post)) κ1 p else κ p, κ1.size, κ1.sym⟩
      have toκ1 : ∀ {p z}, κ' p = some z → κ1 p = some z := fun {p z} hp => by
        have hp' : (if κ p = none then via (idAsc (names s.post)) κ1 p else κ p) = some z := hp
        by_cases hn : κ p = none
        · rw [if_pos hn] at hp'
          obtain ⟨q, e1, e2⟩ := via_inv hp'
          obtain ⟨rfl, _⟩ := idAsc_some e1
          exact e2
        · rw [if_neg hn] at hp'
          exact st.ext.name p z hp'
      have hle : (via (idAsc (names s.post)) κ1).le κ' := by
        refine ⟨fun p z hp => ?_, fun _ _ _ _ => rfl, rfl⟩
        show (if κ p = none then via (idAsc (names s.post)) κ1 p else κ p) = some z
        by_cases hn : κ p = none
        · rw [if_pos hn]; exact hp
        · rw [if_neg hn]
          obtain ⟨q, e1, e2⟩ := via_inv hp
          obtain ⟨rfl, _⟩ := idAsc_some e1
          cases hκ : κ q with
          | none => exact absurd hκ hn
          | some z' =>
            have := st.ext.name q z' hκ
            rw [e2] at this; exact this.symm
      have inPost : ∀ {p o}, (Go.Ev.hp s.post).get p = some o → ∃ a, H1.get p = some a ∧ (o = .dead ∨ omtch (idAsc (names s.post)) 40 o a = true) ∧ asc (idAsc (names s.post)) p = some p := fun {p o} hp => by
        have hm := hp_mem hp
        obtain ⟨a, h1, h2⟩ := keptO_ok h' _ hm
        exact ⟨a, h1, h2, idAsc_in (by rw [names_eq]; exact List.mem_map.2 ⟨_, hm, rfl⟩)⟩
      have live : ∀ {p}, Live (Go.Ev.hp s.post) p → Live H1 p := fun {p} hl => by
        obtain ⟨o, h1, h2⟩ := hl
        obtain ⟨a, e1, e2, e3⟩ := inPost h1
        rcases e2 with e2 | e2
        · exact absurd e2 h2
        · exact ⟨a, e1, (omtch_ok (P := P) e2 e3 (st.hok.obj p a e1)).2⟩
      refine ⟨x, rfl, κ', V.rel.mono hle _ _ (mtch_ok 40 _ _ _ hm hv), ⟨⟨fun p z hp => ?_, fun p b z hp => st.ext.same p b z hp, st.ext.syms⟩, fun p hp hp' => ?_, ⟨fun p o hp => ?_, fun p q b z z' hp hq ep eq => ?_, fun p b z hp => ?_⟩, st.kept, st.size, fun p b z hl hp hb => ?_, st.tape, st.os, st.out⟩⟩
      · show (if κ p = none then via (idAsc (names s.post)) κ1 p else κ p) = some z
        rw [if_neg (by rw [hp]; simp)]; exact hp
      · cases hκ : κ' p with
        | none => exact absurd hκ hp'
        | some z =>
          have e1 := toκ1 hκ
          refine ⟨(st.new p hp (by rw [e1]; simp)).1, ?_⟩
          have h2 : (if κ p = none then via (idAsc (names s.post)) κ1 p else κ p) = some z := hκ
          rw [if_pos hp] at h2
          obtain ⟨q, e2, _⟩ := via_inv h2
          obtain ⟨_, m⟩ := idAsc_some e2
          rw [names_eq] at m
          exact hp_some m
      · obtain ⟨a, e1, e2, e3⟩ := inPost hp
        rcases e2 with rfl | e2
        · trivial
        · exact O.ok_mono (omtch_ok e2 e3 (st.hok.obj p a e1)).1 hle fun _ _ _ _ => rfl
      · exact st.hok.inj p q b z z' (live hp) (live hq) (toκ1 ep) (toκ1 eq)
      · exact st.hok.lt p b z (toκ1 hp)
      · exact st.back p b z (live hl) (toκ1 hp) hb

/-- the function f takes n and q and gives n, or -(n + 1) where n is negative, modulo q -/
def aroundCal (F : Nat) (c : Cal) : Cal :=
  ⟨fun f as H n => match Nat.beq f F, as with
    | true, [.pre i q, .int .i64 (.ofNat m)] => (match Nat.beq q m, Nat.blt 0 m, Nat.ble m 9223372036854775807 with
      | true, true, true => .ok (.sym i .i64 0 (.ofNat (m - 1))) H n
      | _, _, _ => .bad)
    | _, _ => c.fn f as H n, c.rd⟩
theorem aroundCal_ok {F : Nat} (hF : Callable P F) (h : ∀ (z : Int) (m : Nat) (w : World), 0 < m → IntKind.i64.min ≤ z → z ≤ IntKind.i64.max → (m : Int) ≤ IntKind.i64.max →
      Calls P F #[.int .i64 z, .int .i64 (m : Int)] w fun e w' => e = .returned (.int .i64 (arnd z m)) ∧ w' = w) {c : Cal} (k : CalOK P (fun _ => []) c) : CalOK P (fun _ => []) (aroundCal F c) := by
  refine ⟨fun f as H n v H' n' he => ?_, k.rd⟩
  have he' : (match Nat.beq f F, as with
    | true, [.pre i q, .int .i64 (.ofNat m)] => (match Nat.beq q m, Nat.blt 0 m, Nat.ble m 9223372036854775807 with
      | true, true, true => Res.ok (.sym i .i64 0 (.ofNat (m - 1))) H n
      | _, _, _ => .bad)
    | _, _ => c.fn f as H n) = .ok v H' n' := he
  split at he'
  · rename_i i q m hf
    have := beq_eq hf; subst this
    cases h1 : Nat.beq q m <;> cases h2 : Nat.blt 0 m <;> cases h3 : Nat.ble m 9223372036854775807 <;> simp only [h1, h2, h3] at he' <;> try (cases he'; done)
    cases he'
    have := beq_eq h1; subst this
    have hq := blt_lt h2
    have hqm : (q : Int) ≤ IntKind.i64.max := by
      have e1 : IntKind.i64.max = ((9223372036854775807 : Nat) : Int) := by decide
      rw [e1]; exact Int.ofNat_le.2 (ble_le h3)
    refine ⟨Mono.refl _, hF, fun ι w xs hok gok hfr hxs => ?_⟩
    obtain ⟨x, t, e1, hx, ht⟩ := rels_cons_inv hxs
    obtain ⟨y, t2, rfl, hy, ht2⟩ := rels_cons_inv ht
    have := rels_nil_inv ht2; subst this
    simp only [V.rel] at hx hy
    obtain ⟨z, rfl, hz1, hz2, hz3⟩ := hx
    subst hy
    have hxe : xs = #[.int .i64 z, .int .i64 (q : Int)] := by apply Array.toList_inj.1; rw [e1]; rfl
    subst hxe
    refine (h z q w hq hz1 hz2 hqm).mono ?_
    rintro e w' ⟨rfl, rfl⟩
    refine ⟨_, rfl, ι, ?_, Step.refl hok⟩
    have hpos : (0 : Int) < (q : Int) := Int.ofNat_lt.2 hq
    have b1 : 0 ≤ arnd z q := Int.emod_nonneg _ (by omega)
    have b2 : arnd z q < (q : Int) := Int.emod_lt_of_pos _ hpos
    have e2 : (Int.ofNat (q - 1)) = (q : Int) - 1 := by rw [Int.ofNat_eq_natCast]; omega
    simp only [V.rel, ← hz3, e2]
    exact ⟨trivial, b1, by omega⟩
  · exact k.fn _ _ _ _ _ _ _ he'
end
end
end Go.Ev
namespace Go.Ev
noncomputable section
open Go

section
variable {P : Program} {ι : Emb} {H : Heap} {w w' : World}
theorem cell_nth (h : HOK P ι H w) {p : Pth} {l : List V} {j b s : Nat} {v : V} (hp : H.get p = some (.cells l)) (hι : ι p = some (b, s)) (hv : nth l j = some v) : ∃ x, w.cell? ⟨b, s + j, none⟩ = some x ∧ V.rel ι v x ∧ b < w.heap.size := by
  obtain ⟨b2, s2, cs, el, fr, hι2, hh, hf, hl, _, _⟩ := cells_of h hp
  rw [hι] at hι2; cases hι2
  rw [nth_eq] at hv
  obtain ⟨x, hx, hr⟩ := rels_get hl hv
  refine ⟨x, ?_, hr, (Array.getElem?_eq_some_iff.1 hh).1⟩
  rw [cell_of hh]
  have hj : j < l.length := (List.getElem?_eq_some_iff.1 hv).1
  rw [List.getElem?_take_of_lt hj, List.getElem?_drop] at hx
  rw [← Array.getElem?_toList]; exact hx
theorem cells_zero (h : HOK P ι H w) {p : Pth} {l : List V} {b s : Nat} (hp : H.get p = some (.cells l)) (hι : ι p = some (b, s)) : s = 0 := by
  obtain ⟨b2, s2, cs, el, fr, hι2, _, _, _, _, _, hz⟩ := cells_of h hp
  rw [hι] at hι2; cases hι2
  exact hz
theorem run_lookup_has {t k e b j cl : Nat} {ms : Array MapEntry} {x y : Value} (hu : P.underlying t = some (.map k e)) (hd : P.underlying k = some (.int .i64)) (hh : w.heap[b]? = some (.map ms cl))
    (hf : Instr.findNow (.int .i64) x ms.toList 0 = some (some (j, y))) : (Instr.lookup t (.map (some b)) x true).run P w = .ok (.tuple #[y, .bool true]) w := by
  unfold Instr.lookup
  rw [run_ok_bind (run_underlying hu w)]
  simp only []
  rw [run_ok_bind (run_getObj_map hh)]
  simp only []
  rw [run_ok_bind (run_ofPure _), run_ok_bind (run_checkKey (b := .int) hd (.inl ⟨rfl, _, rfl⟩)), run_ok_bind (run_findKey hd hf)]
  rfl
/-- a block more, that no name means -/
theorem Step.pushed {ob : Obj} (h : HOK P ι H w) (hh : w'.heap = w.heap.push ob) (ht : w'.tape = w.tape) (hs : w'.os = w.os) (ho : w'.output = w.output) : Step P ι H w ι H w' := by
  have old : ∀ b, b < w.heap.size → w'.heap[b]? = w.heap[b]? := fun b hb => by
    rw [hh, Array.getElem?_push]; simp [Nat.ne_of_lt hb]
  have hsz : w.heap.size ≤ w'.heap.size := by rw [hh]; simp
  exact ⟨Emb.le.refl _, fun _ h1 h2 => absurd h1 h2, ⟨fun p o hp => O.ok_mono (h.obj p o hp) (Emb.le.refl _) fun b s _ hp' => old b (h.lt p b s hp'), h.inj, fun p b s hp => Nat.lt_of_lt_of_le (h.lt p b s hp) hsz⟩,
    fun b hb _ => old b hb, hsz, fun p b s hl hp _ => ⟨p, s, hl, hp⟩, ht, hs, ho⟩
theorem ERel_get : ∀ {es : List (V × V × Nat)} {ms : List MapEntry}, ERel ι es ms → ∀ m ∈ ms, ∃ e ∈ es, V.rel ι e.1 m.key ∧ V.rel ι e.2.1 m.val ∧ m.born = e.2.2
  | [], _, h, m, hm => by
    have h' : _ = [] := h
    subst h'; simp at hm
  | e :: es, _, ⟨m0, t, rfl, hk, hv, hb, ht⟩, m, hm => by
    rcases List.mem_cons.1 hm with rfl | hm
    · exact ⟨e, List.mem_cons_self .., hk, hv, hb⟩
    · obtain ⟨e', he, h2⟩ := ERel_get ht m hm
      exact ⟨e', List.mem_cons_of_mem _ he, h2⟩
theorem ERel_of : ∀ {es : List (V × V × Nat)} {ms : List MapEntry}, ERel ι es ms → ∀ e ∈ es, ∃ m ∈ ms, V.rel ι e.1 m.key ∧ V.rel ι e.2.1 m.val ∧ m.born = e.2.2
  | [], _, _, e, he => by simp at he
  | x :: es, _, ⟨m0, t, rfl, hk, hv, hb, ht⟩, e, he => by
    rcases List.mem_cons.1 he with rfl | he
    · exact ⟨m0, List.mem_cons_self .., hk, hv, hb⟩
    · obtain ⟨m, hm, h2⟩ := ERel_of ht e he
      exact ⟨m, List.mem_cons_of_mem _ hm, h2⟩
theorem ERel_borns : ∀ {es : List (V × V × Nat)} {ms : List MapEntry}, ERel ι es ms → ms.map (·.born) = es.map (·.2.2)
  | [], _, h => by
    have h' : _ = [] := h
    subst h'; rfl
  | _ :: _, _, ⟨m0, t, rfl, _, _, hb, ht⟩ => by simp [hb, ERel_borns ht]
/-- no number twice -/
def nodupN' (l : List Nat) : Bool := List.rec true (fun x t ih => match List.rec (motive := fun _ => Bool) false (fun y _ ih2 => match Nat.beq y x with | true => true | false => ih2) t with | true => false | false => ih) l
theorem memN_ok (x : Nat) : ∀ t : List Nat, (List.rec (motive := fun _ => Bool) false (fun y _ ih2 => match Nat.beq y x with | true => true | false => ih2) t : Bool) = false → x ∉ t
  | [], _ => by simp
  | y :: t, h => by
    have h' : (match Nat.beq y x with | true => true | false => (List.rec (motive := fun _ => Bool) false (fun y _ ih2 => match Nat.beq y x with | true => true | false => ih2) t : Bool)) = false := h
    cases hb : Nat.beq y x with
    | true => simp [hb] at h'
    | false =>
      simp only [hb] at h'
      have hne : x ≠ y := fun e => by subst e; simp at hb
      simp [hne, memN_ok x t h']
theorem nodupN'_ok : ∀ {l : List Nat}, nodupN' l = true → l.Nodup
  | [], _ => List.nodup_nil
  | x :: t, h => by
    have h' : (match (List.rec (motive := fun _ => Bool) false (fun y _ ih2 => match Nat.beq y x with | true => true | false => ih2) t : Bool) with | true => false | false => nodupN' t) = true := h
    cases hm : (List.rec (motive := fun _ => Bool) false (fun y _ ih2 => match Nat.beq y x with | true => true | false => ih2) t : Bool) with
    | true => simp [hm] at h'
    | false =>
      simp only [hm] at h'
      exact List.nodup_cons.2 ⟨memN_ok x t hm, nodupN'_ok h'⟩
def borns (es : List (V × V × Nat)) : List Nat := List.rec [] (fun e _ ih => e.2.2 :: ih) es
theorem borns_eq : ∀ es : List (V × V × Nat), borns es = es.map (·.2.2)
  | [] => rfl
  | e :: t => by show e.2.2 :: borns t = _; rw [borns_eq t]; rfl
def allBelow (k : Nat) (l : List Nat) : Bool := List.rec true (fun x _ ih => match Nat.blt x k with | true => ih | false => false) l
theorem allBelow_ok {k : Nat} : ∀ {l : List Nat}, allBelow k l = true → ∀ x ∈ l, x < k
  | [], _, x, hx => by simp at hx
  | y :: t, h, x, hx => by
    have h' : (match Nat.blt y k with | true => allBelow k t | false => false) = true := h
    cases hb : Nat.blt y k with
    | false => simp [hb] at h'
    | true =>
      simp only [hb] at h'
      rcases List.mem_cons.1 hx with rfl | hx
      · exact blt_lt hb
      · exact allBelow_ok h' x hx
/-- a call without arguments, which another evaluation shows to answer true, taken as done -/
theorem liveCal_ok2 {L : Nat} {c0 c : Cal} (k0 : CalOK P (fun _ => []) c0) (h : okTrue (c0.fn L [] .nil .e) = true) (k : CalOK P (fun _ => []) c) : CalOK P (fun _ => []) (liveCal L c) := by
  refine ⟨fun f args H n v H' n' he => ?_, k.rd⟩
  have he' : (match Nat.beq f L with
    | true => (match args with | [] => Res.ok (.bool true) H n | _ :: _ => .bad)
    | false => c.fn f args H n) = .ok v H' n' := he
  cases hf : Nat.beq f L with
  | false => simp only [hf] at he'; exact k.fn _ _ _ _ _ _ _ he'
  | true =>
    have := beq_eq hf
    subst this
    simp only [hf] at he'
    have he2 : (liveCal f c0).fn f args H n = .ok v H' n' := by
      show (match Nat.beq f f with
        | true => (match args with | [] => Res.ok (.bool true) H n | _ :: _ => .bad)
        | false => c0.fn f args H n) = .ok v H' n'
      rw [hf]; exact he'
    exact (liveCal_ok k0 h).fn _ _ _ _ _ _ _ he2
end
end
end Go.Ev
namespace Go.Ev
noncomputable section
open Go Go.RowKit

section
variable {P : Program} {ι : Emb} {H : Heap} {w w' : World}
/-- a new block, wherever it lies among others that are new -/
theorem Step.fresh {n : Pth} {g T : Nat} {o : O} (h : HOK P ι H w) (hn : H.get n = none) (hι : ι n = none) (hg : w.heap.size ≤ g) (hg2 : g < w'.heap.size) (bel : Below w.heap.size w w')
    (hok : o.ok P (upd ι n (g, 0) T) w' n) : Step P ι H w (upd ι n (g, 0) T) (H.set n o) w' := by
  have hle : ι.le (upd ι n (g, 0) T) := upd_le hι fun p s hp => absurd (h.lt p g s hp) (by omega)
  have liveOld : ∀ p, n ≠ p → Live (H.set n o) p → Live H p := fun p hp hl => by
    obtain ⟨o', h1, h2⟩ := hl; rw [Tr.get_set_other _ _ _ _ hp] at h1; exact ⟨o', h1, h2⟩
  refine ⟨hle, fun p hp hp' => ?_, ⟨fun p o' hp => ?_, fun p q b s s' hp hq ep eq => ?_, fun p b s hp => ?_⟩, fun b hb _ => bel.block b hb, bel.size, fun p b s hl hp hb => ?_, bel.tape, bel.os, bel.output⟩
  · by_cases e : n = p
    · subst e; exact ⟨hn, by rw [Tr.get_set_same]; simp⟩
    · rw [upd_other e] at hp'; exact absurd hp hp'
  · by_cases e : n = p
    · subst e; rw [Tr.get_set_same] at hp; cases hp; exact hok
    · rw [Tr.get_set_other _ _ _ _ e] at hp
      exact O.ok_mono (h.obj p o' hp) hle fun b s _ hb => bel.block b (h.lt p b s hb)
  · by_cases e1 : n = p
    · by_cases e2 : n = q
      · rw [← e1, ← e2]
      · subst e1
        rw [upd_same] at ep; cases ep
        rw [upd_other e2] at eq
        exact absurd (h.lt q _ _ eq) (by omega)
    · by_cases e2 : n = q
      · subst e2
        rw [upd_same] at eq; cases eq
        rw [upd_other e1] at ep
        exact absurd (h.lt p _ _ ep) (by omega)
      · rw [upd_other e1] at ep; rw [upd_other e2] at eq
        exact h.inj p q b s s' (liveOld p e1 hp) (liveOld q e2 hq) ep eq
  · by_cases e : n = p
    · subst e; rw [upd_same] at hp; cases hp; exact hg2
    · rw [upd_other e] at hp; exact Nat.lt_of_lt_of_le (h.lt p b s hp) bel.size
  · by_cases e : n = p
    · subst e; rw [upd_same] at hp; cases hp; omega
    · rw [upd_other e] at hp; exact ⟨p, s, liveOld p e hl, hp⟩
theorem Step.below (h : HOK P ι H w) (bel : Below w.heap.size w w') : Step P ι H w ι H w' :=
  ⟨Emb.le.refl _, fun _ h1 h2 => absurd h1 h2, ⟨fun p o hp => O.ok_mono (h.obj p o hp) (Emb.le.refl _) fun b s _ hp' => bel.block b (h.lt p b s hp'), h.inj, fun p b s hp => Nat.lt_of_lt_of_le (h.lt p b s hp) bel.size⟩,
    fun b hb _ => bel.block b hb, bel.size, fun p b s hl hp _ => ⟨p, s, hl, hp⟩, bel.tape, bel.os, bel.output⟩
end

/- numbers in order -/
def insI (x : Int) (l : List Int) : List Int := List.rec [x] (fun y t ih => match ilt y x with | true => y :: ih | false => x :: y :: t) l
def sortI (l : List Int) : List Int := List.rec [] (fun x _ ih => insI x ih) l
theorem insI_cons (x y : Int) (t : List Int) : insI x (y :: t) = (match ilt y x with | true => y :: insI x t | false => x :: y :: t) := rfl
theorem insI_perm (x : Int) : ∀ l : List Int, (insI x l).Perm (x :: l)
  | [] => List.Perm.refl _
  | y :: t => by
    rw [insI_cons]
    cases ilt y x with
    | false => exact List.Perm.refl _
    | true => exact ((insI_perm x t).cons y).trans (List.Perm.swap x y t)
theorem sortI_perm : ∀ l : List Int, (sortI l).Perm l
  | [] => List.Perm.refl _
  | x :: t => (insI_perm x (sortI t)).trans ((sortI_perm t).cons x)
theorem insI_sorted (x : Int) : ∀ {l : List Int}, l.Pairwise (· ≤ ·) → (insI x l).Pairwise (· ≤ ·)
  | [], _ => List.pairwise_singleton _ _
  | y :: t, h => by
    rw [insI_cons]
    obtain ⟨h1, h2⟩ := List.pairwise_cons.1 h
    cases hy : ilt y x with
    | false =>
      rw [ilt_eq] at hy
      have hxy : x ≤ y := by simpa using hy
      refine List.pairwise_cons.2 ⟨fun z hz => ?_, h⟩
      rcases List.mem_cons.1 hz with rfl | hz
      · exact hxy
      · exact Int.le_trans hxy (h1 z hz)
    | true =>
      rw [ilt_eq] at hy
      have hyx : y ≤ x := by have : y < x := by simpa using hy
                             omega
      refine List.pairwise_cons.2 ⟨fun z hz => ?_, insI_sorted x h2⟩
      rcases List.mem_cons.1 ((insI_perm x t).mem_iff.1 hz) with rfl | hz
      · exact hyx
      · exact h1 z hz
theorem sortI_sorted : ∀ l : List Int, (sortI l).Pairwise (· ≤ ·)
  | [] => List.Pairwise.nil
  | x :: t => insI_sorted x (sortI_sorted t)
/-- each less than the next -/
def risingI (l : List Int) : Bool := List.rec true (fun x t ih => match t with | [] => true | y :: _ => (match ilt x y with | true => ih | false => false)) l
theorem risingI_nodup : ∀ {l : List Int}, risingI l = true → l.Pairwise (· < ·)
  | [], _ => List.Pairwise.nil
  | [x], _ => List.pairwise_singleton _ _
  | x :: y :: t, h => by
    have h' : (match ilt x y with | true => risingI (y :: t) | false => false) = true := h
    cases hx : ilt x y with
    | false => simp [hx] at h'
    | true =>
      simp only [hx] at h'
      rw [ilt_eq] at hx
      have hxy : x < y := by simpa using hx
      have ih := risingI_nodup h'
      refine List.pairwise_cons.2 ⟨fun z hz => ?_, ih⟩
      rcases List.mem_cons.1 hz with rfl | hz
      · exact hxy
      · exact Int.lt_trans hxy ((List.pairwise_cons.1 ih).1 z hz)
/-- the keys, where all are ints -/
def keysI (es : List (V × V × Nat)) : Option (List Int) :=
  List.rec (some []) (fun e _ ih => match e.1 with
    | .int .i64 c => (match fits .i64 c, ih with | true, some r => some (c :: r) | _, _ => none)
    | _ => none) es
def ofInts (l : List Int) : List V := List.rec [] (fun x _ ih => .int .i64 x :: ih) l
theorem ofInts_eq : ∀ l : List Int, ofInts l = l.map (V.int .i64)
  | [] => rfl
  | x :: t => by show V.int .i64 x :: ofInts t = _; rw [ofInts_eq t]; rfl
theorem keysI_ok {ι : Emb} : ∀ {es : List (V × V × Nat)} {ks : List Int} {ms : List MapEntry}, keysI es = some ks → ERel ι es ms → ms.map (·.key) = ks.map (Value.int .i64) ∧ ∀ c ∈ ks, IntKind.i64.min ≤ c ∧ c ≤ IntKind.i64.max
  | [], ks, ms, h, hr => by
    have h' : _ = [] := hr
    subst h'; cases h
    exact ⟨rfl, fun c hc => by simp at hc⟩
  | e :: es, ks, ms, h, hr => by
    obtain ⟨m, t, rfl, hk, hv, hb, ht⟩ := hr
    have h' : (match e.1 with
      | .int .i64 c => (match fits .i64 c, keysI es with | true, some r => some (c :: r) | _, _ => none)
      | _ => none) = some ks := h
    split at h' <;> try (cases h'; done)
    rename_i c hc
    split at h' <;> try (cases h'; done)
    rename_i r hf hi
    cases h'
    rw [hc] at hk
    simp only [V.rel] at hk
    obtain ⟨i1, i2⟩ := keysI_ok hi ht
    refine ⟨by simp [hk, i1], fun z hz => ?_⟩
    rcases List.mem_cons.1 hz with rfl | hz
    · have hw : IntKind.i64.wrap z = z := by
        unfold fits at hf
        rw [wr_eq, ieq_eq] at hf
        simpa using hf
      have := wrap_in .i64 z
      rw [hw] at this; exact this
    · exact i2 z hz
/-- the function F (slices.Sorted at ints) at the iterator that the function G (maps.Keys' own) is -/
def sortedCal (F G : Nat) (c : Cal) : Cal :=
  ⟨fun f args H n => match Nat.beq f F, args with
    | true, [.fn g [] [.ptr q o]] => (match Nat.beq g G, Nat.beq o 0, H.get q with
      | true, true, some (.cells [.mp p]) => (match H.get p with
        | some (.map es cl) => (match keysI es, nodupN' (borns es), allBelow cl (borns es), Nat.ble (len es) 1000000 with
          | some ks, true, true, true => (match risingI (sortI ks), H.get n, sortI ks with
            | true, none, [] => .ok .nilsl H n
            | true, none, l => .ok (.sl n 0 (len ks) (len ks) 1) (H.set n (.cells (ofInts l))) n.succ
            | _, _, _ => .bad)
          | _, _, _, _ => .bad)
        | _ => .bad)
      | _, _, _ => c.fn f args H n)
    | _, _ => c.fn f args H n, c.rd⟩
/-- what Sorted does -/
def SortedI (P : Program) (F G : Nat) (E : TypeId) : Prop := ∀ (bq bm cl : Nat) (ms : Array MapEntry) (ks : List Int) (w : World), w.cell? ⟨bq, 0, none⟩ = some (.map (some bm)) → bq < w.heap.size → w.heap[bm]? = some (.map ms cl) →
  ms.toList.map (·.key) = ks.map (Value.int .i64) → ks.Nodup → (∀ c ∈ ks, IntKind.i64.min ≤ c ∧ c ≤ IntKind.i64.max) → (∀ x ∈ ms.toList, x.born < cl) → (ms.toList.map (·.born)).Nodup → ks.length ≤ 1000000 →
  Calls P F #[.func (.func G) #[] #[.pointer (some ⟨bq, 0, none⟩)]] w fun e w' => ∃ v, e = .returned v ∧ w'.ownsRow w.heap.size E 1 v ks.length ((sortI ks).map (Value.int .i64)) ∧ (v = .slice none 0 0 ↔ ks = []) ∧ Below w.heap.size w w'
theorem sortedCal_ok {P : Program} {F G : Nat} {E : TypeId} (hF : Callable P F) (hs : SortedI P F G E) {c : Cal} (k : CalOK P (fun _ => []) c) : CalOK P (fun _ => []) (sortedCal F G c) := by
  refine ⟨fun f args H n v H' n' he => ?_, k.rd⟩
  have he' : (match Nat.beq f F, args with
    | true, [.fn g [] [.ptr q o]] => (match Nat.beq g G, Nat.beq o 0, H.get q with
      | true, true, some (.cells [.mp p]) => (match H.get p with
        | some (.map es cl) => (match keysI es, nodupN' (borns es), allBelow cl (borns es), Nat.ble (len es) 1000000 with
          | some ks, true, true, true => (match risingI (sortI ks), H.get n, sortI ks with
            | true, none, [] => Res.ok .nilsl H n
            | true, none, l => .ok (.sl n 0 (len ks) (len ks) 1) (H.set n (.cells (ofInts l))) n.succ
            | _, _, _ => .bad)
          | _, _, _, _ => .bad)
        | _ => .bad)
      | _, _, _ => c.fn f args H n)
    | _, _ => c.fn f args H n) = .ok v H' n' := he
  split at he'
  · rename_i g q o hf
    have := beq_eq hf; subst this
    split at he'
    · rename_i p hg ho hq
      have hge := beq_eq hg; subst hge
      have hoe := beq_eq ho; subst hoe
      split at he' <;> try (cases he'; done)
      rename_i es cl hes
      split at he' <;> try (cases he'; done)
      rename_i ks hks hnd hbel hlen
      have main : ∀ (o' : Option O), risingI (sortI ks) = true → H.get n = none → (sortI ks = [] → v = .nilsl ∧ H' = H) → (sortI ks ≠ [] → v = .sl n 0 (len ks) (len ks) 1 ∧ H' = H.set n (.cells (ofInts (sortI ks)))) →
          Mono H H' ∧ Callable P f ∧ ∀ ι w (xs : Array Value), HOK P ι H w → GOK (fun _ => []) ι H w → Fr ι H H' → V.rels ι [.fn g [] [.ptr q 0]] xs.toList → Calls P f xs w (fun e w' => ∃ x, e = .returned x ∧ Post P ι H w H' v x w') := by
        intro _ hris hn hnil hcons
        refine ⟨?_, hF, fun ι w xs hok gok hfr hxs => ?_⟩
        · by_cases h0 : sortI ks = []
          · rw [(hnil h0).2]; exact Mono.refl _
          · rw [(hcons h0).2]; exact Mono.set _ _ _
        obtain ⟨x, t, e1, hx, ht⟩ := rels_cons_inv hxs
        have := rels_nil_inv ht; subst this
        simp only [V.rel] at hx
        obtain ⟨a', c', hxe, ha, hc⟩ := hx
        obtain ⟨y, t2, e3, hy, ht2⟩ := rels_cons_inv hc
        have := rels_nil_inv ht2; subst this
        have ea : a' = #[] := Array.toList_inj.1 (rels_nil_inv ha)
        subst ea
        simp only [V.rel] at hy
        obtain ⟨bq, s, hpq, rfl⟩ := hy
        have hs0 := cells_zero hok hq hpq
        subst hs0
        have ec : c' = #[.pointer (some ⟨bq, 0, none⟩)] := Array.toList_inj.1 e3
        subst ec
        obtain ⟨z, hz, hzr, hlt⟩ := cell_nth hok hq hpq (j := 0) (v := .mp p) rfl
        simp only [V.rel] at hzr
        obtain ⟨bm, hbm, rfl⟩ := hzr
        obtain ⟨bm2, ms, hm1, hm2, hm3⟩ := map_of hok hes
        rw [hbm] at hm1; cases hm1
        obtain ⟨hkeys, hrng⟩ := keysI_ok hks hm3
        have hb := ERel_borns hm3
        have hklen : ks.length = es.length := by
          have h1 : (ms.toList.map (·.key)).length = (ks.map (Value.int .i64)).length := by rw [hkeys]
          have h2 := ERel_length hm3
          simp only [List.length_map] at h1
          omega
        have hnodup : ks.Nodup := ((sortI_perm ks).nodup_iff).1 ((risingI_nodup hris).imp fun h => Int.ne_of_lt h)
        have hxs2 : xs = #[.func (.func g) #[] #[.pointer (some ⟨bq, 0, none⟩)]] := by apply Array.toList_inj.1; rw [e1, hxe]
        subst hxs2
        refine (hs bq bm cl ms ks w hz hlt hm2 hkeys hnodup hrng (fun x hx => ?_) (by rw [hb, ← borns_eq]; exact nodupN'_ok hnd) (by have := ble_le hlen; rw [len_eq] at this; omega)).mono ?_
        · have : x.born ∈ ms.toList.map (·.born) := List.mem_map.2 ⟨x, hx, rfl⟩
          rw [hb, ← borns_eq] at this
          exact allBelow_ok hbel _ this
        rintro e w' ⟨u, rfl, hrow, hni, bel⟩
        refine ⟨u, rfl, ?_⟩
        have hsl : (sortI ks).length = ks.length := (sortI_perm ks).length_eq
        by_cases h0 : sortI ks = []
        · obtain ⟨rfl, rfl⟩ := hnil h0
          have hk0 : ks = [] := List.length_eq_zero_iff.1 (by rw [← hsl, h0]; rfl)
          have hu := hni.2 hk0
          subst hu
          exact ⟨ι, by simp only [V.rel], Step.below hok bel⟩
        · obtain ⟨rfl, rfl⟩ := hcons h0
          rcases hrow.2 with ⟨rfl, hz0⟩ | ⟨gb, cap, cur, rfl, r1, r2, r3, r4, r5, r6⟩
          · exact absurd (List.length_eq_zero_iff.1 (hsl.trans hz0)) h0
          · have hι : ι n = none := hfr n hn (by rw [Tr.get_set_same]; simp)
            have hg2 : gb < w'.heap.size := (Array.getElem?_eq_some_iff.1 r2).1
            refine ⟨upd ι n (gb, 0) cur.size, ?_, Step.fresh hok hn hι r1 hg2 bel ⟨gb, 0, cur, E, (0, 0), upd_same _ _ _ _, r2, .inl rfl, ?_, upd_size _ _ _ _, rfl⟩⟩
            · simp only [V.rel, len_eq]
              refine ⟨gb, 0, cap, upd_same _ _ _ _, rfl, r3, fun h => absurd h (by omega), fun _ => ?_⟩
              have := upd_size ι n (gb, 0) cur.size
              simp only at this
              rw [this, r5]; omega
            · rw [ofInts_eq, List.length_map, hsl, List.drop_zero]
              rw [Nat.mul_one] at r6
              rw [r6]
              have : ∀ l : List Int, V.rels (upd ι n (gb, 0) cur.size) (l.map (V.int .i64)) (l.map (Value.int .i64)) := fun l => by
                induction l with
                | nil => exact rels_nil
                | cons x t ih => exact rels_cons (by simp only [V.rel]) ih
              exact this _
      split at he'
      · rename_i h1 h2 h3
        cases he'
        exact main none h1 h2 (fun _ => ⟨rfl, rfl⟩) (fun hne => absurd h3 hne)
      · rename_i h1 h2 h3
        cases he'
        exact main none h1 h2 (fun h0 => absurd h0 (by intro h0; exact h3 h0)) (fun _ => ⟨rfl, rfl⟩)
      · cases he'
    · exact k.fn _ _ _ _ _ _ _ he'
  · exact k.fn _ _ _ _ _ _ _ he'
end
end Go.Ev
