/-
  The filter as start leaves it, in words: its blocks; the rule that flows; the rule that waits.
  The filter's state with the rule \u{e4}, as a connection sees it; a piece of text.
  A piece of text, taken by the filter.
  A piece of text for a rule that waits or that is out; the end of the text.
  What a rule \u{e4} tells of a text in pieces, plainly; any piece, any end.
  A text sent in pieces, walked.
  The reference's Same (of matches), walked: equal lists are the same.
  The filter that start makes, as a state.
-/
import Derived.Test.YtahmcjdddcbhnaaGreatDoorStaTW
import Derived.Test.YtahmcjdddcbhnaaGreatDoorRunG3a
import Derived.Test.YtahmcjdddcbhnaaGreatDoorRunG0a
import Derived.Test.YtahmcjdddcbhnaaGreatDoorAskGW
namespace Go.Proofs.YtahmcjdddcbhnaaGreatDoor
open Go Go.Ev Go.RowKit Go.Imap

theorem imap_of {A : List (Pth × O)} {w : World} {σ : Nat → Int} {ι : Emb} (h : Lies w A σ ι) {cb : Nat} (hg : (Ev.hp A).get (nm 42) = some mapA) (hc : ι (nm 44) = some (cb, 0)) : IMap w (bk ι (nm 42)) fun u => if u = 1 then some (.pointer (some ⟨cb, 0, none⟩)) else none := by
  have hb := h.bkm (p := nm 42) hg
  obtain ⟨b, es', q1, q2, q3⟩ := h.hok.obj _ _ hg
  rw [hb] at q1
  cases q1
  obtain ⟨m, ms, e1, e2, e3, e4, e5⟩ := q3
  have e5 : ms = [] := e5
  subst e5
  simp only [J, V.rel] at e2 e3
  obtain ⟨b', s', k1, k2⟩ := e3
  rw [hc] at k1
  cases k1
  have e4 : m.born = 0 := e4
  refine ⟨es', 1, q2, fun x hx => ?_, ?_, ?_, fun x hx => ?_, fun s v hv => ?_⟩
  · rw [e1] at hx
    have := List.mem_singleton.1 hx
    rw [this, e4]; omega
  · rw [e1]; simp
  · rw [e1]; simp
  · rw [e1] at hx
    have := List.mem_singleton.1 hx
    subst this
    exact ⟨1, by omega, e2, by show (if (1 : Nat) = 1 then _ else _) = _; rw [if_pos rfl, k2]⟩
  · by_cases hs : s = 1
    · subst hs
      exact ⟨m, by rw [e1]; exact List.mem_singleton.2 rfl, e2⟩
    · have hv' : (if s = 1 then some (Value.pointer (some ⟨cb, 0, none⟩)) else none) = some v := hv
      rw [if_neg hs] at hv'
      cases hv'
theorem ctl_of {A : List (Pth × O)} {w : World} {ι : Emb} {W : V} (h : Lies w A (fun _ => 0) ι) (g40 : (Ev.hp A).get (nm 40) = some (.cells filA)) (g42 : (Ev.hp A).get (nm 42) = some mapA) (g43 : (Ev.hp A).get (nm 43) = some (.cells verA)) (g44 : (Ev.hp A).get (nm 44) = some (.cells conA))
    (g45 : (Ev.hp A).get (nm 45) = some (.cells metA)) (g46 : (Ev.hp A).get (nm 46) = some (.cells [J 0])) (g47 : (Ev.hp A).get (nm 47) = some (.cells [W])) :
    ∃ Wv, V.rel ι W Wv ∧ Ctl w (bk ι (nm 40)) (bk ι (nm 42)) (bk ι (nm 44)) (bk ι (nm 43)) (bk ι (nm 45)) (bk ι (nm 46)) (bk ι (nm 47)) 0 0 (.slice none 0 0) Wv := by
  have b40 := h.bkc g40
  have b42 := h.bkm (p := nm 42) g42
  have b43 := h.bkc g43
  have b44 := h.bkc g44
  have b45 := h.bkc g45
  have b46 := h.bkc g46
  have b47 := h.bkc g47
  obtain ⟨c40, r40, k40⟩ := h.celx g40
  obtain ⟨c43, r43, k43⟩ := h.celx g43
  obtain ⟨c44, r44, k44⟩ := h.celx g44
  obtain ⟨c45, r45, k45⟩ := h.celx g45
  obtain ⟨c46, r46, k46⟩ := h.celx g46
  obtain ⟨c47, r47, k47⟩ := h.celx g47
  have ne : ∀ {p q : Pth} {o o' : O}, (Ev.hp A).get p = some o → (Ev.hp A).get q = some o' → o ≠ .dead → o' ≠ .dead → ι p = some (bk ι p, 0) → ι q = some (bk ι q, 0) → p ≠ q → bk ι p ≠ bk ι q := fun hp hq ho ho' h1 h2 hn => h.bk_ne hp hq ho ho' h1 h2 hn
  have dm : mapA ≠ .dead := by unfold mapA; simp
  have dc : ∀ l, O.cells l ≠ .dead := fun l => by simp
  -- the watch
  obtain ⟨Wv, t0, e0, hW, r47⟩ := rels_cons_inv r47
  have := rels_nil_inv r47
  subst this
  have e47 : c47 = #[Wv] := Array.toList_inj.1 e0
  rw [e47] at k47
  refine ⟨Wv, hW, ⟨?_, imap_of h g42 b44, ?_, ?_, ?_, k47, ?_⟩⟩
  · unfold filA at r40
    obtain ⟨x0, t0, d0, k0, r40⟩ := rels_cons_inv r40
    obtain ⟨x1, t1, d1, k1, r40⟩ := rels_cons_inv r40
    obtain ⟨x2, t2, d2, k2, r40⟩ := rels_cons_inv r40
    obtain ⟨x3, t3, d3, k3, r40⟩ := rels_cons_inv r40
    obtain ⟨x4, t4, d4, k4, r40⟩ := rels_cons_inv r40
    obtain ⟨x5, t5, d5, k5, r40⟩ := rels_cons_inv r40
    have := rels_nil_inv r40
    subst this
    simp only [J, V.rel] at k0 k1 k2 k3 k5
    obtain ⟨mb, k5, k6⟩ := k5
    rw [b42] at k5
    cases k5
    have : c40 = #[.int .i64 1048576, .int .i64 10, .int .i64 0, .int .i64 0, x4, .map (some (bk ι (nm 42)))] := Array.toList_inj.1 (by rw [d0, d1, d2, d3, d4, d5, k0, k1, k2, k3, k6])
    rw [this] at k40
    exact ⟨x4, k40⟩
  · unfold conA at r44
    obtain ⟨x0, t0, d0, k0, r44⟩ := rels_cons_inv r44
    obtain ⟨x1, t1, d1, k1, r44⟩ := rels_cons_inv r44
    obtain ⟨x2, t2, d2, k2, r44⟩ := rels_cons_inv r44
    obtain ⟨x3, t3, d3, k3, r44⟩ := rels_cons_inv r44
    have := rels_nil_inv r44
    subst this
    simp only [J, V.rel] at k0 k1 k2 k3
    obtain ⟨b1, s1, k1, k1'⟩ := k1
    rw [b43] at k1
    cases k1
    obtain ⟨b3, s3, c3, k3, k3', -⟩ := k3
    rw [b47] at k3
    cases k3
    have : c44 = #[.int .i64 0, .pointer (some ⟨bk ι (nm 43), 0, none⟩), .slice none 0 0, .slice (some ⟨bk ι (nm 47), 0, none⟩) 1 c3] := Array.toList_inj.1 (by rw [d0, d1, d2, d3, k0, k1', k2, k3'])
    rw [this] at k44
    exact ⟨c3, k44⟩
  · unfold verA at r43
    obtain ⟨x0, t0, d0, k0, r43⟩ := rels_cons_inv r43
    obtain ⟨x1, t1, d1, k1, r43⟩ := rels_cons_inv r43
    have := rels_nil_inv r43
    subst this
    simp only [V.rel] at k0
    obtain ⟨b1, s1, k1, k1'⟩ := k0
    rw [b45] at k1
    cases k1
    have : c43 = #[.pointer (some ⟨bk ι (nm 45), 0, none⟩), x1] := Array.toList_inj.1 (by rw [d0, d1, k1'])
    rw [this] at k43
    exact ⟨x1, k43⟩
  · unfold metA at r45
    obtain ⟨x0, t0, d0, k0, r45⟩ := rels_cons_inv r45
    obtain ⟨x1, t1, d1, k1, r45⟩ := rels_cons_inv r45
    obtain ⟨x2, t2, d2, k2, r45⟩ := rels_cons_inv r45
    obtain ⟨x3, t3, d3, k3, r45⟩ := rels_cons_inv r45
    have := rels_nil_inv r45
    subst this
    simp only [J, V.rel] at k0 k1 k2 k3
    obtain ⟨b3, s3, c3, k3, k3', -, kz, -⟩ := k3
    rw [b46] at k3
    cases k3
    have kz : c3 = 1 := kz trivial
    subst kz
    have e45 : c45 = #[.int .i64 1048576, .int .i64 10, .int .i64 0, .slice (some ⟨bk ι (nm 46), 0, none⟩) 1 1] := Array.toList_inj.1 (by rw [d0, d1, d2, d3, k0, k1, k2, k3'])
    rw [e45] at k45
    obtain ⟨y0, u0, f0, m0, r46⟩ := rels_cons_inv r46
    have := rels_nil_inv r46
    subst this
    simp only [J, V.rel] at m0
    have e46 : c46 = #[.int .i64 0] := Array.toList_inj.1 (by rw [f0, m0])
    rw [e46] at k46
    exact ⟨k45, k46, by omega, by omega, by omega, by omega, ne g45 g46 (dc _) (dc _) b45 b46 (by decide +kernel)⟩
  · have d40 := dc filA
    have d43 := dc verA
    have d44 := dc conA
    have d45 := dc metA
    have d46 := dc [J 0]
    have d47 := dc [W]
    simp only [List.nodup_cons, List.mem_cons, List.not_mem_nil, or_false, not_or, List.nodup_nil, and_true, not_false_eq_true]
    exact ⟨⟨ne g40 g42 d40 dm b40 b42 (by decide +kernel), ne g40 g44 d40 d44 b40 b44 (by decide +kernel), ne g40 g43 d40 d43 b40 b43 (by decide +kernel), ne g40 g45 d40 d45 b40 b45 (by decide +kernel), ne g40 g46 d40 d46 b40 b46 (by decide +kernel), ne g40 g47 d40 d47 b40 b47 (by decide +kernel)⟩,
      ⟨ne g42 g44 dm d44 b42 b44 (by decide +kernel), ne g42 g43 dm d43 b42 b43 (by decide +kernel), ne g42 g45 dm d45 b42 b45 (by decide +kernel), ne g42 g46 dm d46 b42 b46 (by decide +kernel), ne g42 g47 dm d47 b42 b47 (by decide +kernel)⟩,
      ⟨ne g44 g43 d44 d43 b44 b43 (by decide +kernel), ne g44 g45 d44 d45 b44 b45 (by decide +kernel), ne g44 g46 d44 d46 b44 b46 (by decide +kernel), ne g44 g47 d44 d47 b44 b47 (by decide +kernel)⟩,
      ⟨ne g43 g45 d43 d45 b43 b45 (by decide +kernel), ne g43 g46 d43 d46 b43 b46 (by decide +kernel), ne g43 g47 d43 d47 b43 b47 (by decide +kernel)⟩,
      ⟨ne g45 g46 d45 d46 b45 b46 (by decide +kernel), ne g45 g47 d45 d47 b45 b47 (by decide +kernel)⟩, ne g46 g47 d46 d47 b46 b47 (by decide +kernel)⟩
/-- a rule's block, named -/
noncomputable def embR (rb : Nat) : Emb := ⟨fun p => if p = nm 1 then some (rb, 0) else none, fun _ => 0, fun _ => 0⟩
theorem ptr_of0 {ι : Emb} {v : V} {x : Value} (hp : isPtr0 v = true) (hr : V.rel ι v x) : ∃ p b s, v = .ptr p 0 ∧ ι p = some (b, s) ∧ x = .pointer (some ⟨b, s, none⟩) := by
  unfold isPtr0 at hp
  split at hp
  · simp only [V.rel] at hr
    obtain ⟨b, s, h1, h2⟩ := hr
    exact ⟨_, b, s, rfl, h1, by simpa using h2⟩
  · cases hp
section
variable {w : World} {rb : Nat} {t : List Nat} {d : ByteArray}
theorem start_made {A : List (Pth × O)} (hrun : made (ruleRo t) 9 [.sl (nm 1) 0 1 1 0, J 1048576] A staL0 isPtr0 = true) (hg : (Ev.hp A).get (nm 40) = some (.cells filA)) (h : Blk w rb 25 #[.string ⟨#[97]⟩, .string d, .bool true]) (hd : d.data.toList.map UInt8.toNat = t) :
    Calls Tryz.prog 9 #[.slice (some ⟨rb, 0, none⟩) 1 1, .int .i64 1048576] w fun e w' => ∃ ι, e = .returned (.pointer (some ⟨bk ι (nm 40), 0, none⟩)) ∧ Lies w' A (fun _ => 0) ι ∧ (∀ b, foot ι A b → w.heap.size ≤ b) ∧ Below w.heap.size w w' := by
  have h1 : embR rb (nm 1) = some (rb, 0) := by show (if nm 1 = nm 1 then some (rb, 0) else none) = _; rw [if_pos rfl]
  have hdom : ∀ p, embR rb p ≠ none → p = nm 1 := fun p hp => by
    by_cases e : p = nm 1
    · exact e
    · exact absurd (show embR rb p = none from if_neg e) hp
  have hro : RoIs (embR rb) (ruleRo t) w := fun e he => by
    have := List.mem_singleton.1 he
    subst this
    refine ⟨rb, 0, _, _, _, h1, h, ?_⟩
    exact rels_cons (by simp only [V.rel]; exact ⟨_, rfl, rfl⟩) (rels_cons (by simp only [V.rel]; exact ⟨_, rfl, hd⟩) (rels_cons (by simp only [V.rel]) rels_nil))
  have hxs : V.rels (embR rb) [.sl (nm 1) 0 1 1 0, J 1048576] (#[.slice (some ⟨rb, 0, none⟩) 1 1, .int .i64 1048576] : Array Value).toList := by
    refine rels_cons ?_ (rels_cons (by simp only [J, V.rel]) rels_nil)
    simp only [V.rel]
    exact ⟨rb, 0, 1, h1, rfl, Nat.le_refl _, fun _ => rfl, fun e => absurd rfl e⟩
  refine (made_ok hrun hro (fun p hp => by rw [hdom p hp]; exact List.mem_singleton.2 rfl) (fun p b s hp => by
    have := hdom p (by rw [hp]; simp)
    subst this
    rw [h1] at hp
    cases hp
    exact h.lt) hxs).mono ?_
  rintro e w' ⟨x, v, ι', ι2, rfl, hp, hv, hL, hb, hnew, hr, hsz⟩
  obtain ⟨p, b, s, rfl, hq, rfl⟩ := ptr_of0 hp hv
  have e1 := (hr (nm 40, p) (by simp [staL0])).trans hq
  have e2 := hL.bkc hg
  rw [e1] at e2
  have hs0 : s = 0 := by cases e2; rfl
  have hbk : bk ι2 (nm 40) = b := by unfold bk; rw [e1]; rfl
  subst hs0
  exact ⟨ι2, by rw [hbk], hL, hnew, hb⟩
theorem live_str : ∀ p ∈ names strU0, ∃ o, (Ev.hp flowA).get p = some o ∧ o ≠ .dead := fun p hp => by
  obtain ⟨i, hi, rfl⟩ := names_strU0 p hp
  simp only [List.mem_cons, List.not_mem_nil, or_false] at hi
  rcases hi with rfl | rfl | rfl | rfl | rfl | rfl | rfl | rfl | rfl | rfl | rfl | rfl <;> exact ⟨_, by rfl, by simp⟩
theorem start_flow (h : Blk w rb 25 #[.string ⟨#[97]⟩, .string ⟨#[92, 117, 123, 101, 52, 125]⟩, .bool true]) :
    Calls Tryz.prog 9 #[.slice (some ⟨rb, 0, none⟩) 1 1, .int .i64 1048576] w fun e w' => ∃ g cm cb vb mb ub ab bb sb ι, e = .returned (.pointer (some ⟨g, 0, none⟩)) ∧ Ctl w' g cm cb vb mb ub ab 0 0 (.slice none 0 0) (flowV bb) ∧ BytU w' bb sb none 0 ι (.slice none 0 0) [] ∧
      (∀ b ∈ [g, cm, cb, vb, mb, ub, ab], w.heap.size ≤ b ∧ ¬ BFU bb none ι (.slice none 0 0) b) ∧ (∀ b, BFU bb none ι (.slice none 0 0) b → w.heap.size ≤ b) ∧ Below w.heap.size w w' := by
  refine (start_made run_staU (by rfl) h (by rfl)).mono ?_
  rintro e w' ⟨ι, rfl, hL, hnew, hb⟩
  have g40 : (Ev.hp flowA).get (nm 40) = some (.cells filA) := by rfl
  have g42 : (Ev.hp flowA).get (nm 42) = some mapA := by rfl
  have g43 : (Ev.hp flowA).get (nm 43) = some (.cells verA) := by rfl
  have g44 : (Ev.hp flowA).get (nm 44) = some (.cells conA) := by rfl
  have g45 : (Ev.hp flowA).get (nm 45) = some (.cells metA) := by rfl
  have g46 : (Ev.hp flowA).get (nm 46) = some (.cells [J 0]) := by rfl
  have g47 : (Ev.hp flowA).get (nm 47) = some (.cells [.ifc 153 (.agg [.ptr (nm 48) 0])]) := by rfl
  have g48 : (Ev.hp flowA).get (nm 48) = some (.cells [.ptr (nm 1) 0, .nilsl]) := by rfl
  obtain ⟨Wv, hW, hC⟩ := ctl_of hL g40 g42 g43 g44 g45 g46 g47
  have b48 := hL.bkc g48
  obtain ⟨c48, r48, k48⟩ := hL.celx g48
  obtain ⟨ι3, hL3, hid3, hft3⟩ := hL.part (τ := fun _ => 0) fit_strU0 num_none names_strU0
  have b1 := hL3.bkc (p := nm 1) (l := cell1) (by rfl)
  -- the watch
  have hWv : Wv = flowV (bk ι (nm 48)) := by
    rw [V.rel] at hW
    obtain ⟨y, rfl, hy⟩ := hW
    rw [V.rel] at hy
    obtain ⟨cs, rfl, hc⟩ := hy
    obtain ⟨x0, t0, e0, k0, hc⟩ := rels_cons_inv hc
    have := rels_nil_inv hc
    subst this
    simp only [V.rel] at k0
    obtain ⟨b, s, k1, k2⟩ := k0
    rw [b48] at k1
    cases k1
    unfold flowV
    rw [show cs = #[.pointer (some ⟨bk ι (nm 48), 0, none⟩)] from Array.toList_inj.1 (by rw [e0, k2])]
  -- the bytes
  obtain ⟨x0, t0, e0, k0, r48⟩ := rels_cons_inv r48
  obtain ⟨x1, t1, e1, k1, r48⟩ := rels_cons_inv r48
  have := rels_nil_inv r48
  subst this
  simp only [V.rel] at k0 k1
  obtain ⟨sb, s, k0, k2⟩ := k0
  have hsb : ι3 (nm 1) = some (sb, s) := (hid3 _ (by decide +kernel)).trans k0
  rw [b1] at hsb
  have hs0 : s = 0 := by cases hsb; rfl
  have hsb0 : bk ι3 (nm 1) = sb := by cases hsb; rfl
  subst hs0
  have e48 : c48 = #[.pointer (some ⟨sb, 0, none⟩), .slice none 0 0] := Array.toList_inj.1 (by rw [e0, e1, k1, k2])
  rw [e48] at k48
  have hlive : ∀ {p : Pth} {o : O}, (Ev.hp flowA).get p = some o → o ≠ .dead → Live (Ev.hp flowA) p := fun h1 h2 => ⟨_, h1, h2⟩
  have hinS : ∀ b, foot ι3 strU0 b → ∃ p ∈ names strU0, ∃ t, ι p = some (b, t) := hft3
  have hSne : ∀ (q : Pth) (o : O), (Ev.hp flowA).get q = some o → o ≠ .dead → ι q = some (bk ι q, 0) → q ∉ names strU0 → ¬ foot ι3 strU0 (bk ι q) := fun q o hq ho hqb hn hf => by
    obtain ⟨p, hp, t, hpb⟩ := hinS _ hf
    obtain ⟨o', h1, h2⟩ := live_str p hp
    exact hn (hL.hok.inj p q (bk ι q) t 0 ⟨o', h1, h2⟩ ⟨o, hq, ho⟩ hpb hqb ▸ hp)
  have hbne : ∀ (q : Pth) (o : O), (Ev.hp flowA).get q = some o → o ≠ .dead → ι q = some (bk ι q, 0) → q ≠ nm 48 → bk ι q ≠ bk ι (nm 48) := fun q o hq ho hqb hn => hL.bk_ne hq g48 ho (by simp) hqb b48 hn
  have hone : ∀ (q : Pth) (o : O), (Ev.hp flowA).get q = some o → o ≠ .dead → ι q = some (bk ι q, 0) → q ∉ names strU0 → q ≠ nm 48 → w.heap.size ≤ bk ι q ∧ ¬ BFU (bk ι (nm 48)) none ι3 (.slice none 0 0) (bk ι q) := fun q o hq ho hqb hn h48 =>
    ⟨hnew _ ⟨q, 0, ⟨o, hq, ho⟩, hqb⟩, fun hf => by
      rcases hf with hf | hf | hf
      · exact hbne q o hq ho hqb h48 hf
      · exact hSne q o hq ho hqb hn hf
      · cases hf⟩
  have hmd : mapA ≠ .dead := by unfold mapA; simp
  rw [hWv] at hC
  refine ⟨_, _, _, _, _, _, _, bk ι (nm 48), sb, ι3, rfl, hC, ⟨k48, ⟨none, 0, 0, rfl, rfl, Nat.le_refl _, fun e => absurd rfl e⟩, ⟨⟨hL3, by rw [b1, hsb0]⟩, rfl⟩, hSne _ _ g48 (by simp) b48 (by decide +kernel), fun g hg => by cases hg⟩, ?_, ?_, hb⟩
  · intro b hb
    simp only [List.mem_cons, List.not_mem_nil, or_false] at hb
    rcases hb with rfl | rfl | rfl | rfl | rfl | rfl | rfl
    · exact hone _ _ g40 (by simp) (hL.bkc g40) (by decide +kernel) (by decide +kernel)
    · exact hone _ _ g42 hmd (hL.bkm (p := nm 42) g42) (by decide +kernel) (by decide +kernel)
    · exact hone _ _ g44 (by simp) (hL.bkc g44) (by decide +kernel) (by decide +kernel)
    · exact hone _ _ g43 (by simp) (hL.bkc g43) (by decide +kernel) (by decide +kernel)
    · exact hone _ _ g45 (by simp) (hL.bkc g45) (by decide +kernel) (by decide +kernel)
    · exact hone _ _ g46 (by simp) (hL.bkc g46) (by decide +kernel) (by decide +kernel)
    · exact hone _ _ g47 (by simp) (hL.bkc g47) (by decide +kernel) (by decide +kernel)
  · rintro b (rfl | hf | hf)
    · exact hnew _ ⟨_, 0, ⟨_, g48, by simp⟩, b48⟩
    · obtain ⟨p, hp, t, hpb⟩ := hinS _ hf
      obtain ⟨o', h1, h2⟩ := live_str p hp
      exact hnew b ⟨p, t, ⟨o', h1, h2⟩, hpb⟩
    · cases hf
theorem start_wait (h : Blk w rb 25 #[.string ⟨#[97]⟩, .string ⟨#[40, 63, 61, 92, 117, 123, 101, 52, 125, 41, 92, 117, 123, 101, 52, 125]⟩, .bool true]) :
    Calls Tryz.prog 9 #[.slice (some ⟨rb, 0, none⟩) 1 1, .int .i64 1048576] w fun e w' => ∃ g cm cb vb mb ub ab kv, e = .returned (.pointer (some ⟨g, 0, none⟩)) ∧ Ctl w' g cm cb vb mb ub ab 0 0 (.slice none 0 0) (.iface 155 (.agg (patC kv))) ∧
      (∃ ι : Emb, RoIs ι treeU w' ∧ V.rel ι (.sl (nm 51) 0 2 2 8) kv ∧ (∀ p, ι p ≠ none → p ∈ treeU.map (·.1)) ∧ ∀ p b s, ι p = some (b, s) → w.heap.size ≤ b ∧ b < w'.heap.size ∧ b ∉ [g, cm, cb, vb, mb, ub, ab]) ∧
      (∀ b ∈ [g, cm, cb, vb, mb, ub, ab], w.heap.size ≤ b) ∧ Below w.heap.size w w' := by
  refine (start_made run_staW (by rfl) h (by rfl)).mono ?_
  rintro e w' ⟨ι, rfl, hL, hnew, hb⟩
  have g40 : (Ev.hp waitA).get (nm 40) = some (.cells filA) := by rfl
  have g42 : (Ev.hp waitA).get (nm 42) = some mapA := by rfl
  have g43 : (Ev.hp waitA).get (nm 43) = some (.cells verA) := by rfl
  have g44 : (Ev.hp waitA).get (nm 44) = some (.cells conA) := by rfl
  have g45 : (Ev.hp waitA).get (nm 45) = some (.cells metA) := by rfl
  have g46 : (Ev.hp waitA).get (nm 46) = some (.cells [J 0]) := by rfl
  have g47 : (Ev.hp waitA).get (nm 47) = some (.cells [.ifc 155 (.agg patU)]) := by rfl
  obtain ⟨Wv, hW, hC⟩ := ctl_of hL g40 g42 g43 g44 g45 g46 g47
  obtain ⟨ι3, hL3, hid3, hft3⟩ := hL.part (τ := fun _ => 0) fit_tree num_none names_tree
  rw [V.rel] at hW
  obtain ⟨y, rfl, hy⟩ := hW
  rw [V.rel] at hy
  obtain ⟨cs, rfl, hc⟩ := hy
  unfold patU at hc
  obtain ⟨x0, t0, d0, k0, hc⟩ := rels_cons_inv hc
  obtain ⟨x1, t1, d1, k1, hc⟩ := rels_cons_inv hc
  obtain ⟨kv, t2, d2, k2, hc⟩ := rels_cons_inv hc
  obtain ⟨x3, t3, d3, k3, hc⟩ := rels_cons_inv hc
  obtain ⟨x4, t4, d4, k4, hc⟩ := rels_cons_inv hc
  obtain ⟨x5, t5, d5, k5, hc⟩ := rels_cons_inv hc
  obtain ⟨x6, t6, d6, k6, hc⟩ := rels_cons_inv hc
  obtain ⟨x7, t7, d7, k7, hc⟩ := rels_cons_inv hc
  obtain ⟨x8, t8, d8, k8, hc⟩ := rels_cons_inv hc
  obtain ⟨x9, t9, d9, k9, hc⟩ := rels_cons_inv hc
  have := rels_nil_inv hc
  subst this
  simp only [J, V.rel] at k0 k1 k3 k4 k5 k6 k7 k8 k9
  have ecs : cs = patC kv := Array.toList_inj.1 (by rw [d0, d1, d2, d3, d4, d5, d6, d7, d8, d9, k0, k1, k3, k4, k5, k6, k7, k8, k9]; rfl)
  rw [ecs] at hC
  have hliveT : ∀ p ∈ names treeO, ∃ o, (Ev.hp waitA).get p = some o ∧ o ≠ .dead := fun p hp => by
    obtain ⟨i, hi, rfl⟩ := names_tree p hp
    simp only [List.mem_cons, List.not_mem_nil, or_false] at hi
    rcases hi with rfl | rfl | rfl | rfl <;> exact ⟨_, by rfl, by simp⟩
  have hmd : mapA ≠ .dead := by unfold mapA; simp
  refine ⟨_, _, _, _, _, _, _, kv, rfl, hC, ⟨ι3, hL3.hok.ro tree_ro, kids_same hL hL3 (by rfl) (by rfl) (hid3 _ (by decide +kernel)) k2, fun p hp => ?_, fun p b s hpb => ?_⟩, fun b hb => ?_, hb⟩
  · exact hL3.dom p hp
  · have hm := hL3.dom p (by rw [hpb]; simp)
    have hpi : ι p = some (b, s) := by rw [← hid3 p hm]; exact hpb
    obtain ⟨o', h1, h2⟩ := hliveT p hm
    refine ⟨hnew b ⟨p, s, ⟨o', h1, h2⟩, hpi⟩, hL3.hok.lt p b s hpb, fun hin => ?_⟩
    have key : ∀ (q : Pth) (o : O), (Ev.hp waitA).get q = some o → o ≠ .dead → ι q = some (bk ι q, 0) → q ∉ names treeO → b ≠ bk ι q := fun q o hq ho hqb hn e => by
      subst e
      exact hn (hL.hok.inj p q _ s 0 ⟨o', h1, h2⟩ ⟨o, hq, ho⟩ hpi hqb ▸ hm)
    simp only [List.mem_cons, List.not_mem_nil, or_false] at hin
    rcases hin with e | e | e | e | e | e | e
    · exact key _ _ g40 (by simp) (hL.bkc g40) (by decide +kernel) e
    · exact key _ _ g42 hmd (hL.bkm (p := nm 42) g42) (by decide +kernel) e
    · exact key _ _ g44 (by simp) (hL.bkc g44) (by decide +kernel) e
    · exact key _ _ g43 (by simp) (hL.bkc g43) (by decide +kernel) e
    · exact key _ _ g45 (by simp) (hL.bkc g45) (by decide +kernel) e
    · exact key _ _ g46 (by simp) (hL.bkc g46) (by decide +kernel) e
    · exact key _ _ g47 (by simp) (hL.bkc g47) (by decide +kernel) e
  · simp only [List.mem_cons, List.not_mem_nil, or_false] at hb
    rcases hb with rfl | rfl | rfl | rfl | rfl | rfl | rfl
    · exact hnew _ ⟨_, 0, ⟨_, g40, by simp⟩, hL.bkc g40⟩
    · exact hnew _ ⟨_, 0, ⟨_, g42, hmd⟩, hL.bkm (p := nm 42) g42⟩
    · exact hnew _ ⟨_, 0, ⟨_, g44, by simp⟩, hL.bkc g44⟩
    · exact hnew _ ⟨_, 0, ⟨_, g43, by simp⟩, hL.bkc g43⟩
    · exact hnew _ ⟨_, 0, ⟨_, g45, by simp⟩, hL.bkc g45⟩
    · exact hnew _ ⟨_, 0, ⟨_, g46, by simp⟩, hL.bkc g46⟩
    · exact hnew _ ⟨_, 0, ⟨_, g47, by simp⟩, hL.bkc g47⟩
end
end Go.Proofs.YtahmcjdddcbhnaaGreatDoor
namespace Go.Proofs.YtahmcjdddcbhnaaGreatDoor
open Go Go.Ev Go.RowKit Go.Imap

/-- what the rule of a connection does: it flows (bytes held, symbols so far), it waits, it is out -/
inductive St where
  | flow (held : List UInt8) (L : Nat)
  | wait
  | out
/-- a piece of text -/
inductive StepD : St → List UInt8 → List (Int × Int) → St → Prop where
  | good {held Y : List UInt8} {S : List Nat} {r : List UInt8} {L : Nat} : Utf.Prs (held ++ Y) S r → Utf.Stop r → (r = [] ∨ Utf.one r = .more) → StepD (.flow held L) Y (nxp (hits L S)) (.flow r (L + S.length))
  | bad {held Y : List UInt8} {S : List Nat} {r : List UInt8} {L : Nat} : Utf.Prs (held ++ Y) S r → r ≠ [] → Utf.one r = .bad → StepD (.flow held L) Y [(-1, -1)] .out
  | wait {Y : List UInt8} : StepD .wait Y [] .wait
  | out {Y : List UInt8} : StepD .out Y [] .out
/-- the end -/
inductive StepE : St → List UInt8 → List (Int × Int) → Prop where
  | flow {X : List UInt8} {L : Nat} : StepE (.flow [] L) X []
  | held {X held : List UInt8} {L : Nat} : held ≠ [] → StepE (.flow held L) X [(-1, -1)]
  | good {X : List UInt8} {S : List Nat} : Utf.Prs X S [] → StepE .wait X (nxp (hits 0 S))
  | bad {X : List UInt8} {S : List Nat} {r : List UInt8} : Utf.Prs X S r → Utf.Stop r → r ≠ [] → StepE .wait X [(-1, -1)]
  | out {X : List UInt8} : StepE .out X []
/-- its control blocks -/
def Ks (g cm cb vb mb ub ab : Nat) : List Nat := [g, cm, cb, vb, mb, ub, ab]
structure FilB (w : World) (g cm cb vb mb ub ab : Nat) (tk : Int) (wl W : Value) (X : List UInt8) : Prop where
  fil : ∃ m1, Cel w g #[.int .i64 1048576, .int .i64 10, .int .i64 tk, .int .i64 0, m1, .map (some cm)]
  cmap : IMap w cm fun u => if u = 1 then some (.pointer (some ⟨cb, 0, none⟩)) else none
  con : ∃ ac, Cel w cb #[.int .i64 0, .pointer (some ⟨vb, 0, none⟩), wl, .slice (some ⟨ab, 0, none⟩) 1 ac]
  ver : w.cell? ⟨vb, 0, none⟩ = some (.pointer (some ⟨mb, 0, none⟩))
  wat : w.cell? ⟨ab, 0, none⟩ = some W
  lt : ∀ b ∈ Ks g cm cb vb mb ub ab, 3 ≤ b ∧ b < w.heap.size
  dis : (Ks g cm cb vb mb ub ab).Nodup
  row : ∃ B0, B0 ≤ w.heap.size ∧ w.ownsRow B0 5 1 wl X.length (bv X)
  wK : ∀ b, wl.ownBlock = some b → b ∉ Ks g cm cb vb mb ub ab ∧ 3 ≤ b
/-- the watch's own blocks -/
def TOk (w : World) (K : List Nat) (wl : Value) (T : Nat → Prop) : Prop := ∀ b, T b → b ∉ K ∧ b < w.heap.size ∧ 3 ≤ b ∧ wl.ownBlock ≠ some b
/-- all its blocks -/
def Fp (K : List Nat) (wl : Value) (T : Nat → Prop) (b : Nat) : Prop := b ∈ K ∨ T b ∨ wl.ownBlock = some b
def FilS (w : World) (g : Nat) (FS : Nat → Prop) (X : List UInt8) (tk : Int) : St → Prop
  | .flow held L => ∃ cm cb vb mb ub ab tm wl bb sb m ι hv, FS = Fp (Ks g cm cb vb mb ub ab) wl (BFU bb m ι hv) ∧ FilB w g cm cb vb mb ub ab tk wl (flowV bb) X ∧ TOk w (Ks g cm cb vb mb ub ab) wl (BFU bb m ι hv) ∧ w.frozen? ⟨ab, 0, none⟩ = false ∧ MtC w mb ub 1048576 10 tm (X.length : Int) ∧ (0 ≤ tm ∧ tm ≤ tk) ∧ BytU w bb sb m (L : Int) ι hv held
  | .wait => ∃ cm cb vb mb ub ab tm wl kv T, FS = Fp (Ks g cm cb vb mb ub ab) wl T ∧ FilB w g cm cb vb mb ub ab tk wl (.iface 155 (.agg (patC kv))) X ∧ TOk w (Ks g cm cb vb mb ub ab) wl T ∧ w.frozen? ⟨ab, 0, none⟩ = false ∧ MtC w mb ub 1048576 10 tm 0 ∧ (0 ≤ tm ∧ tm ≤ tk) ∧ PatAt w kv T
  | .out => ∃ cm cb vb mb ub ab wl, FS = Fp (Ks g cm cb vb mb ub ab) wl (fun _ => False) ∧ FilB w g cm cb vb mb ub ab tk wl .nilIface X
section
variable {w w' : World} {g cm cb vb mb ub ab : Nat} {tk : Int} {wl W : Value} {X : List UInt8} {F : Nat → Prop}
theorem ks_mem : g ∈ Ks g cm cb vb mb ub ab ∧ cm ∈ Ks g cm cb vb mb ub ab ∧ cb ∈ Ks g cm cb vb mb ub ab ∧ vb ∈ Ks g cm cb vb mb ub ab ∧ mb ∈ Ks g cm cb vb mb ub ab ∧ ub ∈ Ks g cm cb vb mb ub ab ∧ ab ∈ Ks g cm cb vb mb ub ab := by simp [Ks]
theorem FilB.chg (h : FilB w g cm cb vb mb ub ab tk wl W X) (hc : Chg F w w') (hf : ∀ b, (b = g ∨ b = cm ∨ b = cb ∨ b = vb ∨ b = ab ∨ wl.ownBlock = some b) → ¬ F b) : FilB w' g cm cb vb mb ub ab tk wl W X := by
  obtain ⟨k1, k2, k3, k4, k5, k6, k7⟩ := @ks_mem g cm cb vb mb ub ab
  obtain ⟨m1, h1⟩ := h.fil
  obtain ⟨ac, h3⟩ := h.con
  obtain ⟨B0, h4, h5⟩ := h.row
  exact ⟨⟨m1, h1.chg hc (hf g (.inl rfl))⟩, h.cmap.same (hc.block cm (h.lt cm k2).2 (hf cm (.inr (.inl rfl)))), ⟨ac, h3.chg hc (hf cb (.inr (.inr (.inl rfl))))⟩,
    (hc.cell (p := ⟨vb, 0, none⟩) (h.lt vb k4).2 (hf vb (.inr (.inr (.inr (.inl rfl)))))).trans h.ver, (hc.cell (p := ⟨ab, 0, none⟩) (h.lt ab k7).2 (hf ab (.inr (.inr (.inr (.inr (.inl rfl))))))).trans h.wat,
    fun b hb => ⟨(h.lt b hb).1, Nat.lt_of_lt_of_le (h.lt b hb).2 hc.size⟩, h.dis, ⟨B0, Nat.le_trans h4 hc.size, row_chg h5 hc fun b hb => hf b (.inr (.inr (.inr (.inr (.inr hb)))))⟩, h.wK⟩
theorem TOk.chg {K : List Nat} {T : Nat → Prop} (h : TOk w K wl T) (hc : Chg F w w') : TOk w' K wl T := fun b hb => ⟨(h b hb).1, Nat.lt_of_lt_of_le (h b hb).2.1 hc.size, (h b hb).2.2⟩
theorem FilS.chg {FS : Nat → Prop} {st : St} (h : FilS w g FS X tk st) (hc : Chg F w w') (hf : ∀ b, FS b → ¬ F b) : FilS w' g FS X tk st := by
  have hK : ∀ {cm cb vb mb ub ab : Nat} {wl : Value} {T : Nat → Prop}, FS = Fp (Ks g cm cb vb mb ub ab) wl T → (∀ b ∈ Ks g cm cb vb mb ub ab, ¬ F b) ∧ (∀ b, T b → ¬ F b) ∧ ∀ b, wl.ownBlock = some b → ¬ F b := fun e =>
    ⟨fun b hb => hf b (by rw [e]; exact .inl hb), fun b hb => hf b (by rw [e]; exact .inr (.inl hb)), fun b hb => hf b (by rw [e]; exact .inr (.inr hb))⟩
  have hB : ∀ {cm cb vb mb ub ab : Nat} {wl : Value}, (∀ b ∈ Ks g cm cb vb mb ub ab, ¬ F b) → (∀ b, wl.ownBlock = some b → ¬ F b) → ∀ b, (b = g ∨ b = cm ∨ b = cb ∨ b = vb ∨ b = ab ∨ wl.ownBlock = some b) → ¬ F b := by
    intro cm cb vb mb ub ab wl h1 h2 b hb
    obtain ⟨k1, k2, k3, k4, k5, k6, k7⟩ := @ks_mem g cm cb vb mb ub ab
    rcases hb with rfl | rfl | rfl | rfl | rfl | hb
    · exact h1 _ k1
    · exact h1 _ k2
    · exact h1 _ k3
    · exact h1 _ k4
    · exact h1 _ k7
    · exact h2 b hb
  cases st with
  | flow held L =>
    obtain ⟨cm, cb, vb, mb, ub, ab, tm, wl, bb, sb, m, ι, hv, e, h1, h2, h3, h4, h5, h6⟩ := h
    obtain ⟨f1, f2, f3⟩ := hK e
    obtain ⟨k1, k2, k3, k4, k5, k6, k7⟩ := @ks_mem g cm cb vb mb ub ab
    exact ⟨cm, cb, vb, mb, ub, ab, tm, wl, bb, sb, m, ι, hv, e, h1.chg hc (hB f1 f3), h2.chg hc, (hc.frozen (p := ⟨ab, 0, none⟩) (h1.lt ab k7).2 (f1 ab k7)).trans h3, h4.chg hc (f1 mb k5) (f1 ub k6), h5, h6.chg hc f2⟩
  | wait =>
    obtain ⟨cm, cb, vb, mb, ub, ab, tm, wl, kv, T, e, h1, h2, h3, h4, h5, h6⟩ := h
    obtain ⟨f1, f2, f3⟩ := hK e
    obtain ⟨k1, k2, k3, k4, k5, k6, k7⟩ := @ks_mem g cm cb vb mb ub ab
    exact ⟨cm, cb, vb, mb, ub, ab, tm, wl, kv, T, e, h1.chg hc (hB f1 f3), h2.chg hc, (hc.frozen (p := ⟨ab, 0, none⟩) (h1.lt ab k7).2 (f1 ab k7)).trans h3, h4.chg hc (f1 mb k5) (f1 ub k6), h5, h6.chg hc f2⟩
  | out =>
    obtain ⟨cm, cb, vb, mb, ub, ab, wl, e, h1⟩ := h
    obtain ⟨f1, f2, f3⟩ := hK e
    exact ⟨cm, cb, vb, mb, ub, ab, wl, e, h1.chg hc (hB f1 f3)⟩
theorem FilS.lt {FS : Nat → Prop} {st : St} (h : FilS w g FS X tk st) {b : Nat} (hb : FS b) : 3 ≤ b ∧ b < w.heap.size := by
  have hK : ∀ {cm cb vb mb ub ab : Nat} {wl W : Value} {T : Nat → Prop}, FS = Fp (Ks g cm cb vb mb ub ab) wl T → FilB w g cm cb vb mb ub ab tk wl W X → (∀ b, T b → b < w.heap.size ∧ 3 ≤ b) → 3 ≤ b ∧ b < w.heap.size := fun e h1 h2 => by
    rw [e] at hb
    rcases hb with hb | hb | hb
    · exact h1.lt b hb
    · exact ⟨(h2 b hb).2, (h2 b hb).1⟩
    · obtain ⟨B0, h4, h5⟩ := h1.row
      exact ⟨(h1.wK b hb).2, (World.ownsRow.lt h5 b hb).2⟩
  cases st with
  | flow held L =>
    obtain ⟨cm, cb, vb, mb, ub, ab, tm, wl, bb, sb, m, ι, hv, e, h1, h2, h3, h4, h5, h6⟩ := h
    exact hK e h1 fun b hb => ⟨(h2 b hb).2.1, (h2 b hb).2.2.1⟩
  | wait =>
    obtain ⟨cm, cb, vb, mb, ub, ab, tm, wl, kv, T, e, h1, h2, h3, h4, h5, h6⟩ := h
    exact hK e h1 fun b hb => ⟨(h2 b hb).2.1, (h2 b hb).2.2.1⟩
  | out =>
    obtain ⟨cm, cb, vb, mb, ub, ab, wl, e, h1⟩ := h
    exact hK e h1 fun b hb => hb.elim
end
end Go.Proofs.YtahmcjdddcbhnaaGreatDoor
namespace Go.Proofs.YtahmcjdddcbhnaaGreatDoor
open Go Go.Ev Go.RowKit Go.Imap

/-- what a piece leaves -/
def DPost (w : World) (g : Nat) (FS : Nat → Prop) (X Y : List UInt8) (st : St) (v : Value) (w' : World) : Prop :=
  ∃ out FS' st', Sees w' 3 v (fndV out) ∧ FilS w' g FS' (X ++ Y) 1 st' ∧ Chg FS w w' ∧ (∀ b, FS' b → FS b ∨ w.heap.size ≤ b) ∧ StepD st Y out st' ∧ ∀ b, Value.leads v = some b → ¬ FS' b
section
variable {w W5 : World} {g cm cb vb mb ub ab : Nat} {tk : Int} {wl W : Value} {X Y : List UInt8} {A4 : Option Addr} {c4 B0 : Nat} {ac : Nat}
def kat (g cm cb vb mb ub ab : Nat) : Nat → Nat
  | 0 => g
  | 1 => cm
  | 2 => cb
  | 3 => vb
  | 4 => mb
  | 5 => ub
  | _ => ab
theorem kat_eq : ∀ (i : Nat) (hi : i < (Ks g cm cb vb mb ub ab).length), (Ks g cm cb vb mb ub ab)[i] = kat g cm cb vb mb ub ab i
  | 0, _ => rfl
  | 1, _ => rfl
  | 2, _ => rfl
  | 3, _ => rfl
  | 4, _ => rfl
  | 5, _ => rfl
  | 6, _ => rfl
  | n + 7, h => absurd (show n + 7 < 7 from h) (by omega)
theorem ks_ne (h : (Ks g cm cb vb mb ub ab).Nodup) (i j : Nat) (hi : i < 7) (hj : j < 7) (hij : i ≠ j) : kat g cm cb vb mb ub ab i ≠ kat g cm cb vb mb ub ab j := by
  have hp := List.pairwise_iff_getElem.1 h
  have li : i < (Ks g cm cb vb mb ub ab).length := hi
  have lj : j < (Ks g cm cb vb mb ub ab).length := hj
  rw [← kat_eq i li, ← kat_eq j lj]
  rcases Nat.lt_or_gt_of_ne hij with e | e
  · exact hp i j li lj e
  · exact fun h => hp j i lj li e h.symm
/-- the filter behind the piece's append -/
theorem fil5 (h : FilB w g cm cb vb mb ub ab tk wl W X) (hrow : W5.ownsRow B0 5 1 (.slice A4 (X.length + Y.length) c4) (X.length + Y.length) (bv (X ++ Y))) (hB0 : B0 ≤ w.heap.size) (h1 : ∃ m1, Cel W5 g #[.int .i64 1048576, .int .i64 10, .int .i64 1, .int .i64 0, m1, .map (some cm)])
    (h2 : IMap W5 cm fun u => if u = 1 then some (.pointer (some ⟨cb, 0, none⟩)) else none) (h3 : Cel W5 cb #[.int .i64 0, .pointer (some ⟨vb, 0, none⟩), .slice A4 (X.length + Y.length) c4, .slice (some ⟨ab, 0, none⟩) 1 ac])
    (hown : (Value.slice A4 (X.length + Y.length) c4).ownBlock = wl.ownBlock ∨ ∃ q, (Value.slice A4 (X.length + Y.length) c4).ownBlock = some q ∧ w.heap.size ≤ q) (hC : Chg (fun b => b = g ∨ b = cb ∨ wl.ownBlock = some b) w W5) :
    FilB W5 g cm cb vb mb ub ab 1 (.slice A4 (X.length + Y.length) c4) W (X ++ Y) := by
  obtain ⟨k1, k2, k3, k4, k5, k6, k7⟩ := @ks_mem g cm cb vb mb ub ab
  have hne := ks_ne h.dis
  have hvg : vb ≠ g := hne 3 0 (by decide) (by decide) (by decide)
  have hvc : vb ≠ cb := hne 3 2 (by decide) (by decide) (by decide)
  have hag : ab ≠ g := hne 6 0 (by decide) (by decide) (by decide)
  have hac : ab ≠ cb := hne 6 2 (by decide) (by decide) (by decide)
  refine ⟨h1, h2, ⟨ac, h3⟩, (hC.cell (p := ⟨vb, 0, none⟩) (h.lt vb k4).2 fun e => ?_).trans h.ver, (hC.cell (p := ⟨ab, 0, none⟩) (h.lt ab k7).2 fun e => ?_).trans h.wat, fun b hb => ⟨(h.lt b hb).1, Nat.lt_of_lt_of_le (h.lt b hb).2 hC.size⟩, h.dis, ⟨B0, Nat.le_trans hB0 hC.size, by rw [List.length_append]; exact hrow⟩, fun b hb => ?_⟩
  · rcases e with e | e | e
    · exact hvg e
    · exact hvc e
    · exact (h.wK _ e).1 k4
  · rcases e with e | e | e
    · exact hag e
    · exact hac e
    · exact (h.wK _ e).1 k7
  · rcases hown with e | ⟨q, e, hq⟩
    · exact h.wK b (e.symm.trans hb)
    · rw [e] at hb
      cases hb
      refine ⟨fun hm => ?_, ?_⟩
      · have := (h.lt _ hm).2
        omega
      · have := h.lt g k1
        omega
end
section
variable {w : World} {g pA n pc : Nat} {tk : Int} {X Y held : List UInt8} {FS : Nat → Prop} {S : List Nat} {r : List UInt8} {L : Nat} {pv : Value}
set_option maxHeartbeats 8000000 in
theorem data_flow {A : Option Addr} (hT : Tabs w) (hFo : Forms w) (h : FilS w g FS X tk (.flow held L)) (ht : 0 ≤ tk ∧ tk ≤ 1) (hp : Sees w 1 (.slice A n pc) (bv Y)) (hpl : ∀ b, Value.leads (.slice A n pc) = some b → ¬ FS b) (hlen : X.length + Y.length ≤ 1000) (hlen2 : (held ++ Y).length ≤ 1000)
    (hprs : Utf.Prs (held ++ Y) S r) (hs : Utf.Stop r) (hS : S.length ≤ 24) (hL : L ≤ 900) :
    Calls Tryz.prog 21 #[.pointer (some ⟨g, 0, none⟩), .int .i64 1, .slice A n pc, .int .i64 1] w fun e w' => ∃ v, e = .returned (.tuple #[v, .int .i64 0]) ∧ (∃ a b c, v = .slice a b c) ∧ DPost w g FS X Y (.flow held L) v w' := by
  obtain ⟨cm, cb, vb, mb, ub, ab, tm, wl, bb, sb, m, ι, hv, rfl, h1, h2, h3, h4, h5, h6⟩ := h
  obtain ⟨k1, k2, k3, k4, k5, k6, k7⟩ := @ks_mem g cm cb vb mb ub ab
  have hne := ks_ne h1.dis
  have hcg : cb ≠ g := hne 2 0 (by decide) (by decide) (by decide)
  have hmg : mb ≠ g := hne 4 0 (by decide) (by decide) (by decide)
  have hmc : mb ≠ cb := hne 4 2 (by decide) (by decide) (by decide)
  have hug : ub ≠ g := hne 5 0 (by decide) (by decide) (by decide)
  have huc : ub ≠ cb := hne 5 2 (by decide) (by decide) (by decide)
  obtain ⟨m1, hfil⟩ := h1.fil
  obtain ⟨ac, hcon⟩ := h1.con
  obtain ⟨B0, hB0, hrow⟩ := h1.row
  obtain ⟨wA, wc, rfl, -⟩ := row_form hrow
  have hYn : Y.length = n := by
    obtain ⟨A', n', c', e, k, -⟩ := hp
    cases e
    rw [bv_len] at k
    omega
  subst hYn
  have hmk : ∀ b, MFt mb ub b → b ∈ Ks g cm cb vb mb ub ab := fun b hb => by rcases hb with rfl | rfl; exact k5; exact k6
  have hFU : ∀ b, FUt mb ub bb m ι hv b → Fp (Ks g cm cb vb mb ub ab) (.slice wA X.length wc) (BFU bb m ι hv) b := fun b hb => hb.elim (fun h => .inl (hmk b h)) fun h => .inr (.inl h)
  have hF3 : ∀ b, b < 3 → ¬ FUt mb ub bb m ι hv b := fun b hb hf => by
    rcases hf with hf | hf
    · have := (h1.lt b (hmk b hf)).1; omega
    · have := (h2 b hf).2.2.1; omega
  have hBM : ∀ b, BFU bb m ι hv b → ¬ MFt mb ub b := fun b hb hm => (h2 b hb).1 (hmk b hm)
  have hw3 := (h1.lt g k1)
  refine (qdata_gen (s := 1) (t := 1) (R := fun v w' => (∃ a b c, v = .slice a b c) ∧ DPost w g (Fp (Ks g cm cb vb mb ub ab) (.slice wA X.length wc) (BFU bb m ι hv)) X Y (.flow held L) v w') hfil h1.cmap (by decide) (by rw [if_pos rfl]) ⟨by omega, by omega, by omega⟩ hcon hrow rfl hB0 hp rfl (by omega) hcg (fun e => (h1.wK g e).1 k1) (fun e => (h1.wK cb e).1 k3) (fun b hb e => hpl b hb (.inl (by rw [e]; exact k1))) ?_).mono ?_
  · intro W5 A4 c4 f1 f2 f3 f4 f5 f6 f7 f8 f9
    have g5 := fil5 (W := flowV bb) h1 f4 hB0 ⟨m1, f1⟩ f2 f3 f5 f6
    have hchgK : ∀ b, b ∈ Ks g cm cb vb mb ub ab → b ≠ g → b ≠ cb → ¬ (b = g ∨ b = cb ∨ (Value.slice wA X.length wc).ownBlock = some b) := fun b hb e1 e2 e => by
      rcases e with e | e | e
      · exact e1 e
      · exact e2 e
      · exact (h1.wK b e).1 hb
    have hchgT : ∀ b, BFU bb m ι hv b → ¬ (b = g ∨ b = cb ∨ (Value.slice wA X.length wc).ownBlock = some b) := fun b hb e => by
      have hh := h2 b hb
      rcases e with e | e | e
      · exact hh.1 (by rw [e]; exact k1)
      · exact hh.1 (by rw [e]; exact k3)
      · exact hh.2.2.2 e
    have hlow : ∀ b, b < 3 → ¬ (b = g ∨ b = cb ∨ (Value.slice wA X.length wc).ownBlock = some b) := fun b hb e => by
      rcases e with e | e | e
      · have := (h1.lt g k1).1; omega
      · have := (h1.lt cb k3).1; omega
      · have := (h1.wK b e).2; omega
    have hT5 := hT.chg f6 (hlow 1 (by omega)) (hlow 2 (by omega))
    have hFo5 := hFo.chg f6 (hlow 0 (by omega))
    have hM5 := h4.chg f6 (hchgK mb k5 hmg hmc) (hchgK ub k6 hug huc)
    have hBy5 := h6.chg f6 hchgT
    have hp5 : Sees W5 1 (.slice A Y.length pc) (bv Y) := hp.chg f6 fun b hb e => hpl b hb (by
      rcases e with e | e | e
      · exact .inl (by rw [e]; exact k1)
      · exact .inl (by rw [e]; exact k3)
      · exact .inr (.inr e))
    have hfr5 : W5.frozen? ⟨ab, 0, none⟩ = false := (f6.frozen (p := ⟨ab, 0, none⟩) (h1.lt ab k7).2 (hchgK ab k7 (hne 6 0 (by decide) (by decide) (by decide)) (hne 6 2 (by decide) (by decide) (by decide)))).trans h3
    have hus : usedAt 10 tm (X.length : Int) 1 = (X.length : Int) := by
      unfold usedAt fresh
      have : tm = 0 ∨ tm = 1 := by omega
      rcases this with rfl | rfl <;> simp
    have hlT : ∀ b, FUt mb ub bb m ι hv b → b < W5.heap.size := fun b hb => by
      have := f6.size
      rcases hb with hb | hb
      · have := (h1.lt b (hmk b hb)).2; omega
      · have := (h2 b hb).2.1; omega
    have hdo := fun w1 (hb : Below W5.heap.size W5 w1) => data1U (sh := 1048576) (v := .slice A Y.length pc) sorted_ok (hT5.below hb) (hFo5.below hb) hF3 (hM5.bel hb) (hBy5.bel hb) hBM (t := 1) ⟨by omega, by omega⟩ (hp5.bel hb) (fun b hb' hm => hpl b hb' (.inl (hmk b hm))) rfl hlen2 hprs hs hS (by omega) (by rw [hus]; omega) ((hb.cell (p := ⟨w.heap.size, 0, none⟩) f8).trans f7) (Nat.lt_of_lt_of_le f8 hb.size)
    -- what a change of the rule's blocks and of new ones leaves
    have hcarry : ∀ w', Chg (FUt mb ub bb m ι hv) W5 w' → FilB w' g cm cb vb mb ub ab 1 (.slice A4 (X.length + Y.length) c4) (flowV bb) (X ++ Y) := fun w' hC => g5.chg hC fun b hb hf => by
      have hbk : b ≠ mb ∧ b ≠ ub ∧ ¬ BFU bb m ι hv b := by
        rcases hb with rfl | rfl | rfl | rfl | rfl | hb
        · exact ⟨hne 0 4 (by decide) (by decide) (by decide), hne 0 5 (by decide) (by decide) (by decide), fun e => (h2 _ e).1 k1⟩
        · exact ⟨hne 1 4 (by decide) (by decide) (by decide), hne 1 5 (by decide) (by decide) (by decide), fun e => (h2 _ e).1 k2⟩
        · exact ⟨hne 2 4 (by decide) (by decide) (by decide), hne 2 5 (by decide) (by decide) (by decide), fun e => (h2 _ e).1 k3⟩
        · exact ⟨hne 3 4 (by decide) (by decide) (by decide), hne 3 5 (by decide) (by decide) (by decide), fun e => (h2 _ e).1 k4⟩
        · exact ⟨hne 6 4 (by decide) (by decide) (by decide), hne 6 5 (by decide) (by decide) (by decide), fun e => (h2 _ e).1 k7⟩
        · have hk := (g5.wK b hb).1
          refine ⟨fun e => hk (by rw [e]; exact k5), fun e => hk (by rw [e]; exact k6), fun e => ?_⟩
          rcases f5 with e5 | ⟨q, e5, hq⟩
          · exact (h2 b e).2.2.2 (e5.symm.trans hb)
          · rw [e5] at hb
            cases hb
            have := (h2 _ e).2.1
            omega
      rcases hf with (hf | hf) | hf
      · exact hbk.1 hf
      · exact hbk.2.1 hf
      · exact hbk.2.2 hf
    have hfs : ∀ b, b < w.heap.size → (b = g ∨ b = cb ∨ (Value.slice wA X.length wc).ownBlock = some b) → Fp (Ks g cm cb vb mb ub ab) (.slice wA X.length wc) (BFU bb m ι hv) b := fun b _ e => by
      rcases e with e | e | e
      · exact .inl (by rw [e]; exact k1)
      · exact .inl (by rw [e]; exact k3)
      · exact .inr (.inr e)
    have hown5 : ∀ b, (Value.slice A4 (X.length + Y.length) c4).ownBlock = some b → (Value.slice wA X.length wc).ownBlock = some b ∨ w.heap.size ≤ b := fun b hb => by
      rcases f5 with e5 | ⟨q, e5, hq⟩
      · exact .inl (e5.symm.trans hb)
      · rw [e5] at hb; cases hb; exact .inr hq
    have hown5l : ∀ b, (Value.slice A4 (X.length + Y.length) c4).ownBlock = some b → b < W5.heap.size := fun b hb => (World.ownsRow.lt f4 b hb).2
    have habl := (h1.lt ab k7).2
    have hz5 := f6.size
    by_cases hbad : r ≠ [] ∧ Utf.one r = .bad
    · refine (ask_out_data (q := w.heap.size) (t := 1) (G := FUt mb ub bb m ι hv) (X := fun _ _ => True) f3 g5.wat hfr5 (Nat.lt_of_lt_of_le habl hz5) g5.ver (Nat.lt_of_lt_of_le (h1.lt vb k4).2 hz5) (fun V => by kernel_rfl) hlT
        (fun hf => by rcases hf with (hf | hf) | hf; exact hmc hf.symm; exact huc hf.symm; exact (h2 _ hf).1 k3) (fun hf => by rcases hf with (hf | hf) | hf; exact hne 6 4 (by decide) (by decide) (by decide) hf; exact hne 6 5 (by decide) (by decide) (by decide) hf; exact (h2 _ hf).1 k7) fun w1 hb1 _ => ?_).mono ?_
      · exact (hdo w1 hb1).mono fun e w' he => ⟨(he.2 hbad.1 hbad.2).1, (he.2 hbad.1 hbad.2).2, trivial⟩
      · rintro e w' ⟨v, rfl, hvf, hse, w1, w2, hb1, hz1, -, hC2, hC3, hnil, hlv⟩
        refine ⟨v, rfl, hvf, hvf, [(-1, -1)], Fp (Ks g cm cb vb mb ub ab) (.slice A4 (X.length + Y.length) c4) (fun _ => False), .out, hse, ⟨cm, cb, vb, mb, ub, ab, _, rfl, ?_⟩, ?_, fun b hb => ?_, .bad hprs hbad.1 hbad.2, fun b hb e => ?_⟩
        · have hC12 : Chg (FUt mb ub bb m ι hv) W5 w2 := (Chg.of_below hb1).trans hC2 fun _ _ h => h
          have b2 := hcarry w2 hC12
          have hz2 := hC12.size
          obtain ⟨m1', hf'⟩ := b2.fil
          obtain ⟨ac', hc'⟩ := b2.con
          obtain ⟨B0', hB', hr'⟩ := b2.row
          have hno : ∀ b, b ∈ Ks g cm cb vb mb ub ab → b ≠ ab → ¬ (b = W5.heap.size ∨ b = ab) := fun b hb e1 e => by
            rcases e with e | e
            · have := (g5.lt b hb).2; omega
            · exact e1 e
          refine ⟨⟨m1', hf'.chg hC3 (hno g k1 (hne 0 6 (by decide) (by decide) (by decide)))⟩, b2.cmap.same (hC3.block cm (b2.lt cm k2).2 (hno cm k2 (hne 1 6 (by decide) (by decide) (by decide)))), ⟨ac', hc'.chg hC3 (hno cb k3 (hne 2 6 (by decide) (by decide) (by decide)))⟩,
            (hC3.cell (p := ⟨vb, 0, none⟩) (b2.lt vb k4).2 (hno vb k4 (hne 3 6 (by decide) (by decide) (by decide)))).trans b2.ver, hnil, fun b hb => ⟨(b2.lt b hb).1, Nat.lt_of_lt_of_le (b2.lt b hb).2 hC3.size⟩, b2.dis, ⟨B0', Nat.le_trans hB' hC3.size, row_chg hr' hC3 fun b hb e => ?_⟩, b2.wK⟩
          rcases e with e | e
          · have := hown5l b hb; omega
          · exact (g5.wK b hb).1 (by rw [e]; exact k7)
        · have j5 : Chg (Fp (Ks g cm cb vb mb ub ab) (.slice wA X.length wc) (BFU bb m ι hv)) w W5 := f6.more hfs
          have j2 := (j5.trans (Chg.of_below (F := fun _ => False) hb1) fun _ _ h => h.elim).trans hC2 fun i _ h => hFU i h
          exact j2.trans hC3 fun i hi e => by
            rcases e with e | e
            · omega
            · exact .inl (by rw [e]; exact k7)
        · rcases hb with hb | hb | hb
          · exact .inl (.inl hb)
          · exact hb.elim
          · rcases hown5 b hb with h | h
            · exact .inl (.inr (.inr h))
            · exact .inr h
        · have hlb := hlv b hb
          have hz2 := ((Chg.of_below (F := FUt mb ub bb m ι hv) hb1).trans hC2 fun _ _ h => h).size
          rcases e with e | e | e
          · have := (g5.lt b e).2; omega
          · exact e.elim
          · have := hown5l b e; omega
    · have hok : r = [] ∨ Utf.one r = .more := by
        by_cases hr : r = []
        · exact .inl hr
        · right
          cases ho : Utf.one r with
          | more => rfl
          | bad => exact absurd ⟨hr, ho⟩ hbad
          | ok c k =>
            rcases hs with e | e
            · exact absurd e hr
            · exact absurd ho (e c k)
      have hhl := hits_len S (L : Int)
      refine (ask_ok_data (q := w.heap.size) (t := 1) (ρ := hits (L : Int) S) (G := FUt mb ub bb m ι hv) (X := fun w1 u w2 => FedU w1 mb ub bb sb m ι hv 1048576 10 1 (usedAt 10 tm (X.length : Int) 1 + (Y.length : Int)) ((L : Int) + (S.length : Int)) r w2) f3 g5.wat (Nat.lt_of_lt_of_le habl hz5) g5.ver (Nat.lt_of_lt_of_le (h1.lt vb k4).2 hz5) (fun V => by kernel_rfl) hlT (by omega) fun w1 hb1 _ => ?_).mono ?_
      · refine (hdo w1 hb1).mono fun e w' he => ?_
        obtain ⟨u, e1, e2, e3, e4, e5⟩ := he.1 hok
        exact ⟨u, e1, e3, e4.chg, e5, e4⟩
      · rintro e w' ⟨v, rfl, hvf, hse, w1, u, w2, hb1, hz1, hFed, hC2, hC3, hlv⟩
        obtain ⟨σ2, ι2, hv2, hBy2, hft2⟩ := hFed.byt
        have hC12 : Chg (FUt mb ub bb m ι hv) W5 w2 := (Chg.of_below hb1).trans hC2 fun _ _ h => h
        have hC : Chg (FUt mb ub bb m ι hv) W5 w' := hC12.trans hC3 fun i hi e => absurd e (by omega)
        have hz2 := hC12.size
        have hft2' : ∀ b, BFU bb (some σ2) ι2 hv2 b → b ≠ W5.heap.size := fun b hb e => by
          rcases hft2 b hb with h | h
          · have := (h2 b h).2.1; omega
          · omega
        have hmm : ∀ b, MFt mb ub b → b ≠ W5.heap.size := fun b hb e => by have := (h1.lt b (hmk b hb)).2; omega
        refine ⟨v, rfl, hvf, hvf, nxp (hits (L : Int) S), Fp (Ks g cm cb vb mb ub ab) (.slice A4 (X.length + Y.length) c4) (BFU bb (some σ2) ι2 hv2), .flow r (L + S.length), hse, ⟨cm, cb, vb, mb, ub, ab, 1, _, bb, sb, some σ2, ι2, hv2, rfl, hcarry w' hC, fun b hb => ?_, ?_, ?_, ⟨by omega, by omega⟩, ?_⟩, ?_, fun b hb => ?_, .good hprs hs hok, fun b hb e => ?_⟩
        · have hl := hBy2.lt hb
          have hl' : b < w'.heap.size := Nat.lt_of_lt_of_le hl hC3.size
          rcases hft2 b hb with h | h
          · have hh := h2 b h
            refine ⟨hh.1, hl', hh.2.2.1, fun e => ?_⟩
            rcases hown5 b e with e' | e'
            · exact hh.2.2.2 e'
            · omega
          · refine ⟨fun hm => ?_, hl', ?_, fun e => ?_⟩
            · have := (h1.lt b hm).2; omega
            · omega
            · have := hown5l b e; omega
        · exact (hC.frozen (p := ⟨ab, 0, none⟩) (Nat.lt_of_lt_of_le habl hz5) (fun hf => by rcases hf with (hf | hf) | hf; exact hne 6 4 (by decide) (by decide) (by decide) hf; exact hne 6 5 (by decide) (by decide) (by decide) hf; exact (h2 _ hf).1 k7)).trans hfr5
        · have := hFed.met.chg hC3 (hmm mb (.inl rfl)) (hmm ub (.inr rfl))
          rw [hus] at this
          rw [List.length_append]
          exact this
        · exact hBy2.chg hC3 hft2'
        · have j5 : Chg (Fp (Ks g cm cb vb mb ub ab) (.slice wA X.length wc) (BFU bb m ι hv)) w W5 := f6.more hfs
          exact j5.trans hC fun i _ h => hFU i h
        · rcases hb with hb | hb | hb
          · exact .inl (.inl hb)
          · rcases hft2 b hb with h | h
            · exact .inl (.inr (.inl h))
            · exact .inr (by omega)
          · rcases hown5 b hb with h | h
            · exact .inl (.inr (.inr h))
            · exact .inr h
        · have hlb := hlv b hb
          rcases e with e | e | e
          · have := (g5.lt b e).2; omega
          · have := hBy2.lt e; omega
          · have := hown5l b e; omega
  · rintro e w' ⟨v, rfl, hvf, hD⟩
    exact ⟨v, rfl, hvf, hD⟩
end
end Go.Proofs.YtahmcjdddcbhnaaGreatDoor
namespace Go.Proofs.YtahmcjdddcbhnaaGreatDoor
open Go Go.Ev Go.RowKit Go.Imap

section
variable {w : World} {g n pc : Nat} {tk : Int} {X Y held : List UInt8} {FS : Nat → Prop} {A : Option Addr}
set_option maxHeartbeats 8000000 in
theorem data_wait (h : FilS w g FS X tk .wait) (ht : 0 ≤ tk ∧ tk ≤ 1) (hp : Sees w 1 (.slice A n pc) (bv Y)) (hpl : ∀ b, Value.leads (.slice A n pc) = some b → ¬ FS b) (hlen : X.length + Y.length ≤ 1000) :
    Calls Tryz.prog 21 #[.pointer (some ⟨g, 0, none⟩), .int .i64 1, .slice A n pc, .int .i64 1] w fun e w' => ∃ v, e = .returned (.tuple #[v, .int .i64 0]) ∧ (∃ a b c, v = .slice a b c) ∧ DPost w g FS X Y .wait v w' := by
  obtain ⟨cm, cb, vb, mb, ub, ab, tm, wl, kv, T, rfl, h1, h2, h3, h4, h5, h6⟩ := h
  obtain ⟨k1, k2, k3, k4, k5, k6, k7⟩ := @ks_mem g cm cb vb mb ub ab
  have hne := ks_ne h1.dis
  have hcg : cb ≠ g := hne 2 0 (by decide) (by decide) (by decide)
  obtain ⟨m1, hfil⟩ := h1.fil
  obtain ⟨ac, hcon⟩ := h1.con
  obtain ⟨B0, hB0, hrow⟩ := h1.row
  obtain ⟨wA, wc, rfl, -⟩ := row_form hrow
  have hYn : Y.length = n := by
    obtain ⟨A', n', c', e, k, -⟩ := hp
    cases e
    rw [bv_len] at k
    omega
  subst hYn
  refine (qdata_gen (s := 1) (t := 1) (R := fun v w' => (∃ a b c, v = .slice a b c) ∧ DPost w g (Fp (Ks g cm cb vb mb ub ab) (.slice wA X.length wc) T) X Y .wait v w') hfil h1.cmap (by decide) (by rw [if_pos rfl]) ⟨by omega, by omega, by omega⟩ hcon hrow rfl hB0 hp rfl (by omega) hcg (fun e => (h1.wK g e).1 k1) (fun e => (h1.wK cb e).1 k3) (fun b hb e => hpl b hb (.inl (by rw [e]; exact k1))) ?_).mono ?_
  · intro W5 A4 c4 f1 f2 f3 f4 f5 f6 f7 f8 f9
    have g5 := fil5 (W := .iface 155 (.agg (patC kv))) h1 f4 hB0 ⟨m1, f1⟩ f2 f3 f5 f6
    have hchgK : ∀ b, b ∈ Ks g cm cb vb mb ub ab → b ≠ g → b ≠ cb → ¬ (b = g ∨ b = cb ∨ (Value.slice wA X.length wc).ownBlock = some b) := fun b hb e1 e2 e => by
      rcases e with e | e | e
      · exact e1 e
      · exact e2 e
      · exact (h1.wK b e).1 hb
    have hchgT : ∀ b, T b → ¬ (b = g ∨ b = cb ∨ (Value.slice wA X.length wc).ownBlock = some b) := fun b hb e => by
      have hh := h2 b hb
      rcases e with e | e | e
      · exact hh.1 (by rw [e]; exact k1)
      · exact hh.1 (by rw [e]; exact k3)
      · exact hh.2.2.2 e
    have hM5 := h4.chg f6 (hchgK mb k5 (hne 4 0 (by decide) (by decide) (by decide)) (hne 4 2 (by decide) (by decide) (by decide))) (hchgK ub k6 (hne 5 0 (by decide) (by decide) (by decide)) (hne 5 2 (by decide) (by decide) (by decide)))
    have hP5 := h6.chg f6 hchgT
    have hfr5 : W5.frozen? ⟨ab, 0, none⟩ = false := (f6.frozen (p := ⟨ab, 0, none⟩) (h1.lt ab k7).2 (hchgK ab k7 (hne 6 0 (by decide) (by decide) (by decide)) (hne 6 2 (by decide) (by decide) (by decide)))).trans h3
    have hfs : ∀ b, b < w.heap.size → (b = g ∨ b = cb ∨ (Value.slice wA X.length wc).ownBlock = some b) → Fp (Ks g cm cb vb mb ub ab) (.slice wA X.length wc) T b := fun b _ e => by
      rcases e with e | e | e
      · exact .inl (by rw [e]; exact k1)
      · exact .inl (by rw [e]; exact k3)
      · exact .inr (.inr e)
    have hown5 : ∀ b, (Value.slice A4 (X.length + Y.length) c4).ownBlock = some b → (Value.slice wA X.length wc).ownBlock = some b ∨ w.heap.size ≤ b := fun b hb => by
      rcases f5 with e5 | ⟨q, e5, hq⟩
      · exact .inl (e5.symm.trans hb)
      · rw [e5] at hb; cases hb; exact .inr hq
    have habl := (h1.lt ab k7).2
    have hz5 := f6.size
    refine (ask_ok_data (q := w.heap.size) (t := 1) (ρ := []) (G := fun _ => False) (X := fun _ _ _ => True) f3 g5.wat (Nat.lt_of_lt_of_le habl hz5) g5.ver (Nat.lt_of_lt_of_le (h1.lt vb k4).2 hz5) (fun V => by unfold patC; kernel_rfl) (fun b hb => hb.elim) (by simp) fun w1 hb1 _ => ?_).mono ?_
    · refine (data1W (v := .slice A Y.length pc) ⟨_, _, _, rfl⟩ ((hb1.cell (p := ⟨w.heap.size, 0, none⟩) f8).trans f7) (Nat.lt_of_lt_of_le f8 hb1.size)).mono fun e w' he => ?_
      exact ⟨_, he.1, ⟨none, 0, 0, rfl, rfl, Nat.le_refl _, fun e => absurd rfl e⟩, Chg.of_below he.2, fun g hg => (by cases hg), trivial⟩
    · rintro e w' ⟨v, rfl, hvf, hse, w1, u, w2, hb1, hz1, -, hC2, hC3, hlv⟩
      have hC : Chg (fun _ => False) W5 w' := ((Chg.of_below hb1).trans hC2 fun _ _ h => h).trans hC3 fun i hi e => absurd e (by omega)
      refine ⟨v, rfl, hvf, hvf, [], Fp (Ks g cm cb vb mb ub ab) (.slice A4 (X.length + Y.length) c4) T, .wait, hse, ⟨cm, cb, vb, mb, ub, ab, tm, _, kv, T, rfl, g5.chg hC (fun _ _ h => h), fun b hb => ?_, (hC.frozen (p := ⟨ab, 0, none⟩) (Nat.lt_of_lt_of_le habl hz5) (fun h => h)).trans hfr5, hM5.chg hC (fun h => h) (fun h => h), ⟨by omega, by omega⟩, hP5.chg hC fun _ _ h => h⟩, (f6.more hfs).trans hC fun _ _ h => h.elim, fun b hb => ?_, .wait, fun b hb e => ?_⟩
      · have hh := h2 b hb
        refine ⟨hh.1, Nat.lt_of_lt_of_le hh.2.1 (Nat.le_trans hz5 hC.size), hh.2.2.1, fun e => ?_⟩
        rcases hown5 b e with e' | e'
        · exact hh.2.2.2 e'
        · omega
      · rcases hb with hb | hb | hb
        · exact .inl (.inl hb)
        · exact .inl (.inr (.inl hb))
        · rcases hown5 b hb with h | h
          · exact .inl (.inr (.inr h))
          · exact .inr h
      · have hlb := hlv b hb
        have hz2 := ((Chg.of_below (F := fun _ => False) hb1).trans hC2 fun _ _ h => h).size
        rcases e with e | e | e
        · have := (g5.lt b e).2; omega
        · have := (h2 b e).2.1; omega
        · have := (World.ownsRow.lt f4 b e).2; omega
  · rintro e w' ⟨v, rfl, hvf, hD⟩
    exact ⟨v, rfl, hvf, hD⟩
set_option maxHeartbeats 8000000 in
theorem data_out (h : FilS w g FS X tk .out) (ht : 0 ≤ tk ∧ tk ≤ 1) (hp : Sees w 1 (.slice A n pc) (bv Y)) (hpl : ∀ b, Value.leads (.slice A n pc) = some b → ¬ FS b) (hlen : X.length + Y.length ≤ 1000) :
    Calls Tryz.prog 21 #[.pointer (some ⟨g, 0, none⟩), .int .i64 1, .slice A n pc, .int .i64 1] w fun e w' => ∃ v, e = .returned (.tuple #[v, .int .i64 0]) ∧ (∃ a b c, v = .slice a b c) ∧ DPost w g FS X Y .out v w' := by
  obtain ⟨cm, cb, vb, mb, ub, ab, wl, rfl, h1⟩ := h
  obtain ⟨k1, k2, k3, k4, k5, k6, k7⟩ := @ks_mem g cm cb vb mb ub ab
  have hne := ks_ne h1.dis
  have hcg : cb ≠ g := hne 2 0 (by decide) (by decide) (by decide)
  obtain ⟨m1, hfil⟩ := h1.fil
  obtain ⟨ac, hcon⟩ := h1.con
  obtain ⟨B0, hB0, hrow⟩ := h1.row
  obtain ⟨wA, wc, rfl, -⟩ := row_form hrow
  have hYn : Y.length = n := by
    obtain ⟨A', n', c', e, k, -⟩ := hp
    cases e
    rw [bv_len] at k
    omega
  subst hYn
  refine (qdata_gen (s := 1) (t := 1) (R := fun v w' => (∃ a b c, v = .slice a b c) ∧ DPost w g (Fp (Ks g cm cb vb mb ub ab) (.slice wA X.length wc) (fun _ => False)) X Y .out v w') hfil h1.cmap (by decide) (by rw [if_pos rfl]) ⟨by omega, by omega, by omega⟩ hcon hrow rfl hB0 hp rfl (by omega) hcg (fun e => (h1.wK g e).1 k1) (fun e => (h1.wK cb e).1 k3) (fun b hb e => hpl b hb (.inl (by rw [e]; exact k1))) ?_).mono ?_
  · intro W5 A4 c4 f1 f2 f3 f4 f5 f6 f7 f8 f9
    have g5 := fil5 (W := .nilIface) h1 f4 hB0 ⟨m1, f1⟩ f2 f3 f5 f6
    have hz5 := f6.size
    refine (ask_nil_data (q := w.heap.size) (t := 1) f3 g5.wat (Nat.lt_of_lt_of_le (h1.lt ab k7).2 hz5)).mono ?_
    rintro e w' ⟨rfl, hb⟩
    refine ⟨_, rfl, ⟨_, _, _, rfl⟩, ⟨_, _, _, rfl⟩, [], Fp (Ks g cm cb vb mb ub ab) (.slice A4 (X.length + Y.length) c4) (fun _ => False), .out, ⟨none, 0, 0, rfl, rfl, Nat.le_refl _, fun e => absurd rfl e⟩, ⟨cm, cb, vb, mb, ub, ab, _, rfl, g5.chg (F := fun _ => False) (Chg.of_below hb) fun _ _ h => h⟩, (f6.more fun b _ e => ?_).trans (Chg.of_below (F := fun _ => False) hb) fun _ _ h => h.elim, fun b hb => ?_, .out, fun b hb => (by cases hb)⟩
    · rcases e with e | e | e
      · exact .inl (by rw [e]; exact k1)
      · exact .inl (by rw [e]; exact k3)
      · exact .inr (.inr e)
    · rcases hb with hb | hb | hb
      · exact .inl (.inl hb)
      · exact hb.elim
      · rcases f5 with e5 | ⟨q, e5, hq⟩
        · exact .inl (.inr (.inr (e5.symm.trans hb)))
        · rw [e5] at hb; cases hb; exact .inr hq
  · rintro e w' ⟨v, rfl, hvf, hD⟩
    exact ⟨v, rfl, hvf, hD⟩
/-- what the end leaves -/
def EPost (w : World) (FS : Nat → Prop) (X : List UInt8) (st : St) (v : Value) (w' : World) : Prop := ∃ out, Sees w' 3 v (fndV out) ∧ Chg FS w w' ∧ StepE st X out ∧ ∀ b, Value.leads v = some b → w.heap.size ≤ b
set_option maxHeartbeats 8000000 in
theorem end_flow {L : Nat} (h : FilS w g FS X tk (.flow held L)) (ht : 0 ≤ tk ∧ tk ≤ 1) :
    Calls Tryz.prog 22 #[.pointer (some ⟨g, 0, none⟩), .int .i64 1, .int .i64 1] w fun e w' => ∃ v, e = .returned (.tuple #[v, .int .i64 0]) ∧ (∃ a b c, v = .slice a b c) ∧ EPost w FS X (.flow held L) v w' := by
  obtain ⟨cm, cb, vb, mb, ub, ab, tm, wl, bb, sb, m, ι, hv, rfl, h1, h2, h3, h4, h5, h6⟩ := h
  obtain ⟨k1, k2, k3, k4, k5, k6, k7⟩ := @ks_mem g cm cb vb mb ub ab
  have hne := ks_ne h1.dis
  obtain ⟨m1, hfil⟩ := h1.fil
  obtain ⟨ac, hcon⟩ := h1.con
  obtain ⟨B0, hB0, hrow⟩ := h1.row
  obtain ⟨wA, wc, rfl, -⟩ := row_form hrow
  refine (qend_gen (s := 1) (t := 1) (R := fun v w' => (∃ a b c, v = .slice a b c) ∧ EPost w (Fp (Ks g cm cb vb mb ub ab) (.slice wA X.length wc) (BFU bb m ι hv)) X (.flow held L) v w') hfil h1.cmap (by decide) (by rw [if_pos rfl]) ⟨by omega, by omega, by omega⟩ hcon (hne 2 0 (by decide) (by decide) (by decide)) ?_).mono ?_
  · intro W2 f3 f6 f7 f8
    have hno : ∀ b, b ∈ Ks g cm cb vb mb ub ab → b ≠ g → b ≠ cm → ¬ (b = g ∨ b = cm) := fun b _ e1 e2 e => e.elim e1 e2
    have hnT : ∀ b, BFU bb m ι hv b → ¬ (b = g ∨ b = cm) := fun b hb e => (h2 b hb).1 (e.elim (fun e => by rw [e]; exact k1) fun e => by rw [e]; exact k2)
    have hB2 := h6.chg f6 hnT
    have hz := f6.size
    have habl := (h1.lt ab k7).2
    have hvl := (h1.lt vb k4).2
    have ha2 := (f6.cell (p := ⟨ab, 0, none⟩) habl (hno ab k7 (hne 6 0 (by decide) (by decide) (by decide)) (hne 6 1 (by decide) (by decide) (by decide)))).trans h1.wat
    have hv2 := (f6.cell (p := ⟨vb, 0, none⟩) hvl (hno vb k4 (hne 3 0 (by decide) (by decide) (by decide)) (hne 3 1 (by decide) (by decide) (by decide)))).trans h1.ver
    have hf2 := (f6.frozen (p := ⟨ab, 0, none⟩) habl (hno ab k7 (hne 6 0 (by decide) (by decide) (by decide)) (hne 6 1 (by decide) (by decide) (by decide)))).trans h3
    have hGl : ∀ b, foot ι (shU m) b → b < W2.heap.size := fun b hb => hB2.str.lt hb
    have hfT : ∀ b, foot ι (shU m) b → BFU bb m ι hv b := fun b hb => .inr (.inl hb)
    have c2 := f3.at' 2
    simp at c2
    have hcl := f3.lt
    have hdo := fun w1 (hb : Below W2.heap.size W2 w1) => end1U (mb := mb) (t := 1) (q := w.heap.size) (cb := cb) (u := .slice wA X.length wc) (hB2.bel hb) ((hb.cell (p := ⟨w.heap.size, 0, none⟩) f8).trans f7) (Nat.lt_of_lt_of_le f8 hb.size) ((hb.cell (p := ⟨cb, 2, none⟩) hcl).trans c2) (Nat.lt_of_lt_of_le hcl hb.size) ⟨_, _, _, rfl⟩
      (fun hf => by have := (h2 _ (hfT _ hf)).2.1; omega) (fun hf => (h2 _ (hfT _ hf)).1 k3)
    have hfs : Chg (Fp (Ks g cm cb vb mb ub ab) (.slice wA X.length wc) (BFU bb m ι hv)) w W2 := f6.more fun b _ e => .inl (e.elim (fun e => by rw [e]; exact k1) fun e => by rw [e]; exact k2)
    by_cases hh : held = []
    · subst hh
      refine (ask_ok_end (q := w.heap.size) (t := 1) (ρ := []) (G := foot ι (shU m)) (X := fun _ _ _ => True) f3 ha2 (Nat.lt_of_lt_of_le habl hz) hv2 (Nat.lt_of_lt_of_le hvl hz) (fun V => by kernel_rfl) hGl (by simp) fun w1 hb1 _ => ?_).mono ?_
      · refine (hdo w1 hb1).mono fun e w' he => ?_
        exact ⟨_, he.1, ⟨none, 0, 0, rfl, rfl, Nat.le_refl _, fun e => absurd rfl e⟩, he.2, fun g hg => (by cases hg), trivial⟩
      · rintro e w' ⟨v, rfl, hvf, hse, w1, u, w2, hb1, hz1, -, hC2, hC3, hlv⟩
        exact ⟨v, rfl, hvf, hvf, [], hse, ((hfs.trans (Chg.of_below (F := fun _ => False) hb1) fun _ _ h => h.elim).trans hC2 fun i _ h => .inr (.inl (hfT i h))).trans hC3 fun i hi e => absurd e (by omega), .flow, fun b hb => by have h1 := hlv b hb; have h2 := hb1.size; have h3 := hC2.size; have h4 := f6.size; omega⟩
    · refine (ask_out_end (q := w.heap.size) (t := 1) (G := foot ι (shU m)) (X := fun _ _ => True) f3 ha2 hf2 (Nat.lt_of_lt_of_le habl hz) hv2 (Nat.lt_of_lt_of_le hvl hz) (fun V => by kernel_rfl) hGl (fun hf => (h2 _ (hfT _ hf)).1 k3) (fun hf => (h2 _ (hfT _ hf)).1 k7) fun w1 hb1 _ => ?_).mono ?_
      · refine (hdo w1 hb1).mono fun e w' he => ?_
        have hd : decide (held = []) = false := decide_eq_false hh
        rw [hd] at he
        exact ⟨he.1, he.2, trivial⟩
      · rintro e w' ⟨v, rfl, hvf, hse, w1, w2, hb1, hz1, -, hC2, hC3, -, hlv⟩
        exact ⟨v, rfl, hvf, hvf, [(-1, -1)], hse, ((hfs.trans (Chg.of_below (F := fun _ => False) hb1) fun _ _ h => h.elim).trans hC2 fun i _ h => .inr (.inl (hfT i h))).trans hC3 fun i hi e => by
          rcases e with e | e
          · omega
          · exact .inl (by rw [e]; exact k7), .held hh, fun b hb => by have h1 := hlv b hb; have h2 := hb1.size; have h3 := hC2.size; have h4 := f6.size; omega⟩
  · rintro e w' ⟨v, rfl, hvf, hD⟩
    exact ⟨v, rfl, hvf, hD⟩
set_option maxHeartbeats 8000000 in
theorem end_out (h : FilS w g FS X tk .out) (ht : 0 ≤ tk ∧ tk ≤ 1) :
    Calls Tryz.prog 22 #[.pointer (some ⟨g, 0, none⟩), .int .i64 1, .int .i64 1] w fun e w' => ∃ v, e = .returned (.tuple #[v, .int .i64 0]) ∧ (∃ a b c, v = .slice a b c) ∧ EPost w FS X .out v w' := by
  obtain ⟨cm, cb, vb, mb, ub, ab, wl, rfl, h1⟩ := h
  obtain ⟨k1, k2, k3, k4, k5, k6, k7⟩ := @ks_mem g cm cb vb mb ub ab
  have hne := ks_ne h1.dis
  obtain ⟨m1, hfil⟩ := h1.fil
  obtain ⟨ac, hcon⟩ := h1.con
  refine (qend_gen (s := 1) (t := 1) (R := fun v w' => (∃ a b c, v = .slice a b c) ∧ EPost w (Fp (Ks g cm cb vb mb ub ab) wl (fun _ => False)) X .out v w') hfil h1.cmap (by decide) (by rw [if_pos rfl]) ⟨by omega, by omega, by omega⟩ hcon (hne 2 0 (by decide) (by decide) (by decide)) ?_).mono ?_
  · intro W2 f3 f6 f7 f8
    have hz := f6.size
    have habl := (h1.lt ab k7).2
    have ha2 := (f6.cell (p := ⟨ab, 0, none⟩) habl (fun e => e.elim (hne 6 0 (by decide) (by decide) (by decide)) (hne 6 1 (by decide) (by decide) (by decide)))).trans h1.wat
    refine (ask_nil_end (q := w.heap.size) (t := 1) f3 ha2 (Nat.lt_of_lt_of_le habl hz)).mono ?_
    rintro e w' ⟨rfl, hb⟩
    exact ⟨_, rfl, ⟨_, _, _, rfl⟩, ⟨_, _, _, rfl⟩, [], ⟨none, 0, 0, rfl, rfl, Nat.le_refl _, fun e => absurd rfl e⟩, (f6.more fun b _ e => .inl (e.elim (fun e => by rw [e]; exact k1) fun e => by rw [e]; exact k2)).trans (Chg.of_below (F := fun _ => False) hb) fun _ _ h => h.elim, .out, fun b hb => (by cases hb)⟩
  · rintro e w' ⟨v, rfl, hvf, hD⟩
    exact ⟨v, rfl, hvf, hD⟩
set_option maxHeartbeats 8000000 in
theorem end_wait {S : List Nat} {r : List UInt8} (hrun : RunOk) (hFo : Forms w) (h : FilS w g FS X tk .wait) (ht : 0 ≤ tk ∧ tk ≤ 1) (hlen : X.length ≤ 1000) (hprs : Utf.Prs X S r) (hs : Utf.Stop r) :
    Calls Tryz.prog 22 #[.pointer (some ⟨g, 0, none⟩), .int .i64 1, .int .i64 1] w fun e w' => ∃ v, e = .returned (.tuple #[v, .int .i64 0]) ∧ (∃ a b c, v = .slice a b c) ∧ EPost w FS X .wait v w' := by
  obtain ⟨cm, cb, vb, mb, ub, ab, tm, wl, kv, T, rfl, h1, h2, h3, h4, h5, h6⟩ := h
  obtain ⟨k1, k2, k3, k4, k5, k6, k7⟩ := @ks_mem g cm cb vb mb ub ab
  have hne := ks_ne h1.dis
  obtain ⟨m1, hfil⟩ := h1.fil
  obtain ⟨ac, hcon⟩ := h1.con
  obtain ⟨B0, hB0, hrow⟩ := h1.row
  obtain ⟨wA, wc, rfl, -⟩ := row_form hrow
  refine (qend_gen (s := 1) (t := 1) (R := fun v w' => (∃ a b c, v = .slice a b c) ∧ EPost w (Fp (Ks g cm cb vb mb ub ab) (.slice wA X.length wc) T) X .wait v w') hfil h1.cmap (by decide) (by rw [if_pos rfl]) ⟨by omega, by omega, by omega⟩ hcon (hne 2 0 (by decide) (by decide) (by decide)) ?_).mono ?_
  · intro W2 f3 f6 f7 f8
    have hno : ∀ b, b ∈ Ks g cm cb vb mb ub ab → b ≠ g → b ≠ cm → ¬ (b = g ∨ b = cm) := fun b _ e1 e2 e => e.elim e1 e2
    have hnT : ∀ b, T b → ¬ (b = g ∨ b = cm) := fun b hb e => (h2 b hb).1 (e.elim (fun e => by rw [e]; exact k1) fun e => by rw [e]; exact k2)
    have hP2 := h6.chg f6 hnT
    have hz := f6.size
    have habl := (h1.lt ab k7).2
    have hvl := (h1.lt vb k4).2
    have ha2 := (f6.cell (p := ⟨ab, 0, none⟩) habl (hno ab k7 (hne 6 0 (by decide) (by decide) (by decide)) (hne 6 1 (by decide) (by decide) (by decide)))).trans h1.wat
    have hv2 := (f6.cell (p := ⟨vb, 0, none⟩) hvl (hno vb k4 (hne 3 0 (by decide) (by decide) (by decide)) (hne 3 1 (by decide) (by decide) (by decide)))).trans h1.ver
    have hf2 := (f6.frozen (p := ⟨ab, 0, none⟩) habl (hno ab k7 (hne 6 0 (by decide) (by decide) (by decide)) (hne 6 1 (by decide) (by decide) (by decide)))).trans h3
    have hM2 := h4.chg f6 (hno mb k5 (hne 4 0 (by decide) (by decide) (by decide)) (hne 4 1 (by decide) (by decide) (by decide))) (hno ub k6 (hne 5 0 (by decide) (by decide) (by decide)) (hne 5 1 (by decide) (by decide) (by decide)))
    have hF2 := hFo.chg f6 (fun e => e.elim (fun e => by have := (h1.lt g k1).1; omega) fun e => by have := (h1.lt cm k2).1; omega)
    have hX2 : Sees W2 1 (.slice wA X.length wc) (bv X) := (Sees.row hrow).chg f6 fun b hb e => by
      have hw := h1.wK b (leads_own hrow hb)
      exact hw.1 (e.elim (fun e => by rw [e]; exact k1) fun e => by rw [e]; exact k2)
    have hmk : ∀ b, MFt mb ub b → b ∈ Ks g cm cb vb mb ub ab := fun b hb => by rcases hb with rfl | rfl; exact k5; exact k6
    have hGl : ∀ b, MFt mb ub b → b < W2.heap.size := fun b hb => by have := (h1.lt b (hmk b hb)).2; omega
    have hmc : ¬ MFt mb ub cb := fun e => e.elim (fun e => hne 4 2 (by decide) (by decide) (by decide) e.symm) fun e => hne 5 2 (by decide) (by decide) (by decide) e.symm
    have hma : ¬ MFt mb ub ab := fun e => e.elim (fun e => hne 4 6 (by decide) (by decide) (by decide) e.symm) fun e => hne 5 6 (by decide) (by decide) (by decide) e.symm
    have hus : usedAt 10 tm 0 1 = 0 := by unfold usedAt; split <;> rfl
    have c2 := f3.at' 2
    simp at c2
    have hcl := f3.lt
    have hfs : Chg (Fp (Ks g cm cb vb mb ub ab) (.slice wA X.length wc) T) w W2 := f6.more fun b _ e => .inl (e.elim (fun e => by rw [e]; exact k1) fun e => by rw [e]; exact k2)
    have hmw : ¬ MFt mb ub w.heap.size := fun e => by have := (h1.lt _ (hmk _ e)).2; omega
    by_cases hh : r = []
    · subst hh
      have hdo := fun w1 (hb : Below W2.heap.size W2 w1) => end1W (mb := mb) (ub := ub) (kv := kv) (t := 1) (q := w.heap.size) (cb := cb) (u := .slice wA X.length wc) (R := fun v o wa w' => o = true ∧ Sees w' 2 v (pairsV (hits 0 S)) ∧ ∀ g, Value.leads v = some g → wa.heap.size ≤ g) ((hb.cell (p := ⟨w.heap.size, 0, none⟩) f8).trans f7) (Nat.lt_of_lt_of_le f8 hb.size) ((hb.cell (p := ⟨cb, 2, none⟩) hcl).trans c2) (Nat.lt_of_lt_of_le hcl hb.size) ⟨_, _, _, rfl⟩ hmw hmc (fun b hb' => Nat.lt_of_lt_of_le (hGl b hb') hb.size)
        (fun w3 hb3 => (waitend_good (X := X) (S := S) hrun ((hF2.below hb).below hb3) ((hM2.bel hb).bel hb3) ((hP2.bel hb).bel hb3) ((hX2.bel hb).bel hb3) hlen hprs (t := 1) ⟨by omega, by omega⟩ (by rw [hus]; omega)).mono fun e w' he => by
          obtain ⟨u, e1, e2, e3, e4, e5⟩ := he
          exact ⟨u, true, e1, e2, e4, rfl, e3, e5⟩)
      have hhl := hits_len S 0
      have hpl := hprs.len
      refine (ask_ok_end (q := w.heap.size) (t := 1) (ρ := hits 0 S) (G := MFt mb ub) (X := fun _ _ _ => True) f3 ha2 (Nat.lt_of_lt_of_le habl hz) hv2 (Nat.lt_of_lt_of_le hvl hz) (fun V => by unfold patC; kernel_rfl) hGl (by simp at hpl; omega) fun w1 hb1 _ => ?_).mono ?_
      · refine (hdo w1 hb1).mono fun e w' he => ?_
        obtain ⟨v, o, wa, e1, e2, e3, ⟨rfl, e4, e5⟩, e6⟩ := he
        have := e3.size
        exact ⟨v, e1, e4, e6, fun g hg => .inr (by have := e5 g hg; omega), trivial⟩
      · rintro e w' ⟨v, rfl, hvf, hse, w1, u, w2, hb1, hz1, -, hC2, hC3, hlv⟩
        exact ⟨v, rfl, hvf, hvf, nxp (hits 0 S), hse, ((hfs.trans (Chg.of_below (F := fun _ => False) hb1) fun _ _ h => h.elim).trans hC2 fun i _ h => .inl (hmk i h)).trans hC3 fun i hi e => absurd e (by omega), .good hprs, fun b hb => by have h1 := hlv b hb; have h2 := hb1.size; have h3 := hC2.size; have h4 := f6.size; omega⟩
    · have hdo := fun w1 (hb : Below W2.heap.size W2 w1) => end1W (mb := mb) (ub := ub) (kv := kv) (t := 1) (q := w.heap.size) (cb := cb) (u := .slice wA X.length wc) (R := fun v o wa w' => o = false ∧ v = .slice none 0 0) ((hb.cell (p := ⟨w.heap.size, 0, none⟩) f8).trans f7) (Nat.lt_of_lt_of_le f8 hb.size) ((hb.cell (p := ⟨cb, 2, none⟩) hcl).trans c2) (Nat.lt_of_lt_of_le hcl hb.size) ⟨_, _, _, rfl⟩ hmw hmc (fun b hb' => Nat.lt_of_lt_of_le (hGl b hb') hb.size)
        (fun w3 hb3 => (waitend_bad (X := X) (S := S) (r := r) ((hF2.below hb).below hb3) ((hM2.bel hb).bel hb3) ((hX2.bel hb).bel hb3) hlen hprs hs hh (t := 1) ⟨by omega, by omega⟩).mono fun e w' he => ⟨_, false, he.1, ⟨_, _, _, rfl⟩, Chg.of_below he.2, rfl, rfl⟩)
      refine (ask_out_end (q := w.heap.size) (t := 1) (G := MFt mb ub) (X := fun _ _ => True) f3 ha2 hf2 (Nat.lt_of_lt_of_le habl hz) hv2 (Nat.lt_of_lt_of_le hvl hz) (fun V => by unfold patC; kernel_rfl) hGl hmc hma fun w1 hb1 _ => ?_).mono ?_
      · refine (hdo w1 hb1).mono fun e w' he => ?_
        obtain ⟨v, o, wa, e1, e2, e3, ⟨rfl, rfl⟩, e6⟩ := he
        exact ⟨e1, e6, trivial⟩
      · rintro e w' ⟨v, rfl, hvf, hse, w1, w2, hb1, hz1, -, hC2, hC3, -, hlv⟩
        exact ⟨v, rfl, hvf, hvf, [(-1, -1)], hse, ((hfs.trans (Chg.of_below (F := fun _ => False) hb1) fun _ _ h => h.elim).trans hC2 fun i _ h => .inl (hmk i h)).trans hC3 fun i hi e => by
          rcases e with e | e
          · omega
          · exact .inl (by rw [e]; exact k7), .bad hprs hs hh, fun b hb => by have h1 := hlv b hb; have h2 := hb1.size; have h3 := hC2.size; have h4 := f6.size; omega⟩
  · rintro e w' ⟨v, rfl, hvf, hD⟩
    exact ⟨v, rfl, hvf, hD⟩
end
end Go.Proofs.YtahmcjdddcbhnaaGreatDoor
namespace Go.Utf
theorem Prs.cmp {x : List UInt8} {S1 : List Nat} {r1 : List UInt8} (h1 : Prs x S1 r1) : ∀ {S2 : List Nat} {r2 : List UInt8}, Prs x S2 r2 → (∃ S', S2 = S1 ++ S' ∧ Prs r1 S' r2) ∨ (∃ S', S1 = S2 ++ S' ∧ Prs r2 S' r1) := by
  induction h1 with
  | nil b => exact fun {S2 r2} h2 => .inl ⟨S2, rfl, h2⟩
  | @cons b c k S r hb ho h ih =>
    intro S2 r2 h2
    cases h2 with
    | nil => exact .inr ⟨c :: S, rfl, .cons hb ho h⟩
    | cons hb' ho' h' =>
      rw [ho] at ho'
      cases ho'
      rcases ih h' with ⟨S', e, hp⟩ | ⟨S', e, hp⟩
      · exact .inl ⟨S', by rw [e]; rfl, hp⟩
      · exact .inr ⟨S', by rw [e]; rfl, hp⟩
theorem Prs.few {b raw X Z : List UInt8} {Sb S : List Nat} {r : List UInt8} (hb : Prs b Sb []) (hSb : Sb.length ≤ 20) (hraw : raw.length ≤ 4) (hall : b ++ raw = X ++ Z) (h : Prs X S r) : S.length ≤ 24 := by
  have h1 : Prs (b ++ raw) Sb ([] ++ raw) := hb.app
  have h2 : Prs (b ++ raw) S (r ++ Z) := by rw [hall]; exact h.app
  rcases h2.cmp h1 with ⟨S', e, -⟩ | ⟨S', e, hp⟩
  · rw [e, List.length_append] at hSb; omega
  · have := hp.len
    rw [e, List.length_append]
    simp at this
    omega
end Go.Utf
namespace Go.Proofs.YtahmcjdddcbhnaaGreatDoor
open Go Go.Ev Go.RowKit Go.Imap

/-- what holds between the pieces -/
def InvS (wt : Bool) (X : List UInt8) (st : St) (out : List (Int × Int)) : Prop :=
  match st with
  | .flow held L => wt = false ∧ ∃ S, Utf.Prs X S held ∧ Utf.Stop held ∧ (held = [] ∨ Utf.one held = .more) ∧ L = S.length ∧ out = nxp (hits 0 S)
  | .wait => wt = true ∧ out = []
  | .out => wt = false ∧ ∃ S r o, Utf.Prs X S r ∧ r ≠ [] ∧ Utf.one r = .bad ∧ out = o ++ [(-1, -1)]
theorem nxp_app (a b : List Int) : nxp (a ++ b) = nxp a ++ nxp b := List.map_append
theorem inv_step {wt : Bool} {X Y : List UInt8} {st st' : St} {out o : List (Int × Int)} (h : InvS wt X st out) (hs : StepD st Y o st') : InvS wt (X ++ Y) st' (out ++ o) := by
  cases hs with
  | @good held Y S r L hp hst hm =>
    obtain ⟨h0, S0, h1, h2, h3, h4, h5⟩ := h
    refine ⟨h0, S0 ++ S, h1.app.trans hp, hst, hm, by rw [h4, List.length_append], ?_⟩
    rw [h5, hits_app, nxp_app, h4]
    simp
  | @bad held Y S r L hp hr hb =>
    obtain ⟨h0, S0, h1, h2, h3, h4, h5⟩ := h
    exact ⟨h0, S0 ++ S, r, out, h1.app.trans hp, hr, hb, rfl⟩
  | wait =>
    obtain ⟨h0, h1⟩ := h
    exact ⟨h0, by rw [h1]; rfl⟩
  | out =>
    obtain ⟨h0, S, r, q, h1, h2, h3, h4⟩ := h
    refine ⟨h0, S, r ++ Y, q, h1.app, by simp [h2], ?_, by rw [h4, List.append_nil]⟩
    rw [Utf.one_app h2 (by rw [h3]; intro e; cases e), h3]
/-- what is told of the whole text -/
def Tells38 (X : List UInt8) (out : List (Int × Int)) : Prop := ∃ S r, Utf.Prs X S r ∧ Utf.Stop r ∧ ((r = [] ∧ out = nxp (hits 0 S)) ∨ (r ≠ [] ∧ ∃ q, out = q ++ [(-1, -1)]))
theorem inv_end {wt : Bool} {X : List UInt8} {st : St} {out o : List (Int × Int)} (h : InvS wt X st out) (hs : StepE st X o) : Tells38 X (out ++ o) := by
  cases hs with
  | flow =>
    obtain ⟨h0, S0, h1, h2, h3, h4, h5⟩ := h
    exact ⟨S0, [], h1, h2, .inl ⟨rfl, by rw [h5, List.append_nil]⟩⟩
  | held hh =>
    obtain ⟨h0, S0, h1, h2, h3, h4, h5⟩ := h
    exact ⟨S0, _, h1, h2, .inr ⟨hh, out, rfl⟩⟩
  | good hp =>
    obtain ⟨h0, h1⟩ := h
    exact ⟨_, _, hp, .inl rfl, .inl ⟨rfl, by rw [h1]; rfl⟩⟩
  | bad hp hst hr =>
    obtain ⟨h0, h1⟩ := h
    exact ⟨_, _, hp, hst, .inr ⟨hr, out, rfl⟩⟩
  | out =>
    obtain ⟨h0, S, r, q, h1, h2, h3, h4⟩ := h
    refine ⟨S, r, h1, ?_, .inr ⟨h2, q, by rw [h4, List.append_nil]⟩⟩
    have := Utf.bad_stop (x := []) h2 h3
    rwa [List.append_nil] at this
section
variable {w : World} {g n pc : Nat} {tk : Int} {X Y : List UInt8} {FS : Nat → Prop} {A : Option Addr} {st : St} {wt : Bool} {out : List (Int × Int)}
theorem data_any (hT : Tabs w) (hFo : Forms w) (h : FilS w g FS X tk st) (hi : InvS wt X st out) (ht : 0 ≤ tk ∧ tk ≤ 1) (hp : Sees w 1 (.slice A n pc) (bv Y)) (hpl : ∀ b, Value.leads (.slice A n pc) = some b → ¬ FS b) (hlen : X.length + Y.length ≤ 400) (hfew : ∀ S r, Utf.Prs (X ++ Y) S r → S.length ≤ 24) :
    Calls Tryz.prog 21 #[.pointer (some ⟨g, 0, none⟩), .int .i64 1, .slice A n pc, .int .i64 1] w fun e w' => ∃ v, e = .returned (.tuple #[v, .int .i64 0]) ∧ (∃ a b c, v = .slice a b c) ∧ DPost w g FS X Y st v w' := by
  cases st with
  | flow held L =>
    obtain ⟨h0, S0, h1, h2, h3, h4, h5⟩ := hi
    obtain ⟨S, r, hp1, hs1⟩ := Utf.prs_ex _ (held ++ Y) (Nat.le_refl _)
    have hall := hfew _ _ (h1.app.trans hp1)
    rw [List.length_append] at hall
    have hhl := h1.len
    exact data_flow hT hFo h ht hp hpl (by omega) (by rw [List.length_append]; omega) hp1 hs1 (by omega) (by omega)
  | wait => exact data_wait h ht hp hpl (by omega)
  | out => exact data_out h ht hp hpl (by omega)
theorem end_any (hrun : RunOk) (hFo : Forms w) (h : FilS w g FS X tk st) (ht : 0 ≤ tk ∧ tk ≤ 1) (hlen : X.length ≤ 400) :
    Calls Tryz.prog 22 #[.pointer (some ⟨g, 0, none⟩), .int .i64 1, .int .i64 1] w fun e w' => ∃ v, e = .returned (.tuple #[v, .int .i64 0]) ∧ (∃ a b c, v = .slice a b c) ∧ EPost w FS X st v w' := by
  cases st with
  | flow held L => exact end_flow h ht
  | wait =>
    obtain ⟨S, r, hp1, hs1⟩ := Utf.prs_ex _ X (Nat.le_refl _)
    exact end_wait hrun hFo h ht (by omega) hp1 hs1
  | out => exact end_out h ht
end
end Go.Proofs.YtahmcjdddcbhnaaGreatDoor
namespace Go.Proofs.YtahmcjdddcbhnaaGreatDoor
open Go Go.Ev Go.RowKit Go.Imap

/-- what holds ahead of piece j -/
structure Snt (w0 : World) (g : Nat) (FS0 : Nat → Prop) (all : List UInt8) (wt : Bool) (lead : Nat → Prop) (j : Nat) (tv ov : Value) (wr : World) : Prop where
  ex : ∃ X Z FS tk st out, all = X ++ Z ∧ Sees wr 1 tv (bv Z) ∧ (∀ b, Value.leads tv = some b → lead b) ∧ FilS wr g FS X tk st ∧ (0 ≤ tk ∧ tk ≤ 1) ∧ InvS wt X st out ∧
    wr.ownsRow w0.heap.size 40 3 ov out.length (fndV out) ∧ out.length ≤ 1000 * j ∧ (∀ b, ov.ownBlock = some b → ¬ FS b) ∧ (∀ b, FS b → FS0 b ∨ w0.heap.size ≤ b) ∧ Chg FS0 w0 wr
theorem lead_from {A B : Option Addr} {n cp j : Nat} (hB : (if cp = j then A else A.map (·.add (j * 1))) = B) (hn : n ≤ cp) {b : Nat} (h : Value.leads (.slice B (n - j) (cp - j)) = some b) : Value.leads (.slice A n cp) = some b := by
  cases hm : n - j with
  | zero => rw [hm] at h; cases B <;> cases h
  | succ m =>
    rw [hm] at h
    have hj : ¬ cp = j := by omega
    rw [if_neg hj] at hB
    obtain ⟨q, hq⟩ : ∃ q, n = q + 1 := ⟨n - 1, by omega⟩
    rw [hq]
    cases A with
    | none => subst hB; cases h
    | some a =>
      subst hB
      cases h
      show some a.block = some (a.add (j * 1)).block
      congr 1
      unfold Addr.add
      split <;> rfl
theorem lead_to {A : Option Addr} {n cp j : Nat} (hj : j ≤ n) {b : Nat} (h : Value.leads (.slice A j cp) = some b) : Value.leads (.slice A n cp) = some b := by
  cases j with
  | zero => cases A <;> cases h
  | succ m =>
    obtain ⟨q, hq⟩ : ∃ q, n = q + 1 := ⟨n - 1, by omega⟩
    rw [hq]
    cases A with
    | none => cases h
    | some a => cases h; rfl
theorem nxp_len (l : List Int) : (nxp l).length = l.length := List.length_map ..
theorem stepd_len {wt : Bool} {X Y : List UInt8} {st st' : St} {out o : List (Int × Int)} (h : StepD st Y o st') (hi : InvS wt X st out) : o.length ≤ X.length + Y.length + 1 := by
  cases h with
  | @good held Y S r L hp hs hm =>
    obtain ⟨h0, S0, h1, h2, h3, h4, h5⟩ := hi
    rw [nxp_len]
    have := hits_len S L
    have h6 := hp.len
    have h7 := h1.len
    rw [List.length_append] at h6
    omega
  | bad => simp
  | wait => simp
  | out => simp
theorem stepe_len {wt : Bool} {X : List UInt8} {st : St} {out o : List (Int × Int)} (h : StepE st X o) (hi : InvS wt X st out) : o.length ≤ X.length + 1 := by
  cases h with
  | flow => simp
  | held => simp
  | good hp =>
    rw [nxp_len]
    rename_i S
    have h1 := hits_len S 0
    have h2 := hp.len
    omega
  | bad => simp
  | out => simp
theorem around_m {z : Int} {m : Nat} (hm : 0 < m) (hm2 : m ≤ 100000) (h1 : IntKind.i64.min ≤ z) (h2 : z ≤ IntKind.i64.max) (w : World) :
    Calls Tryz.prog 25 #[.int .i64 z, .int .i64 (m : Int)] w fun e w' => ∃ r : Nat, r < m ∧ e = .returned (.int .i64 (r : Int)) ∧ w' = w := by
  have l1 : -9223372036854775808 ≤ z := h1
  have l2 : z ≤ 9223372036854775807 := h2
  clear h1 h2
  go_enter Tryz.func25, Tryz.ntmps25
  go_wp2
  · go_ret
    have e : (-(z + 1)).tmod (m : Int) = (-(z + 1)) % (m : Int) := Int.tmod_eq_emod_of_nonneg (by omega)
    have a1 := Int.emod_nonneg (-(z + 1)) (show (m : Int) ≠ 0 by omega)
    have a2 := Int.emod_lt_of_pos (-(z + 1)) (show 0 < (m : Int) by omega)
    refine ⟨((-(z + 1)) % (m : Int)).toNat, by omega, ?_, rfl⟩
    rw [Int.toNat_of_nonneg a1, ← e, ← Int.neg_tmod]
    rfl
  · go_ret
    have e : z.tmod (m : Int) = z % (m : Int) := Int.tmod_eq_emod_of_nonneg (by omega)
    have a1 := Int.emod_nonneg z (show (m : Int) ≠ 0 by omega)
    have a2 := Int.emod_lt_of_pos z (show 0 < (m : Int) by omega)
    refine ⟨(z % (m : Int)).toNat, by omega, ?_, rfl⟩
    rw [Int.toNat_of_nonneg a1, ← e]
    rfl
set_option maxHeartbeats 16000000 in
set_option maxRecDepth 1000000 in
theorem send_walk {w : World} {g n pc : Nat} {FS : Nat → Prop} {A : Option Addr} {cv : Value} {all : List UInt8} {cuts : List Int} {st : St} {wt : Bool} {z : Int} (hrun : RunOk) (hT : Tabs w) (hFo : Forms w) (h : FilS w g FS [] z st) (hz : 0 ≤ z ∧ z ≤ 1) (hi : InvS wt [] st [])
    (hp : Sees w 1 (.slice A n pc) (bv all)) (hpl : ∀ b, Value.leads (.slice A n pc) = some b → ¬ FS b) (hc : Sees w 1 cv (ints cuts)) (hcl : ∀ b, Value.leads cv = some b → ¬ FS b) (hcr : ∀ x ∈ cuts, IntKind.i64.min ≤ x ∧ x ≤ IntKind.i64.max) (hcn : cuts.length ≤ 9223372036854775807)
    (hlen : all.length ≤ 200) (hfew : ∀ X Z S r, all = X ++ Z → Utf.Prs X S r → S.length ≤ 24) :
    Calls Tryz.prog 10 #[.pointer (some ⟨g, 0, none⟩), .int .i64 1, .slice A n pc, cv, .int .i64 1] w fun e w' => ∃ v out, e = .returned (.tuple #[v, .bool true]) ∧ (∃ a b c, v = .slice a b c) ∧ Sees w' 3 v (fndV out) ∧ Tells38 all out ∧ out.length ≤ 100000 ∧ Chg FS w w' := by
  obtain ⟨i0, hi0, hz0, hz1, hzb⟩ := info_parts' infoFound
  obtain ⟨cA, cn, cc, rfl, c1, c2, c3⟩ := id hc
  have hcn' : cuts.length = cn := by rw [ints_len] at c1; omega
  obtain ⟨lead, hlead⟩ : ∃ lead : Nat → Prop, lead = fun b => Value.leads (.slice A n pc) = some b := ⟨_, rfl⟩
  have hS0 : Snt w g FS all wt lead 0 (.slice A n pc) (.slice none 0 0) w := ⟨[], all, FS, z, st, [], rfl, hp, fun b hb => by rw [hlead]; exact hb, h, hz, hi, World.ownsRow_nil _ _ _ _, by simp, fun b hb => (by cases hb), fun b hb => .inl hb, Chg.refl _ _⟩
  have hll : ∀ b, lead b → ¬ FS b ∧ b < w.heap.size := fun b hb => by
    rw [hlead] at hb
    exact ⟨hpl b hb, leads_sees hp hb⟩
  have hlow : ∀ b, FS b → 3 ≤ b := fun b hb => (h.lt hb).1
  have HO := Lib.hid (And.intro hT (And.intro hFo (And.intro hc (And.intro hcl (And.intro hcr (And.intro hfew (And.intro hll (And.intro hlow hrun))))))))
  have HC := Lib.hid (And.intro hcn' (And.intro c3 (And.intro hlen hcn)))
  have HS0 := Lib.hid hS0
  have hcnI : (cn : Int) ≤ 9223372036854775807 := by omega
  clear hT hFo hc hcl hcr hfew hll hlow hp hpl h hi hz hS0 c1 c2 c3 hcn hrun hlead hlen
  go_enter Tryz.func10, Tryz.ntmps10
  go_wp2_with fail
  go_loopw [2, 12, 13] (fun tv ov iv wr => ∃ j : Nat, j ≤ cn ∧ j ≤ 5 ∧ iv = .int .i64 j ∧ Hid (Snt w g FS all wt lead j tv ov wr)) (fun _ _ iv _ => 5 - (intOf iv).toNat)
  case atStart => exact ⟨0, Nat.zero_le _, Nat.zero_le _, rfl, HS0⟩
  case round =>
    obtain ⟨j, hj, hj5, rfl, hI⟩ := hrel
    obtain ⟨X, Z, FS1, tk, st1, out, s1, s2, s3, s4, s5, s6, s7, s8, s9, s10, s11⟩ := hI.out
    obtain ⟨tA, tn, tc, rfl, t1, t2, t3⟩ := id s2
    have htn : Z.length = tn := by rw [bv_len] at t1; omega
    subst htn
    obtain ⟨oA, oc, rfl, -⟩ := row_form s7
    obtain ⟨q1, q2, q3, q4, q5, q6, q7, q8, q9⟩ := HO.out
    have hXZ : X.length + Z.length ≤ 200 := by have := HC.out.2.2.1; rw [s1, List.length_append] at this; exact this
    have hTr := q1.chg s11 (fun e => by have := q8 1 e; omega) (fun e => by have := q8 2 e; omega)
    have hFr := q2.chg s11 (fun e => by have := q8 0 e; omega)
    have hnl : ∀ b, lead b → ¬ FS1 b := fun b hb e => by
      obtain ⟨h1, h2⟩ := q7 b hb
      rcases s10 b e with h | h
      · exact h1 h
      · omega
    by_cases hjc : j < cn ∧ j < 5
    · have hj1 : (j : Int) < (cn : Int) := by omega
      have hj2 : (j : Int) < 5 := by omega
      obtain ⟨cb, co, rfl, hcb, hcc⟩ := HC.out.2.1 (by omega)
      have hjl : j < cuts.length := by rw [HC.out.1]; exact hjc.1
      have hcell := (s11.cell (p := ⟨cb, co + j, none⟩) hcb (q4 cb (by obtain ⟨m, hm⟩ : ∃ m, cn = m + 1 := ⟨cn - 1, by omega⟩; rw [hm]; rfl))).trans (hcc j (.int .i64 cuts[j]) (by unfold ints; rw [List.getElem?_map, List.getElem?_eq_getElem hjl]; rfl))
      have hrg := q5 _ (List.getElem_mem hjl)
      obtain ⟨x, hx⟩ : ∃ x, cuts[j] = x := ⟨_, rfl⟩
      rw [hx] at hcell hrg
      have har := fun W => around_m (z := x) (m := Z.length + 1) (by omega) (by omega) hrg.1 hrg.2 W
      have hwl : IntKind.i64.wrap ((Z.length : Int) + 1) = ((Z.length + 1 : Nat) : Int) := by rw [wrapS (by omega) (by omega)]; rfl
      have HI := Lib.hid (And.intro s1 (And.intro s2 (And.intro s3 (And.intro s4 (And.intro s5 (And.intro s6 (And.intro s7 (And.intro s8 (And.intro s9 (And.intro s10 s11))))))))))
      have HTF := Lib.hid (And.intro hTr (And.intro hFr (And.intro hnl q6)))
      clear hcc hx s1 s2 s3 s4 s5 s6 s7 s8 s9 s10 s11 t1 t3 hTr hFr q1 q2 q3 q4 q5 q6 q7 q8 q9 hI hrg hnl
      go_wp2_with (first
        | (go_at_call 25; refine (har _).mono ?_; clear har; rintro _ w1 ⟨k, hk, rfl, rfl⟩)
        | fail)
      obtain ⟨s1, s2, s3, s4, s5, s6, s7, s8, s9, s10, s11⟩ := HI.out
      obtain ⟨u1, u2, u3, u4⟩ := HTF.out
      have hkZ : k ≤ Z.length := by omega
      have hYl : (Z.take k).length = k := by rw [List.length_take]; omega
      have hall2 : all = (X ++ Z.take k) ++ Z.drop k := by rw [List.append_assoc, List.take_append_drop]; exact s1
      have hd := data_any u1 u2 s4 s6 s5 (s2.takeB k hkZ) (fun b hb => u3 b (s3 b (lead_to hkZ hb))) (by omega) (fun S r h => u4 _ _ S r hall2 h)
      have hwz := s11.size
      obtain ⟨B2, hB2⟩ : ∃ B2, (if tc = k then tA else tA.map (·.add (k * 1))) = B2 := ⟨_, rfl⟩
      have HB2 := Lib.hid hB2
      have HTF2 := Lib.hid u3
      obtain ⟨i1, hi1, hy0, hy1, hy2⟩ := info_parts' infoU8
      have hs8 := s8
      clear s1 s2 s3 s4 s5 s6 s7 s8 s9 s10 s11 u1 u2 u3 u4 hall2 hB2 HTF
      go_wp2_with (first
        | (go_at_call 21; refine hd.mono ?_; clear hd; rintro _ w2 ⟨v2, rfl, ⟨va, vn, vc, rfl⟩, out2, FS2, st2, hse2, hF2, hC2, hFS2, hst2, hlv2⟩; have hvn : vn = out2.length := (by { obtain ⟨a', n', c', e, k1, -⟩ := hse2; cases e; rw [fndV_len] at k1; omega }); subst hvn; have hol := stepd_len hst2 HI.out.2.2.2.2.2.1; have hrow2 := row_chg HI.out.2.2.2.2.2.2.1 hC2 (fun b hb h => HI.out.2.2.2.2.2.2.2.2.1 b hb h); have hz2 := hC2.size)
        | (at_builtin; refine wpList_append_sees (base := w.heap.size) rfl _ _ 36 rfl i0 _ 24 Tryz.underlying36 hi0 hz0 hz1 hzb rfl (by decide) (.slice oA out.length oc) out.length (fndV out) rfl hrow2 (.slice va out2.length vc) out2.length (fndV out2) rfl hse2 (fndV_len _) (fndV_one _) (by unfold maxLen; omega) (by omega) (by omega) ?_; intro v3 w3 hrow3 hgrow3 hown3; obtain ⟨rA, rc, rfl, -⟩ := row_form hrow3)
        | (with_reducible show wpList _ _ _ (Oper.mk _ (.slice _ _ (some _) _ _) _ _ _ _ :: _) _ _; refine wpList_sliceFrom (J := k) rfl _ _ 23 rfl i1 Tryz.underlying23 hi1 (by assumption) rfl rfl hkZ B2 HB2.out ?_)
        | fail)
      go_roundw
      case rel =>
        obtain ⟨s1, s2, s3, s4, s5, s6, s7, s8, s9, s10, s11⟩ := HI.out
        have hC3 : Chg (fun b => (Value.slice oA out.length oc).ownBlock = some b) w2 w3 := (Chg.refl _ w2).grown hgrow3 fun k hk => .inr hk
        have hoge : ∀ b, (Value.slice oA out.length oc).ownBlock = some b → w.heap.size ≤ b := fun b hb => (World.ownsRow.lt s7 b hb).1
        have ho1 : ∀ b, (Value.slice oA out.length oc).ownBlock = some b → b < w1.heap.size := fun b hb => (World.ownsRow.lt s7 b hb).2
        have hno2 : ∀ b, (Value.slice oA out.length oc).ownBlock = some b → ¬ FS2 b := fun b hb h => by
          rcases hFS2 b h with h1 | h1
          · exact s9 b hb h1
          · have := ho1 b hb; omega
        have hs2 : Sees w3 1 (.slice tA Z.length tc) (bv Z) := ((s2.chg hC2 fun b hb h => HTF2.out b (s3 b hb) h)).chg hC3 fun b hb h => by
          have h1 := HO.out.2.2.2.2.2.2.1 b (s3 b hb)
          have h2 := hoge b h
          omega
        refine ⟨j + 1, by omega, by omega, by go_num, Lib.hid ⟨X ++ Z.take k, Z.drop k, FS2, 1, st2, out ++ out2, by rw [List.append_assoc, List.take_append_drop]; exact s1, hs2.dropB k hkZ HB2.out, fun b hb => s3 b (lead_from HB2.out t2 hb), hF2.chg hC3 (fun b hb h => hno2 b h hb), ⟨by omega, by omega⟩, inv_step s6 hst2, ?_, ?_, fun b hb h => ?_, fun b hb => ?_, ?_⟩⟩
        · rw [List.length_append, fndV_app]
          exact hrow3
        · rw [List.length_append, hYl] at *
          omega
        · rcases hown3 with e | ⟨q, e, hq⟩
          · exact hno2 b (e.symm.trans hb) h
          · rw [e] at hb
            cases hb
            have := (hF2.lt h).2
            omega
        · rcases hFS2 b hb with h1 | h1
          · exact s10 b h1
          · exact .inr (by omega)
        · exact (s11.trans hC2 fun i hi h => (s10 i h).resolve_right (by omega)).grown hgrow3 fun k hk => .inl (hoge k hk)
      case measure => simp [intOf]; omega
    · have hall2 : all = (X ++ Z) ++ [] := by rw [List.append_nil]; exact s1
      have hd := data_any hTr hFr s4 s6 s5 s2 (fun b hb => hnl b (s3 b hb)) (by omega) (fun S r h => q6 _ _ S r hall2 h)
      have hwz := s11.size
      have hen := fun (w2 : World) (FS2 : Nat → Prop) (st2 : St) (hF2 : FilS w2 g FS2 (X ++ Z) 1 st2) (hC2 : Chg FS1 wr w2) => end_any (tk := 1) q9 (hFr.chg hC2 (fun e => by have := (s4.lt e).1; omega)) hF2 ⟨by omega, by omega⟩ (by rw [List.length_append]; omega)
      have HEN := Lib.hid hen
      have HI := Lib.hid (And.intro s1 (And.intro s2 (And.intro s3 (And.intro s4 (And.intro s5 (And.intro s6 (And.intro s7 (And.intro s8 (And.intro s9 (And.intro s10 s11))))))))))
      have hs8 := s8
      have hxl : X.length ≤ 200 := by omega
      have hzl : Z.length ≤ 200 := by omega
      clear s1 s2 s3 s4 s5 s6 s7 s8 s9 s10 s11 t1 t3 hTr hFr q1 q2 q3 q4 q5 q6 q7 q8 q9 hI hnl hall2 hen
      have hNB := Lib.hid hjc
      by_cases hj1 : (j : Int) < (cn : Int)
      · have hj2 : ¬ (j : Int) < 5 := fun h => hNB.out ⟨by omega, by omega⟩
        clear hjc
        go_wp2_with (first
          | (go_at_call 21; refine hd.mono ?_; clear hd; rintro _ w2 ⟨v2, rfl, ⟨va, vn, vc, rfl⟩, out2, FS2, st2, hse2, hF2, hC2, hFS2, hst2, hlv2⟩; have hvn : vn = out2.length := (by { obtain ⟨a', n', c', e, k1, -⟩ := hse2; cases e; rw [fndV_len] at k1; omega }); subst hvn; have hol := stepd_len hst2 HI.out.2.2.2.2.2.1; have hrow2 := row_chg HI.out.2.2.2.2.2.2.1 hC2 (fun b hb h => HI.out.2.2.2.2.2.2.2.2.1 b hb h); have hz2 := hC2.size; have he := HEN.out w2 FS2 st2 hF2 hC2)
          | (go_at_call 22; refine he.mono ?_; clear he; rintro _ w4 ⟨v4, rfl, ⟨ya, yn, yc, rfl⟩, out4, hse4, hC4, hst4, hlv4⟩; have hyn : yn = out4.length := (by { obtain ⟨a', n', c', e, k1, -⟩ := hse4; cases e; rw [fndV_len] at k1; omega }); subst hyn; have hol4 := stepe_len hst4 (inv_step HI.out.2.2.2.2.2.1 hst2); have hno2 : ∀ b, (Value.slice oA out.length oc).ownBlock = some b → ¬ FS2 b := (fun b hb h => by { rcases hFS2 b h with h1 | h1; exact HI.out.2.2.2.2.2.2.2.2.1 b hb h1; have := (World.ownsRow.lt HI.out.2.2.2.2.2.2.1 b hb).2; omega }); have hrow4 := row_chg hrow2 hC4 hno2; have hse24 := hse2.chg hC4 hlv2; have hz4 := hC4.size; have ho1 := fun b hb => (World.ownsRow.lt HI.out.2.2.2.2.2.2.1 b hb).2; have hoge := fun b hb => (World.ownsRow.lt HI.out.2.2.2.2.2.2.1 b hb).1; rw [List.length_append] at hol4)
          | (at_builtin; refine wpList_append_sees (base := w.heap.size) rfl _ _ 36 rfl i0 _ 24 Tryz.underlying36 hi0 hz0 hz1 hzb rfl (by decide) (.slice oA out.length oc) out.length (fndV out) rfl hrow4 (.slice va out2.length vc) out2.length (fndV out2) rfl hse24 (fndV_len _) (fndV_one _) (by unfold maxLen; omega) (by omega) (by omega) ?_; intro v5 w5 hrow5 hgrow5 hown5; obtain ⟨rA, rc, rfl, -⟩ := row_form hrow5; have hC5 : Chg (fun b => (Value.slice oA out.length oc).ownBlock = some b) w4 w5 := (Chg.refl _ w4).grown hgrow5 fun k hk => .inr hk; have hse45 := hse4.chg hC5 (fun b hb h => by { have h1 := hlv4 b hb; have h2 := ho1 b h; omega }); have hz5 := hC5.size)
          | (at_builtin; refine wpList_append_sees (base := w.heap.size) rfl _ _ 36 rfl i0 _ 24 Tryz.underlying36 hi0 hz0 hz1 hzb rfl (by decide) (.slice rA (out.length + out2.length) rc) (out.length + out2.length) (fndV out ++ fndV out2) rfl hrow5 (.slice ya out4.length yc) out4.length (fndV out4) rfl hse45 (fndV_len _) (fndV_one _) (by unfold maxLen; omega) (by omega) (by omega) ?_; intro v6 w6 hrow6 hgrow6 hown6; obtain ⟨sA, sc, rfl, -⟩ := row_form hrow6)
          | fail)
        go_ret2
        obtain ⟨s1, s2, s3, s4, s5, s6, s7, s8, s9, s10, s11⟩ := HI.out
        refine ⟨_, (out ++ out2) ++ out4, rfl, ⟨_, _, _, rfl⟩, ?_, ?_, ?_, ?_⟩
        · have := Sees.row hrow6
          rw [fndV_app, fndV_app]
          exact this
        · rw [s1]
          exact inv_end (inv_step s6 hst2) hst4
        · rw [List.length_append, List.length_append]
          omega
        · have j2 : Chg FS w w2 := s11.trans hC2 fun i hi h => (s10 i h).resolve_right (by omega)
          have j4 : Chg FS w w4 := j2.trans hC4 fun i hi h => by
            rcases hFS2 i h with h1 | h1
            · exact (s10 i h1).resolve_right (by omega)
            · omega
          have j5 : Chg FS w w5 := j4.trans hC5 fun i hi h => by have := hoge i h; omega
          exact j5.grown hgrow6 fun k hk => .inl (World.ownsRow.lt hrow5 k hk).1
      · clear hjc
        go_wp2_with (first
          | (go_at_call 21; refine hd.mono ?_; clear hd; rintro _ w2 ⟨v2, rfl, ⟨va, vn, vc, rfl⟩, out2, FS2, st2, hse2, hF2, hC2, hFS2, hst2, hlv2⟩; have hvn : vn = out2.length := (by { obtain ⟨a', n', c', e, k1, -⟩ := hse2; cases e; rw [fndV_len] at k1; omega }); subst hvn; have hol := stepd_len hst2 HI.out.2.2.2.2.2.1; have hrow2 := row_chg HI.out.2.2.2.2.2.2.1 hC2 (fun b hb h => HI.out.2.2.2.2.2.2.2.2.1 b hb h); have hz2 := hC2.size; have he := HEN.out w2 FS2 st2 hF2 hC2)
          | (go_at_call 22; refine he.mono ?_; clear he; rintro _ w4 ⟨v4, rfl, ⟨ya, yn, yc, rfl⟩, out4, hse4, hC4, hst4, hlv4⟩; have hyn : yn = out4.length := (by { obtain ⟨a', n', c', e, k1, -⟩ := hse4; cases e; rw [fndV_len] at k1; omega }); subst hyn; have hol4 := stepe_len hst4 (inv_step HI.out.2.2.2.2.2.1 hst2); have hno2 : ∀ b, (Value.slice oA out.length oc).ownBlock = some b → ¬ FS2 b := (fun b hb h => by { rcases hFS2 b h with h1 | h1; exact HI.out.2.2.2.2.2.2.2.2.1 b hb h1; have := (World.ownsRow.lt HI.out.2.2.2.2.2.2.1 b hb).2; omega }); have hrow4 := row_chg hrow2 hC4 hno2; have hse24 := hse2.chg hC4 hlv2; have hz4 := hC4.size; have ho1 := fun b hb => (World.ownsRow.lt HI.out.2.2.2.2.2.2.1 b hb).2; have hoge := fun b hb => (World.ownsRow.lt HI.out.2.2.2.2.2.2.1 b hb).1; rw [List.length_append] at hol4)
          | (at_builtin; refine wpList_append_sees (base := w.heap.size) rfl _ _ 36 rfl i0 _ 24 Tryz.underlying36 hi0 hz0 hz1 hzb rfl (by decide) (.slice oA out.length oc) out.length (fndV out) rfl hrow4 (.slice va out2.length vc) out2.length (fndV out2) rfl hse24 (fndV_len _) (fndV_one _) (by unfold maxLen; omega) (by omega) (by omega) ?_; intro v5 w5 hrow5 hgrow5 hown5; obtain ⟨rA, rc, rfl, -⟩ := row_form hrow5; have hC5 : Chg (fun b => (Value.slice oA out.length oc).ownBlock = some b) w4 w5 := (Chg.refl _ w4).grown hgrow5 fun k hk => .inr hk; have hse45 := hse4.chg hC5 (fun b hb h => by { have h1 := hlv4 b hb; have h2 := ho1 b h; omega }); have hz5 := hC5.size)
          | (at_builtin; refine wpList_append_sees (base := w.heap.size) rfl _ _ 36 rfl i0 _ 24 Tryz.underlying36 hi0 hz0 hz1 hzb rfl (by decide) (.slice rA (out.length + out2.length) rc) (out.length + out2.length) (fndV out ++ fndV out2) rfl hrow5 (.slice ya out4.length yc) out4.length (fndV out4) rfl hse45 (fndV_len _) (fndV_one _) (by unfold maxLen; omega) (by omega) (by omega) ?_; intro v6 w6 hrow6 hgrow6 hown6; obtain ⟨sA, sc, rfl, -⟩ := row_form hrow6)
          | fail)
        go_ret2
        obtain ⟨s1, s2, s3, s4, s5, s6, s7, s8, s9, s10, s11⟩ := HI.out
        refine ⟨_, (out ++ out2) ++ out4, rfl, ⟨_, _, _, rfl⟩, ?_, ?_, ?_, ?_⟩
        · have := Sees.row hrow6
          rw [fndV_app, fndV_app]
          exact this
        · rw [s1]
          exact inv_end (inv_step s6 hst2) hst4
        · rw [List.length_append, List.length_append]
          omega
        · have j2 : Chg FS w w2 := s11.trans hC2 fun i hi h => (s10 i h).resolve_right (by omega)
          have j4 : Chg FS w w4 := j2.trans hC4 fun i hi h => by
            rcases hFS2 i h with h1 | h1
            · exact (s10 i h1).resolve_right (by omega)
            · omega
          have j5 : Chg FS w w5 := j4.trans hC5 fun i hi h => by have := hoge i h; omega
          exact j5.grown hgrow6 fun k hk => .inl (World.ownsRow.lt hrow5 k hk).1
end Go.Proofs.YtahmcjdddcbhnaaGreatDoor
namespace Go.Proofs.YtahmcjdddcbhnaaGreatDoor
open Go Go.Ev Go.RowKit
def fnd1 (p : Int × Int) : List Value := [.int .i64 0, .int .i64 p.1, .int .i64 p.2]
set_option maxHeartbeats 4000000 in
set_option maxRecDepth 1000000 in
theorem same_yes {w : World} {u v : Value} {N : List (Int × Int)} (hu : Sees w 3 u (fndV N)) (hv : Sees w 3 v (fndV N)) (hl : N.length ≤ 100000) :
    Calls Tryz.prog 12 #[u, v] w fun e w' => e = .returned (.bool true) ∧ Below w.heap.size w w' := by
  obtain ⟨A1, cp1, rfl, -, hcc1⟩ := sees_at fnd1 (fun _ => rfl) (by omega) hu
  obtain ⟨A2, cp2, rfl, -, hcc2⟩ := sees_at fnd1 (fun _ => rfl) (by omega) hv
  obtain ⟨n, hn⟩ : ∃ n, N.length = n := ⟨_, rfl⟩
  have HC1 := Lib.hid hcc1
  have HC2 := Lib.hid hcc2
  have HN := Lib.hid hn
  rw [hn]
  rw [hn] at hl
  clear hcc1 hcc2 hu hv hn
  go_enter Tryz.func12, Tryz.ntmps12
  go_wp2_with fail
  go_loopw [5] (fun iv wz => ∃ j : Nat, j ≤ n ∧ iv = .int .i64 j ∧ Below w.heap.size w wz) (fun iv _ => n - (intOf iv).toNat)
  case atStart => exact ⟨0, Nat.zero_le _, rfl, Below.refl _ _⟩
  case round =>
    obtain ⟨j, hj, rfl, hbz⟩ := hrel
    have hj0 : (0 : Int) ≤ (j : Int) := Int.natCast_nonneg _
    by_cases hjl : j < n
    · have hjl' : (j : Int) < (n : Int) := by omega
      have hjN : j < N.length := by rw [HN.out]; exact hjl
      obtain ⟨pb, po, rfl, hpl, hpcell⟩ := HC1.out (by omega)
      obtain ⟨qb, qo, rfl, hql, hqcell⟩ := HC2.out (by omega)
      have e0 := hpcell j hjN 0 (.int .i64 0) (by omega) rfl
      have e1 := hpcell j hjN 1 (.int .i64 N[j].1) (by omega) rfl
      have e2 := hpcell j hjN 2 (.int .i64 N[j].2) (by omega) rfl
      have f0 := hqcell j hjN 0 (.int .i64 0) (by omega) rfl
      have f1 := hqcell j hjN 1 (.int .i64 N[j].1) (by omega) rfl
      have f2 := hqcell j hjN 2 (.int .i64 N[j].2) (by omega) rfl
      obtain ⟨x, hx⟩ : ∃ x, N[j].1 = x := ⟨_, rfl⟩
      obtain ⟨y, hy⟩ : ∃ y, N[j].2 = y := ⟨_, rfl⟩
      rw [hx] at e1 f1
      rw [hy] at e2 f2
      rw [Nat.add_zero] at e0 f0
      have g0 := (hbz.cell (p := ⟨pb, po + j * 3, none⟩) hpl).trans e0
      have g1 := (hbz.cell (p := ⟨pb, po + j * 3 + 1, none⟩) hpl).trans e1
      have g2 := (hbz.cell (p := ⟨pb, po + j * 3 + 2, none⟩) hpl).trans e2
      have h0 := (hbz.cell (p := ⟨qb, qo + j * 3, none⟩) hql).trans f0
      have h1 := (hbz.cell (p := ⟨qb, qo + j * 3 + 1, none⟩) hql).trans f1
      have h2 := (hbz.cell (p := ⟨qb, qo + j * 3 + 2, none⟩) hql).trans f2
      have hbd := fun k => hbz.trans ((belowN wr k).mono hbz.size)
      clear e0 e1 e2 f0 f1 f2 hpcell hqcell hx hy HN hjN
      go_wp2_with fail
      go_quiet (fail)
      go_wp2_with fail
      go_roundw
      case rel => exact ⟨j + 1, hjl, by go_num, hbd _⟩
      case measure => simp [intOf]; omega
    · have hjl' : ¬ (j : Int) < (n : Int) := by omega
      have HB := Lib.hid hbz
      clear hbz
      go_wp2_with fail
      go_ret
      exact ⟨rfl, HB.out⟩
end Go.Proofs.YtahmcjdddcbhnaaGreatDoor
namespace Go.Proofs.YtahmcjdddcbhnaaGreatDoor
open Go Go.Ev Go.RowKit Go.Imap
theorem ctl_fil {w : World} {g cm cb vb mb ub ab B : Nat} {W : Value} (h : Ctl w g cm cb vb mb ub ab 0 0 (.slice none 0 0) W) (hB : 3 ≤ B) (hlt : ∀ b ∈ [g, cm, cb, vb, mb, ub, ab], B ≤ b) :
    FilB w g cm cb vb mb ub ab 0 (.slice none 0 0) W [] ∧ w.frozen? ⟨ab, 0, none⟩ = false := by
  obtain ⟨m1, h1⟩ := h.fil
  obtain ⟨ac, h3⟩ := h.con
  obtain ⟨rv, h4⟩ := h.ver
  have k2 := h4.at' 0
  have k3 := h.wat.at' 0
  refine ⟨⟨⟨m1, h1⟩, h.cmap, ⟨ac, h3⟩, by simpa using k2, by simpa using k3, ?_, h.dis, ⟨0, Nat.zero_le _, World.ownsRow_nil _ _ _ _⟩, fun b hb => by cases hb⟩, h.wat.thaw 0⟩
  intro b hb
  refine ⟨Nat.le_trans hB (hlt b hb), ?_⟩
  simp only [Ks, List.mem_cons, List.not_mem_nil, or_false] at hb
  rcases hb with rfl | rfl | rfl | rfl | rfl | rfl | rfl
  · exact h1.lt
  · exact h.cmap.lt
  · exact h3.lt
  · exact h4.lt
  · exact h.met.blk.lt
  · exact h.met.used.lt
  · exact h.wat.lt
/-- the rule's text -/
def runesT (wt : Bool) : ByteArray := if wt then ⟨#[40, 63, 61, 92, 117, 123, 101, 52, 125, 41, 92, 117, 123, 101, 52, 125]⟩ else ⟨#[92, 117, 123, 101, 52, 125]⟩
theorem start_fil {w : World} {rb : Nat} (wt : Bool) (h : Blk w rb 25 #[.string ⟨#[97]⟩, .string (runesT wt), .bool true]) (h3 : 3 ≤ w.heap.size) :
    Calls Tryz.prog 9 #[.slice (some ⟨rb, 0, none⟩) 1 1, .int .i64 1048576] w fun e w' => ∃ g FS st, e = .returned (.pointer (some ⟨g, 0, none⟩)) ∧ FilS w' g FS [] 0 st ∧ InvS wt [] st [] ∧ (∀ b, FS b → w.heap.size ≤ b) ∧ Below w.heap.size w w' := by
  cases wt with
  | false =>
    refine (start_flow h).mono ?_
    rintro e w' ⟨g, cm, cb, vb, mb, ub, ab, bb, sb, ι, rfl, hC, hB, hd, hn, hb⟩
    obtain ⟨hF, hz⟩ := ctl_fil hC h3 fun b hb => (hd b hb).1
    refine ⟨g, _, .flow [] 0, rfl, ⟨cm, cb, vb, mb, ub, ab, 0, .slice none 0 0, bb, sb, none, ι, .slice none 0 0, rfl, hF, ?_, hz, hC.met, ⟨Int.le_refl _, Int.le_refl _⟩, hB⟩, ?_, ?_, hb⟩
    · exact fun b h => ⟨fun hk => (hd b hk).2 h, hB.lt h, Nat.le_trans h3 (hn b h), fun e => by cases e⟩
    · exact ⟨rfl, [], .nil _, .inl rfl, .inl rfl, rfl, rfl⟩
    · rintro b (h | h | h)
      · exact (hd b h).1
      · exact hn b h
      · cases h
  | true =>
    refine (start_wait h).mono ?_
    rintro e w' ⟨g, cm, cb, vb, mb, ub, ab, kv, rfl, hC, ⟨ι, hR, hrel, hsub, hfar⟩, hd, hb⟩
    obtain ⟨hF, hz⟩ := ctl_fil hC h3 hd
    refine ⟨g, _, .wait, rfl, ⟨cm, cb, vb, mb, ub, ab, 0, .slice none 0 0, kv, fun b => ∃ p s, ι p = some (b, s), rfl, hF, ?_, hz, hC.met, ⟨Int.le_refl _, Int.le_refl _⟩, ?_⟩, ?_, ?_, hb⟩
    · rintro b ⟨p, s, h⟩
      obtain ⟨h1, h2, h4⟩ := hfar p b s h
      exact ⟨h4, h2, Nat.le_trans h3 h1, fun e => by cases e⟩
    · exact ⟨ι, hR, hrel, hsub, fun p b s h => ⟨⟨p, s, h⟩, (hfar p b s h).2.1⟩⟩
    · exact ⟨rfl, rfl⟩
    · rintro b (h | h | h)
      · exact hd b h
      · obtain ⟨p, s, h⟩ := h
        exact (hfar p b s h).1
      · cases h
end Go.Proofs.YtahmcjdddcbhnaaGreatDoor
