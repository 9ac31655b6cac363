/-
  UTF-8, plainly: what stands at the head of some bytes; how bytes fall into code points. (Of no program.)
-/
import Derived.Lib.DecodeN
namespace Go.Utf
open Go Go.Lib

/-- what stands at the head: a code point and its length; the beginning of one; nothing -/
inductive One where
  | ok (c k : Nat)
  | more
  | bad
def loB (b0 : Nat) : Nat := if b0 = 224 then 160 else if b0 = 240 then 144 else 128
def hiB (b0 : Nat) : Nat := if b0 = 237 then 159 else if b0 = 244 then 143 else 191
def oneN (n b0 b1 b2 b3 : Nat) : One :=
  if b0 < 128 then .ok b0 1
  else if b0 < 194 ∨ 245 ≤ b0 then .bad
  else if b0 < 224 then (if n < 2 then .more else if b1 < 128 ∨ 191 < b1 then .bad else .ok (b0 % 32 * 64 + b1 % 64) 2)
  else if b0 < 240 then (if n < 2 then .more else if b1 < loB b0 ∨ hiB b0 < b1 then .bad else if n < 3 then .more else if b2 < 128 ∨ 191 < b2 then .bad else .ok (b0 % 16 * 4096 + b1 % 64 * 64 + b2 % 64) 3)
  else (if n < 2 then .more else if b1 < loB b0 ∨ hiB b0 < b1 then .bad else if n < 3 then .more else if b2 < 128 ∨ 191 < b2 then .bad else if n < 4 then .more else if b3 < 128 ∨ 191 < b3 then .bad
    else .ok (b0 % 8 * 262144 + b1 % 64 * 4096 + b2 % 64 * 64 + b3 % 64) 4)
def byt (b : List UInt8) (i : Nat) : Nat := ((b[i]?).getD 0).toNat
theorem byt_lt (b : List UInt8) (i : Nat) : byt b i < 256 := UInt8.toNat_lt _
theorem byt_app {b x : List UInt8} {i : Nat} (h : i < b.length) : byt (b ++ x) i = byt b i := by unfold byt; rw [List.getElem?_append_left h]
theorem byt_take {b : List UInt8} {i k : Nat} (h : i < k) : byt (b.take k) i = byt b i := by
  unfold byt
  rw [List.getElem?_take, if_pos h]
def one (b : List UInt8) : One := oneN b.length (byt b 0) (byt b 1) (byt b 2) (byt b 3)
/-- what a code point of a text may be -/
def Cp (c : Nat) : Prop := c ≤ 1114111 ∧ ¬ (55296 ≤ c ∧ c ≤ 57343)
section
variable {n b0 b1 b2 b3 c k : Nat}
set_option maxHeartbeats 4000000 in
theorem oneN_ok (hn : 1 ≤ n) (h0 : b0 < 256) (h1 : b1 < 256) (h2 : b2 < 256) (h3 : b3 < 256) (h : oneN n b0 b1 b2 b3 = .ok c k) : (1 ≤ k ∧ k ≤ 4 ∧ k ≤ n) ∧ Cp c ∧ (k = 1 ↔ c < 128) := by
  unfold oneN loB hiB at h
  unfold Cp
  repeat' split at h
  all_goals first
    | (cases h; done)
    | (cases h; refine ⟨⟨by omega, by omega, by omega⟩, ⟨by omega, by omega⟩, ?_⟩; constructor <;> intro _ <;> omega)
set_option maxHeartbeats 4000000 in
/-- the head of a longer row of bytes -/
theorem oneN_more {m x1 x2 x3 : Nat} (hm : n ≤ m) (h1 : 1 < n → x1 = b1) (h2 : 2 < n → x2 = b2) (h3 : 3 < n → x3 = b3) (hn : 1 ≤ n) (h : oneN n b0 b1 b2 b3 ≠ .more) : oneN m b0 x1 x2 x3 = oneN n b0 b1 b2 b3 := by
  by_cases n1 : n = 1
  · subst n1
    unfold oneN at h ⊢
    simp only [show (1 : Nat) < 2 from by omega, if_true] at h ⊢
    split
    · rfl
    · split
      · rfl
      · exfalso
        rename_i a1 a2
        rw [if_neg a1, if_neg a2] at h
        split at h
        · exact h rfl
        · split at h <;> exact h rfl
  have e1 := h1 (by omega)
  subst e1
  by_cases n2 : n = 2
  · subst n2
    unfold oneN at h ⊢
    simp only [show ¬ (2 : Nat) < 2 from by omega, show ¬ m < 2 from by omega, show (2 : Nat) < 3 from by omega, if_true, if_false] at h ⊢
    split
    · rfl
    · split
      · rfl
      · split
        · rfl
        · rename_i a1 a2 a3
          rw [if_neg a1, if_neg a2, if_neg a3] at h
          split
          · rename_i a4
            rw [if_pos a4] at h
            split
            · rfl
            · rename_i a5
              rw [if_neg a5] at h
              exact absurd rfl h
          · rename_i a4
            rw [if_neg a4] at h
            split
            · rfl
            · rename_i a5
              rw [if_neg a5] at h
              exact absurd rfl h
  have e2 := h2 (by omega)
  subst e2
  by_cases n3 : n = 3
  · subst n3
    unfold oneN at h ⊢
    simp only [show ¬ (3 : Nat) < 2 from by omega, show ¬ m < 2 from by omega, show ¬ (3 : Nat) < 3 from by omega, show ¬ m < 3 from by omega, show (3 : Nat) < 4 from by omega, if_true, if_false] at h ⊢
    split
    · rfl
    · split
      · rfl
      · split
        · rfl
        · split
          · rfl
          · rename_i a1 a2 a3 a4
            rw [if_neg a1, if_neg a2, if_neg a3, if_neg a4] at h
            split
            · rfl
            · rename_i a5
              rw [if_neg a5] at h
              split
              · rfl
              · rename_i a6
                rw [if_neg a6] at h
                exact absurd rfl h
  have e3 := h3 (by omega)
  subst e3
  unfold oneN
  simp only [show ¬ n < 2 from by omega, show ¬ m < 2 from by omega, show ¬ n < 3 from by omega, show ¬ m < 3 from by omega, show ¬ n < 4 from by omega, show ¬ m < 4 from by omega, if_false]
set_option maxRecDepth 100000 in
set_option maxHeartbeats 8000000 in
theorem dec_one (_hn : 1 ≤ n) (h0 : b0 < 256) (h1 : b1 < 256) (h2 : b2 < 256) (h3 : b3 < 256) : (∀ c k, oneN n b0 b1 b2 b3 = .ok c k → decodeN n b0 b1 b2 b3 = (c, k)) ∧ (oneN n b0 b1 b2 b3 = .bad → decodeN n b0 b1 b2 b3 = (65533, 1)) := by
  constructor
  · intro c k h
    unfold oneN loB hiB at h
    unfold decodeN
    repeat' split at h
    all_goals first
      | (cases h; done)
      | (cases h; repeat' split
         all_goals first | rfl | (exfalso; omega))
  · intro h
    unfold oneN loB hiB at h
    unfold decodeN
    repeat' split at h
    all_goals first
      | (cases h; done)
      | (repeat' split
         all_goals first | rfl | (exfalso; omega))
/-- Go's FullRune -/
def fullN (n b0 b1 b2 : Nat) : Bool :=
  if firstT b0 % 8 ≤ n then true else if 1 < n ∧ (b1 < accLo (firstT b0 / 16) ∨ accHi (firstT b0 / 16) < b1) then true else if 2 < n ∧ (b2 < 128 ∨ 191 < b2) then true else false
theorem full2 (x : One) (hx : x ≠ .more) (y : One) (hy : y ≠ .more) {p : Prop} [Decidable p] (a1 a2 : Prop) [Decidable a1] [Decidable a2] (hn : 1 ≤ n) : (if 2 ≤ n then true else if 1 < n ∧ a1 then true else if 2 < n ∧ a2 then true else false) = true ↔ (if n < 2 then One.more else if p then x else y) ≠ .more := by
  by_cases h : 2 ≤ n
  · rw [if_pos h, if_neg (by omega)]
    constructor
    · intro _
      split
      · exact hx
      · exact hy
    · intro _; rfl
  · rw [if_neg h, if_neg (by omega), if_neg (by omega), if_pos (by omega)]
    simp
theorem full3 (y z : One) (hy : y ≠ .more) (hz : z ≠ .more) (x : One) (hx : x ≠ .more) (a1 a2 : Prop) [Decidable a1] [Decidable a2] (hn : 1 ≤ n) : (if 3 ≤ n then true else if 1 < n ∧ a1 then true else if 2 < n ∧ a2 then true else false) = true ↔ (if n < 2 then One.more else if a1 then x else if n < 3 then .more else if a2 then y else z) ≠ .more := by
  by_cases h : 3 ≤ n
  · have e2 : ¬ n < 2 := by omega
    have e3 : ¬ n < 3 := by omega
    simp only [h, e2, e3, if_true, if_false, true_iff]
    split
    · exact hx
    · split
      · exact hy
      · exact hz
  · rw [if_neg h]
    by_cases h2 : n < 2
    · rw [if_neg (by omega), if_neg (by omega), if_pos h2]
      simp
    · rw [if_neg h2]
      by_cases h3 : a1
      · rw [if_pos ⟨by omega, h3⟩, if_pos h3]
        exact ⟨fun _ => hx, fun _ => rfl⟩
      · rw [if_neg (fun e => h3 e.2), if_neg (by omega), if_neg h3, if_pos (by omega)]
        simp
theorem full4 (x y z u : One) (hx : x ≠ .more) (hy : y ≠ .more) (hz : z ≠ .more) (hu : u ≠ .more) (a1 a2 a3 : Prop) [Decidable a1] [Decidable a2] [Decidable a3] (hn : 1 ≤ n) : (if 4 ≤ n then true else if 1 < n ∧ a1 then true else if 2 < n ∧ a2 then true else false) = true ↔
    (if n < 2 then One.more else if a1 then x else if n < 3 then .more else if a2 then y else if n < 4 then .more else if a3 then z else u) ≠ .more := by
  by_cases h : 4 ≤ n
  · have e2 : ¬ n < 2 := by omega
    have e3 : ¬ n < 3 := by omega
    have e4 : ¬ n < 4 := by omega
    simp only [h, e2, e3, e4, if_true, if_false, true_iff]
    split
    · exact hx
    · split
      · exact hy
      · split
        · exact hz
        · exact hu
  · rw [if_neg h]
    by_cases h2 : n < 2
    · rw [if_neg (by omega), if_neg (by omega), if_pos h2]
      simp
    · rw [if_neg h2]
      by_cases h3 : a1
      · rw [if_pos ⟨by omega, h3⟩, if_pos h3]
        exact ⟨fun _ => hx, fun _ => rfl⟩
      · rw [if_neg (fun e => h3 e.2), if_neg h3]
        by_cases h4 : n < 3
        · rw [if_neg (by omega), if_pos h4]
          simp
        · rw [if_neg h4]
          by_cases h5 : a2
          · rw [if_pos ⟨by omega, h5⟩, if_pos h5]
            exact ⟨fun _ => hy, fun _ => rfl⟩
          · rw [if_neg (fun e => h5 e.2), if_neg h5, if_pos (by omega)]
            simp
theorem full_one (hn : 1 ≤ n) : fullN n b0 b1 b2 = true ↔ oneN n b0 b1 b2 b3 ≠ .more := by
  have nb : One.bad ≠ One.more := fun h => by cases h
  have nk : ∀ c k, One.ok c k ≠ One.more := fun c k h => by cases h
  unfold fullN oneN
  by_cases c1 : b0 < 128
  · have e : firstT b0 = 240 := by unfold firstT; rw [if_pos c1]
    rw [e, if_pos c1, if_pos (by omega)]
    exact ⟨fun _ => nk _ _, fun _ => rfl⟩
  rw [if_neg c1]
  by_cases c2 : b0 < 194 ∨ 245 ≤ b0
  · have e : firstT b0 = 241 := by
      unfold firstT
      rw [if_neg c1]
      by_cases c : b0 < 194
      · rw [if_pos c]
      · rw [if_neg c, if_neg (by omega), if_neg (by omega), if_neg (by omega), if_neg (by omega), if_neg (by omega), if_neg (by omega), if_neg (by omega), if_neg (by omega)]
    rw [e, if_pos c2, if_pos (by omega)]
    exact ⟨fun _ => nb, fun _ => rfl⟩
  rw [if_neg c2]
  by_cases c3 : b0 < 224
  · have e : firstT b0 = 2 := by unfold firstT; rw [if_neg c1, if_neg (by omega), if_pos c3]
    rw [e, if_pos c3]
    exact full2 _ nb _ (nk _ _) _ _ hn
  rw [if_neg c3]
  by_cases c4 : b0 < 240
  · rw [if_pos c4]
    by_cases d1 : b0 = 224
    · have e : firstT b0 = 19 := by subst d1; rfl
      have e1 : loB b0 = 160 := by subst d1; rfl
      have e2 : hiB b0 = 191 := by subst d1; rfl
      rw [e, e1, e2]
      exact full3 _ _ nb (nk _ _) _ nb _ _ hn
    · by_cases d2 : b0 = 237
      · have e : firstT b0 = 35 := by subst d2; rfl
        have e1 : loB b0 = 128 := by subst d2; rfl
        have e2 : hiB b0 = 159 := by subst d2; rfl
        rw [e, e1, e2]
        exact full3 _ _ nb (nk _ _) _ nb _ _ hn
      · have e : firstT b0 = 3 := by
          unfold firstT
          rw [if_neg c1, if_neg (by omega), if_neg c3, if_neg d1]
          by_cases d3 : b0 < 237
          · rw [if_pos d3]
          · rw [if_neg d3, if_neg d2, if_pos c4]
        have e1 : loB b0 = 128 := by unfold loB; rw [if_neg d1, if_neg (by omega)]
        have e2 : hiB b0 = 191 := by unfold hiB; rw [if_neg d2, if_neg (by omega)]
        rw [e, e1, e2]
        exact full3 _ _ nb (nk _ _) _ nb _ _ hn
  · rw [if_neg c4]
    by_cases d1 : b0 = 240
    · have e : firstT b0 = 52 := by subst d1; rfl
      have e1 : loB b0 = 144 := by subst d1; rfl
      have e2 : hiB b0 = 191 := by subst d1; rfl
      rw [e, e1, e2]
      exact full4 _ _ _ _ nb nb nb (nk _ _) _ _ _ hn
    · by_cases d2 : b0 = 244
      · have e : firstT b0 = 68 := by subst d2; rfl
        have e1 : loB b0 = 128 := by subst d2; rfl
        have e2 : hiB b0 = 143 := by subst d2; rfl
        rw [e, e1, e2]
        exact full4 _ _ _ _ nb nb nb (nk _ _) _ _ _ hn
      · have e : firstT b0 = 4 := by
          unfold firstT
          rw [if_neg c1, if_neg (by omega), if_neg c3, if_neg (by omega), if_neg (by omega), if_neg (by omega), if_neg c4, if_neg d1, if_pos (by omega)]
        have e1 : loB b0 = 128 := by unfold loB; rw [if_neg (by omega), if_neg d1]
        have e2 : hiB b0 = 191 := by unfold hiB; rw [if_neg (by omega), if_neg d2]
        rw [e, e1, e2]
        exact full4 _ _ _ _ nb nb nb (nk _ _) _ _ _ hn
end
/-! ### Rows of bytes -/
theorem one_ok {b : List UInt8} {c k : Nat} (hb : b ≠ []) (h : one b = .ok c k) : (1 ≤ k ∧ k ≤ 4 ∧ k ≤ b.length) ∧ Cp c ∧ (k = 1 ↔ c < 128) :=
  oneN_ok (List.length_pos_iff.2 hb) (byt_lt _ _) (byt_lt _ _) (byt_lt _ _) (byt_lt _ _) h
theorem one_app {b x : List UInt8} (hb : b ≠ []) (h : one b ≠ .more) : one (b ++ x) = one b := by
  have hn : 1 ≤ b.length := List.length_pos_iff.2 hb
  unfold one at h ⊢
  rw [byt_app (show 0 < b.length by omega)]
  exact oneN_more (by rw [List.length_append]; omega) (fun h1 => byt_app h1) (fun h2 => byt_app h2) (fun h3 => byt_app h3) hn h
theorem oneN_take {n b0 b1 b2 b3 c k : Nat} (h : oneN n b0 b1 b2 b3 = .ok c k) : oneN k b0 b1 b2 b3 = .ok c k := by
  unfold oneN at h
  repeat' split at h
  all_goals first
    | (cases h; done)
    | (cases h; unfold oneN; simp only [*, if_true, if_false]; first | done | simp)
theorem one_take {b : List UInt8} {c k : Nat} (hb : b ≠ []) (h : one b = .ok c k) : one (b.take k) = .ok c k := by
  obtain ⟨⟨h1, h2, h3⟩, -, -⟩ := one_ok hb h
  have e := oneN_take h
  unfold one
  rw [List.length_take, Nat.min_eq_left h3, byt_take (by omega), ← e]
  by_cases k1 : k = 1
  · subst k1
    unfold oneN
    simp
  rw [byt_take (show 1 < k by omega)]
  by_cases k2 : k = 2
  · subst k2
    unfold oneN
    simp
  rw [byt_take (show 2 < k by omega)]
  by_cases k3 : k = 3
  · subst k3
    unfold oneN
    simp
  rw [byt_take (show 3 < k by omega)]
/-- the bytes b are the code points S, and then r -/
inductive Prs : List UInt8 → List Nat → List UInt8 → Prop where
  | nil (b : List UInt8) : Prs b [] b
  | cons {b : List UInt8} {c k : Nat} {S : List Nat} {r : List UInt8} : b ≠ [] → one b = .ok c k → Prs (b.drop k) S r → Prs b (c :: S) r
/-- no more code points -/
def Stop (r : List UInt8) : Prop := r = [] ∨ ∀ c k, one r ≠ .ok c k
theorem drop_len {b : List UInt8} {c k : Nat} (hb : b ≠ []) (h : one b = .ok c k) : (b.drop k).length < b.length := by
  obtain ⟨⟨h1, -, h3⟩, -, -⟩ := one_ok hb h
  rw [List.length_drop]
  omega
theorem prs_ex : ∀ (n : Nat) (b : List UInt8), b.length ≤ n → ∃ S r, Prs b S r ∧ Stop r
  | 0, b, h => ⟨[], b, .nil b, .inl (List.length_eq_zero_iff.1 (by omega))⟩
  | n + 1, b, h => by
    by_cases hb : b = []
    · exact ⟨[], b, .nil b, .inl hb⟩
    · cases ho : one b with
      | ok c k =>
        have := drop_len hb ho
        obtain ⟨S, r, h1, h2⟩ := prs_ex n (b.drop k) (by omega)
        exact ⟨c :: S, r, .cons hb ho h1, h2⟩
      | more => exact ⟨[], b, .nil b, .inr fun c k e => by rw [ho] at e; cases e⟩
      | bad => exact ⟨[], b, .nil b, .inr fun c k e => by rw [ho] at e; cases e⟩
theorem Prs.uniq {b : List UInt8} {S : List Nat} {r : List UInt8} (h : Prs b S r) (hr : Stop r) : ∀ {S' r'}, Prs b S' r' → Stop r' → S = S' ∧ r = r' := by
  induction h with
  | nil b =>
    intro S' r' h' hr'
    cases h' with
    | nil => exact ⟨rfl, rfl⟩
    | cons hb ho _ =>
      rcases hr with e | e
      · exact absurd e hb
      · exact absurd ho (e _ _)
  | @cons b c k S r hb ho _ ih =>
    intro S' r' h' hr'
    cases h' with
    | nil =>
      rcases hr' with e | e
      · exact absurd e hb
      · exact absurd ho (e _ _)
    | cons hb' ho' h2 =>
      rw [ho] at ho'
      cases ho'
      obtain ⟨e1, e2⟩ := ih hr h2 hr'
      exact ⟨by rw [e1], e2⟩
theorem Prs.app {b x : List UInt8} {S : List Nat} {r : List UInt8} (h : Prs b S r) : Prs (b ++ x) S (r ++ x) := by
  induction h with
  | nil b => exact .nil _
  | @cons b c k S r hb ho _ ih =>
    have hk := (one_ok hb ho).1.2.2
    refine .cons (fun e => hb (List.append_eq_nil_iff.1 e).1) ((one_app hb (by rw [ho]; intro e; cases e)).trans ho) ?_
    rw [List.drop_append_of_le_length hk]
    exact ih
theorem Prs.trans {b : List UInt8} {S S' : List Nat} {r r' : List UInt8} (h : Prs b S r) (h' : Prs r S' r') : Prs b (S ++ S') r' := by
  induction h with
  | nil b => exact h'
  | cons hb ho _ ih => exact .cons hb ho (ih h')
theorem Prs.split {b : List UInt8} {S : List Nat} {r : List UInt8} (h : Prs b S r) : ∃ p, b = p ++ r ∧ Prs p S [] := by
  induction h with
  | nil b => exact ⟨[], rfl, .nil _⟩
  | @cons b c k S r hb ho _ ih =>
    obtain ⟨p, e, hp⟩ := ih
    have hk := (one_ok hb ho).1
    have hb1 : b.take k ≠ [] := fun e => by
      have := congrArg List.length e
      rw [List.length_take, List.length_nil] at this
      omega
    refine ⟨b.take k ++ p, ?_, ?_⟩
    · rw [List.append_assoc, ← e, List.take_append_drop]
    · have ho2 := one_take hb ho
      refine .cons (fun e => hb1 (List.append_eq_nil_iff.1 e).1) ((one_app (x := p) hb1 (by rw [ho2]; intro e; cases e)).trans ho2) ?_
      have hl : (b.take k).length = k := by rw [List.length_take]; omega
      rw [List.drop_append_of_le_length (by omega), List.drop_of_length_le (by omega), List.nil_append]
      exact hp
theorem Prs.cps {b : List UInt8} {S : List Nat} {r : List UInt8} (h : Prs b S r) : ∀ c ∈ S, Cp c := by
  induction h with
  | nil b => intro c hc; simp at hc
  | cons hb ho _ ih =>
    intro c hc
    rcases List.mem_cons.1 hc with rfl | hc
    · exact (one_ok hb ho).2.1
    · exact ih c hc
theorem Prs.len {b : List UInt8} {S : List Nat} {r : List UInt8} (h : Prs b S r) : S.length + r.length ≤ b.length := by
  induction h with
  | nil b => simp
  | cons hb ho _ ih =>
    have := drop_len hb ho
    rw [List.length_cons]
    omega
/-- what never becomes a text, whatever follows -/
theorem bad_stop {r x : List UInt8} (hr : r ≠ []) (h : one r = .bad) : Stop (r ++ x) := .inr fun c k e => by
  rw [one_app hr (by rw [h]; intro e; cases e), h] at e
  cases e
end Go.Utf
