/-
  One round of FilterShares' loop: from any state of both connections to another one.
-/
import Derived.Test.YtckeidfhhobmcaaGreatDoorLaw
namespace Go.Proofs.YtckeidfhhobmcaaGreatDoor
open Go Go.Ev

theorem isOut_iff (s : Nat) : isOut s = true ↔ s = 4 := by unfold isOut; exact ⟨fun h => beq_eq h, fun h => by subst h; rfl⟩

/- the piece that sends -/
theorem both_ok {c s m mode : Nat} (h : both4 c s m mode = true) : run4 c s m mode true = true ∧ (m ≠ 0 → run4 c s m mode false = true) := by
  unfold both4 at h
  cases h1 : run4 c s m mode true with
  | false => rw [h1] at h; cases h
  | true =>
    rw [h1] at h
    refine ⟨rfl, fun hm => ?_⟩
    cases m with
    | zero => exact absurd rfl hm
    | succ k => exact h
theorem run4_of {c s m mode : Nat} {ft : Bool} {s' : Nat} (hs' : s' < 5) (h : run4 c s m mode ft = true) :
    chk .nrm (G4 c m mode ft) (asg4 c s m mode ft) k4 frN (frame4 c (goesS s ft)) (cmn ++ conn c s) (cmn ++ (conn c (newS s m ft) ++ xB (goesS s ft))) (rest4 c s s') (rest4 c s s') = true := by
  have h1 : fit4 c s m mode ft s' (ev4 c s m mode ft) = true := each_ok h hs'
  unfold fit4 ev4 at h1
  unfold chk
  exact h1
theorem send1 {c s m : Nat} (hc : c < 2) (hs : s < 4) (hm : m < 9) : both4 c s m 1 = true := by
  match c, hc, s, hs with
  | 0, _, 0, _ => exact nine_ok send0_0_1 hm
  | 0, _, 1, _ => exact nine_ok send0_1_1 hm
  | 0, _, 2, _ => exact nine_ok send0_2_1 hm
  | 0, _, 3, _ => exact nine_ok send0_3_1 hm
  | 1, _, 0, _ => exact nine_ok send1_0_1 hm
  | 1, _, 1, _ => exact nine_ok send1_1_1 hm
  | 1, _, 2, _ => exact nine_ok send1_2_1 hm
  | 1, _, 3, _ => exact nine_ok send1_3_1 hm
theorem send2 {c s m : Nat} (hc : c < 2) (hs : s < 4) (hm : m < 9) : both4 c s m 2 = true := by
  match c, hc, s, hs with
  | 0, _, 0, _ => exact nine_ok send0_0_2 hm
  | 0, _, 1, _ => exact nine_ok send0_1_2 hm
  | 0, _, 2, _ => exact nine_ok send0_2_2 hm
  | 0, _, 3, _ => exact nine_ok send0_3_2 hm
  | 1, _, 0, _ => exact nine_ok send1_0_2 hm
  | 1, _, 1, _ => exact nine_ok send1_1_2 hm
  | 1, _, 2, _ => exact nine_ok send1_2_2 hm
  | 1, _, 3, _ => exact nine_ok send1_3_2 hm
theorem send4 {c m : Nat} (hc : c < 2) (hm : m < 9) : run4 c 4 m 0 true = true := by
  match c, hc with
  | 0, _ => exact nine_ok send0_4 hm
  | 1, _ => exact nine_ok send1_4 hm

/-- the numbers behind that piece -/
def setLW (c : Nat) (l w : Int) (v : Nu) : Nu := match c with | 0 => { v with l1 := l, w1 := w } | _ => { v with l2 := l, w2 := w }
def getL (c : Nat) (v : Nu) : Int := match c with | 0 => v.l1 | _ => v.l2
def getW (c : Nat) (v : Nu) : Int := match c with | 0 => v.w1 | _ => v.w2
def aftM (m mode : Nat) (ft : Bool) (v : Nu) : Nu :=
  match mode, ft with
  | 0, _ => { v with many := .ofNat m, ft := v.next }
  | _, false => { v with many := .ofNat m, ft := v.next }
  | 1, true => { v with many := .ofNat m, ft := v.next, mt := v.next, u := .ofNat m }
  | _, true => { v with many := .ofNat m, ft := v.next, mt := v.next, u := v.u + .ofNat m }
def aft (c s m mode : Nat) (ft : Bool) (v : Nu) : Nu :=
  match Nat.ble s 1, Nat.beq m 0 with
  | true, true => aftM m mode ft v
  | true, false => setLW c (.ofNat m) (.ofNat m) (aftM m mode ft v)
  | false, _ => (match mode, ft with
    | 0, _ => setLW c (getL c v) (getW c v + .ofNat m) (aftM m mode ft v)
    | _, false => setLW c (getL c v) (getW c v + .ofNat m) (aftM m mode ft v)
    | _, true => setLW c (getL c v + .ofNat m) (getW c v + .ofNat m) (aftM m mode ft v))
theorem fit_ids (v : Nu) : Fit ids (nuF v) (nuF v) 26 := by
  repeat (first | exact trivial | refine And.intro (by first | exact rfl | exact trivial) ?_)
theorem fit_send1 (v : Nu) (m : Nat) {c s mode : Nat} {ft : Bool} (hc : c = 0 ∨ c = 1) (hs : s = 0 ∨ s = 2) (hmode : mode = 0 ∨ mode = 1 ∨ mode = 2) : Fit (asg4 c s m mode ft) (nuF v) (nuF (aft c s m mode ft v)) 26 := by
  cases m with
  | zero =>
    rcases hc with rfl | rfl <;> rcases hs with rfl | rfl <;> rcases hmode with rfl | rfl | rfl <;> cases ft <;>
      repeat (first | exact trivial | refine And.intro (by first | exact rfl | exact trivial) ?_)
  | succ k =>
    rcases hc with rfl | rfl <;> rcases hs with rfl | rfl <;> rcases hmode with rfl | rfl | rfl <;> cases ft <;>
      repeat (first | exact trivial | refine And.intro (by first | exact rfl | exact trivial) ?_)
theorem below_send {m : Nat} {c s mode : Nat} {ft : Bool} (hc : c = 0 ∨ c = 1) (hs : s = 0 ∨ s = 2) (hmode : mode = 0 ∨ mode = 1 ∨ mode = 2) : below26 (asg4 c s m mode ft) = true := by
  cases m with
  | zero => rcases hc with rfl | rfl <;> rcases hs with rfl | rfl <;> rcases hmode with rfl | rfl | rfl <;> cases ft <;> rfl
  | succ k => rcases hc with rfl | rfl <;> rcases hs with rfl | rfl <;> rcases hmode with rfl | rfl | rfl <;> cases ft <;> rfl
theorem fit_send (v : Nu) (m : Nat) {c s mode : Nat} {ft : Bool} (hc : c < 2) (hs : s < 5) (hmode : mode < 3) : below26 (asg4 c s m mode ft) = true ∧ Fit (asg4 c s m mode ft) (nuF v) (nuF (aft c s m mode ft v)) 26 := by
  have hc' : c = 0 ∨ c = 1 := by omega
  have hm' : mode = 0 ∨ mode = 1 ∨ mode = 2 := by omega
  match s, hs with
  | 0, _ => exact ⟨below_send hc' (.inl rfl) hm', fit_send1 v m hc' (.inl rfl) hm'⟩
  | 1, _ => exact ⟨below_send (s := 0) hc' (.inl rfl) hm', fit_send1 (s := 0) v m hc' (.inl rfl) hm'⟩
  | 2, _ => exact ⟨below_send hc' (.inr rfl) hm', fit_send1 v m hc' (.inr rfl) hm'⟩
  | 3, _ => exact ⟨below_send (s := 2) hc' (.inr rfl) hm', fit_send1 (s := 2) v m hc' (.inr rfl) hm'⟩
  | 4, _ => exact ⟨below_send (s := 2) hc' (.inr rfl) hm', fit_send1 (s := 2) v m hc' (.inr rfl) hm'⟩
/-- what stays, and how far the rest goes -/
structure Aft (m : Nat) (v v' : Nu) : Prop where
  n : v'.n = v.n
  tick : v'.tick = v.tick
  used : v'.used = v.used
  next : v'.next = v.next
  i : v'.i = v.i
  len : v'.len = v.len
  leny : v'.leny = v.leny
  many : v'.many = m
  ft : v'.ft = v.next
  sum : v'.sum = v.sum
  l1 : 0 ≤ v'.l1 ∧ v'.l1 ≤ v.l1 + m
  l2 : 0 ≤ v'.l2 ∧ v'.l2 ≤ v.l2 + m
  w1 : 0 ≤ v'.w1 ∧ v'.w1 ≤ v.w1 + m
  w2 : 0 ≤ v'.w2 ∧ v'.w2 ≤ v.w2 + m
theorem aft_ok (v : Nu) (m : Nat) {c s mode : Nat} {ft : Bool} (hc : c < 2) (hmode : mode < 3) (h1 : 0 ≤ v.l1) (h2 : 0 ≤ v.l2) (h3 : 0 ≤ v.w1) (h4 : 0 ≤ v.w2) : Aft m v (aft c s m mode ft v) := by
  have hc' : c = 0 ∨ c = 1 := by omega
  have hm' : mode = 0 ∨ mode = 1 ∨ mode = 2 := by omega
  unfold aft
  generalize Nat.ble s 1 = b1
  generalize Nat.beq m 0 = b2
  rcases hc' with rfl | rfl <;> rcases hm' with rfl | rfl | rfl <;> cases ft <;> cases b1 <;> cases b2 <;>
    (constructor <;> simp only [aftM, setLW, getL, getW, Int.ofNat_eq_natCast] <;> first | rfl | omega)
/-- the meter behind it -/
theorem aft_mu (v : Nu) (m : Nat) {c s mode : Nat} {ft : Bool} (hc : c < 2) (hmode : mode < 3) :
    ((mode = 0 ∨ ft = false) → (aft c s m mode ft v).mt = v.mt ∧ (aft c s m mode ft v).u = v.u) ∧ (mode = 1 ∧ ft = true → (aft c s m mode ft v).mt = v.next ∧ (aft c s m mode ft v).u = m) ∧
      (mode = 2 ∧ ft = true → (aft c s m mode ft v).mt = v.next ∧ (aft c s m mode ft v).u = v.u + m) := by
  have hc' : c = 0 ∨ c = 1 := by omega
  have hm' : mode = 0 ∨ mode = 1 ∨ mode = 2 := by omega
  unfold aft
  generalize Nat.ble s 1 = b1
  generalize Nat.beq m 0 = b2
  rcases hc' with rfl | rfl <;> rcases hm' with rfl | rfl | rfl <;> cases ft <;> cases b1 <;> cases b2 <;>
    simp [aftM, setLW, getL, getW]

/- the states behind it -/
theorem newS_out {s m : Nat} {ft : Bool} (h : isOut s = true ∨ ft = false) : newS s m ft = 4 := by
  unfold newS
  cases h1 : isOut s <;> cases ft <;> simp_all
theorem newS_in {s m : Nat} (h : isOut s = false) : newS s m true < 4 ∧ isOut (newS s m true) = false := by
  have : newS s m true = 1 ∨ newS s m true = 2 ∨ newS s m true = 3 := by
    unfold newS
    rw [h]
    simp only
    cases Nat.beq m 0 <;> cases Nat.ble s 1 <;> simp
  rcases this with e | e | e <;> rw [e] <;> exact ⟨by omega, rfl⟩
theorem goes_iff (s : Nat) (ft : Bool) : goesS s ft = (!isOut s && !ft) := by
  unfold goesS
  cases isOut s <;> cases ft <;> rfl

/- the piece behind it -/
theorem stays_all {s1 s2 : Nat} (h1 : s1 < 5) (h2 : s2 < 5) : run5 0 s1 s2 false false = true ∧ run5 1 s1 s2 false false = true ∧ (isOut s1 = true → run5 0 s1 s2 false true = true) ∧ (isOut s2 = true → run5 1 s1 s2 false true = true) := by
  have h := each2_ok run5_stays h1 h2
  revert h
  generalize run5 0 s1 s2 false false = p00
  generalize run5 1 s1 s2 false false = p10
  generalize run5 0 s1 s2 false true = p01
  generalize run5 1 s1 s2 false true = p11
  generalize isOut s1 = o1
  generalize isOut s2 = o2
  cases p00 <;> cases p10 <;> cases p01 <;> cases p11 <;> cases o1 <;> cases o2 <;> decide
theorem run5_stay {c s1 s2 : Nat} {over : Bool} (hc : c < 2) (h1 : s1 < 5) (h2 : s2 < 5) (ho : over = true → isOut (match c with | 0 => s1 | _ => s2) = true) : run5 c s1 s2 false over = true := by
  obtain ⟨g1, g2, g3, g4⟩ := stays_all h1 h2
  match c, hc with
  | 0, _ =>
    cases over with
    | true => exact g3 (ho rfl)
    | false => exact g1
  | 1, _ =>
    cases over with
    | true => exact g4 (ho rfl)
    | false => exact g2
theorem run5_go {c s1 s2 : Nat} (hc : c < 2) (h1 : s1 < 5) (h2 : s2 < 5) (ho : isOut (match c with | 0 => s1 | _ => s2) = true) : run5 c s1 s2 true true = true := by
  match c, hc with
  | 0, _ =>
    have e : s1 = 4 := (isOut_iff _).1 ho
    subst e
    have h := each_ok run5_goes h2
    cases hx : run5 0 4 s2 true true with | true => rfl | false => rw [hx] at h; cases h
  | 1, _ =>
    have e : s2 = 4 := (isOut_iff _).1 ho
    subst e
    have h := each_ok run5_goes h1
    cases hx : run5 0 4 s1 true true <;> rw [hx] at h
    · cases h
    · exact h
end Go.Proofs.YtckeidfhhobmcaaGreatDoor
