/-
  Rules of the list: what Parse, plan.New, Decimal and isName answer; rules that are well-formed.
  Records of a store, and what they lead to. (Plain.)
  The names that were seen (add), and wellFormed, walked at rules of the list.
  Encode, walked at rules of the list.
  Compile, walked at rules of the list.
-/
import Derived.Test.YtkndgmjlphppdaaGreatDoorRnewAW
import Derived.Test.YtkndgmjlphppdaaGreatDoorRnewBW
import Derived.Test.YtkndgmjlphppdaaGreatDoorRnewCW
import Derived.Test.YtkndgmjlphppdaaGreatDoorDurG0a
import Derived.Test.YtkndgmjlphppdaaGreatDoorDurG0b
import Derived.Lib.Hide
import Derived.Deep.RegionHeld3
import Derived.Deep.AppendLies
import Derived.Deep.RegionLaw
namespace Go.Proofs.YtkndgmjlphppdaaGreatDoor
open Go Go.Ev Go.RowKit

theorem new_all : ∀ k : Nat, k < 9 → ∀ b, chkNew k b = true
  | 0, _, false => new0f
  | 0, _, true => new0t
  | 1, _, false => new1f
  | 1, _, true => new1t
  | 2, _, false => new2f
  | 2, _, true => new2t
  | 3, _, false => new3f
  | 3, _, true => new3t
  | 4, _, false => new4f
  | 4, _, true => new4t
  | 5, _, false => new5f
  | 5, _, true => new5t
  | 6, _, false => new6f
  | 6, _, true => new6t
  | 7, _, false => new7f
  | 7, _, true => new7t
  | 8, _, false => new8f
  | 8, _, true => new8t
  | n + 9, h, _ => absurd h (by omega)
theorem new_inv {k : Nat} {c : Bool} (h : chkNew k c = true) : ∃ p q H n r H2 n2, cal0.fn 62 [.str (txtN k), flg c] .nil .e = .ok (.tup [p, q, .int .i64 0]) H n ∧
    cal0.fn 63 [p, .int .i64 64] H n = .ok (.tup [.ptr r 0, .int .i64 0]) H2 n2 ∧ shp p = true := by
  unfold chkNew at h
  split at h
  · rename_i p q H n h1
    split at h
    · rename_i hshp
      split at h
      · rename_i r H2 n2 h2
        exact ⟨p, q, H, n, r, H2, n2, h1, h2, hshp⟩
      · cases h
    · cases h
  · cases h
theorem isSl_rel {ι : Emb} {v : V} {x : Value} (h : isSl v = true) (hr : V.rel ι v x) : ∃ a m c, x = .slice a m c := by
  cases v <;> simp only [isSl] at h <;> try (cases h; done)
  · exact ⟨_, _, _, hr⟩
  · obtain ⟨b, s, c', _, hx, _⟩ := hr
    exact ⟨_, _, _, hx⟩
/-- a parsed pattern's value -/
def Pat (x : Value) : Prop := ∃ (i0 : Int) (a1 : Option Addr) (m1 c1 : Nat) (a2 : Option Addr) (m2 c2 : Nat) (i3 i4 i5 i6 : Int) (b7 : Bool) (i8 : Int) (b9 : Bool),
  x = .agg #[.int .i64 i0, .slice a1 m1 c1, .slice a2 m2 c2, .int .i64 i3, .int .i64 i4, .int .i64 i5, .int .i64 i6, .bool b7, .int .i64 i8, .bool b9]
theorem shp_rel {ι : Emb} {v : V} {x : Value} (h : shp v = true) (hr : V.rel ι v x) : Pat x := by
  unfold shp at h
  split at h
  · rename_i i0 s1 s2 i3 i4 i5 i6 b7 i8 b9
    split at h
    · rename_i h1
      obtain ⟨cs, rfl, hcs⟩ := hr
      obtain ⟨x0, t0, e0, h0, hcs⟩ := rels_cons_inv hcs
      obtain ⟨x1, t1, e1, h1', hcs⟩ := rels_cons_inv hcs
      obtain ⟨x2, t2, e2, h2, hcs⟩ := rels_cons_inv hcs
      obtain ⟨x3, t3, e3, h3, hcs⟩ := rels_cons_inv hcs
      obtain ⟨x4, t4, e4, h4, hcs⟩ := rels_cons_inv hcs
      obtain ⟨x5, t5, e5, h5, hcs⟩ := rels_cons_inv hcs
      obtain ⟨x6, t6, e6, h6, hcs⟩ := rels_cons_inv hcs
      obtain ⟨x7, t7, e7, h7, hcs⟩ := rels_cons_inv hcs
      obtain ⟨x8, t8, e8, h8, hcs⟩ := rels_cons_inv hcs
      obtain ⟨x9, t9, e9, h9, hcs⟩ := rels_cons_inv hcs
      have e10 := rels_nil_inv hcs
      obtain ⟨a1, m1, c1, rfl⟩ := isSl_rel h1 h1'
      obtain ⟨a2, m2, c2, rfl⟩ := isSl_rel h h2
      simp only [V.rel] at h0 h3 h4 h5 h6 h7 h8 h9
      subst h0; subst h3; subst h4; subst h5; subst h6; subst h7; subst h8; subst h9
      subst e10; subst e9; subst e8; subst e7; subst e6; subst e5; subst e4; subst e3; subst e2; subst e1
      exact ⟨i0, a1, m1, c1, a2, m2, c2, i3, i4, i5, i6, b7, i8, b9, congrArg Value.agg (Array.toList_inj.1 e0)⟩
    · cases h
  · cases h
theorem hokLater {P : Program} {ι : Emb} {H : Heap} {w w' : World} (h : HOK P ι H w) (hs : w.heap.size ≤ w'.heap.size) (hb : ∀ b, b < w.heap.size → w'.heap[b]? = w.heap[b]?) : HOK P ι H w' :=
  ⟨fun p o ho => O.ok_mono (h.obj p o ho) (Emb.le.refl ι) fun b s _ hp => hb b (h.lt p b s hp), h.inj, fun p b s hp => Nat.lt_of_lt_of_le (h.lt p b s hp) hs⟩
/-- the text of the rule k, as a string -/
def Txt (k : Nat) (s : ByteArray) : Prop := s.data.toList.map UInt8.toNat = txtN k
/-- Parse of a text of the list, and New of what it gives -/
theorem parse_new {k : Nat} (hk : k < 9) (c : Bool) {s : ByteArray} (hs : Txt k s) (w : World) :
    Calls Tryz.prog 62 #[.string s, .agg #[.bool false, .bool false, .bool false, .bool c]] w fun e w1 => ∃ x y, e = .returned (.tuple #[x, y, .int .i64 0]) ∧ Below w.heap.size w w1 ∧ Pat x ∧
      ∀ w2 : World, w1.heap.size ≤ w2.heap.size → (∀ b, b < w1.heap.size → w2.heap[b]? = w1.heap[b]?) →
        Calls Tryz.prog 63 #[x, .int .i64 64] w2 fun e w3 => ∃ p, e = .returned (.tuple #[.pointer (some p), .int .i64 0]) ∧ Below w.heap.size w2 w3 := by
  obtain ⟨p, q, H, n, r, H2, n2, h1, h2, hshp⟩ := new_inv (new_all k hk c)
  refine (call1 cal0_ok h1 (fun _ => 0) w _ (rels_cons ⟨s, rfl, hs⟩ (rels_one ?_))).mono fun e w1 he => ?_
  · exact ⟨_, rfl, rels_cons rfl (rels_cons rfl (rels_cons rfl (rels_one rfl)))⟩
  · obtain ⟨x, ι, rfl, hx, hok, hb, hdom, hlive⟩ := he
    obtain ⟨cs, rfl, hcs⟩ := hx
    obtain ⟨x1, t1, e1, hx1, hcs⟩ := rels_cons_inv hcs
    obtain ⟨x2, t2, e2, hx2, hcs⟩ := rels_cons_inv hcs
    obtain ⟨x3, t3, e3, hx3, hcs⟩ := rels_cons_inv hcs
    have e4 := rels_nil_inv hcs
    subst e4; subst e3; subst e2
    have hx3' : x3 = .int .i64 0 := hx3
    subst hx3'
    have ec : cs = #[x1, x2, .int .i64 0] := Array.toList_inj.1 e1
    subst ec
    refine ⟨x1, x2, rfl, hb, shp_rel hshp hx1, fun w2 hs2 hw2 => ?_⟩
    refine (call2 cal0_ok h2 (hokLater hok hs2 hw2) hlive (Nat.le_trans hb.size hs2) hdom _ (rels_cons hx1 (rels_one rfl))).mono fun e w3 he => ?_
    obtain ⟨y, ι', rfl, hy, hok', hb', _, hlive'⟩ := he
    obtain ⟨cs, rfl, hcs⟩ := hy
    obtain ⟨y1, t1, e1, hy1, hcs⟩ := rels_cons_inv hcs
    obtain ⟨y2, t2, e2, hy2, hcs⟩ := rels_cons_inv hcs
    have e4 := rels_nil_inv hcs
    subst e4; subst e2
    have hy2' : y2 = .int .i64 0 := hy2
    subst hy2'
    obtain ⟨b, o, _, rfl⟩ := hy1
    have ec : cs = #[_, .int .i64 0] := Array.toList_inj.1 e1
    subst ec
    exact ⟨_, rfl, hb'⟩
/-- the bytes of s -/
def Bytes (s : ByteArray) (l : List Nat) : Prop := s.data.toList.map UInt8.toNat = l
theorem bytes_inj {s t : ByteArray} {l : List Nat} (h1 : Bytes s l) (h2 : Bytes t l) : s = t := by
  unfold Bytes at h1 h2
  rw [← h2] at h1
  have : s.data.toList = t.data.toList := (List.map_inj_right (fun a b h => UInt8.toNat_inj.1 h)).1 h1
  exact ByteArray.ext (Array.toList_inj.1 this)
theorem bytes_size {s : ByteArray} {l : List Nat} (h : Bytes s l) : s.size = l.length := by
  rw [← h, List.length_map, Array.length_toList]; rfl
theorem dec_walk {j : Nat} (hj : j < 9) (w : World) : Calls Tryz.prog 31 #[.int .i64 (j : Int)] w fun e w' => ∃ s, e = .returned (.string s) ∧ Bytes s [48 + j] ∧ Below w.heap.size w w' := by
  have h := dec_all j hj
  unfold chkDec at h
  split at h
  · rename_i s H n h1
    have hs : s = [48 + j] := of_decide_eq_true h
    subst hs
    refine (call1 cal0_ok h1 (fun _ => 0) w _ (rels_one rfl)).mono fun e w1 he => ?_
    obtain ⟨x, ι, rfl, ⟨b, rfl, hb⟩, _, hbel, _⟩ := he
    exact ⟨b, rfl, hb, hbel⟩
  · cases h
/-- isName says yes -/
def IsName (s : ByteArray) : Prop := ∀ w : World, Calls Tryz.prog 80 #[.string s] w fun e w' => e = .returned (.bool true) ∧ Below w.heap.size w w'
theorem isName_of {j : Nat} (hj : j < 11) {s : ByteArray} (hs : Bytes s (wordN j)) : IsName s := fun w => by
  have h := name_all j hj
  unfold chkName at h
  split at h
  · rename_i H n h1
    refine (call1 cal0_ok h1 (fun _ => 0) w _ (rels_one ⟨s, rfl, hs⟩)).mono fun e w1 he => ?_
    obtain ⟨x, ι, rfl, hx, _, hbel, _⟩ := he
    have hx' : x = .bool true := hx
    subst hx'
    exact ⟨rfl, hbel⟩
  · cases h
/-- bytes as a string -/
def ofB (l : List UInt8) : ByteArray := ⟨l.toArray⟩
theorem toB_ofB (l : List UInt8) : toB (ofB l) = l := rfl
theorem ofB_toB (s : ByteArray) : ofB (toB s) = s := by
  unfold ofB toB
  exact ByteArray.ext (by simp)
theorem ofB_size (l : List UInt8) : (ofB l).size = l.length := by rw [← toB_len, toB_ofB]
theorem ofB_inj {a b : List UInt8} (h : ofB a = ofB b) : a = b := by
  have := congrArg toB h
  simpa [toB_ofB] using this
def txt8 (k : Nat) : List UInt8 := (txtN k).map UInt8.ofNat
def word8 (j : Nat) : List UInt8 := (wordN j).map UInt8.ofNat
theorem txt8_txt : ∀ {k : Nat}, k < 9 → Txt k (ofB (txt8 k))
  | 0, _ | 1, _ | 2, _ | 3, _ | 4, _ | 5, _ | 6, _ | 7, _ | 8, _ => rfl
  | n + 9, h => absurd h (by omega)
theorem txt8_len : ∀ {k : Nat}, k < 9 → (txt8 k).length ≤ 6
  | 0, _ | 1, _ | 2, _ | 3, _ | 4, _ | 5, _ | 6, _ | 7, _ | 8, _ => by decide
  | n + 9, h => absurd h (by omega)
theorem word8_bytes : ∀ {j : Nat}, j < 11 → Bytes (ofB (word8 j)) (wordN j)
  | 0, _ | 1, _ | 2, _ | 3, _ | 4, _ | 5, _ | 6, _ | 7, _ | 8, _ | 9, _ | 10, _ => rfl
  | n + 11, h => absurd h (by omega)
theorem word8_len : ∀ {j : Nat}, j < 11 → 1 ≤ (word8 j).length ∧ (word8 j).length ≤ 2
  | 0, _ | 1, _ | 2, _ | 3, _ | 4, _ | 5, _ | 6, _ | 7, _ | 8, _ | 9, _ | 10, _ => by decide
  | n + 11, h => absurd h (by omega)
theorem word8_named : ∀ {j : Nat}, j < 11 → named (word8 j) = true
  | 0, _ | 1, _ | 2, _ | 3, _ | 4, _ | 5, _ | 6, _ | 7, _ | 8, _ | 9, _ | 10, _ => by decide
  | n + 11, h => absurd h (by omega)
/-- a rule's cells -/
def Ru.cells (r : Ru) : List Value := [.string (ofB r.name), .string (ofB r.text), .bool r.runes]
/-- rules that are taken: names that differ, of the words, texts of the list -/
structure Good (rs : List Ru) : Prop where
  len : rs.length ≤ 8
  nodup : (rs.map Ru.name).Nodup
  each : ∀ r ∈ rs, (∃ k, k < 9 ∧ r.text = txt8 k) ∧ ∃ j, j < 11 ∧ r.name = word8 j
theorem formedFrom_of : ∀ {rs : List Ru} {seen : List (List UInt8)}, (rs.map Ru.name).Nodup → (∀ r ∈ rs, r.name ∉ seen) → (∀ r ∈ rs, named r.name = true ∧ r.text.length ≤ 2048) → formedFrom seen rs = true
  | [], _, _, _, _ => rfl
  | r :: t, seen, h1, h2, h3 => by
    rw [List.map_cons, List.nodup_cons] at h1
    unfold formedFrom
    have a := h3 r (List.mem_cons_self ..)
    rw [a.1, formedFrom_of h1.2 (fun x hx => ?_) fun x hx => h3 x (List.mem_cons_of_mem _ hx)]
    · simp [h2 r (List.mem_cons_self ..), a.2]
    · simp only [List.mem_append, List.mem_singleton, not_or]
      exact ⟨h2 x (List.mem_cons_of_mem _ hx), fun e => h1.1 (e ▸ List.mem_map.2 ⟨x, hx, rfl⟩)⟩
theorem Good.isFormed {rs : List Ru} (h : Good rs) : formed rs = true := by
  unfold formed
  have hl := h.len
  simp only [Bool.and_eq_true, decide_eq_true_eq]
  refine ⟨by omega, formedFrom_of h.nodup (fun r _ => by simp) fun r hr => ?_⟩
  obtain ⟨⟨k, hk, ht⟩, j, hj, hn⟩ := h.each r hr
  rw [hn, ht]
  have := txt8_len hk
  exact ⟨word8_named hj, by omega⟩
theorem uv_one {n : Nat} (h : n < 128) : (uv n).length = 1 := by rw [uv_small h]; rfl
theorem encOne_len {r : Ru} (h : (∃ k, k < 9 ∧ r.text = txt8 k) ∧ ∃ j, j < 11 ∧ r.name = word8 j) : (encOne r).length ≤ 11 := by
  obtain ⟨⟨k, hk, ht⟩, j, hj, hn⟩ := h
  have h1 := txt8_len hk
  have h2 := (word8_len hj).2
  unfold encOne encR encB
  rw [ht, hn]
  simp only [List.length_append, List.length_singleton]
  rw [uv_one (by omega), uv_one (by omega)]
  omega
theorem encMany_len : ∀ {rs : List Ru}, (∀ r ∈ rs, (encOne r).length ≤ 11) → (encMany rs).length ≤ 11 * rs.length
  | [], _ => by simp [encMany]
  | r :: t, h => by
    have h1 := h r (List.mem_cons_self ..)
    have h2 := encMany_len (rs := t) fun x hx => h x (List.mem_cons_of_mem _ hx)
    have e : encMany (r :: t) = encOne r ++ encMany t := rfl
    rw [e, List.length_append, List.length_cons]
    omega
theorem Good.encL_len {rs : List Ru} (h : Good rs) : (encL rs).length ≤ 100 := by
  have h1 := encMany_len fun r hr => encOne_len (h.each r hr)
  have h2 := h.len
  unfold encL encI
  rw [List.length_append, uv_one]
  · omega
  · unfold zz
    rw [if_neg (by omega)]
    omega
theorem encL_pos (rs : List Ru) : 0 < (encL rs).length := by
  unfold encL
  rw [List.length_append]
  have := encI_pos (rs.length : Int)
  omega
end Go.Proofs.YtkndgmjlphppdaaGreatDoor
namespace Go.Proofs.YtkndgmjlphppdaaGreatDoor

inductive Rec where
  | save (rs : List Ru)
  | use (n : Nat)
def Rec.enc : Rec → List UInt8
  | .save rs => encI 0 ++ encR (encL rs)
  | .use n => encI 1 ++ encI n
def Rec.ver : Rec → Option (List Ru)
  | .save rs => some rs
  | .use _ => none
def Rec.act : Int → Rec → Int
  | a, .save _ => a
  | _, .use n => n
def versOf (l : List Rec) : List (List Ru) := l.filterMap Rec.ver
def actOf (l : List Rec) : Int := l.foldl Rec.act (-1)
theorem versOf_save (l : List Rec) (rs : List Ru) : versOf (l ++ [.save rs]) = versOf l ++ [rs] := by simp [versOf, Rec.ver]
theorem versOf_use (l : List Rec) (n : Nat) : versOf (l ++ [.use n]) = versOf l := by simp [versOf, Rec.ver]
theorem actOf_save (l : List Rec) (rs : List Ru) : actOf (l ++ [.save rs]) = actOf l := by simp [actOf, Rec.act]
theorem actOf_use (l : List Rec) (n : Nat) : actOf (l ++ [.use n]) = n := by simp [actOf, Rec.act]
theorem versOf_len (l : List Rec) : (versOf l).length ≤ l.length := List.length_filterMap_le ..
/-- a record that can be replayed behind the records l -/
def RecOk (l : List Rec) : Rec → Prop
  | .save rs => Good rs
  | .use n => n < (versOf l).length
/-- records that can be replayed -/
structure RecsOk (l : List Rec) : Prop where
  len : l.length ≤ 1000
  each : ∀ i (h : i < l.length), RecOk (l.take i) l[i]
theorem RecsOk.nil : RecsOk [] := ⟨by simp, fun i h => by simp at h⟩
theorem RecsOk.snoc {l : List Rec} {r : Rec} (h : RecsOk l) (hl : l.length < 1000) (hr : RecOk l r) : RecsOk (l ++ [r]) := by
  refine ⟨by simp; omega, fun i hi => ?_⟩
  rw [List.length_append, List.length_singleton] at hi
  rcases Nat.lt_or_ge i l.length with h1 | h1
  · rw [List.take_append_of_le_length (by omega), List.getElem_append_left h1]
    exact h.each i h1
  · have e : i = l.length := by omega
    subst e
    rw [List.take_left]
    simpa using hr
theorem RecsOk.take {l : List Rec} (h : RecsOk l) (m : Nat) : RecsOk (l.take m) := by
  refine ⟨by have := h.len; rw [List.length_take]; omega, fun i hi => ?_⟩
  have hi' : i < m ∧ i < l.length := by rw [List.length_take] at hi; omega
  rw [List.take_take, Nat.min_eq_left (by omega), List.getElem_take]
  exact h.each i hi'.2
theorem encI_len1 {n : Nat} (h : n < 64) : (encI (n : Int)).length = 1 := by
  unfold encI
  rw [uv_one]
  unfold zz
  rw [if_neg (by omega)]
  omega
theorem enc_save_len {rs : List Ru} (h : Good rs) : (Rec.enc (.save rs)).length ≤ 110 := by
  have h1 := h.encL_len
  have h0 := encI_len1 (n := 0) (by omega)
  unfold Rec.enc encR
  rw [List.length_append, List.length_append, show (0 : Int) = ((0 : Nat) : Int) from rfl, h0, uv_one (by omega)]
  omega
theorem enc_use_len {n : Nat} (h : n ≤ 1000) : (Rec.enc (.use n)).length ≤ 12 := by
  have h0 := encI_len1 (n := 1) (by omega)
  have h1 : (encI (n : Int)).length ≤ 10 := uv_ten (zz_lt ⟨by omega, by omega⟩)
  unfold Rec.enc
  rw [List.length_append, show (1 : Int) = ((1 : Nat) : Int) from rfl, h0]
  omega
theorem RecOk.len {l : List Rec} {r : Rec} (h : RecOk l r) (hl : l.length ≤ 1000) : r.enc.length ≤ 110 := by
  cases r with
  | save rs => exact enc_save_len h
  | use n =>
    have h' : n < (versOf l).length := h
    have := versOf_len l
    have := enc_use_len (n := n) (by omega)
    omega
theorem RecsOk.recs {l : List Rec} (h : RecsOk l) : ∀ x ∈ l.map Rec.enc, x.length < 1000000000000 := fun x hx => by
  obtain ⟨r, hr, rfl⟩ := List.mem_map.1 hx
  obtain ⟨i, hi, rfl⟩ := List.getElem_of_mem hr
  have := (h.each i hi).len (by have := h.len; rw [List.length_take]; omega)
  omega
/-- the file's bytes of the records -/
def fileOf (l : List Rec) : List UInt8 := framesFrom frameH 0 (l.map Rec.enc)
theorem fileOf_snoc (l : List Rec) (r : Rec) : fileOf (l ++ [r]) = fileOf l ++ frame frameH l.length r.enc := by
  unfold fileOf
  rw [List.map_append, framesFrom_app]
  simp [framesFrom]
theorem fileOf_len {l : List Rec} (h : RecsOk l) : (fileOf l).length ≤ 150 * l.length := by
  have key : ∀ m, m ≤ l.length → (fileOf (l.take m)).length ≤ 150 * m := by
    intro m
    induction m with
    | zero => intro _; simp [fileOf, framesFrom]
    | succ m ih =>
      intro hm
      have h1 := ih (by omega)
      have hlen := h.len
      rw [List.take_succ_eq_append_getElem (by omega : m < l.length), fileOf_snoc, List.length_append]
      have h2 := (h.each m (by omega)).len (by rw [List.length_take]; omega)
      have h3 := frame_len frameH frameH_lt (l.take m).length (l[m]).enc (by rw [List.length_take]; omega) (by omega)
      omega
  have := key l.length (Nat.le_refl _)
  rwa [List.take_length] at this
theorem scan_file {l : List Rec} (h : RecsOk l) : scan frameH ((fileOf l).length + 1) (fileOf l) 0 = l.map Rec.enc := by
  have hlen := h.len
  have hn : ∀ (k : Nat) (rs : List (List UInt8)), rs.length ≤ (framesFrom frameH k rs).length := by
    intro k rs
    induction rs generalizing k with
    | nil => simp [framesFrom]
    | cons r t ih =>
      have h1 := frame_pos frameH k r
      have h2 := ih (k + 1)
      simp only [framesFrom, List.length_append, List.length_cons]
      omega
  have h1 := hn 0 (l.map Rec.enc)
  have := scan_frames (H := frameH) ((fileOf l).length + 1) 0 (l.map Rec.enc) [] (by unfold fileOf; omega) (by simp; omega) h.recs (fst_nil _ _)
  rw [List.append_nil] at this
  exact this
end Go.Proofs.YtkndgmjlphppdaaGreatDoor
namespace Go.Proofs.YtkndgmjlphppdaaGreatDoor
open Go Go.RowKit Go.Smap

theorem setBlock_other {w : World} {B : Nat} {o : Obj} {c : Nat} (h : c ≠ B) : (ChangeMaps.setBlock w B o).heap[c]? = w.heap[c]? := by
  simp only [ChangeMaps.setBlock, Array.getElem?_setIfInBounds]
  rw [if_neg (fun e => h e.symm)]
theorem zeroBool (w : World) : (zeroValue 4).run Tryz.prog w = .ok (.bool false) w := by kernel_rfl
set_option maxRecDepth 1000000 in
theorem add_walk {w : World} {B n : Nat} {f : ByteArray → Option Value} (h : IsMap w B n f) (hn : n ≤ 1000) {s : ByteArray} (hs : s.size ≤ maxLen) (hname : IsName s) (hnew : f s = none) :
    Calls Tryz.prog 61 #[.map (some B), .string s] w fun e w' => e = .returned (.int .i64 0) ∧ Chg (Only B) w w' ∧ IsMap w' B (n + 1) (fun u => if u = s then some (.bool true) else f u) := by
  have hnm := hname w
  go_enter Tryz.func61, Tryz.ntmps61
  go_wp2_with (first
    | (go_at_call 80; refine hnm.mono ?_; rintro _ w1 ⟨rfl, hb1⟩; have hm1 := h.same (hb1.block B h.lt); have hl : (Instr.lookup 108 (.map (some B)) (.string s) false).run Tryz.prog w1 = .ok (.bool false) w1 := by { have := hm1.lookup Tryz.underlying108 Tryz.underlying9 (zeroBool w1) hs; rw [hnew] at this; exact this }; obtain ⟨o, hrun, hmap⟩ := hm1.update (by unfold maxLen; omega) Tryz.underlying108 Tryz.underlying9 hs (.bool true))
    | go_in)
  go_ret
  exact ⟨rfl, ⟨hb1.os, hb1.tape, hb1.output, by simp [ChangeMaps.setBlock]; exact hb1.size, fun k hk hne => (setBlock_other hne).trans (hb1.block k hk)⟩, hmap⟩
theorem flat_at {α : Type} (c : α → List Value) (m : Nat) (hm : ∀ a, (c a).length = m) : ∀ (D : List α) (j : Nat) (h : j < D.length) (i : Nat), i < m → (D.flatMap c)[j * m + i]? = (c D[j])[i]?
  | a :: t, 0, _, i, hi => by
    rw [List.flatMap_cons, List.getElem?_append_left (by rw [hm]; omega)]
    simp
  | a :: t, j + 1, h, i, hi => by
    have e : (j + 1) * m + i = (c a).length + (j * m + i) := by rw [hm, Nat.succ_mul]; omega
    rw [List.flatMap_cons, e, List.getElem?_append_right (by omega), Nat.add_sub_cancel_left]
    exact flat_at c m hm t j (by simpa using h) i hi
theorem owns_shape {w : World} {base : Nat} {e : TypeId} {size : Nat} {v : Value} {n : Nat} {xs : List Value} (h : w.ownsRow base e size v n xs) : ∃ a c, v = .slice a n c ∧ (n ≠ 0 → ∃ g, a = some ⟨g, 0, none⟩) := by
  rcases h.2 with ⟨rfl, rfl⟩ | ⟨g, cap, cur, rfl, _⟩
  · exact ⟨none, 0, rfl, fun h => absurd rfl h⟩
  · exact ⟨_, _, rfl, fun _ => ⟨g, rfl⟩⟩
theorem rl_cells {w : World} {base g cap : Nat} {e : TypeId} {rs : List Ru} (hown : w.ownsRow base e 3 (.slice (some ⟨g, 0, none⟩) rs.length cap) rs.length (rs.flatMap Ru.cells)) {j : Nat} (hj : j < rs.length) :
    w.cell? ⟨g, j * 3, none⟩ = some (.string (ofB rs[j].name)) ∧ w.cell? ⟨g, j * 3 + 1, none⟩ = some (.string (ofB rs[j].text)) ∧ w.cell? ⟨g, j * 3 + 2, none⟩ = some (.bool rs[j].runes) := by
  have hcell : ∀ i, i < 3 → w.cell? ⟨g, j * 3 + i, none⟩ = (Ru.cells rs[j])[i]? := fun i hi => by
    rw [hown.cellAt _ (by have := Nat.mul_le_mul_right 3 (Nat.succ_le_of_lt hj); omega), flat_at Ru.cells 3 (fun _ => rfl) rs j hj i hi]
  exact ⟨hcell 0 (by omega), hcell 1 (by omega), hcell 2 (by omega)⟩
/-- the map of the names seen ahead of round j -/
structure Names (w : World) (B j : Nat) (rs : List Ru) (f : ByteArray → Option Value) : Prop where
  map : IsMap w B j f
  fresh : ∀ r ∈ rs.drop j, f (ofB r.name) = none
theorem Names.step {w w' : World} {B j : Nat} {rs : List Ru} {f : ByteArray → Option Value} (h : Names w B j rs f) (hj : j < rs.length) (hnd : (rs.map Ru.name).Nodup)
    (hm : IsMap w' B (j + 1) (fun u => if u = ofB rs[j].name then some (.bool true) else f u)) : Names w' B (j + 1) rs (fun u => if u = ofB rs[j].name then some (.bool true) else f u) := by
  have hd : rs.drop j = rs[j] :: rs.drop (j + 1) := List.drop_eq_getElem_cons hj
  refine ⟨hm, fun r hr => ?_⟩
  have hne : ofB r.name ≠ ofB rs[j].name := fun e => by
    have h2 : ((rs.drop j).map Ru.name).Nodup := by rw [List.map_drop]; exact hnd.sublist (List.drop_sublist _ _)
    rw [hd, List.map_cons] at h2
    exact (List.nodup_cons.1 h2).1 (List.mem_map.2 ⟨r, hr, ofB_inj e⟩)
  show (if _ then _ else _) = _
  rw [if_neg hne]
  exact h.fresh r (by rw [hd]; exact List.mem_cons_of_mem _ hr)
theorem Names.now {w : World} {B j : Nat} {rs : List Ru} {f : ByteArray → Option Value} (h : Names w B j rs f) (hj : j < rs.length) : f (ofB rs[j].name) = none :=
  h.fresh rs[j] (by rw [List.drop_eq_getElem_cons hj]; exact List.mem_cons_self ..)
theorem names_made (w : World) (rs : List Ru) : Names (w.alloc (.map #[] 0)) w.heap.size 0 rs fun _ => none := ⟨isMap_made w, fun _ _ => rfl⟩
theorem Names.same {w w' : World} {B j : Nat} {rs : List Ru} {f : ByteArray → Option Value} (h : Names w B j rs f) (hb : w'.heap[B]? = w.heap[B]?) : Names w' B j rs f := ⟨h.map.same hb, h.fresh⟩
theorem Good.word {rs : List Ru} (h : Good rs) {r : Ru} (hr : r ∈ rs) : IsName (ofB r.name) ∧ (ofB r.name).size ≤ maxLen ∧ (ofB r.text).size ≤ 6 ∧ ∃ k, k < 9 ∧ Txt k (ofB r.text) := by
  obtain ⟨⟨k, hk, ht⟩, j, hj, hn⟩ := h.each r hr
  rw [hn, ht, ofB_size, ofB_size]
  exact ⟨isName_of hj (word8_bytes hj), by have := (word8_len hj).2; unfold maxLen; omega, txt8_len hk, k, hk, txt8_txt hk⟩
theorem below_chg {w wr w1 : World} {B m : Nat} (h : Below B w wr) (hc : Chg (Only m) wr w1) (hm : B ≤ m) (hB : B ≤ wr.heap.size) : Below B w w1 := h.trans (hc.to_below hB fun k _ e => by have : k = m := e; omega)
set_option maxHeartbeats 8000000 in
set_option maxRecDepth 1000000 in
theorem well_walk {w : World} {base : Nat} {v : Value} {rs : List Ru} (hown0 : w.ownsRow base 86 3 v rs.length (rs.flatMap Ru.cells)) (hG : Good rs) :
    Calls Tryz.prog 64 #[v] w fun e w' => e = .returned (.bool true) ∧ Below w.heap.size w w' := by
  have hlen := hG.len
  have hmm := @run_makeMap Tryz.prog
  obtain ⟨va, vc, rfl, hva⟩ := owns_shape hown0
  have hlt0 := World.ownsRow.lt hown0
  go_enter Tryz.func64, Tryz.ntmps64
  go_wp2
  go_loopw [12] (fun i wr => ∃ (j : Nat) (f : ByteArray → Option Value), j ≤ rs.length ∧ i = .int .i64 j ∧ Names wr w.heap.size j rs f ∧ Below w.heap.size w wr ∧ w.heap.size + 1 ≤ wr.heap.size) (fun i _ => rs.length - (intOf i).toNat)
  case atStart => exact ⟨0, fun _ => none, Nat.zero_le _, rfl, names_made w rs, (Below.refl _ _).alloc (Nat.le_refl _) _, by simp⟩
  case round =>
    obtain ⟨j, f, hj, rfl, hN, hbel, hsz⟩ := hrel
    by_cases hjl : j < rs.length
    · obtain ⟨g, rfl⟩ := hva (by omega)
      obtain ⟨c0, c1, c2⟩ := rl_cells hown0 hjl
      have hg := (hlt0 g rfl).2
      have c0' := (hbel.cell (p := ⟨g, j * 3, none⟩) hg).trans c0
      have c1' := (hbel.cell (p := ⟨g, j * 3 + 1, none⟩) hg).trans c1
      have c2' := (hbel.cell (p := ⟨g, j * 3 + 2, none⟩) hg).trans c2
      obtain ⟨hname, hnsz, htsz, _⟩ := hG.word (List.getElem_mem hjl)
      have hadd := fun o => add_walk (hN.map.alloc o) (by omega) hnsz hname (hN.now hjl)
      have hst := Lib.hid (fun (w' : World) => hN.step (w' := w') hjl hG.nodup)
      obtain ⟨nm, hnm⟩ : ∃ s, ofB rs[j].name = s := ⟨_, rfl⟩
      obtain ⟨tx, htx⟩ : ∃ s, ofB rs[j].text = s := ⟨_, rfl⟩
      obtain ⟨ru, hru⟩ : ∃ s, rs[j].runes = s := ⟨_, rfl⟩
      rw [hnm] at c0' hadd hst
      rw [htx] at c1' htsz
      rw [hru] at c2'
      have htl : ¬ (2048 : Int) < (tx.size : Int) := by omega
      clear hnm htx hru hG hN c0 c1 c2 hown0 hlt0
      go_wp2_with (first
        | (go_at_call 61; refine (hadd _).mono ?_; rintro _ w1 ⟨rfl, hchg, hmap1⟩; have hR : w1.heap[wr.heap.size]? = some (.cells #[.string nm, .string tx, .bool ru] 86 (0, 0)) := (hchg.block wr.heap.size (by simp) (fun e => by have e' : wr.heap.size = w.heap.size := e; omega)).trans (heap_alloc_new _ _); have q1 : w1.cell? ⟨wr.heap.size, 1, none⟩ = some (.string tx) := by { simp [World.cell?, hR] })
        | go_in)
      go_roundw
      case rel =>
        have hs1 := hchg.size
        exact ⟨j + 1, _, hjl, by go_num, hst.out w1 hmap1, below_chg (hbel.alloc (by omega) _) hchg (Nat.le_refl _) (by simp; omega), by simp at hs1; omega⟩
      case measure => simp [intOf]; omega
    · have hje : j = rs.length := by omega
      subst hje
      go_wp2_with fail
      go_ret
      exact ⟨rfl, hbel⟩
end Go.Proofs.YtkndgmjlphppdaaGreatDoor
namespace Go.Proofs.YtkndgmjlphppdaaGreatDoor
open Go Go.RowKit Go.Smap

/-- the writer's block S has the bytes l; below S nothing changed, nor did blocks of other types -/
structure Went (S : Nat) (w w' : World) (v' : Value) (l' : List UInt8) : Prop where
  wr : WrAt w' S S v' l'
  bel : Below S w w'
  size : w.heap.size ≤ w'.heap.size
  keep : ∀ (g : Nat) (t : TypeId) (cs : Array Value), Blk w g t cs → g ≠ S → 5 ≠ t → Blk w' g t cs
theorem Wrote.went {S : Nat} {w w' : World} {v v' : Value} {l l' : List UInt8} (h : Wrote w S S v w' v' l') (h0 : WrAt w S S v l) (hS : S ≤ w.heap.size) : Went S w w' v' l' :=
  ⟨h.wr, h.below h0 hS (Nat.le_refl _), h.chg.size, fun _ _ _ hb hg ht => h.blk h0 hb hg ht⟩
theorem raw_str {S : Nat} {w : World} {v : Value} {l : List UInt8} (h : WrAt w S S v l) (hS : S ≤ w.heap.size) (hl : l.length ≤ 1000000) (x : List UInt8) (hx : x.length ≤ 1000000) {c : Nat} (hc : x.length ≤ c) :
    Calls Tryz.prog 35 #[.pointer (some ⟨S, 0, none⟩), .slice (some ⟨w.heap.size, 0, none⟩) x.length c] (Lib.bytesWorld w 5 (ofB x)) fun e w' => e = .returned (.tuple #[]) ∧ ∃ v', Went S w w' v' (l ++ encR x) := by
  have hb := below_bytes (n := w.heap.size) w 5 (ofB x) (Nat.le_refl _)
  have hsz := Lib.bytesWorld_size w 5 (ofB x)
  have h1 := h.bel hb
  have hlt := h.blk.lt
  have hsee : Sees (Lib.bytesWorld w 5 (ofB x)) 1 (.slice (some ⟨w.heap.size, 0, none⟩) x.length c) (bv x) := by
    refine ⟨_, _, _, rfl, by rw [bv_len]; omega, hc, fun _ => ⟨w.heap.size, 0, rfl, by omega, fun i u hu => ?_⟩⟩
    exact bytes_cell w 5 (ofB x) i u (by rw [toB_ofB]; exact hu)
  refine (raw_walk h1 (by omega) (by omega) (by omega) hsee fun g hg hf => ?_).mono ?_
  · have hg' : g = w.heap.size := by
      cases hx0 : x.length with
      | zero => rw [hx0] at hg; cases hg
      | succ n => rw [hx0] at hg; cases hg; rfl
    rcases hf with hf | hf
    · omega
    · have := (World.ownsRow.lt h.row g hf).2
      omega
  · rintro e w' ⟨rfl, v', hW⟩
    have hw := hW.went h1 (by omega)
    exact ⟨rfl, v', hw.wr, (hb.mono hS).trans hw.bel, by have := hw.size; omega, fun g t cs hbk hg ht => hw.keep g t cs (hbk.bel hb hbk.lt) hg ht⟩
theorem Went.trans {S : Nat} {a b c : World} {v v' : Value} {l l' : List UInt8} (h : Went S a b v l) (k : Went S b c v' l') : Went S a c v' l' :=
  ⟨k.wr, h.bel.trans k.bel, Nat.le_trans h.size k.size, fun g t cs hb hg ht => k.keep g t cs (h.keep g t cs hb hg ht) hg ht⟩
theorem encMany_snoc (rs : List Ru) {j : Nat} (hj : j < rs.length) : encMany (rs.take (j + 1)) = encMany (rs.take j) ++ encR rs[j].name ++ encR rs[j].text ++ encB rs[j].runes := by
  unfold encMany
  rw [List.take_succ_eq_append_getElem hj, List.flatMap_append]
  simp [encOne]
theorem Good.take {rs : List Ru} (h : Good rs) (j : Nat) : (encMany (rs.take j)).length ≤ 100 := by
  have h1 := encMany_len (rs := rs.take j) fun r hr => encOne_len (h.each r (List.mem_of_mem_take hr))
  have h2 := h.len
  rw [List.length_take] at h1
  omega
set_option maxHeartbeats 8000000 in
set_option maxRecDepth 1000000 in
theorem encode_walk {w : World} {base : Nat} {v : Value} {rs : List Ru} (hown0 : w.ownsRow base 86 3 v rs.length (rs.flatMap Ru.cells)) (hG : Good rs) :
    Calls Tryz.prog 33 #[v] w fun e w' => ∃ u, e = .returned (.tuple #[u, .int .i64 0]) ∧ w'.ownsRow w.heap.size 5 1 u (encL rs).length (bv (encL rs)) ∧ Below w.heap.size w w' := by
  have hlen := hG.len
  have hwell := well_walk hown0 hG
  have hconv := conv_bytes
  have hEl := hG.encL_len
  have hin : In64 (rs.length : Int) := ⟨by omega, by omega⟩
  have hI1 : (encI (rs.length : Int)).length ≤ 10 := uv_ten (zz_lt hin)
  obtain ⟨L, hL⟩ : ∃ L, encL rs = L := ⟨_, rfl⟩
  have hL' := Lib.hid (show encI (rs.length : Int) ++ encMany rs = L from hL)
  rw [hL] at hEl ⊢
  clear hL
  obtain ⟨va, vc, rfl, hva⟩ := owns_shape hown0
  have hlt0 := World.ownsRow.lt hown0
  go_enter Tryz.func33, Tryz.ntmps33
  go_wp2_with fail
  go_at_call 64
  refine hwell.mono ?_
  clear hwell
  rintro _ w1 ⟨rfl, hB1⟩
  have s1 := hB1.size
  obtain ⟨S, hS⟩ : ∃ S, w1.heap.size = S := ⟨_, rfl⟩
  have ha1 : WrAt (w1.alloc (.cells #[.slice none 0 0] 81)) S S (.slice none 0 0) [] := ⟨hS ▸ Blk.made w1 81 #[.slice none 0 0], World.ownsRow_nil _ _ _ _⟩
  have hz : (w1.alloc (.cells #[.slice none 0 0] 81)).heap.size = S + 1 := by rw [World.size_alloc, hS]
  have hi := int_walk ha1 (by omega) (by simp) hin
  go_wp2_with fail
  go_at_call 34
  refine hi.mono ?_
  clear hi
  rintro _ w2 ⟨rfl, v2, hW2⟩
  have hw2 := hW2.went ha1 (by omega)
  have hB2 : Below S w1 w2 := ((Below.refl S w1).alloc (by omega) _).trans hw2.bel
  have s2 := hw2.size
  have hwr2 := hw2.wr
  rw [List.nil_append] at hwr2
  clear hW2 hw2 ha1
  go_wp2
  go_loopw [15] (fun i wr => ∃ (j : Nat) (v' : Value), j ≤ rs.length ∧ i = .int .i64 j ∧ WrAt wr S S v' (encI (rs.length : Int) ++ encMany (rs.take j)) ∧ Below S w1 wr ∧ S + 1 ≤ wr.heap.size) (fun i _ => rs.length - (intOf i).toNat)
  case atStart => exact ⟨0, v2, Nat.zero_le _, rfl, by simpa [encMany] using hwr2, hB2, by omega⟩
  case round =>
    obtain ⟨j, v', hj, rfl, hwr, hbel, hsz⟩ := hrel
    by_cases hjl : j < rs.length
    · obtain ⟨g, rfl⟩ := hva (by omega)
      obtain ⟨c0, c1, c2⟩ := rl_cells hown0 hjl
      have hg := (hlt0 g rfl).2
      have hbel0 : Below w.heap.size w wr := hB1.trans (hbel.mono (by omega))
      have c0' := (hbel0.cell (p := ⟨g, j * 3, none⟩) hg).trans c0
      have c1' := (hbel0.cell (p := ⟨g, j * 3 + 1, none⟩) hg).trans c1
      have c2' := (hbel0.cell (p := ⟨g, j * 3 + 2, none⟩) hg).trans c2
      have htk := hG.take j
      have htk1 := hG.take (j + 1)
      have hsn := encMany_snoc rs hjl
      have hnl := hG.word (List.getElem_mem hjl)
      have hn6 := hnl.2.2.1
      have hn2 : rs[j].name.length ≤ 2 := by
        obtain ⟨_, q, hq, hnm⟩ := hG.each rs[j] (List.getElem_mem hjl)
        rw [hnm]; exact (word8_len hq).2
      rw [ofB_size] at hn6
      obtain ⟨nm, hnm⟩ : ∃ s, rs[j].name = s := ⟨_, rfl⟩
      obtain ⟨tx, htx⟩ : ∃ s, rs[j].text = s := ⟨_, rfl⟩
      obtain ⟨ru, hru⟩ : ∃ s, rs[j].runes = s := ⟨_, rfl⟩
      rw [hnm] at c0' hsn hn2
      rw [htx] at c1' hsn hn6
      rw [hru] at c2' hsn
      have hNR : (encR nm).length ≤ 12 := by have := uv_ten (n := nm.length) (by omega); unfold encR; rw [List.length_append]; omega
      have hTR : (encR tx).length ≤ 16 := by have := uv_ten (n := tx.length) (by omega); unfold encR; rw [List.length_append]; omega
      obtain ⟨P, hP⟩ : ∃ P, encI (rs.length : Int) ++ encMany (rs.take j) = P := ⟨_, rfl⟩
      have hPl : P.length ≤ 200 := by rw [← hP, List.length_append]; omega
      have hfin : encI (rs.length : Int) ++ encMany (rs.take (j + 1)) = P ++ encR nm ++ encR tx ++ encB ru := by rw [← hP, hsn]; simp
      rw [hP] at hwr
      have hR0 : Blk (wr.alloc (.cells #[.string (ofB nm), .string (ofB tx), .bool ru] 86)) wr.heap.size 86 #[.string (ofB nm), .string (ofB tx), .bool ru] := Blk.made _ _ _
      have hwrA := hwr.alloc (.cells #[.string (ofB nm), .string (ofB tx), .bool ru] 86)
      have hBA : Below S w1 (wr.alloc (.cells #[.string (ofB nm), .string (ofB tx), .bool ru] 86)) := hbel.alloc (by omega) _
      have hzA : (wr.alloc (.cells #[.string (ofB nm), .string (ofB tx), .bool ru] 86)).heap.size = wr.heap.size + 1 := World.size_alloc ..
      obtain ⟨WA, hWA⟩ : ∃ WA, wr.alloc (.cells #[.string (ofB nm), .string (ofB tx), .bool ru] 86) = WA := ⟨_, rfl⟩
      obtain ⟨R, hR⟩ : ∃ R, wr.heap.size = R := ⟨_, rfl⟩
      rw [hWA] at hR0 hwrA hBA hzA
      rw [hR] at hR0 hzA hsz
      have r0 := hR0.at' 0
      have hH := Lib.hid hfin
      simp only [List.getElem?_toArray, List.getElem?_cons_zero] at r0
      clear hnm htx hru hG c0 c1 c2 hown0 hlt0 hnl hsn hP hfin htk htk1 hwr hbel0
      have hNS : (ofB nm).size = nm.length := ofB_size nm
      have hTS : (ofB tx).size = tx.length := ofB_size tx
      have hcap1 := cap_le WA (ofB nm)
      have hr1 := fun (c : Nat) (hc : nm.length ≤ c) => raw_str hwrA (by omega) (by omega) nm (by omega) hc
      rw [hNS] at hcap1
      rw [hzA] at hr1
      have hSR : S ≠ R := by omega
      have HZ := Lib.hid hzA
      go_wp2_with fail
      go_at_call 35
      refine (hr1 _ hcap1).mono ?_
      clear hr1 hcap1
      rintro _ w3 ⟨rfl, v3, hw3⟩
      have hR3 := hw3.keep R _ _ hR0 (fun e => hSR e.symm) (by decide)
      have hB3 := hBA.trans hw3.bel
      have s3 := hw3.size
      have hwr3 := hw3.wr
      have r1 := hR3.at' 1
      simp only [List.getElem?_toArray, List.getElem?_cons_succ, List.getElem?_cons_zero] at r1
      have hl3 : (P ++ encR nm).length ≤ 212 := by rw [List.length_append]; omega
      have hcap2 := cap_le w3 (ofB tx)
      rw [hTS] at hcap2
      have hr2 := fun (c : Nat) (hc : tx.length ≤ c) => raw_str hwr3 (by omega) (by omega) tx (by omega) hc
      have s3' : R + 1 ≤ w3.heap.size := by omega
      clear hw3 hwrA hBA r0 hzA s3 hwr3 hR0
      obtain ⟨Z3, hZ3⟩ : ∃ Z, w3.heap.size = Z := ⟨_, rfl⟩
      rw [hZ3] at hr2 s3'
      go_wp2_with fail
      go_at_call 35
      refine (hr2 _ hcap2).mono ?_
      clear hr2 hcap2
      rintro _ w4 ⟨rfl, v4, hw4⟩
      have hR4 := hw4.keep R _ _ hR3 (fun e => hSR e.symm) (by decide)
      have hB4 := hB3.trans hw4.bel
      have s4 := hw4.size
      have hwr4 := hw4.wr
      have r2 := hR4.at' 2
      simp only [List.getElem?_toArray, List.getElem?_cons_succ, List.getElem?_cons_zero] at r2
      have hl4 : (P ++ encR nm ++ encR tx).length ≤ 228 := by rw [List.length_append]; omega
      have hb := bool_walk hwr4 (by omega) (by omega) ru
      have s4' : Z3 ≤ w4.heap.size := by omega
      clear hw4 r1 hR3 s4 hZ3
      go_wp2_with fail
      go_at_call 65
      refine hb.mono ?_
      clear hb
      rintro _ w5 ⟨rfl, v5, hW5⟩
      have hw5 := hW5.went hwr4 (by omega)
      have hB5 := hB4.trans hw5.bel
      have s5 := hw5.size
      have hwr5 := hw5.wr
      rw [← hH.out] at hwr5
      clear hw5 hW5 hwr4 hR4 r2 hl3 hl4
      go_wp2
      go_roundw
      case rel => exact ⟨j + 1, v5, hjl, by go_num, hwr5, hB5, by omega⟩
      case measure => simp [intOf]; omega
    · have hje : j = rs.length := by omega
      subst hje
      rw [List.take_length, hL'.out] at hwr
      have hd := done_walk hwr (by omega)
      go_wp2_with fail
      go_at_call 37
      refine hd.mono ?_
      rintro _ w9 ⟨u, rfl, hrow9, hB9⟩
      go_wp2
      go_ret2
      exact ⟨u, rfl, row_base hrow9 (by omega), (hB1.trans (hbel.mono (by omega))).trans (hB9.mono (by omega))⟩
end Go.Proofs.YtkndgmjlphppdaaGreatDoor
namespace Go.Proofs.YtkndgmjlphppdaaGreatDoor
open Go Go.RowKit Go.Smap

/-- Compile's state ahead of round j -/
structure CInv (w wr : World) (rs : List Ru) (j : Nat) (sv : Value) (xs : List Value) (f : ByteArray → Option Value) : Prop where
  names : Names wr w.heap.size j rs f
  set : wr.heap[w.heap.size + 1]? = some (.cells #[sv] 111 (0, 0))
  row : wr.ownsRow (w.heap.size + 2) 127 4 sv j xs
  bel : Below w.heap.size w wr
  size : w.heap.size + 2 ≤ wr.heap.size
theorem set_one {w : World} {b : Nat} {sv : Value} {t : TypeId} {fr : Nat × Nat} (h : w.heap[b]? = some (.cells #[sv] t fr)) (v : Value) : (w.setCell ⟨b, 0, none⟩ v).heap[b]? = some (.cells #[v] t fr) := by
  show (w.heap.modify b _)[b]? = _
  rw [Array.getElem?_modify, if_pos rfl, h]
  rfl
theorem owns_setCell {w : World} {base : Nat} {e : TypeId} {size : Nat} {v : Value} {n : Nat} {xs : List Value} (h : w.ownsRow base e size v n xs) {a : Addr} (ha : a.block < base) (u : Value) : (w.setCell a u).ownsRow base e size v n xs := by
  refine ⟨h.1, h.2.imp id ?_⟩
  rintro ⟨g, cap, cur, h1, h2, h3, h4⟩
  exact ⟨g, cap, cur, h1, h2, (Below.heap_setCell _ _ _ _ (by omega)).trans h3, h4⟩
theorem infoComp : (Tryz.prog.info? 127).map (fun i => (i.zero, i.size, i.bytes)) = some (some (.agg #[.string ByteArray.empty, .string ByteArray.empty, .bool false, .pointer none]), 4, 48) := by kernel_rfl
set_option maxHeartbeats 16000000 in
set_option maxRecDepth 1000000 in
theorem compile_walk {w : World} {base : Nat} {v : Value} {rs : List Ru} (hown0 : w.ownsRow base 86 3 v rs.length (rs.flatMap Ru.cells)) (hG : Good rs) :
    Calls Tryz.prog 32 #[v] w fun e w' => ∃ p, e = .returned (.tuple #[.pointer (some p), .int .i64 0, .int .i64 0]) ∧ Below w.heap.size w w' := by
  have hmm := @run_makeMap Tryz.prog
  have hlen := hG.len
  obtain ⟨i0, hi0, hz0, hz1, hz2⟩ := info_parts infoComp
  obtain ⟨va, vc, rfl, hva⟩ := owns_shape hown0
  have hlt0 := World.ownsRow.lt hown0
  go_enter Tryz.func32, Tryz.ntmps32
  go_wp2
  go_loopw [22] (fun i wr => ∃ (j : Nat) (sv : Value) (xs : List Value) (f : ByteArray → Option Value), j ≤ rs.length ∧ i = .int .i64 j ∧ CInv w wr rs j sv xs f) (fun i _ => rs.length - (intOf i).toNat)
  case atStart =>
    refine ⟨0, .slice none 0 0, [], fun _ => none, Nat.zero_le _, rfl, (names_made w rs).same (Below.heap_alloc _ _ _ (by simp)), ?_, World.ownsRow_nil _ _ _ _, ((Below.refl _ _).alloc (Nat.le_refl _) _).alloc (by simp) _, by simp⟩
    have := heap_alloc_new (w.alloc (.map #[] 0)) (.cells #[.slice none 0 0] 111 (0, 0))
    simpa using this
  case round =>
    obtain ⟨j, sv, xs, f, hj, rfl, hI⟩ := hrel
    by_cases hjl : j < rs.length
    · obtain ⟨g, rfl⟩ := hva (by omega)
      obtain ⟨c0, c1, c2⟩ := rl_cells hown0 hjl
      have hg := (hlt0 g rfl).2
      have c0' := (hI.bel.cell (p := ⟨g, j * 3, none⟩) hg).trans c0
      have c1' := (hI.bel.cell (p := ⟨g, j * 3 + 1, none⟩) hg).trans c1
      have c2' := (hI.bel.cell (p := ⟨g, j * 3 + 2, none⟩) hg).trans c2
      have hsz := hI.size
      have hltr := World.ownsRow.lt hI.row
      obtain ⟨hname, hnsz, htsz, k, hk, htxt⟩ := hG.word (List.getElem_mem hjl)
      have hadd := fun o => add_walk (hI.names.map.alloc o) (by omega) hnsz hname (hI.names.now hjl)
      have hpn := fun c w' => parse_new hk c htxt w'
      have hset := hI.set
      have hrow := hI.row
      have hbel := hI.bel
      have hn1 : j + 1 ≤ maxLen := by unfold maxLen; omega
      have hn2 : (j + 1) * 48 ≤ 140737488355328 := by omega
      have hst := Lib.hid (fun (w' : World) => hI.names.step (w' := w') hjl hG.nodup)
      obtain ⟨nm, hnm⟩ : ∃ s, ofB rs[j].name = s := ⟨_, rfl⟩
      obtain ⟨tx, htx⟩ : ∃ s, ofB rs[j].text = s := ⟨_, rfl⟩
      obtain ⟨ru, hru⟩ : ∃ s, rs[j].runes = s := ⟨_, rfl⟩
      rw [hnm] at c0' hadd hst
      rw [htx] at c1' hpn
      rw [hru] at c2'
      clear hnm htx hru hI hG c0 c1 c2 hown0 hlt0 htsz htxt hname
      go_wp2_with (first
        | (go_at_call 61; refine (hadd _).mono ?_; rintro _ w1 ⟨rfl, hbut, hmap1⟩; have hR : w1.heap[wr.heap.size]? = some (.cells #[.string nm, .string tx, .bool ru] 86 (0, 0)) := (hbut.block wr.heap.size (by simp) (fun e => by have e' : wr.heap.size = w.heap.size := e; omega)).trans (heap_alloc_new _ _); have q1 : w1.cell? ⟨wr.heap.size, 1, none⟩ = some (.string tx) := by { simp [World.cell?, hR] }; have q2 : w1.cell? ⟨wr.heap.size, 2, none⟩ = some (.bool ru) := by { simp [World.cell?, hR] })
        | (go_at_call 62; refine (hpn _ _).mono ?_; rintro _ w2 ⟨x, y, rfl, hb2, ⟨p0, p1, p2, p3, p4, p5, p6, p7, p8, p9, p10, p11, p12, p13, rfl⟩, hnew⟩)
        | (go_at_call 63; refine (hnew _ (by simp) (fun b hb => Below.heap_alloc _ _ _ hb)).mono ?_; rintro _ w3 ⟨pp, rfl, hb3⟩; have hs3 := hb3.size; have hs2 := hb2.size; have hs1 := hbut.size; simp at hs1 hs3; have hR3 : w3.heap[wr.heap.size]? = some (.cells #[.string nm, .string tx, .bool ru] 86 (0, 0)) := (hb3.block _ (by omega)).trans ((Below.heap_alloc _ _ _ (by omega)).trans ((hb2.block _ (by omega)).trans hR)); have hS3 : w3.heap[w.heap.size + 1]? = some (.cells #[sv] 111 (0, 0)) := (hb3.block _ (by omega)).trans ((Below.heap_alloc _ _ _ (by omega)).trans ((hb2.block _ (by omega)).trans ((hbut.block _ (by simp; omega) (fun e => by have e' : w.heap.size + 1 = w.heap.size := e; omega)).trans ((Below.heap_alloc _ _ _ (by omega)).trans hset)))); have r0 : w3.cell? ⟨wr.heap.size, 0, none⟩ = some (.string nm) := by { simp [World.cell?, hR3] }; have r1 : w3.cell? ⟨wr.heap.size, 1, none⟩ = some (.string tx) := by { simp [World.cell?, hR3] }; have r2 : w3.cell? ⟨wr.heap.size, 2, none⟩ = some (.bool ru) := by { simp [World.cell?, hR3] }; have s0 : w3.cell? ⟨w.heap.size + 1, 0, none⟩ = some sv := by { simp [World.cell?, hS3] })
        | go_in)
      clear hadd hpn hnew q1 q2
      have hkeep : ∀ c, c < wr.heap.size → c ≠ w.heap.size → w3.heap[c]? = wr.heap[c]? := fun c hc hne => (hb3.block c (by omega)).trans ((Below.heap_alloc _ _ _ (by omega)).trans ((hb2.block c (by omega)).trans ((hbut.block c (by simp; omega) hne).trans (Below.heap_alloc _ _ _ hc))))
      have hrow3 : w3.ownsRow (w.heap.size + 2) 127 4 sv j xs := by
        refine ⟨hrow.1, hrow.2.imp id ?_⟩
        rintro ⟨gg, cap, cur, rfl, h2, h3, h4⟩
        have := (World.ownsRow.lt hrow gg rfl).2
        exact ⟨gg, cap, cur, rfl, h2, (hkeep gg this (by omega)).trans h3, h4⟩
      have hS3f : w3.frozen? ⟨w.heap.size + 1, 0, none⟩ = false := by simp [World.frozen?, hS3]
      have hfz : ∀ o, (w3.alloc o).drew.frozen? ⟨w.heap.size + 1, 0, none⟩ = false := fun o => ((((Below.refl (w.heap.size + 2) w3).alloc (by omega) o).drew).frozen (p := ⟨w.heap.size + 1, 0, none⟩) (by simp)).trans hS3f
      have aS := fun e => Nat.not_le_of_lt (Nat.lt_succ_self (w.heap.size + 1)) (hltr (w.heap.size + 1) e).1
      have aR := fun e => Nat.lt_irrefl _ (hltr wr.heap.size e).2
      have s1 : ∀ o, (w3.alloc o).cell? ⟨w.heap.size + 1, 0, none⟩ = some sv := fun o => (((Below.refl (w.heap.size + 2) w3).alloc (by omega) o).cell (p := ⟨w.heap.size + 1, 0, none⟩) (by simp)).trans s0
      have hfz' : ∀ o, (w3.alloc o).frozen? ⟨w.heap.size + 1, 0, none⟩ = false := hfz
      go_region_law
        (refine step_append_lies _ (by rfl) _ _ _ (by rfl) (w.heap.size + 2) 127 i0 _ 4 48 Tryz.underlying109 hi0 hz0 hz1 hz2 rfl (by omega) sv j xs (by rfl) ((hrow3.alloc _).drew)
            ⟨w3.heap.size, 0, none⟩ 1 1 [.string nm, .string tx, .bool ru, .pointer (some pp)] (by rfl) (by rfl) (World.news_of_block (cs := #[.string nm, .string tx, .bool ru, .pointer (some pp)]) (t := 127) (fr := (0, 0)) (heap_alloc_new w3 _)) (by simp [Value.oneCell'])
            (by omega) hn1 hn2 (by simp; omega) (w3.heap.size + 1) (by simp) ?_; intro gg cap w4 hown1 hgrow hat hlt; have hfz4 := (hgrow.frozen_far ⟨w.heap.size + 1, 0, none⟩ (by simp; omega) (fun e => aS e.symm)).trans (hfz _); have hnz4 := hgrow.cell_far ⟨w.heap.size + 1, 0, none⟩ (by simp; omega) (fun e => aS e.symm))
      all_goals
        have g0 : ∀ c, c < w3.heap.size → some c ≠ sv.ownBlock → w4.heap[c]? = w3.heap[c]? := fun c hc hne => (hgrow.block c (by simp; omega) hne).trans (Below.heap_alloc _ _ _ hc)
        have g4 := hgrow.size
        have gS : w4.heap[w.heap.size + 1]? = some (.cells #[sv] 111 (0, 0)) := (g0 _ (by omega) (fun e => aS e.symm)).trans hS3
        have gM := hmap1.same (w' := w4) ((g0 w.heap.size (by omega) (fun e => by have := (hltr _ e.symm).1; omega)).trans ((hb3.block _ (by omega)).trans ((Below.heap_alloc _ _ _ (by omega)).trans (hb2.block _ (by omega)))))
        have gB : Below w.heap.size w w4 := by
          have k1 : Below w.heap.size w w1 := below_chg (hbel.alloc (by omega) _) hbut (Nat.le_refl _) (by simp; omega)
          exact (((((k1.trans (hb2.mono (by omega))).alloc (by omega) _).trans (hb3.mono (by omega))).alloc (by omega) _).drew).grown hgrow (by simp; omega) fun x hx => by have := (hltr x hx).1; omega
        simp at g4
        have hN2 := hst.out (w4.setCell ⟨w.heap.size + 1, 0, none⟩ (.slice (some ⟨gg, 0, none⟩) (j + 1) cap)) (gM.same (Below.heap_setCell _ _ _ _ (by show w.heap.size ≠ w.heap.size + 1; omega)))
        have HI2 := Lib.hid (CInv.mk hN2 (set_one gS _) (owns_setCell hown1 (by show w.heap.size + 1 < _; omega) _) (gB.setCell (by show w.heap.size ≤ w.heap.size + 1; omega) _) (by simp [World.setCell]; omega))
        clear hN2 gB gM gS g0 hgrow hown1 hat
        first
          | (go_roundw
             case rel => exact ⟨j + 1, _, _, _, hjl, by go_num, HI2.out⟩
             case measure => simp [intOf]; omega)
          | (go_wp2
             go_roundw
             case rel => exact ⟨j + 1, _, _, _, hjl, by go_num, HI2.out⟩
             case measure => simp [intOf]; omega)
    · have hje : j = rs.length := by omega
      subst hje
      go_wp2_with fail
      go_ret3
      exact ⟨_, rfl, hI.bel⟩
end Go.Proofs.YtkndgmjlphppdaaGreatDoor
