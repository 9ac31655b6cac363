/-
  The generator of trees, walked: rep.
-/
import Derived.Test.YtdacamjpcdbphaaGreatDoorBytG0b
import Derived.Test.YtdacamjpcdbphaaGreatDoorBytG1a
import Derived.RegionTactic
namespace Go.Proofs.YtdacamjpcdbphaaGreatDoor
open Go Go.RowKit

theorem tabMin : ∀ k, k < 12 → ∃ z : Nat, z ≤ 2 ∧ (#[Value.int .i64 0, .int .i64 0, .int .i64 0, .int .i64 0, .int .i64 1, .int .i64 1, .int .i64 1, .int .i64 0, .int .i64 2, .int .i64 0, .int .i64 1, .int .i64 2])[k]? = some (.int .i64 (z : Int)) := by
  intro k hk
  match k, hk with
  | 0, _ | 1, _ | 2, _ | 3, _ | 7, _ | 9, _ => exact ⟨0, by omega, rfl⟩
  | 4, _ | 5, _ | 6, _ | 10, _ => exact ⟨1, by omega, rfl⟩
  | 8, _ | 11, _ => exact ⟨2, by omega, rfl⟩
  | n + 12, h => exact absurd h (by omega)
/-- the greatest number of a repetition -/
def MaxOf (z : Int) : Prop := z = -1 ∨ ∃ m : Nat, z = m ∧ 1 ≤ m ∧ m ≤ 3
theorem tabMax : ∀ k, k < 12 → ∃ z : Int, MaxOf z ∧ (#[Value.int .i64 (-1), .int .i64 (-1), .int .i64 (-1), .int .i64 1, .int .i64 (-1), .int .i64 (-1), .int .i64 2, .int .i64 2, .int .i64 2, .int .i64 3, .int .i64 1, .int .i64 (-1)])[k]? = some (.int .i64 z) := by
  intro k hk
  match k, hk with
  | 0, _ | 1, _ | 2, _ | 4, _ | 5, _ | 11, _ => exact ⟨-1, .inl rfl, rfl⟩
  | 3, _ | 10, _ => exact ⟨1, .inr ⟨1, rfl, by omega, by omega⟩, rfl⟩
  | 6, _ | 7, _ | 8, _ => exact ⟨2, .inr ⟨2, rfl, by omega, by omega⟩, rfl⟩
  | 9, _ => exact ⟨3, .inr ⟨3, rfl, by omega, by omega⟩, rfl⟩
  | n + 12, h => exact absurd h (by omega)
def mins : Array Value := #[Value.int .i64 0, .int .i64 0, .int .i64 0, .int .i64 0, .int .i64 1, .int .i64 1, .int .i64 1, .int .i64 0, .int .i64 2, .int .i64 0, .int .i64 1, .int .i64 2]
def maxs : Array Value := #[Value.int .i64 (-1), .int .i64 (-1), .int .i64 (-1), .int .i64 1, .int .i64 (-1), .int .i64 (-1), .int .i64 2, .int .i64 2, .int .i64 2, .int .i64 3, .int .i64 1, .int .i64 (-1)]
/-- what has come up in rep's region -/
structure RI (mb k mn : Nat) (mx : Int) (w1 : World) (s : Nat → Bool) (x6 x10 x11 x12 x13 x14 x15 x16 x17 x18 x19 x20 : Value) (w : World) : Prop where
  maker : MkAt w mb
  chg : Chg (Only mb) w1 w
  f0 : s 0 = true → ∃ b, x10 = .slice (some ⟨b, 0, none⟩) 12 12 ∧ w1.heap.size ≤ b ∧ Blk w b 3 mins
  f1 : s 1 = true → x11 = .int .i64 (k : Int)
  f2 : s 2 = true → ∃ b, x12 = .pointer (some ⟨b, k, none⟩) ∧ w1.heap.size ≤ b ∧ Blk w b 3 mins
  f3 : s 3 = true → x13 = .int .i64 (mn : Int)
  f4 : s 4 = true → ∃ b, x14 = .slice (some ⟨b, 0, none⟩) 12 12 ∧ w1.heap.size ≤ b ∧ Blk w b 3 maxs
  f5 : s 5 = true → x15 = .int .i64 (k : Int)
  f6 : s 6 = true → ∃ b, x16 = .pointer (some ⟨b, k, none⟩) ∧ w1.heap.size ≤ b ∧ Blk w b 3 maxs
  f7 : s 7 = true → x17 = .int .i64 mx
  f8 : s 8 = true → x18 = .pointer (some ⟨mb, 0, none⟩)
  f9 : s 9 = true → ∃ m : Nat, m ≤ 1 ∧ x19 = .int .i64 (m : Int)
  f10 : s 10 = true → ∃ m : Nat, m ≤ 1 ∧ x20 = .agg #[.int .i64 4, .slice none 0 0, .slice none 0 0, .int .i64 (mn : Int), .int .i64 mx, .int .i64 (m : Int), .int .i64 0, .bool false]
  f11 : s 11 = true → ∃ R, x6 = .pointer (some ⟨R, 0, none⟩) ∧ w1.heap.size ≤ R ∧ (s 12 = false → Blk w R 51 #[.int .i64 0, .slice none 0 0, .slice none 0 0, .int .i64 0, .int .i64 0, .int .i64 0, .int .i64 0, .bool false]) ∧ (s 12 = true → ∃ m : Nat, m ≤ 1 ∧ Blk w R 51 #[.int .i64 4, .slice none 0 0, .slice none 0 0, .int .i64 (mn : Int), .int .i64 mx, .int .i64 (m : Int), .int .i64 0, .bool false])
  f12 : s 12 = true → s 11 = true
theorem RI.world {mb k mn : Nat} {mx : Int} {w1 w w' : World} {s : Nat → Bool} {x6 x10 x11 x12 x13 x14 x15 x16 x17 x18 x19 x20 : Value} {F : Nat → Prop} (h : RI mb k mn mx w1 s x6 x10 x11 x12 x13 x14 x15 x16 x17 x18 x19 x20 w) (hlt : mb < w1.heap.size) (hM : MkAt w' mb) (hc : Chg F w w') (hF : ∀ b, w1.heap.size ≤ b → ¬ F b) (hF2 : ∀ b, b < w1.heap.size → F b → b = mb) : RI mb k mn mx w1 s x6 x10 x11 x12 x13 x14 x15 x16 x17 x18 x19 x20 w' := by
  refine ⟨hM, h.chg.trans hc fun b hb hf => hF2 b hb hf, fun hs => ?_, h.f1, fun hs => ?_, h.f3, fun hs => ?_, h.f5, fun hs => ?_, h.f7, h.f8, h.f9, h.f10, fun hs => ?_, h.f12⟩
  · obtain ⟨b, h1, h2, h3⟩ := h.f0 hs; exact ⟨b, h1, h2, h3.chg hc (hF b h2)⟩
  · obtain ⟨b, h1, h2, h3⟩ := h.f2 hs; exact ⟨b, h1, h2, h3.chg hc (hF b h2)⟩
  · obtain ⟨b, h1, h2, h3⟩ := h.f4 hs; exact ⟨b, h1, h2, h3.chg hc (hF b h2)⟩
  · obtain ⟨b, h1, h2, h3⟩ := h.f6 hs; exact ⟨b, h1, h2, h3.chg hc (hF b h2)⟩
  · obtain ⟨R, h1, h2, h3, h4⟩ := h.f11 hs
    refine ⟨R, h1, h2, fun hs => (h3 hs).chg hc (hF R h2), fun hs => ?_⟩
    obtain ⟨m, hm, h5⟩ := h4 hs
    exact ⟨m, hm, h5.chg hc (hF R h2)⟩
theorem wpOp_of {P : Program} {ops : Array Oper} {Q : Exit → Act → World → Prop} {i : Nat} {o : Oper} {K : Act → World → Prop} {a : Act} {w : World} (ho : ops[i]? = some o)
    (h : if Region.wanted o (yielded ops a.tmps) = true then o.wp P a w K Q else K (a.put o.dst undef) w) : wpOp P ops Q i K a w := by
  unfold wpOp
  rw [ho]
  simp only
  split
  · rename_i hw
    rw [if_pos hw] at h
    exact .inl h
  · rename_i hw
    rw [if_neg hw] at h
    exact h
section
variable {mb k mn : Nat} {mx : Int} {w1 w w' : World} {s : Nat → Bool} {x6 x10 x11 x12 x13 x14 x15 x16 x17 x18 x19 x20 : Value}
theorem RI.up0 (hR : RI mb k mn mx w1 s x6 x10 x11 x12 x13 x14 x15 x16 x17 x18 x19 x20 w) {z : Value} (hz : ∃ b, z = .slice (some ⟨b, 0, none⟩) 12 12 ∧ w1.heap.size ≤ b ∧ Blk w b 3 mins) : RI mb k mn mx w1 (RegInv.more s 0) x6 z x11 x12 x13 x14 x15 x16 x17 x18 x19 x20 w :=
  ⟨hR.maker, hR.chg, (fun _ => hz), (fun hh => hR.f1 (by simpa [RegInv.more] using hh)), (fun hh => hR.f2 (by simpa [RegInv.more] using hh)), (fun hh => hR.f3 (by simpa [RegInv.more] using hh)), (fun hh => hR.f4 (by simpa [RegInv.more] using hh)), (fun hh => hR.f5 (by simpa [RegInv.more] using hh)), (fun hh => hR.f6 (by simpa [RegInv.more] using hh)), (fun hh => hR.f7 (by simpa [RegInv.more] using hh)), (fun hh => hR.f8 (by simpa [RegInv.more] using hh)), (fun hh => hR.f9 (by simpa [RegInv.more] using hh)), (fun hh => hR.f10 (by simpa [RegInv.more] using hh)), (fun hh => by obtain ⟨R, a1, a2, a3, a4⟩ := hR.f11 (by simpa [RegInv.more] using hh); exact ⟨R, a1, a2, fun h => a3 (by simpa [RegInv.more] using h), fun h => a4 (by simpa [RegInv.more] using h)⟩), (fun hh => by simpa [RegInv.more] using hR.f12 (by simpa [RegInv.more] using hh))⟩
theorem RI.up1 (hR : RI mb k mn mx w1 s x6 x10 x11 x12 x13 x14 x15 x16 x17 x18 x19 x20 w) {z : Value} (hz : z = .int .i64 (k : Int)) : RI mb k mn mx w1 (RegInv.more s 1) x6 x10 z x12 x13 x14 x15 x16 x17 x18 x19 x20 w :=
  ⟨hR.maker, hR.chg, (fun hh => hR.f0 (by simpa [RegInv.more] using hh)), (fun _ => hz), (fun hh => hR.f2 (by simpa [RegInv.more] using hh)), (fun hh => hR.f3 (by simpa [RegInv.more] using hh)), (fun hh => hR.f4 (by simpa [RegInv.more] using hh)), (fun hh => hR.f5 (by simpa [RegInv.more] using hh)), (fun hh => hR.f6 (by simpa [RegInv.more] using hh)), (fun hh => hR.f7 (by simpa [RegInv.more] using hh)), (fun hh => hR.f8 (by simpa [RegInv.more] using hh)), (fun hh => hR.f9 (by simpa [RegInv.more] using hh)), (fun hh => hR.f10 (by simpa [RegInv.more] using hh)), (fun hh => by obtain ⟨R, a1, a2, a3, a4⟩ := hR.f11 (by simpa [RegInv.more] using hh); exact ⟨R, a1, a2, fun h => a3 (by simpa [RegInv.more] using h), fun h => a4 (by simpa [RegInv.more] using h)⟩), (fun hh => by simpa [RegInv.more] using hR.f12 (by simpa [RegInv.more] using hh))⟩
theorem RI.up2 (hR : RI mb k mn mx w1 s x6 x10 x11 x12 x13 x14 x15 x16 x17 x18 x19 x20 w) {z : Value} (hz : ∃ b, z = .pointer (some ⟨b, k, none⟩) ∧ w1.heap.size ≤ b ∧ Blk w b 3 mins) : RI mb k mn mx w1 (RegInv.more s 2) x6 x10 x11 z x13 x14 x15 x16 x17 x18 x19 x20 w :=
  ⟨hR.maker, hR.chg, (fun hh => hR.f0 (by simpa [RegInv.more] using hh)), (fun hh => hR.f1 (by simpa [RegInv.more] using hh)), (fun _ => hz), (fun hh => hR.f3 (by simpa [RegInv.more] using hh)), (fun hh => hR.f4 (by simpa [RegInv.more] using hh)), (fun hh => hR.f5 (by simpa [RegInv.more] using hh)), (fun hh => hR.f6 (by simpa [RegInv.more] using hh)), (fun hh => hR.f7 (by simpa [RegInv.more] using hh)), (fun hh => hR.f8 (by simpa [RegInv.more] using hh)), (fun hh => hR.f9 (by simpa [RegInv.more] using hh)), (fun hh => hR.f10 (by simpa [RegInv.more] using hh)), (fun hh => by obtain ⟨R, a1, a2, a3, a4⟩ := hR.f11 (by simpa [RegInv.more] using hh); exact ⟨R, a1, a2, fun h => a3 (by simpa [RegInv.more] using h), fun h => a4 (by simpa [RegInv.more] using h)⟩), (fun hh => by simpa [RegInv.more] using hR.f12 (by simpa [RegInv.more] using hh))⟩
theorem RI.up3 (hR : RI mb k mn mx w1 s x6 x10 x11 x12 x13 x14 x15 x16 x17 x18 x19 x20 w) {z : Value} (hz : z = .int .i64 (mn : Int)) : RI mb k mn mx w1 (RegInv.more s 3) x6 x10 x11 x12 z x14 x15 x16 x17 x18 x19 x20 w :=
  ⟨hR.maker, hR.chg, (fun hh => hR.f0 (by simpa [RegInv.more] using hh)), (fun hh => hR.f1 (by simpa [RegInv.more] using hh)), (fun hh => hR.f2 (by simpa [RegInv.more] using hh)), (fun _ => hz), (fun hh => hR.f4 (by simpa [RegInv.more] using hh)), (fun hh => hR.f5 (by simpa [RegInv.more] using hh)), (fun hh => hR.f6 (by simpa [RegInv.more] using hh)), (fun hh => hR.f7 (by simpa [RegInv.more] using hh)), (fun hh => hR.f8 (by simpa [RegInv.more] using hh)), (fun hh => hR.f9 (by simpa [RegInv.more] using hh)), (fun hh => hR.f10 (by simpa [RegInv.more] using hh)), (fun hh => by obtain ⟨R, a1, a2, a3, a4⟩ := hR.f11 (by simpa [RegInv.more] using hh); exact ⟨R, a1, a2, fun h => a3 (by simpa [RegInv.more] using h), fun h => a4 (by simpa [RegInv.more] using h)⟩), (fun hh => by simpa [RegInv.more] using hR.f12 (by simpa [RegInv.more] using hh))⟩
theorem RI.up4 (hR : RI mb k mn mx w1 s x6 x10 x11 x12 x13 x14 x15 x16 x17 x18 x19 x20 w) {z : Value} (hz : ∃ b, z = .slice (some ⟨b, 0, none⟩) 12 12 ∧ w1.heap.size ≤ b ∧ Blk w b 3 maxs) : RI mb k mn mx w1 (RegInv.more s 4) x6 x10 x11 x12 x13 z x15 x16 x17 x18 x19 x20 w :=
  ⟨hR.maker, hR.chg, (fun hh => hR.f0 (by simpa [RegInv.more] using hh)), (fun hh => hR.f1 (by simpa [RegInv.more] using hh)), (fun hh => hR.f2 (by simpa [RegInv.more] using hh)), (fun hh => hR.f3 (by simpa [RegInv.more] using hh)), (fun _ => hz), (fun hh => hR.f5 (by simpa [RegInv.more] using hh)), (fun hh => hR.f6 (by simpa [RegInv.more] using hh)), (fun hh => hR.f7 (by simpa [RegInv.more] using hh)), (fun hh => hR.f8 (by simpa [RegInv.more] using hh)), (fun hh => hR.f9 (by simpa [RegInv.more] using hh)), (fun hh => hR.f10 (by simpa [RegInv.more] using hh)), (fun hh => by obtain ⟨R, a1, a2, a3, a4⟩ := hR.f11 (by simpa [RegInv.more] using hh); exact ⟨R, a1, a2, fun h => a3 (by simpa [RegInv.more] using h), fun h => a4 (by simpa [RegInv.more] using h)⟩), (fun hh => by simpa [RegInv.more] using hR.f12 (by simpa [RegInv.more] using hh))⟩
theorem RI.up5 (hR : RI mb k mn mx w1 s x6 x10 x11 x12 x13 x14 x15 x16 x17 x18 x19 x20 w) {z : Value} (hz : z = .int .i64 (k : Int)) : RI mb k mn mx w1 (RegInv.more s 5) x6 x10 x11 x12 x13 x14 z x16 x17 x18 x19 x20 w :=
  ⟨hR.maker, hR.chg, (fun hh => hR.f0 (by simpa [RegInv.more] using hh)), (fun hh => hR.f1 (by simpa [RegInv.more] using hh)), (fun hh => hR.f2 (by simpa [RegInv.more] using hh)), (fun hh => hR.f3 (by simpa [RegInv.more] using hh)), (fun hh => hR.f4 (by simpa [RegInv.more] using hh)), (fun _ => hz), (fun hh => hR.f6 (by simpa [RegInv.more] using hh)), (fun hh => hR.f7 (by simpa [RegInv.more] using hh)), (fun hh => hR.f8 (by simpa [RegInv.more] using hh)), (fun hh => hR.f9 (by simpa [RegInv.more] using hh)), (fun hh => hR.f10 (by simpa [RegInv.more] using hh)), (fun hh => by obtain ⟨R, a1, a2, a3, a4⟩ := hR.f11 (by simpa [RegInv.more] using hh); exact ⟨R, a1, a2, fun h => a3 (by simpa [RegInv.more] using h), fun h => a4 (by simpa [RegInv.more] using h)⟩), (fun hh => by simpa [RegInv.more] using hR.f12 (by simpa [RegInv.more] using hh))⟩
theorem RI.up6 (hR : RI mb k mn mx w1 s x6 x10 x11 x12 x13 x14 x15 x16 x17 x18 x19 x20 w) {z : Value} (hz : ∃ b, z = .pointer (some ⟨b, k, none⟩) ∧ w1.heap.size ≤ b ∧ Blk w b 3 maxs) : RI mb k mn mx w1 (RegInv.more s 6) x6 x10 x11 x12 x13 x14 x15 z x17 x18 x19 x20 w :=
  ⟨hR.maker, hR.chg, (fun hh => hR.f0 (by simpa [RegInv.more] using hh)), (fun hh => hR.f1 (by simpa [RegInv.more] using hh)), (fun hh => hR.f2 (by simpa [RegInv.more] using hh)), (fun hh => hR.f3 (by simpa [RegInv.more] using hh)), (fun hh => hR.f4 (by simpa [RegInv.more] using hh)), (fun hh => hR.f5 (by simpa [RegInv.more] using hh)), (fun _ => hz), (fun hh => hR.f7 (by simpa [RegInv.more] using hh)), (fun hh => hR.f8 (by simpa [RegInv.more] using hh)), (fun hh => hR.f9 (by simpa [RegInv.more] using hh)), (fun hh => hR.f10 (by simpa [RegInv.more] using hh)), (fun hh => by obtain ⟨R, a1, a2, a3, a4⟩ := hR.f11 (by simpa [RegInv.more] using hh); exact ⟨R, a1, a2, fun h => a3 (by simpa [RegInv.more] using h), fun h => a4 (by simpa [RegInv.more] using h)⟩), (fun hh => by simpa [RegInv.more] using hR.f12 (by simpa [RegInv.more] using hh))⟩
theorem RI.up7 (hR : RI mb k mn mx w1 s x6 x10 x11 x12 x13 x14 x15 x16 x17 x18 x19 x20 w) {z : Value} (hz : z = .int .i64 mx) : RI mb k mn mx w1 (RegInv.more s 7) x6 x10 x11 x12 x13 x14 x15 x16 z x18 x19 x20 w :=
  ⟨hR.maker, hR.chg, (fun hh => hR.f0 (by simpa [RegInv.more] using hh)), (fun hh => hR.f1 (by simpa [RegInv.more] using hh)), (fun hh => hR.f2 (by simpa [RegInv.more] using hh)), (fun hh => hR.f3 (by simpa [RegInv.more] using hh)), (fun hh => hR.f4 (by simpa [RegInv.more] using hh)), (fun hh => hR.f5 (by simpa [RegInv.more] using hh)), (fun hh => hR.f6 (by simpa [RegInv.more] using hh)), (fun _ => hz), (fun hh => hR.f8 (by simpa [RegInv.more] using hh)), (fun hh => hR.f9 (by simpa [RegInv.more] using hh)), (fun hh => hR.f10 (by simpa [RegInv.more] using hh)), (fun hh => by obtain ⟨R, a1, a2, a3, a4⟩ := hR.f11 (by simpa [RegInv.more] using hh); exact ⟨R, a1, a2, fun h => a3 (by simpa [RegInv.more] using h), fun h => a4 (by simpa [RegInv.more] using h)⟩), (fun hh => by simpa [RegInv.more] using hR.f12 (by simpa [RegInv.more] using hh))⟩
theorem RI.up8 (hR : RI mb k mn mx w1 s x6 x10 x11 x12 x13 x14 x15 x16 x17 x18 x19 x20 w) {z : Value} (hz : z = .pointer (some ⟨mb, 0, none⟩)) : RI mb k mn mx w1 (RegInv.more s 8) x6 x10 x11 x12 x13 x14 x15 x16 x17 z x19 x20 w :=
  ⟨hR.maker, hR.chg, (fun hh => hR.f0 (by simpa [RegInv.more] using hh)), (fun hh => hR.f1 (by simpa [RegInv.more] using hh)), (fun hh => hR.f2 (by simpa [RegInv.more] using hh)), (fun hh => hR.f3 (by simpa [RegInv.more] using hh)), (fun hh => hR.f4 (by simpa [RegInv.more] using hh)), (fun hh => hR.f5 (by simpa [RegInv.more] using hh)), (fun hh => hR.f6 (by simpa [RegInv.more] using hh)), (fun hh => hR.f7 (by simpa [RegInv.more] using hh)), (fun _ => hz), (fun hh => hR.f9 (by simpa [RegInv.more] using hh)), (fun hh => hR.f10 (by simpa [RegInv.more] using hh)), (fun hh => by obtain ⟨R, a1, a2, a3, a4⟩ := hR.f11 (by simpa [RegInv.more] using hh); exact ⟨R, a1, a2, fun h => a3 (by simpa [RegInv.more] using h), fun h => a4 (by simpa [RegInv.more] using h)⟩), (fun hh => by simpa [RegInv.more] using hR.f12 (by simpa [RegInv.more] using hh))⟩
theorem RI.up9 (hR : RI mb k mn mx w1 s x6 x10 x11 x12 x13 x14 x15 x16 x17 x18 x19 x20 w) {z : Value} (hz : ∃ m : Nat, m ≤ 1 ∧ z = .int .i64 (m : Int)) : RI mb k mn mx w1 (RegInv.more s 9) x6 x10 x11 x12 x13 x14 x15 x16 x17 x18 z x20 w :=
  ⟨hR.maker, hR.chg, (fun hh => hR.f0 (by simpa [RegInv.more] using hh)), (fun hh => hR.f1 (by simpa [RegInv.more] using hh)), (fun hh => hR.f2 (by simpa [RegInv.more] using hh)), (fun hh => hR.f3 (by simpa [RegInv.more] using hh)), (fun hh => hR.f4 (by simpa [RegInv.more] using hh)), (fun hh => hR.f5 (by simpa [RegInv.more] using hh)), (fun hh => hR.f6 (by simpa [RegInv.more] using hh)), (fun hh => hR.f7 (by simpa [RegInv.more] using hh)), (fun hh => hR.f8 (by simpa [RegInv.more] using hh)), (fun _ => hz), (fun hh => hR.f10 (by simpa [RegInv.more] using hh)), (fun hh => by obtain ⟨R, a1, a2, a3, a4⟩ := hR.f11 (by simpa [RegInv.more] using hh); exact ⟨R, a1, a2, fun h => a3 (by simpa [RegInv.more] using h), fun h => a4 (by simpa [RegInv.more] using h)⟩), (fun hh => by simpa [RegInv.more] using hR.f12 (by simpa [RegInv.more] using hh))⟩
theorem RI.up10 (hR : RI mb k mn mx w1 s x6 x10 x11 x12 x13 x14 x15 x16 x17 x18 x19 x20 w) {z : Value} (hz : ∃ m : Nat, m ≤ 1 ∧ z = .agg #[.int .i64 4, .slice none 0 0, .slice none 0 0, .int .i64 (mn : Int), .int .i64 mx, .int .i64 (m : Int), .int .i64 0, .bool false]) : RI mb k mn mx w1 (RegInv.more s 10) x6 x10 x11 x12 x13 x14 x15 x16 x17 x18 x19 z w :=
  ⟨hR.maker, hR.chg, (fun hh => hR.f0 (by simpa [RegInv.more] using hh)), (fun hh => hR.f1 (by simpa [RegInv.more] using hh)), (fun hh => hR.f2 (by simpa [RegInv.more] using hh)), (fun hh => hR.f3 (by simpa [RegInv.more] using hh)), (fun hh => hR.f4 (by simpa [RegInv.more] using hh)), (fun hh => hR.f5 (by simpa [RegInv.more] using hh)), (fun hh => hR.f6 (by simpa [RegInv.more] using hh)), (fun hh => hR.f7 (by simpa [RegInv.more] using hh)), (fun hh => hR.f8 (by simpa [RegInv.more] using hh)), (fun hh => hR.f9 (by simpa [RegInv.more] using hh)), (fun _ => hz), (fun hh => by obtain ⟨R, a1, a2, a3, a4⟩ := hR.f11 (by simpa [RegInv.more] using hh); exact ⟨R, a1, a2, fun h => a3 (by simpa [RegInv.more] using h), fun h => a4 (by simpa [RegInv.more] using h)⟩), (fun hh => by simpa [RegInv.more] using hR.f12 (by simpa [RegInv.more] using hh))⟩
theorem RI.up11 (hR : RI mb k mn mx w1 s x6 x10 x11 x12 x13 x14 x15 x16 x17 x18 x19 x20 w) (hs : s 11 = false) {R : Nat} (h1 : w1.heap.size ≤ R) (h2 : Blk w R 51 #[.int .i64 0, .slice none 0 0, .slice none 0 0, .int .i64 0, .int .i64 0, .int .i64 0, .int .i64 0, .bool false]) : RI mb k mn mx w1 (RegInv.more s 11) (.pointer (some ⟨R, 0, none⟩)) x10 x11 x12 x13 x14 x15 x16 x17 x18 x19 x20 w :=
  ⟨hR.maker, hR.chg, (fun hh => hR.f0 (by simpa [RegInv.more] using hh)), (fun hh => hR.f1 (by simpa [RegInv.more] using hh)), (fun hh => hR.f2 (by simpa [RegInv.more] using hh)), (fun hh => hR.f3 (by simpa [RegInv.more] using hh)), (fun hh => hR.f4 (by simpa [RegInv.more] using hh)), (fun hh => hR.f5 (by simpa [RegInv.more] using hh)), (fun hh => hR.f6 (by simpa [RegInv.more] using hh)), (fun hh => hR.f7 (by simpa [RegInv.more] using hh)), (fun hh => hR.f8 (by simpa [RegInv.more] using hh)), (fun hh => hR.f9 (by simpa [RegInv.more] using hh)), (fun hh => hR.f10 (by simpa [RegInv.more] using hh)), (fun _ => ⟨R, rfl, h1, fun _ => h2, fun h => by have h3 : s 12 = true := by { simpa [RegInv.more] using h }; have h4 := hR.f12 h3; rw [hs] at h4; cases h4⟩), (fun _ => by simp [RegInv.more])⟩
theorem RI.up12 (hR : RI mb k mn mx w1 s x6 x10 x11 x12 x13 x14 x15 x16 x17 x18 x19 x20 w) (hlt : mb < w1.heap.size) (h11 : s 11 = true) {R m : Nat} (hx : x6 = .pointer (some ⟨R, 0, none⟩)) (h1 : w1.heap.size ≤ R) (hm : m ≤ 1) (hz : Blk w R 51 #[.int .i64 0, .slice none 0 0, .slice none 0 0, .int .i64 0, .int .i64 0, .int .i64 0, .int .i64 0, .bool false]) (hc : Chg (fun b => b = R) w w') (hb : Blk w' R 51 #[.int .i64 4, .slice none 0 0, .slice none 0 0, .int .i64 (mn : Int), .int .i64 mx, .int .i64 (m : Int), .int .i64 0, .bool false]) : RI mb k mn mx w1 (RegInv.more s 12) x6 x10 x11 x12 x13 x14 x15 x16 x17 x18 x19 x20 w' := by
  refine ⟨hR.maker.chg hc fun g hg e => by have e' : g = R := e; omega, hR.chg.trans hc fun b hb e => by have e' : b = R := e; omega, fun hh => ?_, (fun hh => hR.f1 (by simpa [RegInv.more] using hh)), fun hh => ?_, (fun hh => hR.f3 (by simpa [RegInv.more] using hh)), fun hh => ?_, (fun hh => hR.f5 (by simpa [RegInv.more] using hh)), fun hh => ?_, (fun hh => hR.f7 (by simpa [RegInv.more] using hh)), (fun hh => hR.f8 (by simpa [RegInv.more] using hh)), (fun hh => hR.f9 (by simpa [RegInv.more] using hh)), (fun hh => hR.f10 (by simpa [RegInv.more] using hh)), fun _ => ⟨R, hx, h1, fun h => by simp [RegInv.more] at h, fun _ => ⟨m, hm, hb⟩⟩, fun _ => by simpa [RegInv.more] using h11⟩
  · obtain ⟨b, q1, q2, q3⟩ := hR.f0 (by simpa [RegInv.more] using hh); exact ⟨b, q1, q2, q3.chg hc (q3.two hz (by decide))⟩
  · obtain ⟨b, q1, q2, q3⟩ := hR.f2 (by simpa [RegInv.more] using hh); exact ⟨b, q1, q2, q3.chg hc (q3.two hz (by decide))⟩
  · obtain ⟨b, q1, q2, q3⟩ := hR.f4 (by simpa [RegInv.more] using hh); exact ⟨b, q1, q2, q3.chg hc (q3.two hz (by decide))⟩
  · obtain ⟨b, q1, q2, q3⟩ := hR.f6 (by simpa [RegInv.more] using hh); exact ⟨b, q1, q2, q3.chg hc (q3.two hz (by decide))⟩
theorem RI.alloc (hR : RI mb k mn mx w1 s x6 x10 x11 x12 x13 x14 x15 x16 x17 x18 x19 x20 w) (hlt : mb < w1.heap.size) (o : Obj) : RI mb k mn mx w1 s x6 x10 x11 x12 x13 x14 x15 x16 x17 x18 x19 x20 (w.alloc o) :=
  hR.world hlt (hR.maker.bel ((Below.refl _ _).alloc (Nat.le_refl _) _)) ((Chg.refl (fun _ => False) w).alloc o) (fun _ _ h => h) (fun _ _ h => h.elim)
theorem RI.call (hR : RI mb k mn mx w1 s x6 x10 x11 x12 x13 x14 x15 x16 x17 x18 x19 x20 w) (hlt : mb < w1.heap.size) (hM : MkAt w' mb) (hc : Chg (Only mb) w w') : RI mb k mn mx w1 s x6 x10 x11 x12 x13 x14 x15 x16 x17 x18 x19 x20 w' :=
  hR.world hlt hM hc (fun b hb e => by have e' : b = mb := e; omega) (fun _ _ e => e)
end
def ModeZ (z : Int) : Prop := z = 0 ∨ z = 1 ∨ z = 2
theorem shapeRep {mn : Nat} {mx mo : Int} (h1 : mn ≤ 2) (h2 : MaxOf mx) (h3 : ModeZ mo) : Shape 4 (mn : Int) mx mo 0 false [] 1 := by
  obtain ⟨m, rfl, hm⟩ : ∃ m : Nat, mo = m ∧ m ≤ 2 := by
    rcases h3 with rfl | rfl | rfl
    · exact ⟨0, rfl, by omega⟩
    · exact ⟨1, rfl, by omega⟩
    · exact ⟨2, rfl, by omega⟩
  rcases h2 with rfl | ⟨k, rfl, h4, h5⟩
  · exact .star mn m h1 hm
  · exact .rep mn k m h1 h4 h5 hm
theorem Made.rep {w wB : World} {mb N g : Nat} {t : VT} {mn mx mo : Int} {R : Nat} (hlt : mb < w.heap.size) (h : Mid3 w wB mb) (ht : TreeAt wB (fun b => w.heap.size < b ∧ b ≠ R) t) (hb : Blk wB g 51 t.cells.toArray) (hg : w.heap.size < g) (hs : Shape 4 mn mx mo 0 false [] 1) (hn : t.num ≤ N) :
    Made w mb (N + 1) (.mk 4 (.slice none 0 0) (.slice (some ⟨g, 0, none⟩) 1 1) mn mx mo 0 false [] [t])
      ((((((((wB.setCell ⟨w.heap.size, 0, none⟩ (.int .i64 4)).setCell ⟨w.heap.size, 1, none⟩ (.slice none 0 0)).setCell ⟨w.heap.size, 2, none⟩ (.slice (some ⟨g, 0, none⟩) 1 1)).setCell ⟨w.heap.size, 3, none⟩ (.int .i64 mn)).setCell ⟨w.heap.size, 4, none⟩ (.int .i64 mx)).setCell ⟨w.heap.size, 5, none⟩ (.int .i64 mo)).setCell ⟨w.heap.size, 6, none⟩ (.int .i64 0)).setCell ⟨w.heap.size, 7, none⟩ (.bool false)) := by
  have hch := (Chg.refl (fun b => b = w.heap.size) wB).put8 (R := w.heap.size) (.inr rfl) (.int .i64 4) (.slice none 0 0) (.slice (some ⟨g, 0, none⟩) 1 1) (.int .i64 mn) (.int .i64 mx) (.int .i64 mo) (.int .i64 0) (.bool false)
  have hbt := hb.chg hch (fun e => by have e' : g = w.heap.size := e; omega)
  exact ⟨Made.one (w1 := w) ((ht.chg hch fun b hb e => by have e' : b = w.heap.size := e; have := hb.1; omega).low fun b hb => Nat.le_of_lt hb.1) hbt (Nat.le_refl _) (by omega) hs, by rw [num_one]; omega,
    h.maker.chg hch (fun b hb e => by have e' : b = w.heap.size := e; omega), h.chg.trans hch fun b hb e => by have e' : b = w.heap.size := e; omega⟩
set_option maxHeartbeats 8000000 in
set_option maxRecDepth 1000000 in
theorem rep_walk {d : Nat} (ih : TreeSpec d) (hd : d ≤ 10) {w : World} {mb : Nat} (h : MkAt w mb) :
    Calls Tryz.prog 56 #[.pointer (some ⟨mb, 0, none⟩), .int .i64 ((d : Int) + 1)] w fun e w' => ∃ t, e = .returned t.val ∧ Made w mb (4 ^ d + 1) t w' := by
  have hlt := h.lt
  have hd1 : IntKind.i64.wrap ((d : Int) + 1 - 1) = (d : Int) := by rw [wrapS (by omega) (by omega)]; omega
  have h0 := Mid3.start h
  have hn1 := fun (o : Obj) => next_walk (h.bel ((Below.refl _ w).alloc (Nat.le_refl _) o)) 12 (by omega) (by omega)
  go_enter Tryz.func56, Tryz.ntmps56
  go_wp2_with fail
  refine (hn1 _).mono ?_
  clear hn1
  rintro _ w1 ⟨k, hk, rfl, hM1, hC1⟩
  have h1 := h0.step hlt hM1 hC1
  have hlt1 : mb < w1.heap.size := hM1.lt
  obtain ⟨mn, hmn, tA⟩ := tabMin k hk
  obtain ⟨mx, hmx, tB⟩ := tabMax k hk
  have hk0 : (k : Int) < 12 := by omega
  go_wp2_with fail
  refine Code.wp_mono (Q := fun e a' w' => e = .normal ∧ ∃ (R : Nat) (m : Nat) (x10 x11 x12 x13 x14 x15 x16 x17 x18 x19 x20 : Value), m ≤ 1 ∧ a' = { tmps := #[.pointer (some ⟨mb, 0, none⟩), .int .i64 ((d : Int) + 1), undef, undef, .pointer (some ⟨w.heap.size, 0, none⟩), .int .i64 (k : Int), .pointer (some ⟨R, 0, none⟩), undef, .pointer (some ⟨mb, 0, none⟩), .int .i64 (k : Int), x10, x11, x12, x13, x14, x15, x16, x17, x18, x19, x20, undef, undef, undef, undef, undef, undef, undef, undef, undef, undef, undef, undef, undef, undef, undef, undef, undef, undef, undef, undef, undef, undef, undef, undef, undef, undef, undef, undef, undef, undef, undef, undef], defers := [] } ∧ MkAt w' mb ∧ Chg (Only mb) w1 w' ∧ w1.heap.size ≤ R ∧
    Blk w' R 51 #[.int .i64 4, .slice none 0 0, .slice none 0 0, .int .i64 (mn : Int), .int .i64 mx, .int .i64 (m : Int), .int .i64 0, .bool false]) (fun e a' w' hQ => ?_) ?_
  · obtain ⟨rfl, R, mo, x10, x11, x12, x13, x14, x15, x16, x17, x18, x19, x20, hmo, rfl, hM2, hC2, hR1, hB6⟩ := hQ
    have h2 := h1.step hlt hM2 hC2
    have hlt2 := h2.size
    clear hC1 hC2 hM1 tA tB hk0 hk
    obtain ⟨A, c, l, a1, uses, a3, caps, hb, -, -, -⟩ := hM2
    have c2 := hb.at' 2
    simp at c2
    simp only [Exit.then]
    have hw01 := h1.size
    have fT := hb.thaw 2
    -- the mode may become 2
    by_cases hu : 0 < bits .and .i64 uses 8
    · have hud : decide (0 < bits .and .i64 uses 8) = true := decide_eq_true hu
      have hn4 := next_walk h2.maker 4 (by omega) (by omega)
      go_at_K
      go_wp2_with fail
      refine hn4.mono ?_
      clear hn4
      rintro _ w2 ⟨k4, hk4, rfl, hM3, hC3⟩
      have hRmb0 : ¬ R = mb := by omega
      have h2b := h2.step hlt hM3 hC3
      have hB2 := hB6.chg hC3 (fun e => hRmb0 e)
      by_cases hk40 : k4 = 0
      · subst hk40
        have hcp := (Chg.refl (fun b => b = R) w2).setCell (p := ⟨R, 5, none⟩) (.inr rfl) (.int .i64 2)
        have hB3 := hB2.put 5 (.int .i64 2)
        have hr5 := hB2.at' 5
        have hf5 := hB2.thaw 5
        have hRl := hB2.lt
        simp at hr5
        simp only [List.setIfInBounds_toArray, List.set_cons_succ, List.set_cons_zero] at hB3
        obtain ⟨w3, hw3⟩ : ∃ x, w2.setCell ⟨R, 5, none⟩ (.int .i64 2) = x := ⟨_, rfl⟩
        rw [hw3] at hB3 hcp
        have h3 : Mid3 w w3 mb := ⟨hM3.chg hcp (fun g hg e => by have e' : g = R := e; omega), h2b.chg.trans hcp (fun g hg e => by have e' : g = R := e; omega), h2b.res.chg hcp (fun e => by have e' : w.heap.size = R := e; omega)⟩
        have hmz : ModeZ 2 := .inr (.inr rfl)
        go_wp2_with fail
        refine (show Calls Tryz.prog 38 #[.pointer (some ⟨mb, 0, none⟩), .int .i64 (d : Int)] w3 _ from ih w3 mb h3.maker).mono ?_
        rintro _ w4 ⟨t, rfl, hMd⟩
        have h4 := h3.step hlt hMd.maker hMd.chg
        have s3 := h3.size
        have s34 := hMd.chg.size
        have hRmb : ¬ R = mb := by omega
        have hB4 := hB3.chg hMd.chg (fun e => hRmb e)
        obtain ⟨Ast, cst, hset, -⟩ := hMd.tree.set.shape
        obtain ⟨Akt, ckt, hkv, -⟩ := hMd.tree.kids.shape
        have hval : t.val = .agg #[.int .i64 t.op, .slice Ast t.spans.length cst, .slice Akt t.kids.length ckt, .int .i64 t.mn, .int .i64 t.mx, .int .i64 t.mo, .int .i64 t.n, .bool t.neg] := by unfold VT.val; rw [hset, hkv]
        have hcel : t.cells.toArray = #[.int .i64 t.op, .slice Ast t.spans.length cst, .slice Akt t.kids.length ckt, .int .i64 t.mn, .int .i64 t.mx, .int .i64 t.mo, .int .i64 t.n, .bool t.neg] := by unfold VT.cells; rw [hset, hkv]
        rw [hval]
        have hK5 := Blk.made w4 51 #[.int .i64 t.op, .slice Ast t.spans.length cst, .slice Akt t.kids.length ckt, .int .i64 t.mn, .int .i64 t.mx, .int .i64 t.mo, .int .i64 t.n, .bool t.neg]
        have hc5 := (Chg.refl (fun _ => False) w4).alloc (.cells #[.int .i64 t.op, .slice Ast t.spans.length cst, .slice Akt t.kids.length ckt, .int .i64 t.mn, .int .i64 t.mx, .int .i64 t.mo, .int .i64 t.n, .bool t.neg] 51)
        obtain ⟨w5, hw5⟩ : ∃ x, w4.alloc (.cells #[.int .i64 t.op, .slice Ast t.spans.length cst, .slice Akt t.kids.length ckt, .int .i64 t.mn, .int .i64 t.mx, .int .i64 t.mo, .int .i64 t.n, .bool t.neg] 51) = x := ⟨_, rfl⟩
        rw [hw5] at hK5 hc5
        have h5 : Mid3 w w5 mb := ⟨h4.maker.chg hc5 (fun _ _ h => h), h4.chg.trans hc5 (fun _ _ h => h.elim), h4.res.chg hc5 (fun h => h)⟩
        have hB5 := hB4.chg hc5 (fun h => h)
        have ht5 := hMd.tree.chg hc5 (fun _ _ h => h)
        have s5 := hK5.lt
        obtain ⟨A5, c5, l5, e1, uses5, e3, caps5, hb5, -, -, -⟩ := h5.maker
        have c25 := hb5.at' 2
        simp at c25
        obtain ⟨k0, k1, k2, k3, k4, k5, k6, k7⟩ := hK5.eight
        have ht5' : TreeAt w5 (fun b => w.heap.size < b ∧ b ≠ R) t := ht5.low fun b hb => ⟨by omega, fun e => by have := hB3.lt; omega⟩
        by_cases hv : bits .and .i64 uses5 32 = 0
        · have hvd : (bits .and .i64 uses5 32 == 0) = true := by simpa using hv
          have hnl := nullable_walk t.num rfl ht5
          rw [hval] at hnl
          go_wp2_with fail
          refine (show Calls Tryz.prog 83 #[.agg #[.int .i64 t.op, .slice Ast t.spans.length cst, .slice Akt t.kids.length ckt, .int .i64 t.mn, .int .i64 t.mx, .int .i64 t.mo, .int .i64 t.n, .bool t.neg]] w5 _ from hnl).mono ?_
          clear hnl
          rintro _ w6 ⟨b6, rfl, hN6⟩
          have h6 := h5.step hlt (h5.maker.bel hN6) (Chg.of_below hN6)
          have hB6' := hB5.bel hN6 hB5.lt
          have hK6 := hK5.bel hN6 hK5.lt
          have ht6 := ht5'.bel hN6
          have s6 := hN6.size
          cases b6 with
          | false =>
            have hKA := hK6.alloc (.cells #[.int .i64 t.op, .slice Ast t.spans.length cst, .slice Akt t.kids.length ckt, .int .i64 t.mn, .int .i64 t.mx, .int .i64 t.mo, .int .i64 t.n, .bool t.neg] 51)
            have hBA := hB6'.alloc (.cells #[.int .i64 t.op, .slice Ast t.spans.length cst, .slice Akt t.kids.length ckt, .int .i64 t.mn, .int .i64 t.mx, .int .i64 t.mo, .int .i64 t.n, .bool t.neg] 51)
            have hN := Blk.made w6 51 #[.int .i64 t.op, .slice Ast t.spans.length cst, .slice Akt t.kids.length ckt, .int .i64 t.mn, .int .i64 t.mx, .int .i64 t.mo, .int .i64 t.n, .bool t.neg]
            have hMA : Mid3 w (w6.alloc (.cells #[.int .i64 t.op, .slice Ast t.spans.length cst, .slice Akt t.kids.length ckt, .int .i64 t.mn, .int .i64 t.mx, .int .i64 t.mo, .int .i64 t.n, .bool t.neg] 51)) mb := ⟨h6.maker.bel ((Below.refl _ _).alloc (Nat.le_refl _) _), h6.chg.alloc _, h6.res.alloc _⟩
            have htA := (ht6).bel ((Below.refl _ _).alloc (Nat.le_refl _) (.cells #[.int .i64 t.op, .slice Ast t.spans.length cst, .slice Akt t.kids.length ckt, .int .i64 t.mn, .int .i64 t.mx, .int .i64 t.mo, .int .i64 t.n, .bool t.neg] 51))
            obtain ⟨v0, v1, v2, v3, v4, v5, v6, v7⟩ := (hK6).eight
            have r2 := hBA.at' 2
            have fr2 := hBA.thaw 2
            have hRl := hBA.lt
            simp at r2
            have hcB := (Chg.refl (fun b => b = R) (w6.alloc (.cells #[.int .i64 t.op, .slice Ast t.spans.length cst, .slice Akt t.kids.length ckt, .int .i64 t.mn, .int .i64 t.mx, .int .i64 t.mo, .int .i64 t.n, .bool t.neg] 51))).setCell (p := ⟨R, 2, none⟩) (.inr rfl) (.slice (some ⟨w6.heap.size, 0, none⟩) 1 1)
            have hBB := hBA.put 2 (.slice (some ⟨w6.heap.size, 0, none⟩) 1 1)
            simp only [List.setIfInBounds_toArray, List.set_cons_succ, List.set_cons_zero] at hBB
            have hRq := hB6'.lt
            obtain ⟨wB, hwB⟩ : ∃ x, (w6.alloc (.cells #[.int .i64 t.op, .slice Ast t.spans.length cst, .slice Akt t.kids.length ckt, .int .i64 t.mn, .int .i64 t.mx, .int .i64 t.mo, .int .i64 t.n, .bool t.neg] 51)).setCell ⟨R, 2, none⟩ (.slice (some ⟨w6.heap.size, 0, none⟩) 1 1) = x := ⟨_, rfl⟩
            rw [hwB] at hBB hcB
            have hMB : Mid3 w wB mb := ⟨hMA.maker.chg hcB (fun g hg e => by have e' : g = R := e; omega), hMA.chg.trans hcB (fun g hg e => by have e' : g = R := e; omega), hMA.res.chg hcB (fun e => by have e' : w.heap.size = R := e; omega)⟩
            have hNB := hN.chg hcB (fun e => by have e' : w6.heap.size = R := e; omega)
            have htB := htA.chg hcB (fun g hg e => hg.2 e)
            obtain ⟨a0, a1, a2, a3, a4, a5, a6, a7⟩ := hBB.eight
            obtain ⟨p0, p1, p2, p3, p4, p5, p6, p7⟩ := hMB.res.eight
            obtain ⟨o0, o1, o2, o3, o4, o5, o6, o7⟩ := hMB.res.thaw8
            have hR0l := hMB.res.lt
            have hgs := h6.size
            go_wp2
            refine bodyPost_ret (results_re rfl _ _ w.heap.size rfl (hMB.res.put8 _ _ _ _ _ _ _ _)) rfl ?_
            exact ⟨_, rfl, Made.rep hlt hMB htB (hcel ▸ hNB) (by omega) (shapeRep hmn hmx hmz) (by have := hMd.num; omega)⟩
          | true =>
            have hst := set_walk h6.maker
            go_wp2_with fail
            refine hst.mono ?_
            clear hst
            rintro _ w7 ⟨t2, rfl, hMs⟩
            have s7 := hMs.chg.size
            have hB7 := hB6'.chg hMs.chg (fun e => hRmb e)
            have hK7 := hK6.chg hMs.chg (fun e => by have e' : w4.heap.size = mb := e; omega)
            have h7 := h6.step hlt hMs.maker hMs.chg
            obtain ⟨As2, cs2, hset2, -⟩ := hMs.tree.set.shape
            obtain ⟨Ak2, ck2, hkv2, -⟩ := hMs.tree.kids.shape
            have hval2 : t2.val = .agg #[.int .i64 t2.op, .slice As2 t2.spans.length cs2, .slice Ak2 t2.kids.length ck2, .int .i64 t2.mn, .int .i64 t2.mx, .int .i64 t2.mo, .int .i64 t2.n, .bool t2.neg] := by unfold VT.val; rw [hset2, hkv2]
            have hcel2 : t2.cells.toArray = #[.int .i64 t2.op, .slice As2 t2.spans.length cs2, .slice Ak2 t2.kids.length ck2, .int .i64 t2.mn, .int .i64 t2.mx, .int .i64 t2.mo, .int .i64 t2.n, .bool t2.neg] := by unfold VT.cells; rw [hset2, hkv2]
            rw [hval2]
            obtain ⟨z0, z1, z2, z3, z4, z5, z6, z7⟩ := hK7.eight
            obtain ⟨y0, y1, y2, y3, y4, y5, y6, y7⟩ := hK7.thaw8
            have hZl := hK7.lt
            have hK8 := hK7.put8 (.int .i64 t2.op) (.slice As2 t2.spans.length cs2) (.slice Ak2 t2.kids.length ck2) (.int .i64 t2.mn) (.int .i64 t2.mx) (.int .i64 t2.mo) (.int .i64 t2.n) (.bool t2.neg)
            have hc8 := (Chg.refl (fun b => b = w4.heap.size) w7).put8 (R := w4.heap.size) (.inr rfl) (.int .i64 t2.op) (.slice As2 t2.spans.length cs2) (.slice Ak2 t2.kids.length ck2) (.int .i64 t2.mn) (.int .i64 t2.mx) (.int .i64 t2.mo) (.int .i64 t2.n) (.bool t2.neg)
            have hRw4 := hB4.lt
            obtain ⟨w8, hw8⟩ : ∃ x, ((((((((w7).setCell ⟨w4.heap.size, 0, none⟩ (.int .i64 t2.op)).setCell ⟨w4.heap.size, 1, none⟩ (.slice As2 t2.spans.length cs2)).setCell ⟨w4.heap.size, 2, none⟩ (.slice Ak2 t2.kids.length ck2)).setCell ⟨w4.heap.size, 3, none⟩ (.int .i64 t2.mn)).setCell ⟨w4.heap.size, 4, none⟩ (.int .i64 t2.mx)).setCell ⟨w4.heap.size, 5, none⟩ (.int .i64 t2.mo)).setCell ⟨w4.heap.size, 6, none⟩ (.int .i64 t2.n)).setCell ⟨w4.heap.size, 7, none⟩ (.bool t2.neg) = x := ⟨_, rfl⟩
            rw [hw8] at hK8 hc8
            have h8 : Mid3 w w8 mb := ⟨h7.maker.chg hc8 (fun g hg e => by have e' : g = w4.heap.size := e; omega), h7.chg.trans hc8 (fun g hg e => by have e' : g = w4.heap.size := e; omega), h7.res.chg hc8 (fun e => by have e' : w.heap.size = w4.heap.size := e; omega)⟩
            have hB8 := hB7.chg hc8 (fun e => by have e' : R = w4.heap.size := e; omega)
            have ht8 : TreeAt w8 (fun b => w.heap.size < b ∧ b ≠ R) t2 := (hMs.tree.chg hc8 (fun g hg e => by have e' : g = w4.heap.size := e; omega)).low fun b hb => ⟨by omega, fun e => by omega⟩
            have hKA := hK8.alloc (.cells #[.int .i64 t2.op, .slice As2 t2.spans.length cs2, .slice Ak2 t2.kids.length ck2, .int .i64 t2.mn, .int .i64 t2.mx, .int .i64 t2.mo, .int .i64 t2.n, .bool t2.neg] 51)
            have hBA := hB8.alloc (.cells #[.int .i64 t2.op, .slice As2 t2.spans.length cs2, .slice Ak2 t2.kids.length ck2, .int .i64 t2.mn, .int .i64 t2.mx, .int .i64 t2.mo, .int .i64 t2.n, .bool t2.neg] 51)
            have hN := Blk.made w8 51 #[.int .i64 t2.op, .slice As2 t2.spans.length cs2, .slice Ak2 t2.kids.length ck2, .int .i64 t2.mn, .int .i64 t2.mx, .int .i64 t2.mo, .int .i64 t2.n, .bool t2.neg]
            have hMA : Mid3 w (w8.alloc (.cells #[.int .i64 t2.op, .slice As2 t2.spans.length cs2, .slice Ak2 t2.kids.length ck2, .int .i64 t2.mn, .int .i64 t2.mx, .int .i64 t2.mo, .int .i64 t2.n, .bool t2.neg] 51)) mb := ⟨h8.maker.bel ((Below.refl _ _).alloc (Nat.le_refl _) _), h8.chg.alloc _, h8.res.alloc _⟩
            have htA := (ht8).bel ((Below.refl _ _).alloc (Nat.le_refl _) (.cells #[.int .i64 t2.op, .slice As2 t2.spans.length cs2, .slice Ak2 t2.kids.length ck2, .int .i64 t2.mn, .int .i64 t2.mx, .int .i64 t2.mo, .int .i64 t2.n, .bool t2.neg] 51))
            obtain ⟨v0, v1, v2, v3, v4, v5, v6, v7⟩ := (hK8).eight
            have r2 := hBA.at' 2
            have fr2 := hBA.thaw 2
            have hRl := hBA.lt
            simp at r2
            have hcB := (Chg.refl (fun b => b = R) (w8.alloc (.cells #[.int .i64 t2.op, .slice As2 t2.spans.length cs2, .slice Ak2 t2.kids.length ck2, .int .i64 t2.mn, .int .i64 t2.mx, .int .i64 t2.mo, .int .i64 t2.n, .bool t2.neg] 51))).setCell (p := ⟨R, 2, none⟩) (.inr rfl) (.slice (some ⟨w8.heap.size, 0, none⟩) 1 1)
            have hBB := hBA.put 2 (.slice (some ⟨w8.heap.size, 0, none⟩) 1 1)
            simp only [List.setIfInBounds_toArray, List.set_cons_succ, List.set_cons_zero] at hBB
            have hRq := hB8.lt
            obtain ⟨wB, hwB⟩ : ∃ x, (w8.alloc (.cells #[.int .i64 t2.op, .slice As2 t2.spans.length cs2, .slice Ak2 t2.kids.length ck2, .int .i64 t2.mn, .int .i64 t2.mx, .int .i64 t2.mo, .int .i64 t2.n, .bool t2.neg] 51)).setCell ⟨R, 2, none⟩ (.slice (some ⟨w8.heap.size, 0, none⟩) 1 1) = x := ⟨_, rfl⟩
            rw [hwB] at hBB hcB
            have hMB : Mid3 w wB mb := ⟨hMA.maker.chg hcB (fun g hg e => by have e' : g = R := e; omega), hMA.chg.trans hcB (fun g hg e => by have e' : g = R := e; omega), hMA.res.chg hcB (fun e => by have e' : w.heap.size = R := e; omega)⟩
            have hNB := hN.chg hcB (fun e => by have e' : w8.heap.size = R := e; omega)
            have htB := htA.chg hcB (fun g hg e => hg.2 e)
            obtain ⟨a0, a1, a2, a3, a4, a5, a6, a7⟩ := hBB.eight
            obtain ⟨p0, p1, p2, p3, p4, p5, p6, p7⟩ := hMB.res.eight
            obtain ⟨o0, o1, o2, o3, o4, o5, o6, o7⟩ := hMB.res.thaw8
            have hR0l := hMB.res.lt
            have hgs := h8.size
            go_wp2
            refine bodyPost_ret (results_re rfl _ _ w.heap.size rfl (hMB.res.put8 _ _ _ _ _ _ _ _)) rfl ?_
            exact ⟨_, rfl, Made.rep hlt hMB htB (hcel2 ▸ hNB) (by omega) (shapeRep hmn hmx hmz) (by have := hMs.num; have : 0 < 4 ^ d := Nat.pow_pos (by omega); omega)⟩
        · have hvd : (bits .and .i64 uses5 32 == 0) = false := by simpa using hv
          have hKA := hK5.alloc (.cells #[.int .i64 t.op, .slice Ast t.spans.length cst, .slice Akt t.kids.length ckt, .int .i64 t.mn, .int .i64 t.mx, .int .i64 t.mo, .int .i64 t.n, .bool t.neg] 51)
          have hBA := hB5.alloc (.cells #[.int .i64 t.op, .slice Ast t.spans.length cst, .slice Akt t.kids.length ckt, .int .i64 t.mn, .int .i64 t.mx, .int .i64 t.mo, .int .i64 t.n, .bool t.neg] 51)
          have hN := Blk.made w5 51 #[.int .i64 t.op, .slice Ast t.spans.length cst, .slice Akt t.kids.length ckt, .int .i64 t.mn, .int .i64 t.mx, .int .i64 t.mo, .int .i64 t.n, .bool t.neg]
          have hMA : Mid3 w (w5.alloc (.cells #[.int .i64 t.op, .slice Ast t.spans.length cst, .slice Akt t.kids.length ckt, .int .i64 t.mn, .int .i64 t.mx, .int .i64 t.mo, .int .i64 t.n, .bool t.neg] 51)) mb := ⟨h5.maker.bel ((Below.refl _ _).alloc (Nat.le_refl _) _), h5.chg.alloc _, h5.res.alloc _⟩
          have htA := (ht5').bel ((Below.refl _ _).alloc (Nat.le_refl _) (.cells #[.int .i64 t.op, .slice Ast t.spans.length cst, .slice Akt t.kids.length ckt, .int .i64 t.mn, .int .i64 t.mx, .int .i64 t.mo, .int .i64 t.n, .bool t.neg] 51))
          obtain ⟨v0, v1, v2, v3, v4, v5, v6, v7⟩ := (hK5).eight
          have r2 := hBA.at' 2
          have fr2 := hBA.thaw 2
          have hRl := hBA.lt
          simp at r2
          have hcB := (Chg.refl (fun b => b = R) (w5.alloc (.cells #[.int .i64 t.op, .slice Ast t.spans.length cst, .slice Akt t.kids.length ckt, .int .i64 t.mn, .int .i64 t.mx, .int .i64 t.mo, .int .i64 t.n, .bool t.neg] 51))).setCell (p := ⟨R, 2, none⟩) (.inr rfl) (.slice (some ⟨w5.heap.size, 0, none⟩) 1 1)
          have hBB := hBA.put 2 (.slice (some ⟨w5.heap.size, 0, none⟩) 1 1)
          simp only [List.setIfInBounds_toArray, List.set_cons_succ, List.set_cons_zero] at hBB
          have hRq := hB5.lt
          obtain ⟨wB, hwB⟩ : ∃ x, (w5.alloc (.cells #[.int .i64 t.op, .slice Ast t.spans.length cst, .slice Akt t.kids.length ckt, .int .i64 t.mn, .int .i64 t.mx, .int .i64 t.mo, .int .i64 t.n, .bool t.neg] 51)).setCell ⟨R, 2, none⟩ (.slice (some ⟨w5.heap.size, 0, none⟩) 1 1) = x := ⟨_, rfl⟩
          rw [hwB] at hBB hcB
          have hMB : Mid3 w wB mb := ⟨hMA.maker.chg hcB (fun g hg e => by have e' : g = R := e; omega), hMA.chg.trans hcB (fun g hg e => by have e' : g = R := e; omega), hMA.res.chg hcB (fun e => by have e' : w.heap.size = R := e; omega)⟩
          have hNB := hN.chg hcB (fun e => by have e' : w5.heap.size = R := e; omega)
          have htB := htA.chg hcB (fun g hg e => hg.2 e)
          obtain ⟨a0, a1, a2, a3, a4, a5, a6, a7⟩ := hBB.eight
          obtain ⟨p0, p1, p2, p3, p4, p5, p6, p7⟩ := hMB.res.eight
          obtain ⟨o0, o1, o2, o3, o4, o5, o6, o7⟩ := hMB.res.thaw8
          have hR0l := hMB.res.lt
          have hgs := h5.size
          go_wp2
          refine bodyPost_ret (results_re rfl _ _ w.heap.size rfl (hMB.res.put8 _ _ _ _ _ _ _ _)) rfl ?_
          exact ⟨_, rfl, Made.rep hlt hMB htB (hcel ▸ hNB) (by omega) (shapeRep hmn hmx hmz) (by have := hMd.num; omega)⟩
      · have hk41 : ((k4 : Int) == 0) = false := by simpa using hk40
        have hB3 := hB2
        have h3 := h2b
        obtain ⟨w3, rfl⟩ : ∃ x, x = w2 := ⟨_, rfl⟩
        have hmz : ModeZ (mo : Int) := by unfold ModeZ; omega
        go_wp2_with fail
        refine (show Calls Tryz.prog 38 #[.pointer (some ⟨mb, 0, none⟩), .int .i64 (d : Int)] w3 _ from ih w3 mb h3.maker).mono ?_
        rintro _ w4 ⟨t, rfl, hMd⟩
        have h4 := h3.step hlt hMd.maker hMd.chg
        have s3 := h3.size
        have s34 := hMd.chg.size
        have hRmb : ¬ R = mb := by omega
        have hB4 := hB3.chg hMd.chg (fun e => hRmb e)
        obtain ⟨Ast, cst, hset, -⟩ := hMd.tree.set.shape
        obtain ⟨Akt, ckt, hkv, -⟩ := hMd.tree.kids.shape
        have hval : t.val = .agg #[.int .i64 t.op, .slice Ast t.spans.length cst, .slice Akt t.kids.length ckt, .int .i64 t.mn, .int .i64 t.mx, .int .i64 t.mo, .int .i64 t.n, .bool t.neg] := by unfold VT.val; rw [hset, hkv]
        have hcel : t.cells.toArray = #[.int .i64 t.op, .slice Ast t.spans.length cst, .slice Akt t.kids.length ckt, .int .i64 t.mn, .int .i64 t.mx, .int .i64 t.mo, .int .i64 t.n, .bool t.neg] := by unfold VT.cells; rw [hset, hkv]
        rw [hval]
        have hK5 := Blk.made w4 51 #[.int .i64 t.op, .slice Ast t.spans.length cst, .slice Akt t.kids.length ckt, .int .i64 t.mn, .int .i64 t.mx, .int .i64 t.mo, .int .i64 t.n, .bool t.neg]
        have hc5 := (Chg.refl (fun _ => False) w4).alloc (.cells #[.int .i64 t.op, .slice Ast t.spans.length cst, .slice Akt t.kids.length ckt, .int .i64 t.mn, .int .i64 t.mx, .int .i64 t.mo, .int .i64 t.n, .bool t.neg] 51)
        obtain ⟨w5, hw5⟩ : ∃ x, w4.alloc (.cells #[.int .i64 t.op, .slice Ast t.spans.length cst, .slice Akt t.kids.length ckt, .int .i64 t.mn, .int .i64 t.mx, .int .i64 t.mo, .int .i64 t.n, .bool t.neg] 51) = x := ⟨_, rfl⟩
        rw [hw5] at hK5 hc5
        have h5 : Mid3 w w5 mb := ⟨h4.maker.chg hc5 (fun _ _ h => h), h4.chg.trans hc5 (fun _ _ h => h.elim), h4.res.chg hc5 (fun h => h)⟩
        have hB5 := hB4.chg hc5 (fun h => h)
        have ht5 := hMd.tree.chg hc5 (fun _ _ h => h)
        have s5 := hK5.lt
        obtain ⟨A5, c5, l5, e1, uses5, e3, caps5, hb5, -, -, -⟩ := h5.maker
        have c25 := hb5.at' 2
        simp at c25
        obtain ⟨k0, k1, k2, k3, k4, k5, k6, k7⟩ := hK5.eight
        have ht5' : TreeAt w5 (fun b => w.heap.size < b ∧ b ≠ R) t := ht5.low fun b hb => ⟨by omega, fun e => by have := hB3.lt; omega⟩
        by_cases hv : bits .and .i64 uses5 32 = 0
        · have hvd : (bits .and .i64 uses5 32 == 0) = true := by simpa using hv
          have hnl := nullable_walk t.num rfl ht5
          rw [hval] at hnl
          go_wp2_with fail
          refine (show Calls Tryz.prog 83 #[.agg #[.int .i64 t.op, .slice Ast t.spans.length cst, .slice Akt t.kids.length ckt, .int .i64 t.mn, .int .i64 t.mx, .int .i64 t.mo, .int .i64 t.n, .bool t.neg]] w5 _ from hnl).mono ?_
          clear hnl
          rintro _ w6 ⟨b6, rfl, hN6⟩
          have h6 := h5.step hlt (h5.maker.bel hN6) (Chg.of_below hN6)
          have hB6' := hB5.bel hN6 hB5.lt
          have hK6 := hK5.bel hN6 hK5.lt
          have ht6 := ht5'.bel hN6
          have s6 := hN6.size
          cases b6 with
          | false =>
            have hKA := hK6.alloc (.cells #[.int .i64 t.op, .slice Ast t.spans.length cst, .slice Akt t.kids.length ckt, .int .i64 t.mn, .int .i64 t.mx, .int .i64 t.mo, .int .i64 t.n, .bool t.neg] 51)
            have hBA := hB6'.alloc (.cells #[.int .i64 t.op, .slice Ast t.spans.length cst, .slice Akt t.kids.length ckt, .int .i64 t.mn, .int .i64 t.mx, .int .i64 t.mo, .int .i64 t.n, .bool t.neg] 51)
            have hN := Blk.made w6 51 #[.int .i64 t.op, .slice Ast t.spans.length cst, .slice Akt t.kids.length ckt, .int .i64 t.mn, .int .i64 t.mx, .int .i64 t.mo, .int .i64 t.n, .bool t.neg]
            have hMA : Mid3 w (w6.alloc (.cells #[.int .i64 t.op, .slice Ast t.spans.length cst, .slice Akt t.kids.length ckt, .int .i64 t.mn, .int .i64 t.mx, .int .i64 t.mo, .int .i64 t.n, .bool t.neg] 51)) mb := ⟨h6.maker.bel ((Below.refl _ _).alloc (Nat.le_refl _) _), h6.chg.alloc _, h6.res.alloc _⟩
            have htA := (ht6).bel ((Below.refl _ _).alloc (Nat.le_refl _) (.cells #[.int .i64 t.op, .slice Ast t.spans.length cst, .slice Akt t.kids.length ckt, .int .i64 t.mn, .int .i64 t.mx, .int .i64 t.mo, .int .i64 t.n, .bool t.neg] 51))
            obtain ⟨v0, v1, v2, v3, v4, v5, v6, v7⟩ := (hK6).eight
            have r2 := hBA.at' 2
            have fr2 := hBA.thaw 2
            have hRl := hBA.lt
            simp at r2
            have hcB := (Chg.refl (fun b => b = R) (w6.alloc (.cells #[.int .i64 t.op, .slice Ast t.spans.length cst, .slice Akt t.kids.length ckt, .int .i64 t.mn, .int .i64 t.mx, .int .i64 t.mo, .int .i64 t.n, .bool t.neg] 51))).setCell (p := ⟨R, 2, none⟩) (.inr rfl) (.slice (some ⟨w6.heap.size, 0, none⟩) 1 1)
            have hBB := hBA.put 2 (.slice (some ⟨w6.heap.size, 0, none⟩) 1 1)
            simp only [List.setIfInBounds_toArray, List.set_cons_succ, List.set_cons_zero] at hBB
            have hRq := hB6'.lt
            obtain ⟨wB, hwB⟩ : ∃ x, (w6.alloc (.cells #[.int .i64 t.op, .slice Ast t.spans.length cst, .slice Akt t.kids.length ckt, .int .i64 t.mn, .int .i64 t.mx, .int .i64 t.mo, .int .i64 t.n, .bool t.neg] 51)).setCell ⟨R, 2, none⟩ (.slice (some ⟨w6.heap.size, 0, none⟩) 1 1) = x := ⟨_, rfl⟩
            rw [hwB] at hBB hcB
            have hMB : Mid3 w wB mb := ⟨hMA.maker.chg hcB (fun g hg e => by have e' : g = R := e; omega), hMA.chg.trans hcB (fun g hg e => by have e' : g = R := e; omega), hMA.res.chg hcB (fun e => by have e' : w.heap.size = R := e; omega)⟩
            have hNB := hN.chg hcB (fun e => by have e' : w6.heap.size = R := e; omega)
            have htB := htA.chg hcB (fun g hg e => hg.2 e)
            obtain ⟨a0, a1, a2, a3, a4, a5, a6, a7⟩ := hBB.eight
            obtain ⟨p0, p1, p2, p3, p4, p5, p6, p7⟩ := hMB.res.eight
            obtain ⟨o0, o1, o2, o3, o4, o5, o6, o7⟩ := hMB.res.thaw8
            have hR0l := hMB.res.lt
            have hgs := h6.size
            go_wp2
            refine bodyPost_ret (results_re rfl _ _ w.heap.size rfl (hMB.res.put8 _ _ _ _ _ _ _ _)) rfl ?_
            exact ⟨_, rfl, Made.rep hlt hMB htB (hcel ▸ hNB) (by omega) (shapeRep hmn hmx hmz) (by have := hMd.num; omega)⟩
          | true =>
            have hst := set_walk h6.maker
            go_wp2_with fail
            refine hst.mono ?_
            clear hst
            rintro _ w7 ⟨t2, rfl, hMs⟩
            have s7 := hMs.chg.size
            have hB7 := hB6'.chg hMs.chg (fun e => hRmb e)
            have hK7 := hK6.chg hMs.chg (fun e => by have e' : w4.heap.size = mb := e; omega)
            have h7 := h6.step hlt hMs.maker hMs.chg
            obtain ⟨As2, cs2, hset2, -⟩ := hMs.tree.set.shape
            obtain ⟨Ak2, ck2, hkv2, -⟩ := hMs.tree.kids.shape
            have hval2 : t2.val = .agg #[.int .i64 t2.op, .slice As2 t2.spans.length cs2, .slice Ak2 t2.kids.length ck2, .int .i64 t2.mn, .int .i64 t2.mx, .int .i64 t2.mo, .int .i64 t2.n, .bool t2.neg] := by unfold VT.val; rw [hset2, hkv2]
            have hcel2 : t2.cells.toArray = #[.int .i64 t2.op, .slice As2 t2.spans.length cs2, .slice Ak2 t2.kids.length ck2, .int .i64 t2.mn, .int .i64 t2.mx, .int .i64 t2.mo, .int .i64 t2.n, .bool t2.neg] := by unfold VT.cells; rw [hset2, hkv2]
            rw [hval2]
            obtain ⟨z0, z1, z2, z3, z4, z5, z6, z7⟩ := hK7.eight
            obtain ⟨y0, y1, y2, y3, y4, y5, y6, y7⟩ := hK7.thaw8
            have hZl := hK7.lt
            have hK8 := hK7.put8 (.int .i64 t2.op) (.slice As2 t2.spans.length cs2) (.slice Ak2 t2.kids.length ck2) (.int .i64 t2.mn) (.int .i64 t2.mx) (.int .i64 t2.mo) (.int .i64 t2.n) (.bool t2.neg)
            have hc8 := (Chg.refl (fun b => b = w4.heap.size) w7).put8 (R := w4.heap.size) (.inr rfl) (.int .i64 t2.op) (.slice As2 t2.spans.length cs2) (.slice Ak2 t2.kids.length ck2) (.int .i64 t2.mn) (.int .i64 t2.mx) (.int .i64 t2.mo) (.int .i64 t2.n) (.bool t2.neg)
            have hRw4 := hB4.lt
            obtain ⟨w8, hw8⟩ : ∃ x, ((((((((w7).setCell ⟨w4.heap.size, 0, none⟩ (.int .i64 t2.op)).setCell ⟨w4.heap.size, 1, none⟩ (.slice As2 t2.spans.length cs2)).setCell ⟨w4.heap.size, 2, none⟩ (.slice Ak2 t2.kids.length ck2)).setCell ⟨w4.heap.size, 3, none⟩ (.int .i64 t2.mn)).setCell ⟨w4.heap.size, 4, none⟩ (.int .i64 t2.mx)).setCell ⟨w4.heap.size, 5, none⟩ (.int .i64 t2.mo)).setCell ⟨w4.heap.size, 6, none⟩ (.int .i64 t2.n)).setCell ⟨w4.heap.size, 7, none⟩ (.bool t2.neg) = x := ⟨_, rfl⟩
            rw [hw8] at hK8 hc8
            have h8 : Mid3 w w8 mb := ⟨h7.maker.chg hc8 (fun g hg e => by have e' : g = w4.heap.size := e; omega), h7.chg.trans hc8 (fun g hg e => by have e' : g = w4.heap.size := e; omega), h7.res.chg hc8 (fun e => by have e' : w.heap.size = w4.heap.size := e; omega)⟩
            have hB8 := hB7.chg hc8 (fun e => by have e' : R = w4.heap.size := e; omega)
            have ht8 : TreeAt w8 (fun b => w.heap.size < b ∧ b ≠ R) t2 := (hMs.tree.chg hc8 (fun g hg e => by have e' : g = w4.heap.size := e; omega)).low fun b hb => ⟨by omega, fun e => by omega⟩
            have hKA := hK8.alloc (.cells #[.int .i64 t2.op, .slice As2 t2.spans.length cs2, .slice Ak2 t2.kids.length ck2, .int .i64 t2.mn, .int .i64 t2.mx, .int .i64 t2.mo, .int .i64 t2.n, .bool t2.neg] 51)
            have hBA := hB8.alloc (.cells #[.int .i64 t2.op, .slice As2 t2.spans.length cs2, .slice Ak2 t2.kids.length ck2, .int .i64 t2.mn, .int .i64 t2.mx, .int .i64 t2.mo, .int .i64 t2.n, .bool t2.neg] 51)
            have hN := Blk.made w8 51 #[.int .i64 t2.op, .slice As2 t2.spans.length cs2, .slice Ak2 t2.kids.length ck2, .int .i64 t2.mn, .int .i64 t2.mx, .int .i64 t2.mo, .int .i64 t2.n, .bool t2.neg]
            have hMA : Mid3 w (w8.alloc (.cells #[.int .i64 t2.op, .slice As2 t2.spans.length cs2, .slice Ak2 t2.kids.length ck2, .int .i64 t2.mn, .int .i64 t2.mx, .int .i64 t2.mo, .int .i64 t2.n, .bool t2.neg] 51)) mb := ⟨h8.maker.bel ((Below.refl _ _).alloc (Nat.le_refl _) _), h8.chg.alloc _, h8.res.alloc _⟩
            have htA := (ht8).bel ((Below.refl _ _).alloc (Nat.le_refl _) (.cells #[.int .i64 t2.op, .slice As2 t2.spans.length cs2, .slice Ak2 t2.kids.length ck2, .int .i64 t2.mn, .int .i64 t2.mx, .int .i64 t2.mo, .int .i64 t2.n, .bool t2.neg] 51))
            obtain ⟨v0, v1, v2, v3, v4, v5, v6, v7⟩ := (hK8).eight
            have r2 := hBA.at' 2
            have fr2 := hBA.thaw 2
            have hRl := hBA.lt
            simp at r2
            have hcB := (Chg.refl (fun b => b = R) (w8.alloc (.cells #[.int .i64 t2.op, .slice As2 t2.spans.length cs2, .slice Ak2 t2.kids.length ck2, .int .i64 t2.mn, .int .i64 t2.mx, .int .i64 t2.mo, .int .i64 t2.n, .bool t2.neg] 51))).setCell (p := ⟨R, 2, none⟩) (.inr rfl) (.slice (some ⟨w8.heap.size, 0, none⟩) 1 1)
            have hBB := hBA.put 2 (.slice (some ⟨w8.heap.size, 0, none⟩) 1 1)
            simp only [List.setIfInBounds_toArray, List.set_cons_succ, List.set_cons_zero] at hBB
            have hRq := hB8.lt
            obtain ⟨wB, hwB⟩ : ∃ x, (w8.alloc (.cells #[.int .i64 t2.op, .slice As2 t2.spans.length cs2, .slice Ak2 t2.kids.length ck2, .int .i64 t2.mn, .int .i64 t2.mx, .int .i64 t2.mo, .int .i64 t2.n, .bool t2.neg] 51)).setCell ⟨R, 2, none⟩ (.slice (some ⟨w8.heap.size, 0, none⟩) 1 1) = x := ⟨_, rfl⟩
            rw [hwB] at hBB hcB
            have hMB : Mid3 w wB mb := ⟨hMA.maker.chg hcB (fun g hg e => by have e' : g = R := e; omega), hMA.chg.trans hcB (fun g hg e => by have e' : g = R := e; omega), hMA.res.chg hcB (fun e => by have e' : w.heap.size = R := e; omega)⟩
            have hNB := hN.chg hcB (fun e => by have e' : w8.heap.size = R := e; omega)
            have htB := htA.chg hcB (fun g hg e => hg.2 e)
            obtain ⟨a0, a1, a2, a3, a4, a5, a6, a7⟩ := hBB.eight
            obtain ⟨p0, p1, p2, p3, p4, p5, p6, p7⟩ := hMB.res.eight
            obtain ⟨o0, o1, o2, o3, o4, o5, o6, o7⟩ := hMB.res.thaw8
            have hR0l := hMB.res.lt
            have hgs := h8.size
            go_wp2
            refine bodyPost_ret (results_re rfl _ _ w.heap.size rfl (hMB.res.put8 _ _ _ _ _ _ _ _)) rfl ?_
            exact ⟨_, rfl, Made.rep hlt hMB htB (hcel2 ▸ hNB) (by omega) (shapeRep hmn hmx hmz) (by have := hMs.num; have : 0 < 4 ^ d := Nat.pow_pos (by omega); omega)⟩
        · have hvd : (bits .and .i64 uses5 32 == 0) = false := by simpa using hv
          have hKA := hK5.alloc (.cells #[.int .i64 t.op, .slice Ast t.spans.length cst, .slice Akt t.kids.length ckt, .int .i64 t.mn, .int .i64 t.mx, .int .i64 t.mo, .int .i64 t.n, .bool t.neg] 51)
          have hBA := hB5.alloc (.cells #[.int .i64 t.op, .slice Ast t.spans.length cst, .slice Akt t.kids.length ckt, .int .i64 t.mn, .int .i64 t.mx, .int .i64 t.mo, .int .i64 t.n, .bool t.neg] 51)
          have hN := Blk.made w5 51 #[.int .i64 t.op, .slice Ast t.spans.length cst, .slice Akt t.kids.length ckt, .int .i64 t.mn, .int .i64 t.mx, .int .i64 t.mo, .int .i64 t.n, .bool t.neg]
          have hMA : Mid3 w (w5.alloc (.cells #[.int .i64 t.op, .slice Ast t.spans.length cst, .slice Akt t.kids.length ckt, .int .i64 t.mn, .int .i64 t.mx, .int .i64 t.mo, .int .i64 t.n, .bool t.neg] 51)) mb := ⟨h5.maker.bel ((Below.refl _ _).alloc (Nat.le_refl _) _), h5.chg.alloc _, h5.res.alloc _⟩
          have htA := (ht5').bel ((Below.refl _ _).alloc (Nat.le_refl _) (.cells #[.int .i64 t.op, .slice Ast t.spans.length cst, .slice Akt t.kids.length ckt, .int .i64 t.mn, .int .i64 t.mx, .int .i64 t.mo, .int .i64 t.n, .bool t.neg] 51))
          obtain ⟨v0, v1, v2, v3, v4, v5, v6, v7⟩ := (hK5).eight
          have r2 := hBA.at' 2
          have fr2 := hBA.thaw 2
          have hRl := hBA.lt
          simp at r2
          have hcB := (Chg.refl (fun b => b = R) (w5.alloc (.cells #[.int .i64 t.op, .slice Ast t.spans.length cst, .slice Akt t.kids.length ckt, .int .i64 t.mn, .int .i64 t.mx, .int .i64 t.mo, .int .i64 t.n, .bool t.neg] 51))).setCell (p := ⟨R, 2, none⟩) (.inr rfl) (.slice (some ⟨w5.heap.size, 0, none⟩) 1 1)
          have hBB := hBA.put 2 (.slice (some ⟨w5.heap.size, 0, none⟩) 1 1)
          simp only [List.setIfInBounds_toArray, List.set_cons_succ, List.set_cons_zero] at hBB
          have hRq := hB5.lt
          obtain ⟨wB, hwB⟩ : ∃ x, (w5.alloc (.cells #[.int .i64 t.op, .slice Ast t.spans.length cst, .slice Akt t.kids.length ckt, .int .i64 t.mn, .int .i64 t.mx, .int .i64 t.mo, .int .i64 t.n, .bool t.neg] 51)).setCell ⟨R, 2, none⟩ (.slice (some ⟨w5.heap.size, 0, none⟩) 1 1) = x := ⟨_, rfl⟩
          rw [hwB] at hBB hcB
          have hMB : Mid3 w wB mb := ⟨hMA.maker.chg hcB (fun g hg e => by have e' : g = R := e; omega), hMA.chg.trans hcB (fun g hg e => by have e' : g = R := e; omega), hMA.res.chg hcB (fun e => by have e' : w.heap.size = R := e; omega)⟩
          have hNB := hN.chg hcB (fun e => by have e' : w5.heap.size = R := e; omega)
          have htB := htA.chg hcB (fun g hg e => hg.2 e)
          obtain ⟨a0, a1, a2, a3, a4, a5, a6, a7⟩ := hBB.eight
          obtain ⟨p0, p1, p2, p3, p4, p5, p6, p7⟩ := hMB.res.eight
          obtain ⟨o0, o1, o2, o3, o4, o5, o6, o7⟩ := hMB.res.thaw8
          have hR0l := hMB.res.lt
          have hgs := h5.size
          go_wp2
          refine bodyPost_ret (results_re rfl _ _ w.heap.size rfl (hMB.res.put8 _ _ _ _ _ _ _ _)) rfl ?_
          exact ⟨_, rfl, Made.rep hlt hMB htB (hcel ▸ hNB) (by omega) (shapeRep hmn hmx hmz) (by have := hMd.num; omega)⟩
    · have hud : decide (0 < bits .and .i64 uses 8) = false := decide_eq_false hu
      have hB3 := hB6
      have h3 := h2
      go_at_K
      go_wp2_with fail
      obtain ⟨w3, rfl⟩ : ∃ x, x = w' := ⟨_, rfl⟩
      have hmz : ModeZ (mo : Int) := by unfold ModeZ; omega
      refine (show Calls Tryz.prog 38 #[.pointer (some ⟨mb, 0, none⟩), .int .i64 (d : Int)] w3 _ from ih w3 mb h3.maker).mono ?_
      rintro _ w4 ⟨t, rfl, hMd⟩
      have h4 := h3.step hlt hMd.maker hMd.chg
      have s3 := h3.size
      have s34 := hMd.chg.size
      have hRmb : ¬ R = mb := by omega
      have hB4 := hB3.chg hMd.chg (fun e => hRmb e)
      obtain ⟨Ast, cst, hset, -⟩ := hMd.tree.set.shape
      obtain ⟨Akt, ckt, hkv, -⟩ := hMd.tree.kids.shape
      have hval : t.val = .agg #[.int .i64 t.op, .slice Ast t.spans.length cst, .slice Akt t.kids.length ckt, .int .i64 t.mn, .int .i64 t.mx, .int .i64 t.mo, .int .i64 t.n, .bool t.neg] := by unfold VT.val; rw [hset, hkv]
      have hcel : t.cells.toArray = #[.int .i64 t.op, .slice Ast t.spans.length cst, .slice Akt t.kids.length ckt, .int .i64 t.mn, .int .i64 t.mx, .int .i64 t.mo, .int .i64 t.n, .bool t.neg] := by unfold VT.cells; rw [hset, hkv]
      rw [hval]
      have hK5 := Blk.made w4 51 #[.int .i64 t.op, .slice Ast t.spans.length cst, .slice Akt t.kids.length ckt, .int .i64 t.mn, .int .i64 t.mx, .int .i64 t.mo, .int .i64 t.n, .bool t.neg]
      have hc5 := (Chg.refl (fun _ => False) w4).alloc (.cells #[.int .i64 t.op, .slice Ast t.spans.length cst, .slice Akt t.kids.length ckt, .int .i64 t.mn, .int .i64 t.mx, .int .i64 t.mo, .int .i64 t.n, .bool t.neg] 51)
      obtain ⟨w5, hw5⟩ : ∃ x, w4.alloc (.cells #[.int .i64 t.op, .slice Ast t.spans.length cst, .slice Akt t.kids.length ckt, .int .i64 t.mn, .int .i64 t.mx, .int .i64 t.mo, .int .i64 t.n, .bool t.neg] 51) = x := ⟨_, rfl⟩
      rw [hw5] at hK5 hc5
      have h5 : Mid3 w w5 mb := ⟨h4.maker.chg hc5 (fun _ _ h => h), h4.chg.trans hc5 (fun _ _ h => h.elim), h4.res.chg hc5 (fun h => h)⟩
      have hB5 := hB4.chg hc5 (fun h => h)
      have ht5 := hMd.tree.chg hc5 (fun _ _ h => h)
      have s5 := hK5.lt
      obtain ⟨A5, c5, l5, e1, uses5, e3, caps5, hb5, -, -, -⟩ := h5.maker
      have c25 := hb5.at' 2
      simp at c25
      obtain ⟨k0, k1, k2, k3, k4, k5, k6, k7⟩ := hK5.eight
      have ht5' : TreeAt w5 (fun b => w.heap.size < b ∧ b ≠ R) t := ht5.low fun b hb => ⟨by omega, fun e => by have := hB3.lt; omega⟩
      by_cases hv : bits .and .i64 uses5 32 = 0
      · have hvd : (bits .and .i64 uses5 32 == 0) = true := by simpa using hv
        have hnl := nullable_walk t.num rfl ht5
        rw [hval] at hnl
        go_wp2_with fail
        refine (show Calls Tryz.prog 83 #[.agg #[.int .i64 t.op, .slice Ast t.spans.length cst, .slice Akt t.kids.length ckt, .int .i64 t.mn, .int .i64 t.mx, .int .i64 t.mo, .int .i64 t.n, .bool t.neg]] w5 _ from hnl).mono ?_
        clear hnl
        rintro _ w6 ⟨b6, rfl, hN6⟩
        have h6 := h5.step hlt (h5.maker.bel hN6) (Chg.of_below hN6)
        have hB6' := hB5.bel hN6 hB5.lt
        have hK6 := hK5.bel hN6 hK5.lt
        have ht6 := ht5'.bel hN6
        have s6 := hN6.size
        cases b6 with
        | false =>
          have hKA := hK6.alloc (.cells #[.int .i64 t.op, .slice Ast t.spans.length cst, .slice Akt t.kids.length ckt, .int .i64 t.mn, .int .i64 t.mx, .int .i64 t.mo, .int .i64 t.n, .bool t.neg] 51)
          have hBA := hB6'.alloc (.cells #[.int .i64 t.op, .slice Ast t.spans.length cst, .slice Akt t.kids.length ckt, .int .i64 t.mn, .int .i64 t.mx, .int .i64 t.mo, .int .i64 t.n, .bool t.neg] 51)
          have hN := Blk.made w6 51 #[.int .i64 t.op, .slice Ast t.spans.length cst, .slice Akt t.kids.length ckt, .int .i64 t.mn, .int .i64 t.mx, .int .i64 t.mo, .int .i64 t.n, .bool t.neg]
          have hMA : Mid3 w (w6.alloc (.cells #[.int .i64 t.op, .slice Ast t.spans.length cst, .slice Akt t.kids.length ckt, .int .i64 t.mn, .int .i64 t.mx, .int .i64 t.mo, .int .i64 t.n, .bool t.neg] 51)) mb := ⟨h6.maker.bel ((Below.refl _ _).alloc (Nat.le_refl _) _), h6.chg.alloc _, h6.res.alloc _⟩
          have htA := (ht6).bel ((Below.refl _ _).alloc (Nat.le_refl _) (.cells #[.int .i64 t.op, .slice Ast t.spans.length cst, .slice Akt t.kids.length ckt, .int .i64 t.mn, .int .i64 t.mx, .int .i64 t.mo, .int .i64 t.n, .bool t.neg] 51))
          obtain ⟨v0, v1, v2, v3, v4, v5, v6, v7⟩ := (hK6).eight
          have r2 := hBA.at' 2
          have fr2 := hBA.thaw 2
          have hRl := hBA.lt
          simp at r2
          have hcB := (Chg.refl (fun b => b = R) (w6.alloc (.cells #[.int .i64 t.op, .slice Ast t.spans.length cst, .slice Akt t.kids.length ckt, .int .i64 t.mn, .int .i64 t.mx, .int .i64 t.mo, .int .i64 t.n, .bool t.neg] 51))).setCell (p := ⟨R, 2, none⟩) (.inr rfl) (.slice (some ⟨w6.heap.size, 0, none⟩) 1 1)
          have hBB := hBA.put 2 (.slice (some ⟨w6.heap.size, 0, none⟩) 1 1)
          simp only [List.setIfInBounds_toArray, List.set_cons_succ, List.set_cons_zero] at hBB
          have hRq := hB6'.lt
          obtain ⟨wB, hwB⟩ : ∃ x, (w6.alloc (.cells #[.int .i64 t.op, .slice Ast t.spans.length cst, .slice Akt t.kids.length ckt, .int .i64 t.mn, .int .i64 t.mx, .int .i64 t.mo, .int .i64 t.n, .bool t.neg] 51)).setCell ⟨R, 2, none⟩ (.slice (some ⟨w6.heap.size, 0, none⟩) 1 1) = x := ⟨_, rfl⟩
          rw [hwB] at hBB hcB
          have hMB : Mid3 w wB mb := ⟨hMA.maker.chg hcB (fun g hg e => by have e' : g = R := e; omega), hMA.chg.trans hcB (fun g hg e => by have e' : g = R := e; omega), hMA.res.chg hcB (fun e => by have e' : w.heap.size = R := e; omega)⟩
          have hNB := hN.chg hcB (fun e => by have e' : w6.heap.size = R := e; omega)
          have htB := htA.chg hcB (fun g hg e => hg.2 e)
          obtain ⟨a0, a1, a2, a3, a4, a5, a6, a7⟩ := hBB.eight
          obtain ⟨p0, p1, p2, p3, p4, p5, p6, p7⟩ := hMB.res.eight
          obtain ⟨o0, o1, o2, o3, o4, o5, o6, o7⟩ := hMB.res.thaw8
          have hR0l := hMB.res.lt
          have hgs := h6.size
          go_wp2
          refine bodyPost_ret (results_re rfl _ _ w.heap.size rfl (hMB.res.put8 _ _ _ _ _ _ _ _)) rfl ?_
          exact ⟨_, rfl, Made.rep hlt hMB htB (hcel ▸ hNB) (by omega) (shapeRep hmn hmx hmz) (by have := hMd.num; omega)⟩
        | true =>
          have hst := set_walk h6.maker
          go_wp2_with fail
          refine hst.mono ?_
          clear hst
          rintro _ w7 ⟨t2, rfl, hMs⟩
          have s7 := hMs.chg.size
          have hB7 := hB6'.chg hMs.chg (fun e => hRmb e)
          have hK7 := hK6.chg hMs.chg (fun e => by have e' : w4.heap.size = mb := e; omega)
          have h7 := h6.step hlt hMs.maker hMs.chg
          obtain ⟨As2, cs2, hset2, -⟩ := hMs.tree.set.shape
          obtain ⟨Ak2, ck2, hkv2, -⟩ := hMs.tree.kids.shape
          have hval2 : t2.val = .agg #[.int .i64 t2.op, .slice As2 t2.spans.length cs2, .slice Ak2 t2.kids.length ck2, .int .i64 t2.mn, .int .i64 t2.mx, .int .i64 t2.mo, .int .i64 t2.n, .bool t2.neg] := by unfold VT.val; rw [hset2, hkv2]
          have hcel2 : t2.cells.toArray = #[.int .i64 t2.op, .slice As2 t2.spans.length cs2, .slice Ak2 t2.kids.length ck2, .int .i64 t2.mn, .int .i64 t2.mx, .int .i64 t2.mo, .int .i64 t2.n, .bool t2.neg] := by unfold VT.cells; rw [hset2, hkv2]
          rw [hval2]
          obtain ⟨z0, z1, z2, z3, z4, z5, z6, z7⟩ := hK7.eight
          obtain ⟨y0, y1, y2, y3, y4, y5, y6, y7⟩ := hK7.thaw8
          have hZl := hK7.lt
          have hK8 := hK7.put8 (.int .i64 t2.op) (.slice As2 t2.spans.length cs2) (.slice Ak2 t2.kids.length ck2) (.int .i64 t2.mn) (.int .i64 t2.mx) (.int .i64 t2.mo) (.int .i64 t2.n) (.bool t2.neg)
          have hc8 := (Chg.refl (fun b => b = w4.heap.size) w7).put8 (R := w4.heap.size) (.inr rfl) (.int .i64 t2.op) (.slice As2 t2.spans.length cs2) (.slice Ak2 t2.kids.length ck2) (.int .i64 t2.mn) (.int .i64 t2.mx) (.int .i64 t2.mo) (.int .i64 t2.n) (.bool t2.neg)
          have hRw4 := hB4.lt
          obtain ⟨w8, hw8⟩ : ∃ x, ((((((((w7).setCell ⟨w4.heap.size, 0, none⟩ (.int .i64 t2.op)).setCell ⟨w4.heap.size, 1, none⟩ (.slice As2 t2.spans.length cs2)).setCell ⟨w4.heap.size, 2, none⟩ (.slice Ak2 t2.kids.length ck2)).setCell ⟨w4.heap.size, 3, none⟩ (.int .i64 t2.mn)).setCell ⟨w4.heap.size, 4, none⟩ (.int .i64 t2.mx)).setCell ⟨w4.heap.size, 5, none⟩ (.int .i64 t2.mo)).setCell ⟨w4.heap.size, 6, none⟩ (.int .i64 t2.n)).setCell ⟨w4.heap.size, 7, none⟩ (.bool t2.neg) = x := ⟨_, rfl⟩
          rw [hw8] at hK8 hc8
          have h8 : Mid3 w w8 mb := ⟨h7.maker.chg hc8 (fun g hg e => by have e' : g = w4.heap.size := e; omega), h7.chg.trans hc8 (fun g hg e => by have e' : g = w4.heap.size := e; omega), h7.res.chg hc8 (fun e => by have e' : w.heap.size = w4.heap.size := e; omega)⟩
          have hB8 := hB7.chg hc8 (fun e => by have e' : R = w4.heap.size := e; omega)
          have ht8 : TreeAt w8 (fun b => w.heap.size < b ∧ b ≠ R) t2 := (hMs.tree.chg hc8 (fun g hg e => by have e' : g = w4.heap.size := e; omega)).low fun b hb => ⟨by omega, fun e => by omega⟩
          have hKA := hK8.alloc (.cells #[.int .i64 t2.op, .slice As2 t2.spans.length cs2, .slice Ak2 t2.kids.length ck2, .int .i64 t2.mn, .int .i64 t2.mx, .int .i64 t2.mo, .int .i64 t2.n, .bool t2.neg] 51)
          have hBA := hB8.alloc (.cells #[.int .i64 t2.op, .slice As2 t2.spans.length cs2, .slice Ak2 t2.kids.length ck2, .int .i64 t2.mn, .int .i64 t2.mx, .int .i64 t2.mo, .int .i64 t2.n, .bool t2.neg] 51)
          have hN := Blk.made w8 51 #[.int .i64 t2.op, .slice As2 t2.spans.length cs2, .slice Ak2 t2.kids.length ck2, .int .i64 t2.mn, .int .i64 t2.mx, .int .i64 t2.mo, .int .i64 t2.n, .bool t2.neg]
          have hMA : Mid3 w (w8.alloc (.cells #[.int .i64 t2.op, .slice As2 t2.spans.length cs2, .slice Ak2 t2.kids.length ck2, .int .i64 t2.mn, .int .i64 t2.mx, .int .i64 t2.mo, .int .i64 t2.n, .bool t2.neg] 51)) mb := ⟨h8.maker.bel ((Below.refl _ _).alloc (Nat.le_refl _) _), h8.chg.alloc _, h8.res.alloc _⟩
          have htA := (ht8).bel ((Below.refl _ _).alloc (Nat.le_refl _) (.cells #[.int .i64 t2.op, .slice As2 t2.spans.length cs2, .slice Ak2 t2.kids.length ck2, .int .i64 t2.mn, .int .i64 t2.mx, .int .i64 t2.mo, .int .i64 t2.n, .bool t2.neg] 51))
          obtain ⟨v0, v1, v2, v3, v4, v5, v6, v7⟩ := (hK8).eight
          have r2 := hBA.at' 2
          have fr2 := hBA.thaw 2
          have hRl := hBA.lt
          simp at r2
          have hcB := (Chg.refl (fun b => b = R) (w8.alloc (.cells #[.int .i64 t2.op, .slice As2 t2.spans.length cs2, .slice Ak2 t2.kids.length ck2, .int .i64 t2.mn, .int .i64 t2.mx, .int .i64 t2.mo, .int .i64 t2.n, .bool t2.neg] 51))).setCell (p := ⟨R, 2, none⟩) (.inr rfl) (.slice (some ⟨w8.heap.size, 0, none⟩) 1 1)
          have hBB := hBA.put 2 (.slice (some ⟨w8.heap.size, 0, none⟩) 1 1)
          simp only [List.setIfInBounds_toArray, List.set_cons_succ, List.set_cons_zero] at hBB
          have hRq := hB8.lt
          obtain ⟨wB, hwB⟩ : ∃ x, (w8.alloc (.cells #[.int .i64 t2.op, .slice As2 t2.spans.length cs2, .slice Ak2 t2.kids.length ck2, .int .i64 t2.mn, .int .i64 t2.mx, .int .i64 t2.mo, .int .i64 t2.n, .bool t2.neg] 51)).setCell ⟨R, 2, none⟩ (.slice (some ⟨w8.heap.size, 0, none⟩) 1 1) = x := ⟨_, rfl⟩
          rw [hwB] at hBB hcB
          have hMB : Mid3 w wB mb := ⟨hMA.maker.chg hcB (fun g hg e => by have e' : g = R := e; omega), hMA.chg.trans hcB (fun g hg e => by have e' : g = R := e; omega), hMA.res.chg hcB (fun e => by have e' : w.heap.size = R := e; omega)⟩
          have hNB := hN.chg hcB (fun e => by have e' : w8.heap.size = R := e; omega)
          have htB := htA.chg hcB (fun g hg e => hg.2 e)
          obtain ⟨a0, a1, a2, a3, a4, a5, a6, a7⟩ := hBB.eight
          obtain ⟨p0, p1, p2, p3, p4, p5, p6, p7⟩ := hMB.res.eight
          obtain ⟨o0, o1, o2, o3, o4, o5, o6, o7⟩ := hMB.res.thaw8
          have hR0l := hMB.res.lt
          have hgs := h8.size
          go_wp2
          refine bodyPost_ret (results_re rfl _ _ w.heap.size rfl (hMB.res.put8 _ _ _ _ _ _ _ _)) rfl ?_
          exact ⟨_, rfl, Made.rep hlt hMB htB (hcel2 ▸ hNB) (by omega) (shapeRep hmn hmx hmz) (by have := hMs.num; have : 0 < 4 ^ d := Nat.pow_pos (by omega); omega)⟩
      · have hvd : (bits .and .i64 uses5 32 == 0) = false := by simpa using hv
        have hKA := hK5.alloc (.cells #[.int .i64 t.op, .slice Ast t.spans.length cst, .slice Akt t.kids.length ckt, .int .i64 t.mn, .int .i64 t.mx, .int .i64 t.mo, .int .i64 t.n, .bool t.neg] 51)
        have hBA := hB5.alloc (.cells #[.int .i64 t.op, .slice Ast t.spans.length cst, .slice Akt t.kids.length ckt, .int .i64 t.mn, .int .i64 t.mx, .int .i64 t.mo, .int .i64 t.n, .bool t.neg] 51)
        have hN := Blk.made w5 51 #[.int .i64 t.op, .slice Ast t.spans.length cst, .slice Akt t.kids.length ckt, .int .i64 t.mn, .int .i64 t.mx, .int .i64 t.mo, .int .i64 t.n, .bool t.neg]
        have hMA : Mid3 w (w5.alloc (.cells #[.int .i64 t.op, .slice Ast t.spans.length cst, .slice Akt t.kids.length ckt, .int .i64 t.mn, .int .i64 t.mx, .int .i64 t.mo, .int .i64 t.n, .bool t.neg] 51)) mb := ⟨h5.maker.bel ((Below.refl _ _).alloc (Nat.le_refl _) _), h5.chg.alloc _, h5.res.alloc _⟩
        have htA := (ht5').bel ((Below.refl _ _).alloc (Nat.le_refl _) (.cells #[.int .i64 t.op, .slice Ast t.spans.length cst, .slice Akt t.kids.length ckt, .int .i64 t.mn, .int .i64 t.mx, .int .i64 t.mo, .int .i64 t.n, .bool t.neg] 51))
        obtain ⟨v0, v1, v2, v3, v4, v5, v6, v7⟩ := (hK5).eight
        have r2 := hBA.at' 2
        have fr2 := hBA.thaw 2
        have hRl := hBA.lt
        simp at r2
        have hcB := (Chg.refl (fun b => b = R) (w5.alloc (.cells #[.int .i64 t.op, .slice Ast t.spans.length cst, .slice Akt t.kids.length ckt, .int .i64 t.mn, .int .i64 t.mx, .int .i64 t.mo, .int .i64 t.n, .bool t.neg] 51))).setCell (p := ⟨R, 2, none⟩) (.inr rfl) (.slice (some ⟨w5.heap.size, 0, none⟩) 1 1)
        have hBB := hBA.put 2 (.slice (some ⟨w5.heap.size, 0, none⟩) 1 1)
        simp only [List.setIfInBounds_toArray, List.set_cons_succ, List.set_cons_zero] at hBB
        have hRq := hB5.lt
        obtain ⟨wB, hwB⟩ : ∃ x, (w5.alloc (.cells #[.int .i64 t.op, .slice Ast t.spans.length cst, .slice Akt t.kids.length ckt, .int .i64 t.mn, .int .i64 t.mx, .int .i64 t.mo, .int .i64 t.n, .bool t.neg] 51)).setCell ⟨R, 2, none⟩ (.slice (some ⟨w5.heap.size, 0, none⟩) 1 1) = x := ⟨_, rfl⟩
        rw [hwB] at hBB hcB
        have hMB : Mid3 w wB mb := ⟨hMA.maker.chg hcB (fun g hg e => by have e' : g = R := e; omega), hMA.chg.trans hcB (fun g hg e => by have e' : g = R := e; omega), hMA.res.chg hcB (fun e => by have e' : w.heap.size = R := e; omega)⟩
        have hNB := hN.chg hcB (fun e => by have e' : w5.heap.size = R := e; omega)
        have htB := htA.chg hcB (fun g hg e => hg.2 e)
        obtain ⟨a0, a1, a2, a3, a4, a5, a6, a7⟩ := hBB.eight
        obtain ⟨p0, p1, p2, p3, p4, p5, p6, p7⟩ := hMB.res.eight
        obtain ⟨o0, o1, o2, o3, o4, o5, o6, o7⟩ := hMB.res.thaw8
        have hR0l := hMB.res.lt
        have hgs := h5.size
        go_wp2
        refine bodyPost_ret (results_re rfl _ _ w.heap.size rfl (hMB.res.put8 _ _ _ _ _ _ _ _)) rfl ?_
        exact ⟨_, rfl, Made.rep hlt hMB htB (hcel ▸ hNB) (by omega) (shapeRep hmn hmx hmz) (by have := hMd.num; omega)⟩
  · refine RegInv.wp_region_inv (by kernel_rfl) (by kernel_rfl) (fun s a w' => ∃ x6 x10 x11 x12 x13 x14 x15 x16 x17 x18 x19 x20, a = { tmps := #[.pointer (some ⟨mb, 0, none⟩), .int .i64 ((d : Int) + 1), undef, undef, .pointer (some ⟨w.heap.size, 0, none⟩), .int .i64 (k : Int), x6, undef, .pointer (some ⟨mb, 0, none⟩), .int .i64 (k : Int), x10, x11, x12, x13, x14, x15, x16, x17, x18, x19, x20, undef, undef, undef, undef, undef, undef, undef, undef, undef, undef, undef, undef, undef, undef, undef, undef, undef, undef, undef, undef, undef, undef, undef, undef, undef, undef, undef, undef, undef, undef, undef, undef], defers := [] } ∧ RI mb k mn mx w1 s x6 x10 x11 x12 x13 x14 x15 x16 x17 x18 x19 x20 w') ?_ ?_ ?_
    · exact ⟨undef, undef, undef, undef, undef, undef, undef, undef, undef, undef, undef, undef, rfl, hM1.bel (Below.refl _ _).drew, (Chg.refl _ w1).drew, (fun h => by cases h), (fun h => by cases h), (fun h => by cases h), (fun h => by cases h), (fun h => by cases h), (fun h => by cases h), (fun h => by cases h), (fun h => by cases h), (fun h => by cases h), (fun h => by cases h), (fun h => by cases h), (fun h => by cases h), (fun h => by cases h)⟩
    · intro s a w' i o ho hs hdep hI
      obtain ⟨x6, x10, x11, x12, x13, x14, x15, x16, x17, x18, x19, x20, rfl, hR⟩ := hI
      have hi : i < 13 := (Array.getElem?_eq_some_iff.1 ho).1
      match i, hi, ho, hs, hdep with
      | 0, _, ho, hs, hdep =>
        obtain rfl := Option.some.inj ho
        refine wpOp_of rfl ?_
        go_simp
        exact ⟨_, _, _, _, _, _, _, _, _, _, _, _, ⟨rfl, rfl, rfl, rfl, rfl, rfl, rfl, rfl, rfl, rfl, rfl, rfl⟩, (hR.alloc hlt1 _).up0 ⟨_, rfl, hR.chg.size, Blk.made w' _ _⟩⟩
      | 1, _, ho, hs, hdep =>
        obtain rfl := Option.some.inj ho
        refine wpOp_of rfl ?_
        go_simp
        exact ⟨_, _, _, _, _, _, _, _, _, _, _, _, ⟨rfl, rfl, rfl, rfl, rfl, rfl, rfl, rfl, rfl, rfl, rfl, rfl⟩, hR.up1 rfl⟩
      | 2, _, ho, hs, hdep =>
        obtain rfl := Option.some.inj ho
        refine wpOp_of rfl ?_
        have d0 : s 0 = true := hdep ⟨0, .data⟩ (by simp) rfl
        have d1 : s 1 = true := hdep ⟨1, .data⟩ (by simp) rfl
        obtain ⟨b, rfl, hb1, hb2⟩ := hR.f0 d0
        obtain rfl := hR.f1 d1
        go_simp
        exact ⟨_, _, _, _, _, _, _, _, _, _, _, _, ⟨rfl, rfl, rfl, rfl, rfl, rfl, rfl, rfl, rfl, rfl, rfl, rfl⟩, hR.up2 ⟨b, rfl, hb1, hb2⟩⟩
      | 3, _, ho, hs, hdep =>
        obtain rfl := Option.some.inj ho
        refine wpOp_of rfl ?_
        have d2 : s 2 = true := hdep ⟨2, .data⟩ (by simp) rfl
        obtain ⟨b, rfl, hb1, hb2⟩ := hR.f2 d2
        have q : w'.cell? ⟨b, k, none⟩ = some (.int .i64 (mn : Int)) := (hb2.at' k).trans tA
        clear tA tB
        go_simp
        exact ⟨_, _, _, _, _, _, _, _, _, _, _, _, ⟨rfl, rfl, rfl, rfl, rfl, rfl, rfl, rfl, rfl, rfl, rfl, rfl⟩, hR.up3 rfl⟩
      | 4, _, ho, hs, hdep =>
        obtain rfl := Option.some.inj ho
        refine wpOp_of rfl ?_
        go_simp
        exact ⟨_, _, _, _, _, _, _, _, _, _, _, _, ⟨rfl, rfl, rfl, rfl, rfl, rfl, rfl, rfl, rfl, rfl, rfl, rfl⟩, (hR.alloc hlt1 _).up4 ⟨_, rfl, hR.chg.size, Blk.made w' _ _⟩⟩
      | 5, _, ho, hs, hdep =>
        obtain rfl := Option.some.inj ho
        refine wpOp_of rfl ?_
        go_simp
        exact ⟨_, _, _, _, _, _, _, _, _, _, _, _, ⟨rfl, rfl, rfl, rfl, rfl, rfl, rfl, rfl, rfl, rfl, rfl, rfl⟩, hR.up5 rfl⟩
      | 6, _, ho, hs, hdep =>
        obtain rfl := Option.some.inj ho
        refine wpOp_of rfl ?_
        have d4 : s 4 = true := hdep ⟨4, .data⟩ (by simp) rfl
        have d5 : s 5 = true := hdep ⟨5, .data⟩ (by simp) rfl
        obtain ⟨b, rfl, hb1, hb2⟩ := hR.f4 d4
        obtain rfl := hR.f5 d5
        go_simp
        exact ⟨_, _, _, _, _, _, _, _, _, _, _, _, ⟨rfl, rfl, rfl, rfl, rfl, rfl, rfl, rfl, rfl, rfl, rfl, rfl⟩, hR.up6 ⟨b, rfl, hb1, hb2⟩⟩
      | 7, _, ho, hs, hdep =>
        obtain rfl := Option.some.inj ho
        refine wpOp_of rfl ?_
        have d6 : s 6 = true := hdep ⟨6, .data⟩ (by simp) rfl
        obtain ⟨b, rfl, hb1, hb2⟩ := hR.f6 d6
        have q : w'.cell? ⟨b, k, none⟩ = some (.int .i64 mx) := (hb2.at' k).trans tB
        clear tA tB
        go_simp
        exact ⟨_, _, _, _, _, _, _, _, _, _, _, _, ⟨rfl, rfl, rfl, rfl, rfl, rfl, rfl, rfl, rfl, rfl, rfl, rfl⟩, hR.up7 rfl⟩
      | 8, _, ho, hs, hdep =>
        obtain rfl := Option.some.inj ho
        refine wpOp_of rfl ?_
        go_simp
        exact ⟨_, _, _, _, _, _, _, _, _, _, _, _, ⟨rfl, rfl, rfl, rfl, rfl, rfl, rfl, rfl, rfl, rfl, rfl, rfl⟩, hR.up8 rfl⟩
      | 9, _, ho, hs, hdep =>
        obtain rfl := Option.some.inj ho
        refine wpOp_of rfl ?_
        have d8 : s 8 = true := hdep ⟨8, .data⟩ (by simp) rfl
        obtain rfl := hR.f8 d8
        go_simp
        refine (show Calls Tryz.prog 53 #[.pointer (some ⟨mb, 0, none⟩), .int .i64 2] w' _ from next_walk hR.maker 2 (by omega) (by omega)).mono ?_
        rintro _ w2 ⟨m, hm, rfl, hM2, hC2⟩
        exact ⟨_, _, _, _, _, _, _, _, _, _, _, _, ⟨rfl, rfl, rfl, rfl, rfl, rfl, rfl, rfl, rfl, rfl, rfl, rfl⟩, (hR.call hlt1 hM2 hC2).up9 ⟨m, by omega, rfl⟩⟩
      | 10, _, ho, hs, hdep =>
        obtain rfl := Option.some.inj ho
        refine wpOp_of rfl ?_
        have d3 : s 3 = true := hdep ⟨3, .data⟩ (by simp) rfl
        have d7 : s 7 = true := hdep ⟨7, .data⟩ (by simp) rfl
        have d9 : s 9 = true := hdep ⟨9, .data⟩ (by simp) rfl
        obtain rfl := hR.f3 d3
        obtain rfl := hR.f7 d7
        obtain ⟨m, hm, rfl⟩ := hR.f9 d9
        go_simp
        exact ⟨_, _, _, _, _, _, _, _, _, _, _, _, ⟨rfl, rfl, rfl, rfl, rfl, rfl, rfl, rfl, rfl, rfl, rfl, rfl⟩, hR.up10 ⟨m, hm, rfl⟩⟩
      | 11, _, ho, hs, hdep =>
        obtain rfl := Option.some.inj ho
        refine wpOp_of rfl ?_
        go_simp
        exact ⟨_, _, _, _, _, _, _, _, _, _, _, _, ⟨rfl, rfl, rfl, rfl, rfl, rfl, rfl, rfl, rfl, rfl, rfl, rfl⟩, (hR.alloc hlt1 _).up11 hs hR.chg.size (Blk.made w' _ _)⟩
      | 12, _, ho, hs, hdep =>
        obtain rfl := Option.some.inj ho
        refine wpOp_of rfl ?_
        have d11 : s 11 = true := hdep ⟨11, .data⟩ (by simp) rfl
        have d10 : s 10 = true := hdep ⟨10, .data⟩ (by simp) rfl
        obtain ⟨R, rfl, g1, g2, _⟩ := hR.f11 d11
        obtain ⟨m, hm, rfl⟩ := hR.f10 d10
        have hz := g2 hs
        obtain ⟨z0, z1, z2, z3, z4, z5, z6, z7⟩ := hz.eight
        obtain ⟨y0, y1, y2, y3, y4, y5, y6, y7⟩ := hz.thaw8
        have hRl := hz.lt
        go_simp
        exact ⟨_, _, _, _, _, _, _, _, _, _, _, _, ⟨rfl, rfl, rfl, rfl, rfl, rfl, rfl, rfl, rfl, rfl, rfl, rfl⟩, hR.up12 hlt1 d11 rfl g1 hm hz ((Chg.refl (fun b => b = R) w').put8 (.inr rfl) _ _ _ _ _ _ _ _) (hz.put8 _ _ _ _ _ _ _ _)⟩
      | n + 13, hi, _, _, _ => exact absurd hi (by omega)
    · intro s a w' hall hI
      obtain ⟨x6, x10, x11, x12, x13, x14, x15, x16, x17, x18, x19, x20, rfl, hR⟩ := hI
      obtain ⟨R, rfl, g1, _, g2⟩ := hR.f11 (hall 11 (by decide))
      obtain ⟨m, g3, g4⟩ := g2 (hall 12 (by decide))
      exact ⟨rfl, R, m, _, _, _, _, _, _, _, _, _, _, _, g3, rfl, hR.maker, hR.chg, g1, g4⟩
end Go.Proofs.YtdacamjpcdbphaaGreatDoor
