/-
  The law RulesetBytes at arguments as they are read, with the documented example's contract.
-/
import Derived.Test.YtdacamjpcdbphaaGreatDoorBytLW
import Derived.Test.YtdacamjpcdbphaaGreatDoorLivAW
namespace Go.Proofs.YtdacamjpcdbphaaGreatDoor
open Go Go.Ev Go.RowKit

theorem lives29_walk (w : World) : Calls Tryz.prog 17 #[] w fun e w' => e = .returned (.bool true) ∧ Below w.heap.size w w' := by
  obtain ⟨H, n, h⟩ := okTrue_some lives_run
  refine (call1 cal0_ok h (fun _ => 0) w _ rels_nil).mono ?_
  rintro e w' ⟨x, ι, rfl, hx, _, hb, _⟩
  exact ⟨congrArg Ending.returned (show x = .bool true from hx), hb⟩
theorem bytes_walk {w : World} {x raw : Value} {l : List Int} {R : List UInt8} (hx : SlArg w x l) {at' how : Int} (ha : -9223372036854775808 ≤ at' ∧ at' ≤ 9223372036854775807) (hh : -9223372036854775808 ≤ how ∧ how ≤ 9223372036854775807) (s : ByteArray)
    (hraw : Sees w 1 raw (bv R)) (c : Int) (hc : (Lit.int .u8 c).wf = true) : Calls Tryz.prog 3 #[x, .int .i64 at', .int .i64 how, .string s, raw, .int .u8 c] w fun e w' => e = .returned (.bool true) ∧ Below w.heap.size w w' := by
  have h : IntKind.u8.min ≤ c ∧ c ≤ IntKind.u8.max := by simpa [Lit.wf] using hc
  have h' : 0 ≤ c ∧ c ≤ 255 := h
  have e : ((UInt8.ofNat c.toNat).toNat : Int) = c := by
    rw [UInt8.toNat_ofNat']
    omega
  have := law_walk hx at' how ha hh s hraw (UInt8.ofNat c.toNat) lives29_walk
  rwa [e] at this
end Go.Proofs.YtdacamjpcdbphaaGreatDoor
