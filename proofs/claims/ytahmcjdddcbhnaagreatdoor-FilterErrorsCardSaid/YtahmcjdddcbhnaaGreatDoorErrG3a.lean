/-
  The law FilterErrors, for a slice of numbers and three numbers.
-/
import Derived.Test.YtahmcjdddcbhnaaGreatDoorLawFW
import Derived.Test.YtahmcjdddcbhnaaGreatDoorReadFW
namespace Go.Proofs.YtahmcjdddcbhnaaGreatDoor
open Go Go.RowKit

theorem errors_walk {w : World} {x : Value} {l : List Int} (hl : SlS w x l) {a b c : Int} (_ha : -9223372036854775808 ≤ a ∧ a ≤ 9223372036854775807) (_hb : -9223372036854775808 ≤ b ∧ b ≤ 9223372036854775807) (_hc : -9223372036854775808 ≤ c ∧ c ≤ 9223372036854775807) :
    Calls Tryz.prog 4 #[x, .int .i64 a, .int .i64 b, .int .i64 c] w fun e w' => e = .returned (.bool true) ∧ Below w.heap.size w w' := lawerr_walk hl.sees hl.len hl.bd a b c
end Go.Proofs.YtahmcjdddcbhnaaGreatDoor
