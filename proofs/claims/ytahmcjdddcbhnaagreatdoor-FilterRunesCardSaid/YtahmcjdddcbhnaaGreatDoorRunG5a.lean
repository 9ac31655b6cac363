/-
  The law FilterRunes, for two slices of numbers, a slice of bytes and a flag.
-/
import Derived.Test.YtahmcjdddcbhnaaGreatDoorRunTW
import Derived.Test.YtahmcjdddcbhnaaGreatDoorRunG1a
import Derived.Test.YtahmcjdddcbhnaaGreatDoorRunG2b
namespace Go.Proofs.YtahmcjdddcbhnaaGreatDoor
open Go Go.RowKit

theorem runesLaw {w : World} (hL : laidMet Tryz.prog Rows.filterRunesRow.laid w) {u v r : Value} {l cuts : List Int} {raw : List UInt8} (wt : Bool) (hu : SlS w u l) (hv : SlS w v cuts) (hr : Sees w 1 r (bv raw)) (hrl : raw.length ≤ 9223372036854775807) :
    Calls Tryz.prog 3 #[u, v, r, .bool wt] w fun e w' => e = .returned (.bool true) ∧ Below w.heap.size w w' := by
  cases wt
  · exact runes_walkF (tabs_of_laid hL) (forms_of_laid hL) hu.sees hu.len hu.bd hv.sees hv.len hv.bd hr hrl
  · exact runes_walkT (tabs_of_laid hL) (forms_of_laid hL) hu.sees hu.len hu.bd hv.sees hv.len hv.bd hr hrl
end Go.Proofs.YtahmcjdddcbhnaaGreatDoor
