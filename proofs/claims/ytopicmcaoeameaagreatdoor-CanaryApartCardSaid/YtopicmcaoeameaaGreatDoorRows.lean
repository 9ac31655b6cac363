/-
  NARROWER THAN 'FOR EVERY INPUT', by the rows' own cells (each row's printed sentence says how): CanaryApart: laid · CanaryArguments: laid · CanarySame: laid · CanarySides: laid.
  DERIVED. THE GIVEN ROWS OF THIS SEAT. 4 by the template 'for every input the law returns true; each argument reads behind the call as it read before'; 0 by the template 'total and deterministic' (their statements: YtopicmcaoeameaaGreatDoorTotals.lean).
  GIVEN WITH THE SEED: the statements are not yours to turn. If you find one false, say at which input.
  Laid BY PROGRAM, IN A SANDBOX (cutbox-rows.mjs): the forced cells as the released guide's own fill.sh prints them over the translation 262f08c9e3b1d1fb… (all of the seat's roots in one cut). By AI agents, Wed Nov 11 2026. No macro, syntax, notation, axiom, sorry.
-/
import Derived.Test.YtopicmcaoeameaaGreatDoorChecked
import GoSem.PinnedTables
import GoSem.Claim
import GoSem.ClaimJoined
import GoSem.ClaimMapViews
import Derived.JoinedTies
import Derived.KernelRfl
namespace Go.Proofs.YtopicmcaoeameaaGreatDoor
/- THE CELL 'sum', in the pinned program and in every row, IS THE sha256 OF THE DUMP (.gsa) THAT YtopicmcaoeameaaGreatDoorProg.lean LOADS. Nothing in Lean hashes anything: it is a label: what it is worth is what the hold of that sum in a sandbox is worth. -/
noncomputable def Tryz.pinned : Pinned := { name := "ytopicmcaoeameaagreatdoor", sum := "262f08c9e3b1d1fbacdb9fe26207a55d80b53d04a1be4bdf4b0c5d74928136cb", checked := Tryz.checked }
namespace Rows
def none {H : Type} : Left H := { results := [], args := [] }

/- WHAT THE LISTED PACKAGE-LEVEL VARIABLES READ AS WHEN THE CALL BEGINS. Each datum BY PROGRAM (the guide's laid-datum.mjs) off the statement by which the dump's own 'gosem.cut.vars' lays the variable. In a bare row this is a premise. The card (YtopicmcaoeameaaGreatDoorCards.lean) ties it to the program's text. -/
def laid_unicode_utf8_acceptRanges {H : Type} : DataW H := .agg [.agg [.lit (.int .u8 128), .lit (.int .u8 191)], .agg [.lit (.int .u8 160), .lit (.int .u8 191)], .agg [.lit (.int .u8 128), .lit (.int .u8 159)], .agg [.lit (.int .u8 144), .lit (.int .u8 191)], .agg [.lit (.int .u8 128), .lit (.int .u8 143)], .agg [.lit (.int .u8 0), .lit (.int .u8 0)], .agg [.lit (.int .u8 0), .lit (.int .u8 0)], .agg [.lit (.int .u8 0), .lit (.int .u8 0)], .agg [.lit (.int .u8 0), .lit (.int .u8 0)], .agg [.lit (.int .u8 0), .lit (.int .u8 0)], .agg [.lit (.int .u8 0), .lit (.int .u8 0)], .agg [.lit (.int .u8 0), .lit (.int .u8 0)], .agg [.lit (.int .u8 0), .lit (.int .u8 0)], .agg [.lit (.int .u8 0), .lit (.int .u8 0)], .agg [.lit (.int .u8 0), .lit (.int .u8 0)], .agg [.lit (.int .u8 0), .lit (.int .u8 0)]]
/-- One of Go's own tables, pinned by name: the form's constant. -/
def laid_unicode_utf8_first : DataW Unit := Go.Pinned.utf8First

/-- 'rexmilllaw36.CanaryApart': WHATEVER THE INPUT: true; the input reads as it did. -/
def canaryApartSpec : ChangeSpec := { name := "canaryApart", fn := fun _ => fun
  | [d1, d2, d3] => { results := [.lit (.bool true)], args := [d1, d2, d3] }
  | _ => none }
def canaryApartRow : OpenClaim := { program := "ytopicmcaoeameaagreatdoor", sum := "262f08c9e3b1d1fbacdb9fe26207a55d80b53d04a1be4bdf4b0c5d74928136cb", func := "rexmill/rexmilllaw36.CanaryApart", spec := "canaryApart", unfollowed := true, recurses := true, named := ["unicode/utf8.first", "unicode/utf8.acceptRanges"], plainKeys := false, apart := false, laid := [("unicode/utf8.acceptRanges", laid_unicode_utf8_acceptRanges), ("unicode/utf8.first", laid_unicode_utf8_first)] }
def CanaryApartSaid : Prop := canaryApartRow.holds Tryz.pinned (OpenSpec.ofChange canaryApartSpec)

/-- ITS FALSE NEIGHBOUR: 'it returns false'. Refute it at one input. -/
def canaryApartWrong : ChangeSpec := { name := "canaryApart", fn := fun _ => fun
  | [d1, d2, d3] => { results := [.lit (.bool false)], args := [d1, d2, d3] }
  | _ => none }
def CanaryApartWrongFalsely : Prop := canaryApartRow.holds Tryz.pinned (OpenSpec.ofChange canaryApartWrong)

/-- 'rexmilllaw36.CanaryArguments': WHATEVER THE INPUT: true; the input reads as it did. -/
def canaryArgumentsSpec : ChangeSpec := { name := "canaryArguments", fn := fun _ => fun
  | [d1, d2, d3, d4, d5] => { results := [.lit (.bool true)], args := [d1, d2, d3, d4, d5] }
  | _ => none }
def canaryArgumentsRow : OpenClaim := { program := "ytopicmcaoeameaagreatdoor", sum := "262f08c9e3b1d1fbacdb9fe26207a55d80b53d04a1be4bdf4b0c5d74928136cb", func := "rexmill/rexmilllaw36.CanaryArguments", spec := "canaryArguments", unfollowed := true, recurses := true, named := ["unicode/utf8.first", "unicode/utf8.acceptRanges"], plainKeys := false, apart := false, laid := [("unicode/utf8.acceptRanges", laid_unicode_utf8_acceptRanges), ("unicode/utf8.first", laid_unicode_utf8_first)] }
def CanaryArgumentsSaid : Prop := canaryArgumentsRow.holds Tryz.pinned (OpenSpec.ofChange canaryArgumentsSpec)

/-- ITS FALSE NEIGHBOUR: 'it returns false'. Refute it at one input. -/
def canaryArgumentsWrong : ChangeSpec := { name := "canaryArguments", fn := fun _ => fun
  | [d1, d2, d3, d4, d5] => { results := [.lit (.bool false)], args := [d1, d2, d3, d4, d5] }
  | _ => none }
def CanaryArgumentsWrongFalsely : Prop := canaryArgumentsRow.holds Tryz.pinned (OpenSpec.ofChange canaryArgumentsWrong)

/-- 'rexmilllaw36.CanarySame': WHATEVER THE INPUT: true; the input reads as it did. -/
def canarySameSpec : ChangeSpec := { name := "canarySame", fn := fun _ => fun
  | [d1, d2, d3, d4, d5] => { results := [.lit (.bool true)], args := [d1, d2, d3, d4, d5] }
  | _ => none }
def canarySameRow : OpenClaim := { program := "ytopicmcaoeameaagreatdoor", sum := "262f08c9e3b1d1fbacdb9fe26207a55d80b53d04a1be4bdf4b0c5d74928136cb", func := "rexmill/rexmilllaw36.CanarySame", spec := "canarySame", unfollowed := true, recurses := true, named := ["unicode/utf8.first", "unicode/utf8.acceptRanges"], plainKeys := false, apart := false, laid := [("unicode/utf8.acceptRanges", laid_unicode_utf8_acceptRanges), ("unicode/utf8.first", laid_unicode_utf8_first)] }
def CanarySameSaid : Prop := canarySameRow.holds Tryz.pinned (OpenSpec.ofChange canarySameSpec)

/-- ITS FALSE NEIGHBOUR: 'it returns false'. Refute it at one input. -/
def canarySameWrong : ChangeSpec := { name := "canarySame", fn := fun _ => fun
  | [d1, d2, d3, d4, d5] => { results := [.lit (.bool false)], args := [d1, d2, d3, d4, d5] }
  | _ => none }
def CanarySameWrongFalsely : Prop := canarySameRow.holds Tryz.pinned (OpenSpec.ofChange canarySameWrong)

/-- 'rexmilllaw36.CanarySides': WHATEVER THE INPUT: true; the input reads as it did. -/
def canarySidesSpec : ChangeSpec := { name := "canarySides", fn := fun _ => fun
  | [d1, d2, d3, d4] => { results := [.lit (.bool true)], args := [d1, d2, d3, d4] }
  | _ => none }
def canarySidesRow : OpenClaim := { program := "ytopicmcaoeameaagreatdoor", sum := "262f08c9e3b1d1fbacdb9fe26207a55d80b53d04a1be4bdf4b0c5d74928136cb", func := "rexmill/rexmilllaw36.CanarySides", spec := "canarySides", inPlace := ["maps.clone"], unfollowed := true, recurses := true, named := ["unicode/utf8.first", "unicode/utf8.acceptRanges"], plainKeys := false, apart := false, laid := [("unicode/utf8.acceptRanges", laid_unicode_utf8_acceptRanges), ("unicode/utf8.first", laid_unicode_utf8_first)] }
def CanarySidesSaid : Prop := canarySidesRow.holds Tryz.pinned (OpenSpec.ofChange canarySidesSpec)

/-- ITS FALSE NEIGHBOUR: 'it returns false'. Refute it at one input. -/
def canarySidesWrong : ChangeSpec := { name := "canarySides", fn := fun _ => fun
  | [d1, d2, d3, d4] => { results := [.lit (.bool false)], args := [d1, d2, d3, d4] }
  | _ => none }
def CanarySidesWrongFalsely : Prop := canarySidesRow.holds Tryz.pinned (OpenSpec.ofChange canarySidesWrong)

/- THE SECOND FORM. 'bulk': how many values and letters a reading holds, each counted each time it is reached (what is shared counts as often as it is met; a slice's spare places count too). A statement '..UptoSaid' is the law's where the arguments, and the package variables that the reading takes, are together of bulk at most 1048576: NARROWER than '..Said'. Prove '..Said' where nothing that the law and all that it calls make is longer than what came in: it says more and counts as full. Else prove '..UptoSaid'. A law counts once. -/
mutual
def uptoBulk {H : Type} : DataW H → Nat
  | .lit (.string bytes) => bytes.length + 1
  | .lit _ => 1
  | .nil => 1
  | .ptr d => uptoBulk d + 1
  | .slice elems spare => uptoBulkAll elems + uptoBulkAll spare + 1
  | .agg parts => uptoBulkAll parts + 1
  | .iface _ d => uptoBulk d + 1
  | .map entries => uptoBulkEntries entries + 1
  | .held _ => 1
def uptoBulkAll {H : Type} : List (DataW H) → Nat
  | [] => 0
  | d :: r => uptoBulk d + uptoBulkAll r
def uptoBulkEntries {H : Type} : List (Lit × DataW H) → Nat
  | [] => 0
  | x :: r => uptoBulkEntry x + uptoBulkEntries r
def uptoBulkEntry {H : Type} : Lit × DataW H → Nat
  | (.string bytes, d) => bytes.length + uptoBulk d + 1
  | (_, d) => uptoBulk d + 1
 end
def uptoSmall : (H : Type) → List (DataW H) → Bool := fun _ ds => decide (uptoBulkAll ds ≤ 1048576)
def OpenSpec.upto (s : _root_.Go.ChangeSpec) : _root_.Go.OpenSpec := { _root_.Go.OpenSpec.ofChange s with cond := some uptoSmall }

/-- 'rexmilllaw36.CanaryApart', WHERE WHAT IT READS IS OF BULK AT MOST 1048576: true; the input reads as it did. -/
def canaryApartUptoRow : OpenClaim := { program := "ytopicmcaoeameaagreatdoor", sum := "262f08c9e3b1d1fbacdb9fe26207a55d80b53d04a1be4bdf4b0c5d74928136cb", func := "rexmill/rexmilllaw36.CanaryApart", spec := "canaryApart", unfollowed := true, recurses := true, named := ["unicode/utf8.first", "unicode/utf8.acceptRanges"], plainKeys := false, apart := false, laid := [("unicode/utf8.acceptRanges", laid_unicode_utf8_acceptRanges), ("unicode/utf8.first", laid_unicode_utf8_first)], narrowed := true }
def CanaryApartUptoSaid : Prop := canaryApartUptoRow.holds Tryz.pinned (OpenSpec.upto canaryApartSpec)

/-- 'rexmilllaw36.CanaryArguments', WHERE WHAT IT READS IS OF BULK AT MOST 1048576: true; the input reads as it did. -/
def canaryArgumentsUptoRow : OpenClaim := { program := "ytopicmcaoeameaagreatdoor", sum := "262f08c9e3b1d1fbacdb9fe26207a55d80b53d04a1be4bdf4b0c5d74928136cb", func := "rexmill/rexmilllaw36.CanaryArguments", spec := "canaryArguments", unfollowed := true, recurses := true, named := ["unicode/utf8.first", "unicode/utf8.acceptRanges"], plainKeys := false, apart := false, laid := [("unicode/utf8.acceptRanges", laid_unicode_utf8_acceptRanges), ("unicode/utf8.first", laid_unicode_utf8_first)], narrowed := true }
def CanaryArgumentsUptoSaid : Prop := canaryArgumentsUptoRow.holds Tryz.pinned (OpenSpec.upto canaryArgumentsSpec)

/-- 'rexmilllaw36.CanarySame', WHERE WHAT IT READS IS OF BULK AT MOST 1048576: true; the input reads as it did. -/
def canarySameUptoRow : OpenClaim := { program := "ytopicmcaoeameaagreatdoor", sum := "262f08c9e3b1d1fbacdb9fe26207a55d80b53d04a1be4bdf4b0c5d74928136cb", func := "rexmill/rexmilllaw36.CanarySame", spec := "canarySame", unfollowed := true, recurses := true, named := ["unicode/utf8.first", "unicode/utf8.acceptRanges"], plainKeys := false, apart := false, laid := [("unicode/utf8.acceptRanges", laid_unicode_utf8_acceptRanges), ("unicode/utf8.first", laid_unicode_utf8_first)], narrowed := true }
def CanarySameUptoSaid : Prop := canarySameUptoRow.holds Tryz.pinned (OpenSpec.upto canarySameSpec)

/-- 'rexmilllaw36.CanarySides', WHERE WHAT IT READS IS OF BULK AT MOST 1048576: true; the input reads as it did. -/
def canarySidesUptoRow : OpenClaim := { program := "ytopicmcaoeameaagreatdoor", sum := "262f08c9e3b1d1fbacdb9fe26207a55d80b53d04a1be4bdf4b0c5d74928136cb", func := "rexmill/rexmilllaw36.CanarySides", spec := "canarySides", inPlace := ["maps.clone"], unfollowed := true, recurses := true, named := ["unicode/utf8.first", "unicode/utf8.acceptRanges"], plainKeys := false, apart := false, laid := [("unicode/utf8.acceptRanges", laid_unicode_utf8_acceptRanges), ("unicode/utf8.first", laid_unicode_utf8_first)], narrowed := true }
def CanarySidesUptoSaid : Prop := canarySidesUptoRow.holds Tryz.pinned (OpenSpec.upto canarySidesSpec)

end Rows
end Go.Proofs.YtopicmcaoeameaaGreatDoor
