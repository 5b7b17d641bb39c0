/-
  NARROWER THAN 'FOR EVERY INPUT', by the rows' own cells (each row's printed sentence says how): FindJust: laid · FindBeside: laid · FindOpen: laid · FindScores: laid.
  DERIVED. THE GIVEN ROWS OF THIS SEAT. 4 by the template 'for every input the law returns true; each argument reads behind the call as it read before'; 0 by the template 'total and deterministic' (their statements: YthpbdeiphagkiaaDoorTotals.lean).
  GIVEN WITH THE SEED: the statements are not yours to turn. If you find one false, say at which input.
  Laid BY PROGRAM, IN A SANDBOX (cutbox-rows.mjs): the forced cells as the released guide's own fill.sh prints them over the translation 33f132d5656ba88b… (all of the seat's roots in one cut). By AI agents, Wed Nov 11 2026. No macro, syntax, notation, axiom, sorry.
-/
import Derived.Test.YthpbdeiphagkiaaDoorChecked
import GoSem.PinnedTables
import GoSem.Claim
import GoSem.ClaimJoined
import GoSem.ClaimMapViews
import Derived.JoinedTies
import Derived.KernelRfl
namespace Go.Proofs.YthpbdeiphagkiaaDoor
/- THE CELL 'sum', in the pinned program and in every row, IS THE sha256 OF THE DUMP (.gsa) THAT YthpbdeiphagkiaaDoorProg.lean LOADS. Nothing in Lean hashes anything: it is a label: what it is worth is what the hold of that sum in a sandbox is worth. -/
noncomputable def Tryd.pinned : Pinned := { name := "ythpbdeiphagkiaadoor", sum := "33f132d5656ba88bbd466a96dd866dbdaed1fbc9a4ca3af7cb8911ada595e39b", checked := Tryd.checked }
namespace Rows
def none {H : Type} : Left H := { results := [], args := [] }

/- WHAT THE LISTED PACKAGE-LEVEL VARIABLES READ AS WHEN THE CALL BEGINS. Each datum BY PROGRAM (the guide's laid-datum.mjs) off the statement by which the dump's own 'gosem.cut.vars' lays the variable. In a bare row this is a premise. The card (YthpbdeiphagkiaaDoorCards.lean) ties it to the program's text. -/
def laid_unicode_utf8_acceptRanges {H : Type} : DataW H := .agg [.agg [.lit (.int .u8 128), .lit (.int .u8 191)], .agg [.lit (.int .u8 160), .lit (.int .u8 191)], .agg [.lit (.int .u8 128), .lit (.int .u8 159)], .agg [.lit (.int .u8 144), .lit (.int .u8 191)], .agg [.lit (.int .u8 128), .lit (.int .u8 143)], .agg [.lit (.int .u8 0), .lit (.int .u8 0)], .agg [.lit (.int .u8 0), .lit (.int .u8 0)], .agg [.lit (.int .u8 0), .lit (.int .u8 0)], .agg [.lit (.int .u8 0), .lit (.int .u8 0)], .agg [.lit (.int .u8 0), .lit (.int .u8 0)], .agg [.lit (.int .u8 0), .lit (.int .u8 0)], .agg [.lit (.int .u8 0), .lit (.int .u8 0)], .agg [.lit (.int .u8 0), .lit (.int .u8 0)], .agg [.lit (.int .u8 0), .lit (.int .u8 0)], .agg [.lit (.int .u8 0), .lit (.int .u8 0)], .agg [.lit (.int .u8 0), .lit (.int .u8 0)]]
/-- One of Go's own tables, pinned by name: the form's constant. -/
def laid_unicode_utf8_first : DataW Unit := Go.Pinned.utf8First

/-- 'foliolaw23.FindJust': WHATEVER THE INPUT: true; the input reads as it did. -/
def findJustSpec : ChangeSpec := { name := "findJust", fn := fun _ => fun
  | [d1, d2, d3, d4] => { results := [.lit (.bool true)], args := [d1, d2, d3, d4] }
  | _ => none }
def findJustRow : OpenClaim := { program := "ythpbdeiphagkiaadoor", sum := "33f132d5656ba88bbd466a96dd866dbdaed1fbc9a4ca3af7cb8911ada595e39b", func := "folio/foliolaw23.FindJust", spec := "findJust", inPlace := ["internal/abi.NoEscape", "internal/bytealg.CountString", "internal/bytealg.IndexByteString", "internal/bytealg.IndexString"], unfollowed := true, recurses := true, named := ["unicode/utf8.first", "unicode/utf8.acceptRanges", "internal/bytealg.MaxLen"], apart := false, laid := [("unicode/utf8.acceptRanges", laid_unicode_utf8_acceptRanges), ("unicode/utf8.first", laid_unicode_utf8_first)] }
def FindJustSaid : Prop := findJustRow.holds Tryd.pinned (OpenSpec.ofChange findJustSpec)

/-- ITS FALSE NEIGHBOUR: 'it returns false'. Refute it at one input. -/
def findJustWrong : ChangeSpec := { name := "findJust", fn := fun _ => fun
  | [d1, d2, d3, d4] => { results := [.lit (.bool false)], args := [d1, d2, d3, d4] }
  | _ => none }
def FindJustWrongFalsely : Prop := findJustRow.holds Tryd.pinned (OpenSpec.ofChange findJustWrong)

/-- 'foliolaw23.FindBeside': WHATEVER THE INPUT: true; the input reads as it did. -/
def findBesideSpec : ChangeSpec := { name := "findBeside", fn := fun _ => fun
  | [d1, d2, d3] => { results := [.lit (.bool true)], args := [d1, d2, d3] }
  | _ => none }
def findBesideRow : OpenClaim := { program := "ythpbdeiphagkiaadoor", sum := "33f132d5656ba88bbd466a96dd866dbdaed1fbc9a4ca3af7cb8911ada595e39b", func := "folio/foliolaw23.FindBeside", spec := "findBeside", inPlace := ["internal/abi.NoEscape", "internal/bytealg.CountString", "internal/bytealg.IndexByteString", "internal/bytealg.IndexString"], unfollowed := true, recurses := true, named := ["unicode/utf8.first", "unicode/utf8.acceptRanges", "internal/bytealg.MaxLen"], apart := false, laid := [("unicode/utf8.acceptRanges", laid_unicode_utf8_acceptRanges), ("unicode/utf8.first", laid_unicode_utf8_first)] }
def FindBesideSaid : Prop := findBesideRow.holds Tryd.pinned (OpenSpec.ofChange findBesideSpec)

/-- ITS FALSE NEIGHBOUR: 'it returns false'. Refute it at one input. -/
def findBesideWrong : ChangeSpec := { name := "findBeside", fn := fun _ => fun
  | [d1, d2, d3] => { results := [.lit (.bool false)], args := [d1, d2, d3] }
  | _ => none }
def FindBesideWrongFalsely : Prop := findBesideRow.holds Tryd.pinned (OpenSpec.ofChange findBesideWrong)

/-- 'foliolaw23.FindOpen': WHATEVER THE INPUT: true; the input reads as it did. -/
def findOpenSpec : ChangeSpec := { name := "findOpen", fn := fun _ => fun
  | [d1, d2, d3] => { results := [.lit (.bool true)], args := [d1, d2, d3] }
  | _ => none }
def findOpenRow : OpenClaim := { program := "ythpbdeiphagkiaadoor", sum := "33f132d5656ba88bbd466a96dd866dbdaed1fbc9a4ca3af7cb8911ada595e39b", func := "folio/foliolaw23.FindOpen", spec := "findOpen", inPlace := ["internal/abi.NoEscape", "internal/bytealg.CountString", "internal/bytealg.IndexByteString", "internal/bytealg.IndexString"], unfollowed := true, recurses := true, named := ["unicode/utf8.first", "unicode/utf8.acceptRanges", "internal/bytealg.MaxLen"], apart := false, laid := [("unicode/utf8.acceptRanges", laid_unicode_utf8_acceptRanges), ("unicode/utf8.first", laid_unicode_utf8_first)] }
def FindOpenSaid : Prop := findOpenRow.holds Tryd.pinned (OpenSpec.ofChange findOpenSpec)

/-- ITS FALSE NEIGHBOUR: 'it returns false'. Refute it at one input. -/
def findOpenWrong : ChangeSpec := { name := "findOpen", fn := fun _ => fun
  | [d1, d2, d3] => { results := [.lit (.bool false)], args := [d1, d2, d3] }
  | _ => none }
def FindOpenWrongFalsely : Prop := findOpenRow.holds Tryd.pinned (OpenSpec.ofChange findOpenWrong)

/-- 'foliolaw23.FindScores': WHATEVER THE INPUT: true; the input reads as it did. -/
def findScoresSpec : ChangeSpec := { name := "findScores", fn := fun _ => fun
  | [d1, d2, d3] => { results := [.lit (.bool true)], args := [d1, d2, d3] }
  | _ => none }
def findScoresRow : OpenClaim := { program := "ythpbdeiphagkiaadoor", sum := "33f132d5656ba88bbd466a96dd866dbdaed1fbc9a4ca3af7cb8911ada595e39b", func := "folio/foliolaw23.FindScores", spec := "findScores", inPlace := ["internal/abi.NoEscape", "internal/bytealg.CountString", "internal/bytealg.IndexByteString", "internal/bytealg.IndexString"], unfollowed := true, recurses := true, named := ["unicode/utf8.first", "unicode/utf8.acceptRanges", "internal/bytealg.MaxLen"], apart := false, laid := [("unicode/utf8.acceptRanges", laid_unicode_utf8_acceptRanges), ("unicode/utf8.first", laid_unicode_utf8_first)] }
def FindScoresSaid : Prop := findScoresRow.holds Tryd.pinned (OpenSpec.ofChange findScoresSpec)

/-- ITS FALSE NEIGHBOUR: 'it returns false'. Refute it at one input. -/
def findScoresWrong : ChangeSpec := { name := "findScores", fn := fun _ => fun
  | [d1, d2, d3] => { results := [.lit (.bool false)], args := [d1, d2, d3] }
  | _ => none }
def FindScoresWrongFalsely : Prop := findScoresRow.holds Tryd.pinned (OpenSpec.ofChange findScoresWrong)

/- THE SECOND FORM. 'bulk': how many values and letters a reading holds, each counted each time it is reached (what is shared counts as often as it is met; a slice's spare places count too). A statement '..UptoSaid' is the law's where the arguments, and the package variables that the reading takes, are together of bulk at most 1048576: NARROWER than '..Said'. Prove '..Said' where nothing that the law and all that it calls make is longer than what came in: it says more and counts as full. Else prove '..UptoSaid'. A law counts once. -/
mutual
def uptoBulk {H : Type} : DataW H → Nat
  | .lit (.string bytes) => bytes.length + 1
  | .lit _ => 1
  | .nil => 1
  | .ptr d => uptoBulk d + 1
  | .slice elems spare => uptoBulkAll elems + uptoBulkAll spare + 1
  | .agg parts => uptoBulkAll parts + 1
  | .iface _ d => uptoBulk d + 1
  | .map entries => uptoBulkEntries entries + 1
  | .held _ => 1
def uptoBulkAll {H : Type} : List (DataW H) → Nat
  | [] => 0
  | d :: r => uptoBulk d + uptoBulkAll r
def uptoBulkEntries {H : Type} : List (Lit × DataW H) → Nat
  | [] => 0
  | x :: r => uptoBulkEntry x + uptoBulkEntries r
def uptoBulkEntry {H : Type} : Lit × DataW H → Nat
  | (.string bytes, d) => bytes.length + uptoBulk d + 1
  | (_, d) => uptoBulk d + 1
 end
def uptoSmall : (H : Type) → List (DataW H) → Bool := fun _ ds => decide (uptoBulkAll ds ≤ 1048576)
def OpenSpec.upto (s : _root_.Go.ChangeSpec) : _root_.Go.OpenSpec := { _root_.Go.OpenSpec.ofChange s with cond := some uptoSmall }

/-- 'foliolaw23.FindJust', WHERE WHAT IT READS IS OF BULK AT MOST 1048576: true; the input reads as it did. -/
def findJustUptoRow : OpenClaim := { program := "ythpbdeiphagkiaadoor", sum := "33f132d5656ba88bbd466a96dd866dbdaed1fbc9a4ca3af7cb8911ada595e39b", func := "folio/foliolaw23.FindJust", spec := "findJust", inPlace := ["internal/abi.NoEscape", "internal/bytealg.CountString", "internal/bytealg.IndexByteString", "internal/bytealg.IndexString"], unfollowed := true, recurses := true, named := ["unicode/utf8.first", "unicode/utf8.acceptRanges", "internal/bytealg.MaxLen"], apart := false, laid := [("unicode/utf8.acceptRanges", laid_unicode_utf8_acceptRanges), ("unicode/utf8.first", laid_unicode_utf8_first)], narrowed := true }
def FindJustUptoSaid : Prop := findJustUptoRow.holds Tryd.pinned (OpenSpec.upto findJustSpec)

/-- 'foliolaw23.FindBeside', WHERE WHAT IT READS IS OF BULK AT MOST 1048576: true; the input reads as it did. -/
def findBesideUptoRow : OpenClaim := { program := "ythpbdeiphagkiaadoor", sum := "33f132d5656ba88bbd466a96dd866dbdaed1fbc9a4ca3af7cb8911ada595e39b", func := "folio/foliolaw23.FindBeside", spec := "findBeside", inPlace := ["internal/abi.NoEscape", "internal/bytealg.CountString", "internal/bytealg.IndexByteString", "internal/bytealg.IndexString"], unfollowed := true, recurses := true, named := ["unicode/utf8.first", "unicode/utf8.acceptRanges", "internal/bytealg.MaxLen"], apart := false, laid := [("unicode/utf8.acceptRanges", laid_unicode_utf8_acceptRanges), ("unicode/utf8.first", laid_unicode_utf8_first)], narrowed := true }
def FindBesideUptoSaid : Prop := findBesideUptoRow.holds Tryd.pinned (OpenSpec.upto findBesideSpec)

/-- 'foliolaw23.FindOpen', WHERE WHAT IT READS IS OF BULK AT MOST 1048576: true; the input reads as it did. -/
def findOpenUptoRow : OpenClaim := { program := "ythpbdeiphagkiaadoor", sum := "33f132d5656ba88bbd466a96dd866dbdaed1fbc9a4ca3af7cb8911ada595e39b", func := "folio/foliolaw23.FindOpen", spec := "findOpen", inPlace := ["internal/abi.NoEscape", "internal/bytealg.CountString", "internal/bytealg.IndexByteString", "internal/bytealg.IndexString"], unfollowed := true, recurses := true, named := ["unicode/utf8.first", "unicode/utf8.acceptRanges", "internal/bytealg.MaxLen"], apart := false, laid := [("unicode/utf8.acceptRanges", laid_unicode_utf8_acceptRanges), ("unicode/utf8.first", laid_unicode_utf8_first)], narrowed := true }
def FindOpenUptoSaid : Prop := findOpenUptoRow.holds Tryd.pinned (OpenSpec.upto findOpenSpec)

/-- 'foliolaw23.FindScores', WHERE WHAT IT READS IS OF BULK AT MOST 1048576: true; the input reads as it did. -/
def findScoresUptoRow : OpenClaim := { program := "ythpbdeiphagkiaadoor", sum := "33f132d5656ba88bbd466a96dd866dbdaed1fbc9a4ca3af7cb8911ada595e39b", func := "folio/foliolaw23.FindScores", spec := "findScores", inPlace := ["internal/abi.NoEscape", "internal/bytealg.CountString", "internal/bytealg.IndexByteString", "internal/bytealg.IndexString"], unfollowed := true, recurses := true, named := ["unicode/utf8.first", "unicode/utf8.acceptRanges", "internal/bytealg.MaxLen"], apart := false, laid := [("unicode/utf8.acceptRanges", laid_unicode_utf8_acceptRanges), ("unicode/utf8.first", laid_unicode_utf8_first)], narrowed := true }
def FindScoresUptoSaid : Prop := findScoresUptoRow.holds Tryd.pinned (OpenSpec.upto findScoresSpec)

end Rows
end Go.Proofs.YthpbdeiphagkiaaDoor
