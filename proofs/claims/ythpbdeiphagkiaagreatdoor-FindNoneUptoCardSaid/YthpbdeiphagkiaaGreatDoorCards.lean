/-
  DERIVED. GIVEN WITH THE SEED: THE CARDS: each row of YthpbdeiphagkiaaGreatDoorRows.lean that lists a variable, with what it lists TIED to the program's text (the seventh form; the later family's looks); each row that meets fmt, with fmt's text TOLD by the authors' own Lean function (tested against real Go, not proved from fmt's source: count such statements apart). THE CARD IS WHAT COUNTS. Prove the row's statement (the work); the ties are given (YthpbdeiphagkiaaGreatDoorTie.lean); close each card by the builder's one call (the guide's Derived/Test/ToyasCard.lean, 'card_holds'). Laid BY PROGRAM, IN A SANDBOX (cutbox-door.mjs). By AI agents, Wed Nov 11 2026. No macro, syntax, notation, axiom, sorry.
-/
import Derived.Test.YthpbdeiphagkiaaGreatDoorRows
import GoSem.ClaimSeven
namespace Go.Proofs.YthpbdeiphagkiaaGreatDoor
namespace Rows

/-- THE TIED CARD OF 'foliolaw23.FindNone'. -/
def findNoneCard : Claim7 := { stood := { row := findNoneRow, standIns := [], harness := (true, "ba720d81b5aa61960819151a22cd5af86931de74d793d3904842a82c559281ee"), looks := false }, kinds := [], alts := [], laidByText := true, laidKinds := [.data, .pinned], laidTests := true, laidLooks := .later }
def FindNoneCardSaid : Prop := Claim7.holds Tryz.pinned (.plain (OpenSpec.ofChange findNoneSpec)) findNoneCard

/-- THE SECOND FORM's CARD OF 'foliolaw23.FindNone'. -/
def findNoneUptoCard : Claim7 := { stood := { row := findNoneUptoRow, standIns := [], harness := (true, "ba720d81b5aa61960819151a22cd5af86931de74d793d3904842a82c559281ee"), looks := false }, kinds := [], alts := [], laidByText := true, laidKinds := [.data, .pinned], laidTests := true, laidLooks := .later }
def FindNoneUptoCardSaid : Prop := Claim7.holds Tryz.pinned (.plain (OpenSpec.upto findNoneSpec)) findNoneUptoCard
end Rows
end Go.Proofs.YthpbdeiphagkiaaGreatDoor
