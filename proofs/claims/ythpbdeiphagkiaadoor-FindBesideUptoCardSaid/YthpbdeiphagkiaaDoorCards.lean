/-
  DERIVED. GIVEN WITH THE SEED: THE CARDS: each row of YthpbdeiphagkiaaDoorRows.lean that lists a variable, with what it lists TIED to the program's text (the seventh form; the later family's looks); each row that meets fmt, with fmt's text TOLD by the authors' own Lean function (tested against real Go, not proved from fmt's source: count such statements apart). THE CARD IS WHAT COUNTS. Prove the row's statement (the work); the ties are given (YthpbdeiphagkiaaDoorTie.lean); close each card by the builder's one call (the guide's Derived/Test/ToyasCard.lean, 'card_holds'). Laid BY PROGRAM, IN A SANDBOX (cutbox-door.mjs). By AI agents, Wed Nov 11 2026. No macro, syntax, notation, axiom, sorry.
-/
import Derived.Test.YthpbdeiphagkiaaDoorRows
import GoSem.ClaimSeven
namespace Go.Proofs.YthpbdeiphagkiaaDoor
namespace Rows

/-- THE TIED CARD OF 'foliolaw23.FindJust'. -/
def findJustCard : Claim7 := { stood := { row := findJustRow, standIns := [], harness := (true, "993f9dd079dbfee5efa33322b5f236c70d19e34a20f7c50e66e19305681eeeb1"), looks := false }, kinds := [], alts := [], laidByText := true, laidKinds := [.data, .pinned], laidTests := true, laidLooks := .later }
def FindJustCardSaid : Prop := Claim7.holds Tryd.pinned (.plain (OpenSpec.ofChange findJustSpec)) findJustCard

/-- THE TIED CARD OF 'foliolaw23.FindBeside'. -/
def findBesideCard : Claim7 := { stood := { row := findBesideRow, standIns := [], harness := (true, "993f9dd079dbfee5efa33322b5f236c70d19e34a20f7c50e66e19305681eeeb1"), looks := false }, kinds := [], alts := [], laidByText := true, laidKinds := [.data, .pinned], laidTests := true, laidLooks := .later }
def FindBesideCardSaid : Prop := Claim7.holds Tryd.pinned (.plain (OpenSpec.ofChange findBesideSpec)) findBesideCard

/-- THE TIED CARD OF 'foliolaw23.FindOpen'. -/
def findOpenCard : Claim7 := { stood := { row := findOpenRow, standIns := [], harness := (true, "993f9dd079dbfee5efa33322b5f236c70d19e34a20f7c50e66e19305681eeeb1"), looks := false }, kinds := [], alts := [], laidByText := true, laidKinds := [.data, .pinned], laidTests := true, laidLooks := .later }
def FindOpenCardSaid : Prop := Claim7.holds Tryd.pinned (.plain (OpenSpec.ofChange findOpenSpec)) findOpenCard

/-- THE TIED CARD OF 'foliolaw23.FindScores'. -/
def findScoresCard : Claim7 := { stood := { row := findScoresRow, standIns := [], harness := (true, "993f9dd079dbfee5efa33322b5f236c70d19e34a20f7c50e66e19305681eeeb1"), looks := false }, kinds := [], alts := [], laidByText := true, laidKinds := [.data, .pinned], laidTests := true, laidLooks := .later }
def FindScoresCardSaid : Prop := Claim7.holds Tryd.pinned (.plain (OpenSpec.ofChange findScoresSpec)) findScoresCard

/-- THE SECOND FORM's CARD OF 'foliolaw23.FindJust'. -/
def findJustUptoCard : Claim7 := { stood := { row := findJustUptoRow, standIns := [], harness := (true, "993f9dd079dbfee5efa33322b5f236c70d19e34a20f7c50e66e19305681eeeb1"), looks := false }, kinds := [], alts := [], laidByText := true, laidKinds := [.data, .pinned], laidTests := true, laidLooks := .later }
def FindJustUptoCardSaid : Prop := Claim7.holds Tryd.pinned (.plain (OpenSpec.upto findJustSpec)) findJustUptoCard

/-- THE SECOND FORM's CARD OF 'foliolaw23.FindBeside'. -/
def findBesideUptoCard : Claim7 := { stood := { row := findBesideUptoRow, standIns := [], harness := (true, "993f9dd079dbfee5efa33322b5f236c70d19e34a20f7c50e66e19305681eeeb1"), looks := false }, kinds := [], alts := [], laidByText := true, laidKinds := [.data, .pinned], laidTests := true, laidLooks := .later }
def FindBesideUptoCardSaid : Prop := Claim7.holds Tryd.pinned (.plain (OpenSpec.upto findBesideSpec)) findBesideUptoCard

/-- THE SECOND FORM's CARD OF 'foliolaw23.FindOpen'. -/
def findOpenUptoCard : Claim7 := { stood := { row := findOpenUptoRow, standIns := [], harness := (true, "993f9dd079dbfee5efa33322b5f236c70d19e34a20f7c50e66e19305681eeeb1"), looks := false }, kinds := [], alts := [], laidByText := true, laidKinds := [.data, .pinned], laidTests := true, laidLooks := .later }
def FindOpenUptoCardSaid : Prop := Claim7.holds Tryd.pinned (.plain (OpenSpec.upto findOpenSpec)) findOpenUptoCard

/-- THE SECOND FORM's CARD OF 'foliolaw23.FindScores'. -/
def findScoresUptoCard : Claim7 := { stood := { row := findScoresUptoRow, standIns := [], harness := (true, "993f9dd079dbfee5efa33322b5f236c70d19e34a20f7c50e66e19305681eeeb1"), looks := false }, kinds := [], alts := [], laidByText := true, laidKinds := [.data, .pinned], laidTests := true, laidLooks := .later }
def FindScoresUptoCardSaid : Prop := Claim7.holds Tryd.pinned (.plain (OpenSpec.upto findScoresSpec)) findScoresUptoCard
end Rows
end Go.Proofs.YthpbdeiphagkiaaDoor
