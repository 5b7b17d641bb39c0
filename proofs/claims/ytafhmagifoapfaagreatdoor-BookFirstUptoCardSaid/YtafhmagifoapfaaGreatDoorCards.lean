/-
  DERIVED. GIVEN WITH THE SEED: THE CARDS: each row of YtafhmagifoapfaaGreatDoorRows.lean that lists a variable, with what it lists TIED to the program's text (the seventh form; the later family's looks); each row that meets fmt, with fmt's text TOLD by the authors' own Lean function (tested against real Go, not proved from fmt's source: count such statements apart). THE CARD IS WHAT COUNTS. Prove the row's statement (the work); the ties are given (YtafhmagifoapfaaGreatDoorTie.lean); close each card by the builder's one call (the guide's Derived/Test/ToyasCard.lean, 'card_holds'). Laid BY PROGRAM, IN A SANDBOX (cutbox-door.mjs). By AI agents, Wed Nov 11 2026. No macro, syntax, notation, axiom, sorry.
-/
import Derived.Test.YtafhmagifoapfaaGreatDoorRows
import GoSem.ClaimSeven
namespace Go.Proofs.YtafhmagifoapfaaGreatDoor
namespace Rows

/-- THE TIED CARD OF 'foliolaw21.BookFirst'. -/
def bookFirstCard : Claim7 := { stood := { row := bookFirstRow, standIns := [], harness := (true, "2080ae96c2b24389d3bcecb014d7fcd33d7fc097eb1aa94feb608bbd506937ba"), looks := true }, kinds := [], alts := [], laidByText := true, laidKinds := [.data, .data, .data, .data, .handle, .sentinel, .sentinel, .pinned], laidTests := true, laidLooks := .later }
def BookFirstCardSaid : Prop := Claim7.holds Tryz.pinned (.plain (OpenSpec.ofChange bookFirstSpec)) bookFirstCard

/-- THE SECOND FORM's CARD OF 'foliolaw21.BookFirst'. -/
def bookFirstUptoCard : Claim7 := { stood := { row := bookFirstUptoRow, standIns := [], harness := (true, "2080ae96c2b24389d3bcecb014d7fcd33d7fc097eb1aa94feb608bbd506937ba"), looks := true }, kinds := [], alts := [], laidByText := true, laidKinds := [.data, .data, .data, .data, .handle, .sentinel, .sentinel, .pinned], laidTests := true, laidLooks := .later }
def BookFirstUptoCardSaid : Prop := Claim7.holds Tryz.pinned (.plain (OpenSpec.upto bookFirstSpec)) bookFirstUptoCard
end Rows
end Go.Proofs.YtafhmagifoapfaaGreatDoor
