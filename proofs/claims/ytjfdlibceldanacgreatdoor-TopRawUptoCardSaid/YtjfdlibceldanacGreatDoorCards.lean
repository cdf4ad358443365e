/-
  DERIVED. GIVEN WITH THE SEED: THE CARDS: each row of YtjfdlibceldanacGreatDoorRows.lean that lists a variable, with what it lists TIED to the program's text (the seventh form; the later family's looks); each row that meets fmt, with fmt's text TOLD by the authors' own Lean function (tested against real Go, not proved from fmt's source: count such statements apart). THE CARD IS WHAT COUNTS. Prove the row's statement (the work); the ties are given (YtjfdlibceldanacGreatDoorTie.lean); close each card by the builder's one call (the guide's Derived/Test/ToyasCard.lean, 'card_holds'). Laid BY PROGRAM, IN A SANDBOX (cutbox-door.mjs). By AI agents, Wed Nov 11 2026. No macro, syntax, notation, axiom, sorry.
-/
import Derived.Test.YtjfdlibceldanacGreatDoorRows
import GoSem.ClaimSeven
namespace Go.Proofs.YtjfdlibceldanacGreatDoor
namespace Rows

/-- THE TIED CARD OF 'gleaningstop.TopRaw'. -/
def topRawCard : Claim7 := { stood := { row := topRawRow, standIns := [], harness := (true, "d064904a5f55a7ddfbb4572f097d484990f272899d31e83c18ab403863a88413"), looks := false }, kinds := [], alts := [], laidByText := true, laidKinds := [.data, .pinned], laidTests := true, laidLooks := .later }
def TopRawCardSaid : Prop := Claim7.holds Tryz.pinned (.plain (OpenSpec.ofChange topRawSpec)) topRawCard

/-- THE SECOND FORM's CARD OF 'gleaningstop.TopRaw'. -/
def topRawUptoCard : Claim7 := { stood := { row := topRawUptoRow, standIns := [], harness := (true, "d064904a5f55a7ddfbb4572f097d484990f272899d31e83c18ab403863a88413"), looks := false }, kinds := [], alts := [], laidByText := true, laidKinds := [.data, .pinned], laidTests := true, laidLooks := .later }
def TopRawUptoCardSaid : Prop := Claim7.holds Tryz.pinned (.plain (OpenSpec.upto topRawSpec)) topRawUptoCard
end Rows
end Go.Proofs.YtjfdlibceldanacGreatDoor
