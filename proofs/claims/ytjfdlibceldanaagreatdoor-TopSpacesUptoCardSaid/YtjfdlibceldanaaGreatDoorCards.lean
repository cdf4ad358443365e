/-
  DERIVED. GIVEN WITH THE SEED: THE CARDS: each row of YtjfdlibceldanaaGreatDoorRows.lean that lists a variable, with what it lists TIED to the program's text (the seventh form; the later family's looks); each row that meets fmt, with fmt's text TOLD by the authors' own Lean function (tested against real Go, not proved from fmt's source: count such statements apart). THE CARD IS WHAT COUNTS. Prove the row's statement (the work); the ties are given (YtjfdlibceldanaaGreatDoorTie.lean); close each card by the builder's one call (the guide's Derived/Test/ToyasCard.lean, 'card_holds'). Laid BY PROGRAM, IN A SANDBOX (cutbox-door.mjs). By AI agents, Wed Nov 11 2026. No macro, syntax, notation, axiom, sorry.
-/
import Derived.Test.YtjfdlibceldanaaGreatDoorRows
import GoSem.ClaimSeven
namespace Go.Proofs.YtjfdlibceldanaaGreatDoor
namespace Rows

/-- THE TIED CARD OF 'gleaningstop.TopLonger'. -/
def topLongerCard : Claim7 := { stood := { row := topLongerRow, standIns := [], harness := (true, "06ae060ce81de065160ba3442eeda525758d95aaf058bba86c6121187809e554"), looks := false }, kinds := [], alts := [], laidByText := true, laidKinds := [.data, .pinned], laidTests := true, laidLooks := .later }
def TopLongerCardSaid : Prop := Claim7.holds Tryz.pinned (.plain (OpenSpec.ofChange topLongerSpec)) topLongerCard

/-- THE TIED CARD OF 'gleaningstop.TopSpaces'. -/
def topSpacesCard : Claim7 := { stood := { row := topSpacesRow, standIns := [], harness := (true, "06ae060ce81de065160ba3442eeda525758d95aaf058bba86c6121187809e554"), looks := false }, kinds := [], alts := [], laidByText := true, laidKinds := [.data, .pinned], laidTests := true, laidLooks := .later }
def TopSpacesCardSaid : Prop := Claim7.holds Tryz.pinned (.plain (OpenSpec.ofChange topSpacesSpec)) topSpacesCard

/-- THE SECOND FORM's CARD OF 'gleaningstop.TopLonger'. -/
def topLongerUptoCard : Claim7 := { stood := { row := topLongerUptoRow, standIns := [], harness := (true, "06ae060ce81de065160ba3442eeda525758d95aaf058bba86c6121187809e554"), looks := false }, kinds := [], alts := [], laidByText := true, laidKinds := [.data, .pinned], laidTests := true, laidLooks := .later }
def TopLongerUptoCardSaid : Prop := Claim7.holds Tryz.pinned (.plain (OpenSpec.upto topLongerSpec)) topLongerUptoCard

/-- THE SECOND FORM's CARD OF 'gleaningstop.TopSpaces'. -/
def topSpacesUptoCard : Claim7 := { stood := { row := topSpacesUptoRow, standIns := [], harness := (true, "06ae060ce81de065160ba3442eeda525758d95aaf058bba86c6121187809e554"), looks := false }, kinds := [], alts := [], laidByText := true, laidKinds := [.data, .pinned], laidTests := true, laidLooks := .later }
def TopSpacesUptoCardSaid : Prop := Claim7.holds Tryz.pinned (.plain (OpenSpec.upto topSpacesSpec)) topSpacesUptoCard
end Rows
end Go.Proofs.YtjfdlibceldanaaGreatDoor
