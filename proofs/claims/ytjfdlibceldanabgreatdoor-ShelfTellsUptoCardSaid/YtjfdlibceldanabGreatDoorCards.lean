/-
  DERIVED. GIVEN WITH THE SEED: THE CARDS: each row of YtjfdlibceldanabGreatDoorRows.lean that lists a variable, with what it lists TIED to the program's text (the seventh form; the later family's looks); each row that meets fmt, with fmt's text TOLD by the authors' own Lean function (tested against real Go, not proved from fmt's source: count such statements apart). THE CARD IS WHAT COUNTS. Prove the row's statement (the work); the ties are given (YtjfdlibceldanabGreatDoorTie.lean); close each card by the builder's one call (the guide's Derived/Test/ToyasCard.lean, 'card_holds'). Laid BY PROGRAM, IN A SANDBOX (cutbox-door.mjs). By AI agents, Wed Nov 11 2026. No macro, syntax, notation, axiom, sorry.
-/
import Derived.Test.YtjfdlibceldanabGreatDoorRows
import GoSem.ClaimSeven
namespace Go.Proofs.YtjfdlibceldanabGreatDoor
namespace Rows

/-- THE TIED CARD OF 'gleaningstop.TopTwice'. -/
def topTwiceCard : Claim7 := { stood := { row := topTwiceRow, standIns := [], harness := (true, "0415f4f01046754223697b86dbe719d2dccc92e815b28463bbc2d19427991925"), looks := false }, kinds := [], alts := [], laidByText := true, laidKinds := [.data, .pinned], laidTests := true, laidLooks := .later }
def TopTwiceCardSaid : Prop := Claim7.holds Tryz.pinned (.plain (OpenSpec.ofChange topTwiceSpec)) topTwiceCard

/-- THE TIED CARD OF 'gleaningslaw.ShelfTells'. -/
def shelfTellsCard : Claim7 := { stood := { row := shelfTellsRow, standIns := [], harness := (true, "0415f4f01046754223697b86dbe719d2dccc92e815b28463bbc2d19427991925"), looks := false }, kinds := [], alts := [], laidByText := true, laidKinds := [.data, .pinned], laidTests := true, laidLooks := .later }
def ShelfTellsCardSaid : Prop := Claim7.holds Tryz.pinned (.plain (OpenSpec.ofChange shelfTellsSpec)) shelfTellsCard

/-- THE TIED CARD OF 'gleaningstop.TopSums'. -/
def topSumsCard : Claim7 := { stood := { row := topSumsRow, standIns := [], harness := (true, "0415f4f01046754223697b86dbe719d2dccc92e815b28463bbc2d19427991925"), looks := false }, kinds := [], alts := [], laidByText := true, laidKinds := [.data, .pinned], laidTests := true, laidLooks := .later }
def TopSumsCardSaid : Prop := Claim7.holds Tryz.pinned (.plain (OpenSpec.ofChange topSumsSpec)) topSumsCard

/-- THE TIED CARD OF 'gleaningstop.TopGuess'. -/
def topGuessCard : Claim7 := { stood := { row := topGuessRow, standIns := [], harness := (true, "0415f4f01046754223697b86dbe719d2dccc92e815b28463bbc2d19427991925"), looks := false }, kinds := [], alts := [], laidByText := true, laidKinds := [.data, .pinned], laidTests := true, laidLooks := .later }
def TopGuessCardSaid : Prop := Claim7.holds Tryz.pinned (.plain (OpenSpec.ofChange topGuessSpec)) topGuessCard

/-- THE TIED CARD OF 'gleaningstop.TopCounts'. -/
def topCountsCard : Claim7 := { stood := { row := topCountsRow, standIns := [], harness := (true, "0415f4f01046754223697b86dbe719d2dccc92e815b28463bbc2d19427991925"), looks := false }, kinds := [], alts := [], laidByText := true, laidKinds := [.data, .pinned], laidTests := true, laidLooks := .later }
def TopCountsCardSaid : Prop := Claim7.holds Tryz.pinned (.plain (OpenSpec.ofChange topCountsSpec)) topCountsCard

/-- THE SECOND FORM's CARD OF 'gleaningstop.TopTwice'. -/
def topTwiceUptoCard : Claim7 := { stood := { row := topTwiceUptoRow, standIns := [], harness := (true, "0415f4f01046754223697b86dbe719d2dccc92e815b28463bbc2d19427991925"), looks := false }, kinds := [], alts := [], laidByText := true, laidKinds := [.data, .pinned], laidTests := true, laidLooks := .later }
def TopTwiceUptoCardSaid : Prop := Claim7.holds Tryz.pinned (.plain (OpenSpec.upto topTwiceSpec)) topTwiceUptoCard

/-- THE SECOND FORM's CARD OF 'gleaningslaw.ShelfTells'. -/
def shelfTellsUptoCard : Claim7 := { stood := { row := shelfTellsUptoRow, standIns := [], harness := (true, "0415f4f01046754223697b86dbe719d2dccc92e815b28463bbc2d19427991925"), looks := false }, kinds := [], alts := [], laidByText := true, laidKinds := [.data, .pinned], laidTests := true, laidLooks := .later }
def ShelfTellsUptoCardSaid : Prop := Claim7.holds Tryz.pinned (.plain (OpenSpec.upto shelfTellsSpec)) shelfTellsUptoCard

/-- THE SECOND FORM's CARD OF 'gleaningstop.TopSums'. -/
def topSumsUptoCard : Claim7 := { stood := { row := topSumsUptoRow, standIns := [], harness := (true, "0415f4f01046754223697b86dbe719d2dccc92e815b28463bbc2d19427991925"), looks := false }, kinds := [], alts := [], laidByText := true, laidKinds := [.data, .pinned], laidTests := true, laidLooks := .later }
def TopSumsUptoCardSaid : Prop := Claim7.holds Tryz.pinned (.plain (OpenSpec.upto topSumsSpec)) topSumsUptoCard

/-- THE SECOND FORM's CARD OF 'gleaningstop.TopGuess'. -/
def topGuessUptoCard : Claim7 := { stood := { row := topGuessUptoRow, standIns := [], harness := (true, "0415f4f01046754223697b86dbe719d2dccc92e815b28463bbc2d19427991925"), looks := false }, kinds := [], alts := [], laidByText := true, laidKinds := [.data, .pinned], laidTests := true, laidLooks := .later }
def TopGuessUptoCardSaid : Prop := Claim7.holds Tryz.pinned (.plain (OpenSpec.upto topGuessSpec)) topGuessUptoCard

/-- THE SECOND FORM's CARD OF 'gleaningstop.TopCounts'. -/
def topCountsUptoCard : Claim7 := { stood := { row := topCountsUptoRow, standIns := [], harness := (true, "0415f4f01046754223697b86dbe719d2dccc92e815b28463bbc2d19427991925"), looks := false }, kinds := [], alts := [], laidByText := true, laidKinds := [.data, .pinned], laidTests := true, laidLooks := .later }
def TopCountsUptoCardSaid : Prop := Claim7.holds Tryz.pinned (.plain (OpenSpec.upto topCountsSpec)) topCountsUptoCard
end Rows
end Go.Proofs.YtjfdlibceldanabGreatDoor
