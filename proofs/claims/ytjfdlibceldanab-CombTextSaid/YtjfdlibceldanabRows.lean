/-
  No cell of these rows narrows 'for every input' (looked for: loops, veiled, ifaces, maps, wideKeys, modest, calm, conditions, laid).
  DERIVED. THE GIVEN ROWS OF THIS SEAT. 5 by the template 'for every input the law returns true; each argument reads behind the call as it read before'; 0 by the template 'total and deterministic' (their statements: YtjfdlibceldanabTotals.lean).
  GIVEN WITH THE SEED: the statements are not yours to turn. If you find one false, say at which input.
  Laid BY PROGRAM, IN A SANDBOX (cutbox-rows.mjs): the forced cells as the released guide's own fill.sh prints them over the translation 0e919139ce6b3ce0… (all of the seat's roots in one cut). By AI agents, Wed Nov 11 2026. No macro, syntax, notation, axiom, sorry.
-/
import Derived.Test.YtjfdlibceldanabChecked
import GoSem.Claim
import GoSem.ClaimJoined
import GoSem.ClaimMapViews
import Derived.JoinedTies
import Derived.KernelRfl
namespace Go.Proofs.Ytjfdlibceldanab
/- THE CELL 'sum', in the pinned program and in every row, IS THE sha256 OF THE DUMP (.gsa) THAT YtjfdlibceldanabProg.lean LOADS. Nothing in Lean hashes anything: it is a label: what it is worth is what the hold of that sum in a sandbox is worth. -/
noncomputable def Try.pinned : Pinned := { name := "ytjfdlibceldanab", sum := "0e919139ce6b3ce0f392739817496d749d0a3324c0549b8d6f4dcbed8b5e625f", checked := Try.checked }
namespace Rows
def none {H : Type} : Left H := { results := [], args := [] }

/-- 'gleaningskeep.GuessWhole': WHATEVER THE INPUT: true; the input reads as it did. -/
def guessWholeSpec : ChangeSpec := { name := "guessWhole", fn := fun _ => fun
  | [d1, d2] => { results := [.lit (.bool true)], args := [d1, d2] }
  | _ => none }
def guessWholeRow : OpenClaim := { program := "ytjfdlibceldanab", sum := "0e919139ce6b3ce0f392739817496d749d0a3324c0549b8d6f4dcbed8b5e625f", func := "gleanings/gleaningskeep.GuessWhole", spec := "guessWhole", unfollowed := true, recurses := true, apart := false }
def GuessWholeSaid : Prop := guessWholeRow.holds Try.pinned (OpenSpec.ofChange guessWholeSpec)

/-- ITS FALSE NEIGHBOUR: 'it returns false'. Refute it at one input. -/
def guessWholeWrong : ChangeSpec := { name := "guessWhole", fn := fun _ => fun
  | [d1, d2] => { results := [.lit (.bool false)], args := [d1, d2] }
  | _ => none }
def GuessWholeWrongFalsely : Prop := guessWholeRow.holds Try.pinned (OpenSpec.ofChange guessWholeWrong)

/-- 'gleaningskeep.CombFinds': WHATEVER THE INPUT: true; the input reads as it did. -/
def combFindsSpec : ChangeSpec := { name := "combFinds", fn := fun _ => fun
  | [d1, d2] => { results := [.lit (.bool true)], args := [d1, d2] }
  | _ => none }
def combFindsRow : OpenClaim := { program := "ytjfdlibceldanab", sum := "0e919139ce6b3ce0f392739817496d749d0a3324c0549b8d6f4dcbed8b5e625f", func := "gleanings/gleaningskeep.CombFinds", spec := "combFinds", unfollowed := true, recurses := true, apart := false }
def CombFindsSaid : Prop := combFindsRow.holds Try.pinned (OpenSpec.ofChange combFindsSpec)

/-- ITS FALSE NEIGHBOUR: 'it returns false'. Refute it at one input. -/
def combFindsWrong : ChangeSpec := { name := "combFinds", fn := fun _ => fun
  | [d1, d2] => { results := [.lit (.bool false)], args := [d1, d2] }
  | _ => none }
def CombFindsWrongFalsely : Prop := combFindsRow.holds Try.pinned (OpenSpec.ofChange combFindsWrong)

/-- 'gleaningskeep.CombText': WHATEVER THE INPUT: true; the input reads as it did. -/
def combTextSpec : ChangeSpec := { name := "combText", fn := fun _ => fun
  | [d] => { results := [.lit (.bool true)], args := [d] }
  | _ => none }
def combTextRow : OpenClaim := { program := "ytjfdlibceldanab", sum := "0e919139ce6b3ce0f392739817496d749d0a3324c0549b8d6f4dcbed8b5e625f", func := "gleanings/gleaningskeep.CombText", spec := "combText", unfollowed := true, recurses := true, apart := false }
def CombTextSaid : Prop := combTextRow.holds Try.pinned (OpenSpec.ofChange combTextSpec)

/-- ITS FALSE NEIGHBOUR: 'it returns false'. Refute it at one input. -/
def combTextWrong : ChangeSpec := { name := "combText", fn := fun _ => fun
  | [d] => { results := [.lit (.bool false)], args := [d] }
  | _ => none }
def CombTextWrongFalsely : Prop := combTextRow.holds Try.pinned (OpenSpec.ofChange combTextWrong)

/-- 'gleaningskeep.CombSplits': WHATEVER THE INPUT: true; the input reads as it did. -/
def combSplitsSpec : ChangeSpec := { name := "combSplits", fn := fun _ => fun
  | [d1, d2] => { results := [.lit (.bool true)], args := [d1, d2] }
  | _ => none }
def combSplitsRow : OpenClaim := { program := "ytjfdlibceldanab", sum := "0e919139ce6b3ce0f392739817496d749d0a3324c0549b8d6f4dcbed8b5e625f", func := "gleanings/gleaningskeep.CombSplits", spec := "combSplits", unfollowed := true, recurses := true, apart := false }
def CombSplitsSaid : Prop := combSplitsRow.holds Try.pinned (OpenSpec.ofChange combSplitsSpec)

/-- ITS FALSE NEIGHBOUR: 'it returns false'. Refute it at one input. -/
def combSplitsWrong : ChangeSpec := { name := "combSplits", fn := fun _ => fun
  | [d1, d2] => { results := [.lit (.bool false)], args := [d1, d2] }
  | _ => none }
def CombSplitsWrongFalsely : Prop := combSplitsRow.holds Try.pinned (OpenSpec.ofChange combSplitsWrong)

/-- 'gleaningslaw.CombTells': WHATEVER THE INPUT: true; the input reads as it did. -/
def combTellsSpec : ChangeSpec := { name := "combTells", fn := fun _ => fun
  | [d1, d2] => { results := [.lit (.bool true)], args := [d1, d2] }
  | _ => none }
def combTellsRow : OpenClaim := { program := "ytjfdlibceldanab", sum := "0e919139ce6b3ce0f392739817496d749d0a3324c0549b8d6f4dcbed8b5e625f", func := "gleanings/gleaningslaw.CombTells", spec := "combTells", unfollowed := true, recurses := true, apart := false }
def CombTellsSaid : Prop := combTellsRow.holds Try.pinned (OpenSpec.ofChange combTellsSpec)

/-- ITS FALSE NEIGHBOUR: 'it returns false'. Refute it at one input. -/
def combTellsWrong : ChangeSpec := { name := "combTells", fn := fun _ => fun
  | [d1, d2] => { results := [.lit (.bool false)], args := [d1, d2] }
  | _ => none }
def CombTellsWrongFalsely : Prop := combTellsRow.holds Try.pinned (OpenSpec.ofChange combTellsWrong)

/- THE SECOND FORM. 'bulk': how many values and letters a reading holds, each counted each time it is reached (what is shared counts as often as it is met; a slice's spare places count too). A statement '..UptoSaid' is the law's where the arguments, and the package variables that the reading takes, are together of bulk at most 1048576: NARROWER than '..Said'. Prove '..Said' where nothing that the law and all that it calls make is longer than what came in: it says more and counts as full. Else prove '..UptoSaid'. A law counts once. -/
mutual
def uptoBulk {H : Type} : DataW H → Nat
  | .lit (.string bytes) => bytes.length + 1
  | .lit _ => 1
  | .nil => 1
  | .ptr d => uptoBulk d + 1
  | .slice elems spare => uptoBulkAll elems + uptoBulkAll spare + 1
  | .agg parts => uptoBulkAll parts + 1
  | .iface _ d => uptoBulk d + 1
  | .map entries => uptoBulkEntries entries + 1
  | .held _ => 1
def uptoBulkAll {H : Type} : List (DataW H) → Nat
  | [] => 0
  | d :: r => uptoBulk d + uptoBulkAll r
def uptoBulkEntries {H : Type} : List (Lit × DataW H) → Nat
  | [] => 0
  | x :: r => uptoBulkEntry x + uptoBulkEntries r
def uptoBulkEntry {H : Type} : Lit × DataW H → Nat
  | (.string bytes, d) => bytes.length + uptoBulk d + 1
  | (_, d) => uptoBulk d + 1
 end
def uptoSmall : (H : Type) → List (DataW H) → Bool := fun _ ds => decide (uptoBulkAll ds ≤ 1048576)
def OpenSpec.upto (s : _root_.Go.ChangeSpec) : _root_.Go.OpenSpec := { _root_.Go.OpenSpec.ofChange s with cond := some uptoSmall }

/-- 'gleaningskeep.GuessWhole', WHERE WHAT IT READS IS OF BULK AT MOST 1048576: true; the input reads as it did. -/
def guessWholeUptoRow : OpenClaim := { program := "ytjfdlibceldanab", sum := "0e919139ce6b3ce0f392739817496d749d0a3324c0549b8d6f4dcbed8b5e625f", func := "gleanings/gleaningskeep.GuessWhole", spec := "guessWhole", unfollowed := true, recurses := true, apart := false, narrowed := true }
def GuessWholeUptoSaid : Prop := guessWholeUptoRow.holds Try.pinned (OpenSpec.upto guessWholeSpec)

/-- 'gleaningskeep.CombFinds', WHERE WHAT IT READS IS OF BULK AT MOST 1048576: true; the input reads as it did. -/
def combFindsUptoRow : OpenClaim := { program := "ytjfdlibceldanab", sum := "0e919139ce6b3ce0f392739817496d749d0a3324c0549b8d6f4dcbed8b5e625f", func := "gleanings/gleaningskeep.CombFinds", spec := "combFinds", unfollowed := true, recurses := true, apart := false, narrowed := true }
def CombFindsUptoSaid : Prop := combFindsUptoRow.holds Try.pinned (OpenSpec.upto combFindsSpec)

/-- 'gleaningskeep.CombText', WHERE WHAT IT READS IS OF BULK AT MOST 1048576: true; the input reads as it did. -/
def combTextUptoRow : OpenClaim := { program := "ytjfdlibceldanab", sum := "0e919139ce6b3ce0f392739817496d749d0a3324c0549b8d6f4dcbed8b5e625f", func := "gleanings/gleaningskeep.CombText", spec := "combText", unfollowed := true, recurses := true, apart := false, narrowed := true }
def CombTextUptoSaid : Prop := combTextUptoRow.holds Try.pinned (OpenSpec.upto combTextSpec)

/-- 'gleaningskeep.CombSplits', WHERE WHAT IT READS IS OF BULK AT MOST 1048576: true; the input reads as it did. -/
def combSplitsUptoRow : OpenClaim := { program := "ytjfdlibceldanab", sum := "0e919139ce6b3ce0f392739817496d749d0a3324c0549b8d6f4dcbed8b5e625f", func := "gleanings/gleaningskeep.CombSplits", spec := "combSplits", unfollowed := true, recurses := true, apart := false, narrowed := true }
def CombSplitsUptoSaid : Prop := combSplitsUptoRow.holds Try.pinned (OpenSpec.upto combSplitsSpec)

/-- 'gleaningslaw.CombTells', WHERE WHAT IT READS IS OF BULK AT MOST 1048576: true; the input reads as it did. -/
def combTellsUptoRow : OpenClaim := { program := "ytjfdlibceldanab", sum := "0e919139ce6b3ce0f392739817496d749d0a3324c0549b8d6f4dcbed8b5e625f", func := "gleanings/gleaningslaw.CombTells", spec := "combTells", unfollowed := true, recurses := true, apart := false, narrowed := true }
def CombTellsUptoSaid : Prop := combTellsUptoRow.holds Try.pinned (OpenSpec.upto combTellsSpec)

end Rows
end Go.Proofs.Ytjfdlibceldanab
