/-
  No cell of these rows narrows 'for every input' (looked for: loops, veiled, ifaces, maps, wideKeys, modest, calm, conditions, laid).
  DERIVED. THE GIVEN ROWS OF THIS SEAT. 10 by the template 'for every input the law returns true; each argument reads behind the call as it read before'; 0 by the template 'total and deterministic' (their statements: YtjfdlibceldanaaTotals.lean).
  GIVEN WITH THE SEED: the statements are not yours to turn. If you find one false, say at which input.
  Laid BY PROGRAM, IN A SANDBOX (cutbox-rows.mjs): the forced cells as the released guide's own fill.sh prints them over the translation c170af4b802257e9… (all of the seat's roots in one cut). By AI agents, Wed Nov 11 2026. No macro, syntax, notation, axiom, sorry.
-/
import Derived.Test.YtjfdlibceldanaaChecked
import GoSem.Claim
import GoSem.ClaimJoined
import GoSem.ClaimMapViews
import Derived.JoinedTies
import Derived.KernelRfl
namespace Go.Proofs.Ytjfdlibceldanaa
/- THE CELL 'sum', in the pinned program and in every row, IS THE sha256 OF THE DUMP (.gsa) THAT YtjfdlibceldanaaProg.lean LOADS. Nothing in Lean hashes anything: it is a label: what it is worth is what the hold of that sum in a sandbox is worth. -/
noncomputable def Try.pinned : Pinned := { name := "ytjfdlibceldanaa", sum := "c170af4b802257e9f6c7747b74754fa9e4f7a674aaf637d032c50eb8e22c527e", checked := Try.checked }
namespace Rows
def none {H : Type} : Left H := { results := [], args := [] }

/-- 'gleaningslaw.Names': WHATEVER THE INPUT: true; the input reads as it did. -/
def namesSpec : ChangeSpec := { name := "names", fn := fun _ => fun
  | [] => { results := [.lit (.bool true)], args := [] }
  | _ => none }
def namesRow : OpenClaim := { program := "ytjfdlibceldanaa", sum := "c170af4b802257e9f6c7747b74754fa9e4f7a674aaf637d032c50eb8e22c527e", func := "gleanings/gleaningslaw.Names", spec := "names", apart := false }
def NamesSaid : Prop := namesRow.holds Try.pinned (OpenSpec.ofChange namesSpec)

/-- ITS FALSE NEIGHBOUR: 'it returns false'. Refute it at one input. -/
def namesWrong : ChangeSpec := { name := "names", fn := fun _ => fun
  | [] => { results := [.lit (.bool false)], args := [] }
  | _ => none }
def NamesWrongFalsely : Prop := namesRow.holds Try.pinned (OpenSpec.ofChange namesWrong)

/-- 'gleaningslaw.BitsGood': WHATEVER THE INPUT: true; the input reads as it did. -/
def bitsGoodSpec : ChangeSpec := { name := "bitsGood", fn := fun _ => fun
  | [d] => { results := [.lit (.bool true)], args := [d] }
  | _ => none }
def bitsGoodRow : OpenClaim := { program := "ytjfdlibceldanaa", sum := "c170af4b802257e9f6c7747b74754fa9e4f7a674aaf637d032c50eb8e22c527e", func := "gleanings/gleaningslaw.BitsGood", spec := "bitsGood", apart := false }
def BitsGoodSaid : Prop := bitsGoodRow.holds Try.pinned (OpenSpec.ofChange bitsGoodSpec)

/-- ITS FALSE NEIGHBOUR: 'it returns false'. Refute it at one input. -/
def bitsGoodWrong : ChangeSpec := { name := "bitsGood", fn := fun _ => fun
  | [d] => { results := [.lit (.bool false)], args := [d] }
  | _ => none }
def BitsGoodWrongFalsely : Prop := bitsGoodRow.holds Try.pinned (OpenSpec.ofChange bitsGoodWrong)

/-- 'gleaningslaw.BitsTells': WHATEVER THE INPUT: true; the input reads as it did. -/
def bitsTellsSpec : ChangeSpec := { name := "bitsTells", fn := fun _ => fun
  | [d1, d2, d3] => { results := [.lit (.bool true)], args := [d1, d2, d3] }
  | _ => none }
def bitsTellsRow : OpenClaim := { program := "ytjfdlibceldanaa", sum := "c170af4b802257e9f6c7747b74754fa9e4f7a674aaf637d032c50eb8e22c527e", func := "gleanings/gleaningslaw.BitsTells", spec := "bitsTells", apart := false }
def BitsTellsSaid : Prop := bitsTellsRow.holds Try.pinned (OpenSpec.ofChange bitsTellsSpec)

/-- ITS FALSE NEIGHBOUR: 'it returns false'. Refute it at one input. -/
def bitsTellsWrong : ChangeSpec := { name := "bitsTells", fn := fun _ => fun
  | [d1, d2, d3] => { results := [.lit (.bool false)], args := [d1, d2, d3] }
  | _ => none }
def BitsTellsWrongFalsely : Prop := bitsTellsRow.holds Try.pinned (OpenSpec.ofChange bitsTellsWrong)

/-- 'gleaningskeep.BitsFind': WHATEVER THE INPUT: true; the input reads as it did. -/
def bitsFindSpec : ChangeSpec := { name := "bitsFind", fn := fun _ => fun
  | [d] => { results := [.lit (.bool true)], args := [d] }
  | _ => none }
def bitsFindRow : OpenClaim := { program := "ytjfdlibceldanaa", sum := "c170af4b802257e9f6c7747b74754fa9e4f7a674aaf637d032c50eb8e22c527e", func := "gleanings/gleaningskeep.BitsFind", spec := "bitsFind", apart := false }
def BitsFindSaid : Prop := bitsFindRow.holds Try.pinned (OpenSpec.ofChange bitsFindSpec)

/-- ITS FALSE NEIGHBOUR: 'it returns false'. Refute it at one input. -/
def bitsFindWrong : ChangeSpec := { name := "bitsFind", fn := fun _ => fun
  | [d] => { results := [.lit (.bool false)], args := [d] }
  | _ => none }
def BitsFindWrongFalsely : Prop := bitsFindRow.holds Try.pinned (OpenSpec.ofChange bitsFindWrong)

/-- 'gleaningslaw.WaveTells': WHATEVER THE INPUT: true; the input reads as it did. -/
def waveTellsSpec : ChangeSpec := { name := "waveTells", fn := fun _ => fun
  | [d1, d2, d3, d4, d5] => { results := [.lit (.bool true)], args := [d1, d2, d3, d4, d5] }
  | _ => none }
def waveTellsRow : OpenClaim := { program := "ytjfdlibceldanaa", sum := "c170af4b802257e9f6c7747b74754fa9e4f7a674aaf637d032c50eb8e22c527e", func := "gleanings/gleaningslaw.WaveTells", spec := "waveTells", unfollowed := true, recurses := true, apart := false }
def WaveTellsSaid : Prop := waveTellsRow.holds Try.pinned (OpenSpec.ofChange waveTellsSpec)

/-- ITS FALSE NEIGHBOUR: 'it returns false'. Refute it at one input. -/
def waveTellsWrong : ChangeSpec := { name := "waveTells", fn := fun _ => fun
  | [d1, d2, d3, d4, d5] => { results := [.lit (.bool false)], args := [d1, d2, d3, d4, d5] }
  | _ => none }
def WaveTellsWrongFalsely : Prop := waveTellsRow.holds Try.pinned (OpenSpec.ofChange waveTellsWrong)

/-- 'gleaningskeep.WaveCounts': WHATEVER THE INPUT: true; the input reads as it did. -/
def waveCountsSpec : ChangeSpec := { name := "waveCounts", fn := fun _ => fun
  | [d1, d2, d3, d4] => { results := [.lit (.bool true)], args := [d1, d2, d3, d4] }
  | _ => none }
def waveCountsRow : OpenClaim := { program := "ytjfdlibceldanaa", sum := "c170af4b802257e9f6c7747b74754fa9e4f7a674aaf637d032c50eb8e22c527e", func := "gleanings/gleaningskeep.WaveCounts", spec := "waveCounts", unfollowed := true, recurses := true, apart := false }
def WaveCountsSaid : Prop := waveCountsRow.holds Try.pinned (OpenSpec.ofChange waveCountsSpec)

/-- ITS FALSE NEIGHBOUR: 'it returns false'. Refute it at one input. -/
def waveCountsWrong : ChangeSpec := { name := "waveCounts", fn := fun _ => fun
  | [d1, d2, d3, d4] => { results := [.lit (.bool false)], args := [d1, d2, d3, d4] }
  | _ => none }
def WaveCountsWrongFalsely : Prop := waveCountsRow.holds Try.pinned (OpenSpec.ofChange waveCountsWrong)

/-- 'gleaningskeep.SortEnds': WHATEVER THE INPUT: true; the input reads as it did. -/
def sortEndsSpec : ChangeSpec := { name := "sortEnds", fn := fun _ => fun
  | [d] => { results := [.lit (.bool true)], args := [d] }
  | _ => none }
def sortEndsRow : OpenClaim := { program := "ytjfdlibceldanaa", sum := "c170af4b802257e9f6c7747b74754fa9e4f7a674aaf637d032c50eb8e22c527e", func := "gleanings/gleaningskeep.SortEnds", spec := "sortEnds", unfollowed := true, recurses := true, apart := false }
def SortEndsSaid : Prop := sortEndsRow.holds Try.pinned (OpenSpec.ofChange sortEndsSpec)

/-- ITS FALSE NEIGHBOUR: 'it returns false'. Refute it at one input. -/
def sortEndsWrong : ChangeSpec := { name := "sortEnds", fn := fun _ => fun
  | [d] => { results := [.lit (.bool false)], args := [d] }
  | _ => none }
def SortEndsWrongFalsely : Prop := sortEndsRow.holds Try.pinned (OpenSpec.ofChange sortEndsWrong)

/-- 'gleaningslaw.SortTells': WHATEVER THE INPUT: true; the input reads as it did. -/
def sortTellsSpec : ChangeSpec := { name := "sortTells", fn := fun _ => fun
  | [d1, d2] => { results := [.lit (.bool true)], args := [d1, d2] }
  | _ => none }
def sortTellsRow : OpenClaim := { program := "ytjfdlibceldanaa", sum := "c170af4b802257e9f6c7747b74754fa9e4f7a674aaf637d032c50eb8e22c527e", func := "gleanings/gleaningslaw.SortTells", spec := "sortTells", unfollowed := true, recurses := true, apart := false }
def SortTellsSaid : Prop := sortTellsRow.holds Try.pinned (OpenSpec.ofChange sortTellsSpec)

/-- ITS FALSE NEIGHBOUR: 'it returns false'. Refute it at one input. -/
def sortTellsWrong : ChangeSpec := { name := "sortTells", fn := fun _ => fun
  | [d1, d2] => { results := [.lit (.bool false)], args := [d1, d2] }
  | _ => none }
def SortTellsWrongFalsely : Prop := sortTellsRow.holds Try.pinned (OpenSpec.ofChange sortTellsWrong)

/-- 'gleaningskeep.GuessFar': WHATEVER THE INPUT: true; the input reads as it did. -/
def guessFarSpec : ChangeSpec := { name := "guessFar", fn := fun _ => fun
  | [d1, d2, d3, d4] => { results := [.lit (.bool true)], args := [d1, d2, d3, d4] }
  | _ => none }
def guessFarRow : OpenClaim := { program := "ytjfdlibceldanaa", sum := "c170af4b802257e9f6c7747b74754fa9e4f7a674aaf637d032c50eb8e22c527e", func := "gleanings/gleaningskeep.GuessFar", spec := "guessFar", unfollowed := true, recurses := true, apart := false }
def GuessFarSaid : Prop := guessFarRow.holds Try.pinned (OpenSpec.ofChange guessFarSpec)

/-- ITS FALSE NEIGHBOUR: 'it returns false'. Refute it at one input. -/
def guessFarWrong : ChangeSpec := { name := "guessFar", fn := fun _ => fun
  | [d1, d2, d3, d4] => { results := [.lit (.bool false)], args := [d1, d2, d3, d4] }
  | _ => none }
def GuessFarWrongFalsely : Prop := guessFarRow.holds Try.pinned (OpenSpec.ofChange guessFarWrong)

/-- 'gleaningslaw.GuessTells': WHATEVER THE INPUT: true; the input reads as it did. -/
def guessTellsSpec : ChangeSpec := { name := "guessTells", fn := fun _ => fun
  | [d1, d2, d3, d4, d5] => { results := [.lit (.bool true)], args := [d1, d2, d3, d4, d5] }
  | _ => none }
def guessTellsRow : OpenClaim := { program := "ytjfdlibceldanaa", sum := "c170af4b802257e9f6c7747b74754fa9e4f7a674aaf637d032c50eb8e22c527e", func := "gleanings/gleaningslaw.GuessTells", spec := "guessTells", unfollowed := true, recurses := true, apart := false }
def GuessTellsSaid : Prop := guessTellsRow.holds Try.pinned (OpenSpec.ofChange guessTellsSpec)

/-- ITS FALSE NEIGHBOUR: 'it returns false'. Refute it at one input. -/
def guessTellsWrong : ChangeSpec := { name := "guessTells", fn := fun _ => fun
  | [d1, d2, d3, d4, d5] => { results := [.lit (.bool false)], args := [d1, d2, d3, d4, d5] }
  | _ => none }
def GuessTellsWrongFalsely : Prop := guessTellsRow.holds Try.pinned (OpenSpec.ofChange guessTellsWrong)

/- THE SECOND FORM. 'bulk': how many values and letters a reading holds, each counted each time it is reached (what is shared counts as often as it is met; a slice's spare places count too). A statement '..UptoSaid' is the law's where the arguments, and the package variables that the reading takes, are together of bulk at most 1048576: NARROWER than '..Said'. Prove '..Said' where nothing that the law and all that it calls make is longer than what came in: it says more and counts as full. Else prove '..UptoSaid'. A law counts once. -/
mutual
def uptoBulk {H : Type} : DataW H → Nat
  | .lit (.string bytes) => bytes.length + 1
  | .lit _ => 1
  | .nil => 1
  | .ptr d => uptoBulk d + 1
  | .slice elems spare => uptoBulkAll elems + uptoBulkAll spare + 1
  | .agg parts => uptoBulkAll parts + 1
  | .iface _ d => uptoBulk d + 1
  | .map entries => uptoBulkEntries entries + 1
  | .held _ => 1
def uptoBulkAll {H : Type} : List (DataW H) → Nat
  | [] => 0
  | d :: r => uptoBulk d + uptoBulkAll r
def uptoBulkEntries {H : Type} : List (Lit × DataW H) → Nat
  | [] => 0
  | x :: r => uptoBulkEntry x + uptoBulkEntries r
def uptoBulkEntry {H : Type} : Lit × DataW H → Nat
  | (.string bytes, d) => bytes.length + uptoBulk d + 1
  | (_, d) => uptoBulk d + 1
 end
def uptoSmall : (H : Type) → List (DataW H) → Bool := fun _ ds => decide (uptoBulkAll ds ≤ 1048576)
def OpenSpec.upto (s : _root_.Go.ChangeSpec) : _root_.Go.OpenSpec := { _root_.Go.OpenSpec.ofChange s with cond := some uptoSmall }

/-- 'gleaningslaw.Names', WHERE WHAT IT READS IS OF BULK AT MOST 1048576: true; the input reads as it did. -/
def namesUptoRow : OpenClaim := { program := "ytjfdlibceldanaa", sum := "c170af4b802257e9f6c7747b74754fa9e4f7a674aaf637d032c50eb8e22c527e", func := "gleanings/gleaningslaw.Names", spec := "names", apart := false, narrowed := true }
def NamesUptoSaid : Prop := namesUptoRow.holds Try.pinned (OpenSpec.upto namesSpec)

/-- 'gleaningslaw.BitsGood', WHERE WHAT IT READS IS OF BULK AT MOST 1048576: true; the input reads as it did. -/
def bitsGoodUptoRow : OpenClaim := { program := "ytjfdlibceldanaa", sum := "c170af4b802257e9f6c7747b74754fa9e4f7a674aaf637d032c50eb8e22c527e", func := "gleanings/gleaningslaw.BitsGood", spec := "bitsGood", apart := false, narrowed := true }
def BitsGoodUptoSaid : Prop := bitsGoodUptoRow.holds Try.pinned (OpenSpec.upto bitsGoodSpec)

/-- 'gleaningslaw.BitsTells', WHERE WHAT IT READS IS OF BULK AT MOST 1048576: true; the input reads as it did. -/
def bitsTellsUptoRow : OpenClaim := { program := "ytjfdlibceldanaa", sum := "c170af4b802257e9f6c7747b74754fa9e4f7a674aaf637d032c50eb8e22c527e", func := "gleanings/gleaningslaw.BitsTells", spec := "bitsTells", apart := false, narrowed := true }
def BitsTellsUptoSaid : Prop := bitsTellsUptoRow.holds Try.pinned (OpenSpec.upto bitsTellsSpec)

/-- 'gleaningskeep.BitsFind', WHERE WHAT IT READS IS OF BULK AT MOST 1048576: true; the input reads as it did. -/
def bitsFindUptoRow : OpenClaim := { program := "ytjfdlibceldanaa", sum := "c170af4b802257e9f6c7747b74754fa9e4f7a674aaf637d032c50eb8e22c527e", func := "gleanings/gleaningskeep.BitsFind", spec := "bitsFind", apart := false, narrowed := true }
def BitsFindUptoSaid : Prop := bitsFindUptoRow.holds Try.pinned (OpenSpec.upto bitsFindSpec)

/-- 'gleaningslaw.WaveTells', WHERE WHAT IT READS IS OF BULK AT MOST 1048576: true; the input reads as it did. -/
def waveTellsUptoRow : OpenClaim := { program := "ytjfdlibceldanaa", sum := "c170af4b802257e9f6c7747b74754fa9e4f7a674aaf637d032c50eb8e22c527e", func := "gleanings/gleaningslaw.WaveTells", spec := "waveTells", unfollowed := true, recurses := true, apart := false, narrowed := true }
def WaveTellsUptoSaid : Prop := waveTellsUptoRow.holds Try.pinned (OpenSpec.upto waveTellsSpec)

/-- 'gleaningskeep.WaveCounts', WHERE WHAT IT READS IS OF BULK AT MOST 1048576: true; the input reads as it did. -/
def waveCountsUptoRow : OpenClaim := { program := "ytjfdlibceldanaa", sum := "c170af4b802257e9f6c7747b74754fa9e4f7a674aaf637d032c50eb8e22c527e", func := "gleanings/gleaningskeep.WaveCounts", spec := "waveCounts", unfollowed := true, recurses := true, apart := false, narrowed := true }
def WaveCountsUptoSaid : Prop := waveCountsUptoRow.holds Try.pinned (OpenSpec.upto waveCountsSpec)

/-- 'gleaningskeep.SortEnds', WHERE WHAT IT READS IS OF BULK AT MOST 1048576: true; the input reads as it did. -/
def sortEndsUptoRow : OpenClaim := { program := "ytjfdlibceldanaa", sum := "c170af4b802257e9f6c7747b74754fa9e4f7a674aaf637d032c50eb8e22c527e", func := "gleanings/gleaningskeep.SortEnds", spec := "sortEnds", unfollowed := true, recurses := true, apart := false, narrowed := true }
def SortEndsUptoSaid : Prop := sortEndsUptoRow.holds Try.pinned (OpenSpec.upto sortEndsSpec)

/-- 'gleaningslaw.SortTells', WHERE WHAT IT READS IS OF BULK AT MOST 1048576: true; the input reads as it did. -/
def sortTellsUptoRow : OpenClaim := { program := "ytjfdlibceldanaa", sum := "c170af4b802257e9f6c7747b74754fa9e4f7a674aaf637d032c50eb8e22c527e", func := "gleanings/gleaningslaw.SortTells", spec := "sortTells", unfollowed := true, recurses := true, apart := false, narrowed := true }
def SortTellsUptoSaid : Prop := sortTellsUptoRow.holds Try.pinned (OpenSpec.upto sortTellsSpec)

/-- 'gleaningskeep.GuessFar', WHERE WHAT IT READS IS OF BULK AT MOST 1048576: true; the input reads as it did. -/
def guessFarUptoRow : OpenClaim := { program := "ytjfdlibceldanaa", sum := "c170af4b802257e9f6c7747b74754fa9e4f7a674aaf637d032c50eb8e22c527e", func := "gleanings/gleaningskeep.GuessFar", spec := "guessFar", unfollowed := true, recurses := true, apart := false, narrowed := true }
def GuessFarUptoSaid : Prop := guessFarUptoRow.holds Try.pinned (OpenSpec.upto guessFarSpec)

/-- 'gleaningslaw.GuessTells', WHERE WHAT IT READS IS OF BULK AT MOST 1048576: true; the input reads as it did. -/
def guessTellsUptoRow : OpenClaim := { program := "ytjfdlibceldanaa", sum := "c170af4b802257e9f6c7747b74754fa9e4f7a674aaf637d032c50eb8e22c527e", func := "gleanings/gleaningslaw.GuessTells", spec := "guessTells", unfollowed := true, recurses := true, apart := false, narrowed := true }
def GuessTellsUptoSaid : Prop := guessTellsUptoRow.holds Try.pinned (OpenSpec.upto guessTellsSpec)

end Rows
end Go.Proofs.Ytjfdlibceldanaa
