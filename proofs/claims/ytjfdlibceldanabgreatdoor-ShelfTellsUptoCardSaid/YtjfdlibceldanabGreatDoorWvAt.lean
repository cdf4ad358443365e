/- wave.At: the walk, on a wave that is made. -/
import Derived.Test.YtjfdlibceldanabGreatDoorWvGood
import Derived.Test.YtjfdlibceldanabGreatDoorWvDown
namespace Go.Proofs.YtjfdlibceldanabGreatDoor
open Go.RowKit Wv

theorem nx_pre {d L : Nat} (hL : L < d) (x : Nat) : nx (pre d L x) (bitL d L x) = pre d (L + 1) x := by
  unfold nx
  rw [bit_step, pre_step hL]
  generalize pre d (L + 1) x = q
  by_cases h : q % 2 = 1
  · simp [h]; omega
  · simp [h]; omega
theorem pre_le (d L x : Nat) : pre d L x ≤ x := Nat.div_le_self _ _

/-- What At has ahead of a level. -/
structure AtRel (l : List Nat) (d : Nat) (w : World) (B6 L x i : Nat) (wr : World) : Prop where
  b : Bk wr B6 182 #[.int .i64 (F d l L (pre d L x) : Nat), .int .i64 (F d l L (pre d L x + 1) : Nat)]
  x : Ext w wr
  h : w.heap.size ≤ B6

end Go.Proofs.YtjfdlibceldanabGreatDoor
