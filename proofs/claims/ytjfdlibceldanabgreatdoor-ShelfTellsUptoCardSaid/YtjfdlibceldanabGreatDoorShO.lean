/- shelf.Open in letters, for the laws of the whole. -/
import Derived.Test.YtjfdlibceldanabGreatDoorShA
namespace Go.Proofs.YtjfdlibceldanabGreatDoor
open Go.RowKit Go.Sort Tx En Wv Gu

/-- What Open answers, in letters. -/
def RetO (er N n1 m2 : Nat) (R : World → Option Addr → Option Addr → Option Addr → Option Addr → Option Addr → Nat → Nat → Nat → Nat → Nat → Prop) (w : World) (e : Ending) (w' : World) : Prop :=
  (er ≠ 0 ∧ e = .returned (.tuple #[noShelf, .int .i64 (er : Nat)]) ∧ Ext w w') ∨
  (er = 0 ∧ ∃ WA TA E B D wc tc ec bc dc, e = .returned (.tuple #[shV WA TA N wc n1 tc E B D m2 ec bc dc, .int .i64 0]) ∧ R w' WA TA E B D wc tc ec bc dc ∧ Ext w w')
/-- A shelf of s in memory, and the cell that strings.Split asks. -/
def ShQ (m : Int) (s : List UInt8) (w : World) (WA TA E B D : Option Addr) (wc tc ec bc dc : Nat) : Prop := ShR m s WA TA E B D wc tc ec bc dc w
theorem ShQ.ext {m : Int} {s : List UInt8} : ∀ w w' a b c d e f g h i j, Ext w w' → ShQ m s w a b c d e f g h i j → ShQ m s w' a b c d e f g h i j := fun _ _ _ _ _ _ _ _ _ _ _ _ hx r => ShR.ext m hx r
theorem open_O (s : List UInt8) (hs : s.length ≤ 9223372036854775807) (m : Int) (w : World) (hm : w.cell? ⟨0, 0, none⟩ = some (.int .i64 m)) :
    Calls Tryz.prog 9 #[str s] w (RetO (errF s) (wordsF s).length (bT s).length ((wordsF s).length + 3) (ShQ m s) w) := by
  refine (open_calls s hs m w hm).mono ?_
  rintro e w' (⟨h, h1, h2⟩ | ⟨h, WA, TA, E, B, D, wc, tc, ec, bc, dc, rfl, hs, hx⟩)
  · exact Or.inl ⟨h, h1, h2⟩
  · exact Or.inr ⟨h, WA, TA, E, B, D, wc, tc, ec, bc, dc, rfl, ⟨ecell hm hx, hs⟩, hx⟩
theorem cat_str2 (a b : List UInt8) : (ByteArray.mk a.toArray ++ ByteArray.mk b.toArray) = ByteArray.mk (a ++ b).toArray := by
  apply ByteArray.ext
  simp [ByteArray.data_append]
theorem cat_sp (a : List UInt8) : (ByteArray.mk #[32] ++ ByteArray.mk a.toArray) ++ ByteArray.mk #[32] = ByteArray.mk (32 :: (a ++ [32])).toArray := by
  rw [show (ByteArray.mk #[32]) = ⟨([32] : List UInt8).toArray⟩ from rfl, cat_str2, cat_str2]
  simp
end Go.Proofs.YtjfdlibceldanabGreatDoor
