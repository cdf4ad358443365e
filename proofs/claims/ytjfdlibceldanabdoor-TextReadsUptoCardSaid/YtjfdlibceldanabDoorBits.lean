/- The walks of package bits and of the bits' part of the references: each function returns what its Lean twin computes. -/
import Derived.Test.YtjfdlibceldanabDoorProg
import Derived.Test.YtjfdlibceldanabDoorBase
import Derived.Test.YtjfdlibceldanabDoorPop
namespace Go.Proofs.YtjfdlibceldanabDoor
open Go.RowKit

/-- A place, brought to what there is. -/
def clamp (i n : Int) : Int := if 0 < (if n < i then n else i) then (if n < i then n else i) else 0
def onesF (b : PB) (i : Int) : Int :=
  if (clamp i b.N).toNat / 64 < b.P.length ∧ (clamp i b.N).toNat / 64 < b.A.length then
    wrap64 (nth b.A ((clamp i b.N).toNat / 64) + (Pop.pc 64 (nth b.P ((clamp i b.N).toNat / 64) % 2 ^ ((clamp i b.N).toNat % 64)) : Nat))
  else 0

/-- What the mask of the lowest bits leaves. -/
theorem mask_eq (p k : Nat) (hp : p < 18446744073709551616) (hk : k < 64) : bits BinOp.and IntKind.u64 (p : Int) (IntKind.u64.wrap (IntKind.u64.wrap ((2 : Int) ^ k) - 1)) = ((p % 2 ^ k : Nat) : Int) := by
  have h1 : (2 : Nat) ^ k < 18446744073709551616 := by
    have : (2 : Nat) ^ k < 2 ^ 64 := Nat.pow_lt_pow_right (by omega) hk
    simpa using this
  have h2 : 0 < (2 : Nat) ^ k := Nat.pow_pos (by omega)
  have e : ((2 : Int) ^ k) = ((2 ^ k : Nat) : Int) := by simp
  rw [e, Pop.wrap_u64_nat _ h1, show (((2 ^ k : Nat) : Int) - 1) = ((2 ^ k - 1 : Nat) : Int) from by omega, Pop.wrap_u64_nat _ (by omega), u64_and_nat _ _ hp (by omega), Nat.and_two_pow_sub_one_eq_mod]

def noughtsF (b : PB) (i : Int) : Int := wrap64 (clamp i b.N - onesF b i)
def atF (b : PB) (i : Int) : Bool := decide (0 ≤ i) && (decide (i < b.N) && (decide (i / 64 < b.P.length) && (nth b.P (i.toNat / 64) / 2 ^ (i.toNat % 64) % 2 == 1)))
theorem and1_eq (p k : Nat) (hp : p < 18446744073709551616) : bits BinOp.and IntKind.u64 ((p : Int) / 2 ^ k) 1 = ((p / 2 ^ k % 2 : Nat) : Int) := by
  rw [show ((p : Int) / 2 ^ k) = ((p / 2 ^ k : Nat) : Int) from by simp, show (1 : Int) = ((1 : Nat) : Int) from rfl, u64_and_nat _ _ (Nat.lt_of_le_of_lt (Nat.div_le_self _ _) hp) (by omega), nat_mask1]
end Go.Proofs.YtjfdlibceldanabDoor
