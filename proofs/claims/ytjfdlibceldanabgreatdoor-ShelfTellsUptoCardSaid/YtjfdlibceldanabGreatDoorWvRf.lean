/- The references Fits, CountIn and KindsIn: the walks. The reference KindsIn: the walk. -/
import Derived.Test.YtjfdlibceldanabGreatDoorBitsA
import Derived.Test.YtjfdlibceldanabGreatDoorWvPl
/-! The references Fits, CountIn and KindsIn: the walks. -/
namespace Go.Proofs.YtjfdlibceldanabGreatDoor
open Go.RowKit Wv

/-- Numbers that fit: below 2^deep, deep from 1 to 16. -/
def okNum (d : Nat) (x : Int) : Prop := 0 ≤ x ∧ x < 2 ^ d
instance (d : Nat) (x : Int) : Decidable (okNum d x) := by unfold okNum; infer_instance
def fitsP (l : List Int) (deep : Int) : Prop := (1 ≤ deep ∧ deep ≤ 16) ∧ ∀ x ∈ l, okNum deep.toNat x
instance (l : List Int) (deep : Int) : Decidable (fitsP l deep) := by unfold fitsP; infer_instance

end Go.Proofs.YtjfdlibceldanabGreatDoor

/-! The reference KindsIn: the walk. -/
namespace Go.Proofs.YtjfdlibceldanabGreatDoor
open Go.RowKit Wv

/-- A list of numbers that a call returned. -/
def RetInts (xs : List Nat) (w : World) (e : Ending) (w' : World) : Prop :=
  ∃ (A : Option Addr) (c : Nat), e = .returned (.slice A xs.length c) ∧ (A = none → c = 0) ∧ Rd w' A xs.length (fun j => .int .i64 (nth xs j : Nat)) ∧ Ext w w'
theorem own_none {w : World} {base : Nat} {e : TypeId} {size n : Nat} {A : Option Addr} {c : Nat} {xs : List Value} (h : w.ownsRow base e size (.slice A n c) n xs) : A = none → c = 0 := fun hA => by
  rcases h.2 with ⟨hv, _⟩ | ⟨g, cap, cur, hv, _⟩
  · injection hv
  · injection hv with h1; rw [hA] at h1; cases h1
theorem rd_ints {w : World} {base : Nat} {e : TypeId} {A : Option Addr} {c n : Nat} {xs : List Nat} (h : w.ownsRow base e 1 (.slice A n c) n (xs.map fun x => Value.int .i64 (x : Nat))) : Rd w A xs.length (fun j => .int .i64 (nth xs j : Nat)) := by
  have hl : xs.length = n := by have := h.1; rw [List.length_map] at this; omega
  rw [hl]
  refine (Rd.of_own (d := default) h).congr fun k hk => ?_
  have : k < xs.length := by omega
  simp [this, nth_lt]
theorem found_succ (l : List Nat) (f0 t0 v : Int) (k : Nat) : found l f0 t0 v (k + 1) = (found l f0 t0 v k || (decide (((nth l k : Nat) : Int) = v) && (decide (f0 ≤ k) && decide ((k : Int) < t0)))) := by
  unfold found; rw [List.range_succ, List.any_append]; simp

end Go.Proofs.YtjfdlibceldanabGreatDoor
