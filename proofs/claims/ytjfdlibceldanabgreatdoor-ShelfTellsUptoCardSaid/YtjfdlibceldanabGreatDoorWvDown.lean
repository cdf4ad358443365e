/- wave's nodes on a made wave's level. -/
import Derived.Test.YtjfdlibceldanabGreatDoorWvNode
namespace Go.Proofs.YtjfdlibceldanabGreatDoor
open Go.RowKit Wv

/-- The part of the next level. -/
def nx (p : Nat) (one : Bool) : Nat := 2 * p + if one then 1 else 0
theorem down_at {d : Nat} {ln : List Nat} {L p : Nat} (hL : L < d) (hp : p < 2 ^ L) (i0 : Nat) (one : Bool) :
    (if one then F d ln L p + (nz (bitsAt d ln L) (F d ln L (p + 1)) - nz (bitsAt d ln L) (F d ln L p)) else F d ln L p) = F d ln (L + 1) (nx p one) ∧
    (if one then F d ln L (p + 1) else F d ln L p + (nz (bitsAt d ln L) (F d ln L (p + 1)) - nz (bitsAt d ln L) (F d ln L p))) = F d ln (L + 1) (nx p one + 1) ∧
    (if one then cnt ((bitsAt d ln L).take (F d ln L p + C d ln L p i0)) - cnt ((bitsAt d ln L).take (F d ln L p)) else nz (bitsAt d ln L) (F d ln L p + C d ln L p i0) - nz (bitsAt d ln L) (F d ln L p)) = C d ln (L + 1) (nx p one) i0 := by
  have e1 := ones_at (l := ln) hL hp i0
  have e2 := ones_end (l := ln) hL hp
  have s1 := C_split (l := ln) hL p i0
  have s2 := C_split (l := ln) hL p ln.length
  have f1 := F_succ (deep := d) (l := ln) L p
  have f2 := F_even (l := ln) hL p
  have f3 := F_odd (l := ln) hL p
  have f4 := F_even (l := ln) hL (p + 1)
  have c1 := cnt_take_le (bitsAt d ln L) (F d ln L p)
  unfold nx nz
  cases one with
  | true =>
    simp only [if_true]
    rw [show 2 * p + 1 + 1 = 2 * (p + 1) from by omega]
    refine ⟨by omega, by omega, by omega⟩
  | false =>
    simp only [Bool.false_eq_true, if_false, Nat.add_zero]
    refine ⟨by omega, by omega, by omega⟩
theorem nx_lt {p L : Nat} (hp : p < 2 ^ L) (one : Bool) : nx p one < 2 ^ (L + 1) := by
  unfold nx; rw [Nat.pow_succ]; split <;> omega
theorem wdown_calls (d : Nat) (ln : List Nat) (hn : ln.length ≤ 17592186044416) (hf : ∀ x ∈ ln, x < 2 ^ d) (L p : Nat) (hL : L < d) (hp : p < 2 ^ L) (i0 : Nat) (one : Bool) (A1 A2 : Option Addr) (c1 c2 : Nat) (w : World) (hr : RdB w A1 A2 (bitsOf (bitsAt d ln L))) :
    Calls Tryz.prog 159 #[.agg #[.int .i64 (F d ln L p : Nat), .int .i64 (F d ln L (p + 1) : Nat)], .agg #[.int .i64 (bitsOf (bitsAt d ln L)).N, .slice A1 (bitsOf (bitsAt d ln L)).P.length c1, .slice A2 (bitsOf (bitsAt d ln L)).A.length c2], .bool one, .int .i64 (C d ln L p i0 : Nat)] w
      (RetNode (F d ln (L + 1) (nx p one)) (F d ln (L + 1) (nx p one + 1)) (C d ln (L + 1) (nx p one) i0) w) := by
  obtain ⟨e1, e2, e3⟩ := down_at (ln := ln) hL hp i0 one
  have hb := bitsAt_length hf (Nat.le_of_lt hL)
  have hfs := F_succ (deep := d) (l := ln) L p
  have hcl := C_le (deep := d) (l := ln) L p i0
  have h := ndown_calls (bitsAt d ln L) (by rw [hb]; exact hn) A1 A2 c1 c2 (F d ln L p) (F d ln L (p + 1)) (C d ln L p i0) one (by omega) (by rw [hb]; exact F_le _ _) (by omega) w hr
  rw [e1, e2, e3] at h
  exact h
end Go.Proofs.YtjfdlibceldanabGreatDoor
