/- The walks of package bits and of the bits' part of the references: each function returns what its Lean twin computes. -/
import Derived.Test.YtjfdlibceldanabGreatDoorProg
import Derived.Test.YtjfdlibceldanabGreatDoorBase
import Derived.Test.YtjfdlibceldanabGreatDoorPop
namespace Go.Proofs.YtjfdlibceldanabGreatDoor
open Go.RowKit

theorem onesCount64 (x : Nat) (hx : x < 18446744073709551616) (w : World) : Calls Tryz.prog 117 #[.int .u64 x] w fun e w' => e = .returned (.int .i64 (Pop.pc 64 x : Nat)) ∧ w = w' := by
  obtain ⟨y1, y2, y3, y4, y5, y6, e1, e2, e3, e4, e5, e6, e7⟩ := Pop.count_steps x hx
  unfold Pop.g1 at e1; unfold Pop.g2 at e2; unfold Pop.g3 at e3; unfold Pop.g4 at e4; unfold Pop.g5 at e5; unfold Pop.g6 at e6
  generalize Pop.pc 64 x = c at *
  go_enter Tryz.func117, Tryz.ntmps117
  go_wp2
  go_ret
  exact ⟨rfl, rfl⟩

/-- A place, brought to what there is. -/
def clamp (i n : Int) : Int := if 0 < (if n < i then n else i) then (if n < i then n else i) else 0
def onesF (b : PB) (i : Int) : Int :=
  if (clamp i b.N).toNat / 64 < b.P.length ∧ (clamp i b.N).toNat / 64 < b.A.length then
    wrap64 (nth b.A ((clamp i b.N).toNat / 64) + (Pop.pc 64 (nth b.P ((clamp i b.N).toNat / 64) % 2 ^ ((clamp i b.N).toNat % 64)) : Nat))
  else 0

/-- What the mask of the lowest bits leaves. -/
theorem mask_eq (p k : Nat) (hp : p < 18446744073709551616) (hk : k < 64) : bits BinOp.and IntKind.u64 (p : Int) (IntKind.u64.wrap (IntKind.u64.wrap ((2 : Int) ^ k) - 1)) = ((p % 2 ^ k : Nat) : Int) := by
  have h1 : (2 : Nat) ^ k < 18446744073709551616 := by
    have : (2 : Nat) ^ k < 2 ^ 64 := Nat.pow_lt_pow_right (by omega) hk
    simpa using this
  have h2 : 0 < (2 : Nat) ^ k := Nat.pow_pos (by omega)
  have e : ((2 : Int) ^ k) = ((2 ^ k : Nat) : Int) := by simp
  rw [e, Pop.wrap_u64_nat _ h1, show (((2 ^ k : Nat) : Int) - 1) = ((2 ^ k - 1 : Nat) : Int) from by omega, Pop.wrap_u64_nat _ (by omega), u64_and_nat _ _ hp (by omega), Nat.and_two_pow_sub_one_eq_mod]

set_option maxHeartbeats 1000000 in
theorem ones_calls (b : PB) (hb : b.Ok) (A1 A2 : Option Addr) (c1 c2 : Nat) (i : Int) (hi : I64 i) (w : World) (hr : RdB w A1 A2 b) :
    Calls Tryz.prog 175 #[.agg #[.int .i64 b.N, .slice A1 b.P.length c1, .slice A2 b.A.length c2], .int .i64 i] w fun e w' => e = .returned (.int .i64 (onesF b i)) ∧ Ext w w' := by
  obtain ⟨F, hF⟩ : ∃ F, onesF b i = F := ⟨_, rfl⟩
  rw [hF]
  unfold onesF clamp at hF
  obtain ⟨m, hm⟩ : ∃ m, (if b.N < i then b.N else i) = m := ⟨_, rfl⟩
  rw [hm] at hF
  obtain ⟨j, hj⟩ : ∃ j, (if 0 < m then m else 0) = j := ⟨_, rfl⟩
  rw [hj] at hF
  have hlp := hb.lp
  have hla := hb.la
  have hj0 : 0 ≤ j := by omega
  have hj1 : j ≤ 9223372036854775807 := by have := hi.2; have := hb.n.2; omega
  obtain ⟨J, rfl⟩ := Int.eq_ofNat_of_zero_le hj0
  rw [Int.toNat_natCast] at hF
  have HF := Lib.hid hF; clear hF
  by_cases g1 : J / 64 < b.P.length
  · by_cases g2 : J / 64 < b.A.length
    · have g1' : decide ((b.P.length : Int) ≤ (J : Int) / 64) = false := by simp; omega
      have g2' : decide ((b.A.length : Int) ≤ (J : Int) / 64) = false := by simp; omega
      go_enter Tryz.func175, Tryz.ntmps175
      go_wp2_with fail
      obtain ⟨b1, o1, rfl, hb1, hc1⟩ := hr.1 (by omega)
      obtain ⟨b2, o2, rfl, hb2, hc2⟩ := hr.2 (by omega)
      have k1 := hc1 (J / 64) (by omega)
      have k2 := hc2 (J / 64) (by omega)
      have hp := hb.p_at (J / 64)
      have e1 := mask_eq _ (J % 64) hp (by omega)
      have hy : nth b.P (J / 64) % 2 ^ (J % 64) < 18446744073709551616 := Nat.lt_of_le_of_lt (Nat.mod_le _ _) hp
      obtain ⟨y, hyy⟩ : ∃ y, nth b.P (J / 64) % 2 ^ (J % 64) = y := ⟨_, rfl⟩
      rw [hyy] at hy e1
      have HY := Lib.hid hyy; clear hyy
      go_quiet ((go_at_call 117; exact q_same (onesCount64 y hy _)))
      go_wp2_with fail
      go_ret
      refine ⟨?_, ((Ext.refl _).alloc _).drewN _⟩
      rw [← HF.out, if_pos ⟨g1, g2⟩, HY.out]
      rfl
    · have g1' : decide ((b.P.length : Int) ≤ (J : Int) / 64) = false := by simp; omega
      have g2' : decide ((b.A.length : Int) ≤ (J : Int) / 64) = true := by simp; omega
      go_enter Tryz.func175, Tryz.ntmps175
      go_wp2_with fail
      go_ret
      refine ⟨?_, (Ext.refl _).alloc _⟩
      rw [← HF.out, if_neg (fun h => g2 h.2)]
      rfl
  · have g1' : decide ((b.P.length : Int) ≤ (J : Int) / 64) = true := by simp; omega
    go_enter Tryz.func175, Tryz.ntmps175
    go_wp2_with fail
    go_ret
    refine ⟨?_, (Ext.refl _).alloc _⟩
    rw [← HF.out, if_neg (fun h => g1 h.1)]
    rfl
def noughtsF (b : PB) (i : Int) : Int := wrap64 (clamp i b.N - onesF b i)
set_option maxHeartbeats 1000000 in
theorem noughts_calls (b : PB) (hb : b.Ok) (A1 A2 : Option Addr) (c1 c2 : Nat) (i : Int) (hi : I64 i) (w : World) (hr : RdB w A1 A2 b) :
    Calls Tryz.prog 176 #[.agg #[.int .i64 b.N, .slice A1 b.P.length c1, .slice A2 b.A.length c2], .int .i64 i] w fun e w' => e = .returned (.int .i64 (noughtsF b i)) ∧ Ext w w' := by
  obtain ⟨F, hF⟩ : ∃ F, noughtsF b i = F := ⟨_, rfl⟩
  rw [hF]
  unfold noughtsF clamp at hF
  obtain ⟨m, hm⟩ : ∃ m, (if b.N < i then b.N else i) = m := ⟨_, rfl⟩
  rw [hm] at hF
  obtain ⟨j, hj⟩ : ∃ j, (if 0 < m then m else 0) = j := ⟨_, rfl⟩
  rw [hj] at hF
  have HF := Lib.hid hF; clear hF
  go_enter Tryz.func176, Tryz.ntmps176
  go_wp2_with fail
  generalize hW : World.alloc w _ = W
  obtain ⟨k0, k1, k2⟩ := (bx3_of hW).grow
  have hx : Ext w W := by rw [← hW]; exact (Ext.refl _).alloc _
  clear hW
  refine wp_region_grow_lit (by kernel_rfl) (by kernel_rfl) ?_
  repeat (go_big_quiet_step ((go_at_call 175; exact q_grow (ones_calls b hb A1 A2 c1 c2 i hi _ (hr.ext (hx.trans (grow_ext _ _)))))))
  refine wpQuiet_nil ?_
  intro _ hw'
  obtain ⟨u, rfl⟩ := hw'
  have hxu := grow_ext W u
  generalize grow W u = w2 at *
  go_wp2_with fail
  go_ret
  exact ⟨by rw [← HF.out]; rfl, hx.trans hxu⟩
def atF (b : PB) (i : Int) : Bool := decide (0 ≤ i) && (decide (i < b.N) && (decide (i / 64 < b.P.length) && (nth b.P (i.toNat / 64) / 2 ^ (i.toNat % 64) % 2 == 1)))
theorem and1_eq (p k : Nat) (hp : p < 18446744073709551616) : bits BinOp.and IntKind.u64 ((p : Int) / 2 ^ k) 1 = ((p / 2 ^ k % 2 : Nat) : Int) := by
  rw [show ((p : Int) / 2 ^ k) = ((p / 2 ^ k : Nat) : Int) from by simp, show (1 : Int) = ((1 : Nat) : Int) from rfl, u64_and_nat _ _ (Nat.lt_of_le_of_lt (Nat.div_le_self _ _) hp) (by omega), nat_mask1]
end Go.Proofs.YtjfdlibceldanabGreatDoor
