/- slices.SortStableFunc over []int, by a number's upper bits: its parts' walks. -/
import Derived.Test.YtjfdlibceldanaaBase
import Derived.Test.YtjfdlibceldanaaProg
import Derived.Test.YtjfdlibceldanaaStab3
import Derived.Sort.WalkC
import Derived.BigRegion
namespace Go.Proofs.Ytjfdlibceldanaa
open Go.RowKit Go.Sort Stab

/-- The numbers of a wave: of 16 bits. -/
abbrev V := Fin 65536
abbrev encV (v : V) : Value := .int .i64 ((v.val : Nat) : Int)
def keyV (s : Nat) (v : V) : Nat := v.val / 2 ^ s

set_option maxHeartbeats 1000000 in
theorem cmpV_calls (s : Nat) (hs : s < 16) (S : Nat) (x y : V) (w : World) (hS : w.cell? ⟨S, 0, none⟩ = some (.int .u64 s)) :
    Calls Try.prog 63 #[encV x, encV y, .pointer (some ⟨S, 0, none⟩)] w fun e w' => e = .returned (.int .i64 ((keyV s x : Nat) - (keyV s y : Nat) : Int)) ∧ w' = w := by
  unfold keyV
  have hx := x.isLt
  have hy := y.isLt
  obtain ⟨x, hx'⟩ := x
  obtain ⟨y, hy'⟩ := y
  dsimp only at *
  have q1 : x / 2 ^ s ≤ x := Nat.div_le_self _ _
  have q2 : y / 2 ^ s ≤ y := Nat.div_le_self _ _
  go_enter Try.func63, Try.ntmps63
  go_wp2_with fail
  go_ret
  refine ⟨?_, rfl⟩
  have e1 : ((x : Int) / 2 ^ s) = ((x / 2 ^ s : Nat) : Int) := by simp
  have e2 : ((y : Int) / 2 ^ s) = ((y / 2 ^ s : Nat) : Int) := by simp
  rw [e1, e2]
  generalize x / 2 ^ s = a at *
  generalize y / 2 ^ s = b at *
  rw [IntWalk.wrap64_in _ (by omega)]
  rfl

set_option maxHeartbeats 4000000 in
set_option maxRecDepth 100000 in
theorem swapRange_calls (d : Array V) (blk off cap a b n : Nat) (f : Value) (w : World) (hH : Holds encV w blk off d) (hab : a + n ≤ b) (hb : b + n ≤ d.size) (hsz : d.size < 4611686018427387904) :
    Calls Try.prog 114 #[.slice (some ⟨blk, off, none⟩) d.size cap, .int .i64 a, .int .i64 b, .int .i64 n, f] w fun e w' =>
      e = .returned (.tuple #[]) ∧ ∃ q, w' = (putRow encV w blk off (swpN d a b n)).drewN q := by
  have HST : Hid (w = (putRow encV w blk off d).drewN 0) := (putRow_self encV w blk off d hH).symm
  have HH : Hid (Holds encV w blk off d) := hH
  clear hH
  go_enter Try.func114, Try.ntmps114
  go_wp2_with fail
  go_loopw [10] (fun v wr => ∃ (i q : Nat), v = .int .i64 i ∧ i ≤ n ∧ Hid (wr = (putRow encV w blk off (swpN d a b i)).drewN q)) (fun v _ => n - (intOf v).toNat)
  case atStart => exact ⟨0, 0, rfl, by omega, HST⟩
  case round =>
    obtain ⟨i, q, rfl, hi, HW⟩ := hrel
    by_cases g : i < n
    · have hs : (swpN d a b i).size = d.size := size_swpN ..
      have hHj := holds_putRow encV w blk off d (swpN d a b i) HH.out hs
      obtain ⟨c1, f1⟩ := hHj (a + i) (by omega)
      obtain ⟨c2, f2⟩ := hHj (b + i) (by omega)
      have c1' : wr.cell? ⟨blk, off + (a + i), none⟩ = some (encV (swpN d a b i)[a + i]!) := by rw [HW.out]; exact c1
      have c2' : wr.cell? ⟨blk, off + (b + i), none⟩ = some (encV (swpN d a b i)[b + i]!) := by rw [HW.out]; exact c2
      have f1' : wr.frozen? ⟨blk, off + (a + i), none⟩ = false := by rw [HW.out]; exact f1
      have f2' : wr.frozen? ⟨blk, off + (b + i), none⟩ = false := by rw [HW.out]; exact f2
      clear c1 c2 f1 f2 hHj
      obtain ⟨x, hx⟩ : ∃ x, (swpN d a b i)[a + i]! = x := ⟨_, rfl⟩
      obtain ⟨y, hy⟩ : ∃ y, (swpN d a b i)[b + i]! = y := ⟨_, rfl⟩
      rw [hx] at c1'; rw [hy] at c2'
      have HX := Lib.hid hx; have HY := Lib.hid hy
      clear hx hy
      obtain ⟨ai, hai⟩ : ∃ q, a + i = q := ⟨_, rfl⟩
      obtain ⟨bi, hbi⟩ : ∃ q, b + i = q := ⟨_, rfl⟩
      rw [hai] at c1' f1'; rw [hbi] at c2' f2'
      have w1 : IntKind.i64.wrap ((a : Int) + i) = (ai : Int) := by rw [IntWalk.i64_in _ (by omega)]; omega
      have w2 : IntKind.i64.wrap ((b : Int) + i) = (bi : Int) := by rw [IntWalk.i64_in _ (by omega)]; omega
      have h1 : (ai : Int) < d.size := by omega
      have h2 : (bi : Int) < d.size := by omega
      go_wp2_with fail
      go_big_region
      all_goals go_wp2_with fail
      refine ⟨⟨i + 1, q + 1, by go_num, by omega, (show _ = _ from ?_)⟩, by simp [intOf]; omega⟩
      rw [HW.out, ← HX.out, ← HY.out, ← hai, ← hbi]
      exact swap_worldC encV w blk off (swpN d a b i) q (a + i) (b + i) (by omega) (by omega)
    · go_wp2_with fail
      obtain rfl : i = n := by omega
      go_end0
      exact ⟨rfl, q, HW.out⟩

theorem put_put (w : World) (blk off : Nat) (D X : Array V) (q r : Nat) (h : X.size = D.size) : (putRow encV ((putRow encV w blk off D).drewN q) blk off X).drewN r = (putRow encV w blk off X).drewN (q + r) := by
  have e : putRow encV ((putRow encV w blk off D).drewN q) blk off X = (putRow encV (putRow encV w blk off D) blk off X).drewN q := rfl
  rw [e, putRow_putRow encV w blk off D X h, World.drewN_drewN]

set_option maxHeartbeats 4000000 in
set_option maxRecDepth 100000 in
theorem rotate_calls (d : Array V) (blk off cap a m b : Nat) (f : Value) (w : World) (hH : Holds encV w blk off d) (ham : a < m) (hmb : m < b) (hb : b ≤ d.size) (hsz : d.size < 4611686018427387904) :
    Calls Try.prog 107 #[.slice (some ⟨blk, off, none⟩) d.size cap, .int .i64 a, .int .i64 m, .int .i64 b, f] w fun e w' =>
      e = .returned (.tuple #[]) ∧ ∃ q, w' = (putRow encV w blk off (rot d m (m - a) (b - m))).drewN q := by
  have HST : Hid (w = (putRow encV w blk off d).drewN 0) := (putRow_self encV w blk off d hH).symm
  have HH : Hid (Holds encV w blk off d) := hH
  clear hH
  obtain ⟨i0, hi0⟩ : ∃ q, m - a = q := ⟨_, rfl⟩
  obtain ⟨j0, hj0⟩ : ∃ q, b - m = q := ⟨_, rfl⟩
  have w1 : IntKind.i64.wrap ((m : Int) - a) = (i0 : Int) := by rw [IntWalk.i64_in _ (by omega)]; omega
  have w2 : IntKind.i64.wrap ((b : Int) - m) = (j0 : Int) := by rw [IntWalk.i64_in _ (by omega)]; omega
  rw [hi0, hj0]
  go_enter Try.func107, Try.ntmps107
  go_wp2_with fail
  go_loopw [10, 11] (fun vi vj wr => ∃ (i j q : Nat) (D : Array V), vi = .int .i64 i ∧ vj = .int .i64 j ∧ 0 < i ∧ 0 < j ∧ i ≤ m ∧ m + j ≤ d.size ∧ D.size = d.size ∧ Hid (wr = (putRow encV w blk off D).drewN q) ∧ Hid (rot D m i j = rot d m i0 j0)) (fun vi vj _ => (intOf vi).toNat + (intOf vj).toNat)
  case atStart => exact ⟨i0, j0, 0, d, rfl, rfl, by omega, by omega, by omega, by omega, rfl, HST, rfl⟩
  case round =>
    obtain ⟨i, j, q, D, rfl, rfl, hi, hj, him, hjm, hD, HW, HR⟩ := hrel
    have hHD : Holds encV wr blk off D := by rw [HW.out]; exact holds_putRow encV w blk off d D HH.out hD
    obtain ⟨mi, hmi⟩ : ∃ q, m - i = q := ⟨_, rfl⟩
    have w3 : IntKind.i64.wrap ((m : Int) - i) = (mi : Int) := by rw [IntWalk.i64_in _ (by omega)]; omega
    have eR := rot.eq_1 D m i j
    rw [if_neg (by omega), hmi] at eR
    by_cases g : i = j
    · subst g
      rw [if_pos rfl] at eR
      have ER := Lib.hid eR; clear eR
      go_wp2_with fail
      have hc := swapRange_calls D blk off cap mi m i f wr hHD (by omega) (by omega) (by omega)
      rw [hD] at hc
      refine hc.mono ?_
      rintro e w' ⟨rfl, r, rfl⟩
      go_wp2_with fail
      go_end0
      refine ⟨rfl, q + r, ?_⟩
      rw [HW.out, put_put w blk off D _ q r (size_swpN ..), ← HR.out, ER.out]
    · rw [if_neg g] at eR
      have g' : ((i : Int) == (j : Int)) = false := by simp; omega
      by_cases g2 : j < i
      · rw [if_pos g2] at eR
        have ER := Lib.hid eR; clear eR
        obtain ⟨k, hk⟩ : ∃ q, i - j = q := ⟨_, rfl⟩
        have w4 : IntKind.i64.wrap ((i : Int) - j) = (k : Int) := by rw [IntWalk.i64_in _ (by omega)]; omega
        go_wp2_with fail
        have hc := swapRange_calls D blk off cap mi m j f wr hHD (by omega) (by omega) (by omega)
        rw [hD] at hc
        refine hc.mono ?_
        rintro e w' ⟨rfl, r, rfl⟩
        go_wp2_with fail
        go_roundw
        case rel =>
          refine ⟨k, j, q + r, swpN D mi m j, by first | rfl | go_num, rfl, by omega, by omega, by omega, by omega, by rw [size_swpN]; exact hD, (show _ = _ from ?_), (show _ = _ from ?_)⟩
          · rw [HW.out, put_put w blk off D _ q r (size_swpN ..)]
          · rw [← HR.out, ER.out, hk]
        case measure => simp [intOf]; omega
      · rw [if_neg g2] at eR
        have ER := Lib.hid eR; clear eR
        obtain ⟨k, hk⟩ : ∃ q, j - i = q := ⟨_, rfl⟩
        obtain ⟨b2, hb2⟩ : ∃ q, m + j - i = q := ⟨_, rfl⟩
        rw [hk, hb2] at ER
        have w4 : IntKind.i64.wrap ((j : Int) - i) = (k : Int) := by rw [IntWalk.i64_in _ (by omega)]; omega
        have w5 : IntKind.i64.wrap ((m : Int) + j - i) = (b2 : Int) := by rw [IntWalk.i64_in _ (by omega)]; omega
        go_wp2_with fail
        have hc := swapRange_calls D blk off cap mi b2 i f wr hHD (by omega) (by omega) (by omega)
        rw [hD] at hc
        refine hc.mono ?_
        rintro e w' ⟨rfl, r, rfl⟩
        go_wp2_with fail
        go_roundw
        case rel =>
          refine ⟨i, k, q + r, swpN D mi b2 i, rfl, by first | rfl | go_num, by omega, by omega, by omega, by omega, by rw [size_swpN]; exact hD, (show _ = _ from ?_), (show _ = _ from ?_)⟩
          · rw [HW.out, put_put w blk off D _ q r (size_swpN ..)]
          · rw [← HR.out, ER.out]
        case measure => simp [intOf]; omega
end Go.Proofs.Ytjfdlibceldanaa
