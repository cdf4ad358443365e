/- sort.Ends: the closure that compares two ends by rank. -/
import Derived.Test.YtjfdlibceldanabGreatDoorShelf
import Derived.Test.YtjfdlibceldanabGreatDoorBitsA
import Derived.Test.YtjfdlibceldanabGreatDoorPlainE
namespace Go.Proofs.YtjfdlibceldanabGreatDoor
open Go.RowKit Go.Sort En

theorem compare_calls (x y : Int) (w : World) : Calls Tryz.prog 82 #[.int .i64 x, .int .i64 y] w fun e w' => e = .returned (.int .i64 (cmpN x y)) ∧ w' = w := by
  have h := Tryz.cmp_Compare_int x y w
  rw [show Lib.compareInt x y = cmpN x y from by unfold Lib.compareInt cmpN; split <;> (try split) <;> (try split) <;> omega] at h
  exact h

/-- What the closure reads. -/
structure KeyIn (w : World) (RB FB LB N far rc lc : Nat) (Ra La : Option Addr) (R : Nat → Int) : Prop where
  r : w.cell? ⟨RB, 0, none⟩ = some (.slice Ra N rc)
  f : w.cell? ⟨FB, 0, none⟩ = some (.int .i64 far)
  l : w.cell? ⟨LB, 0, none⟩ = some (.slice La N lc)
  v : Rd w Ra N (fun k => .int .i64 (R k))

set_option maxHeartbeats 2000000 in
set_option maxRecDepth 100000 in
theorem key_calls (w : World) (RB FB LB N far rc lc x y : Nat) (Ra La : Option Addr) (R : Nat → Int) (hk : KeyIn w RB FB LB N far rc lc Ra La R) (hN : N ≤ 1099511627776) (hF : far ≤ 1099511627776) (hx : x < N) (hy : y < N) :
    Calls Tryz.prog 81 #[.int .i64 x, .int .i64 y, .pointer (some ⟨RB, 0, none⟩), .pointer (some ⟨FB, 0, none⟩), .pointer (some ⟨LB, 0, none⟩)] w fun e w' => e = .returned (.int .i64 (keyF N R far x y)) ∧ Qt w w' := by
  obtain ⟨V, hV⟩ : ∃ V, keyF N R far x y = V := ⟨_, rfl⟩
  rw [hV]
  unfold keyF at hV
  have HV := Lib.hid hV
  clear hV
  obtain ⟨hr, hf, hl, hv⟩ := hk
  obtain ⟨b1, o1, hA, hb1, hc1⟩ := hv (by omega)
  subst hA
  have p1 := hc1 x hx
  have p2 := hc1 y hy
  have HC := Lib.hid hc1
  dsimp only at p1 p2
  obtain ⟨rx, hrx⟩ : ∃ r, R x = r := ⟨_, rfl⟩
  obtain ⟨ry, hry⟩ : ∃ r, R y = r := ⟨_, rfl⟩
  rw [hrx] at p1
  rw [hry] at p2
  have HX := Lib.hid hrx; have HY := Lib.hid hry
  clear hrx hry hc1 hv
  obtain ⟨xf, hxf⟩ : ∃ q, x + far = q := ⟨_, rfl⟩
  obtain ⟨yf, hyf⟩ : ∃ q, y + far = q := ⟨_, rfl⟩
  have hwx : IntKind.i64.wrap ((x : Int) + (far : Int)) = (xf : Int) := by rw [IntWalk.i64_in _ (by omega)]; omega
  have hwy : IntKind.i64.wrap ((y : Int) + (far : Int)) = (yf : Int) := by rw [IntWalk.i64_in _ (by omega)]; omega
  have HXF := Lib.hid hxf; have HYF := Lib.hid hyf
  clear hxf hyf
  go_enter Tryz.func81, Tryz.ntmps81
  go_wp2_with fail
  go_quiet (first | (go_at_call 82; refine Calls.quiet_of_same (compare_calls _ _ _)))
  by_cases h0 : cmpN rx ry = 0
  · have h0' : (cmpN rx ry != 0) = false := by simpa using h0
    have hV0 : (if xf < N ∧ yf < N then cmpN (R xf) (R yf) else if yf < N then -1 else if xf < N then 1 else 0) = V := by
      have := HV.out
      rw [HX.out, HY.out, if_neg (by omega), HXF.out, HYF.out] at this
      exact this
    clear h0
    by_cases g1 : xf < N
    · have g1' : decide (xf < N) = true := by simpa using g1
      by_cases g2 : yf < N
      · have g2' : decide (yf < N) = true := by simpa using g2
        have q1 := HC.out xf g1
        have q2 := HC.out yf g2
        rw [if_pos ⟨g1, g2⟩] at hV0
        obtain ⟨sx, hsx⟩ : ∃ r, R xf = r := ⟨_, rfl⟩
        obtain ⟨sy, hsy⟩ : ∃ r, R yf = r := ⟨_, rfl⟩
        rw [hsx] at q1 hV0; rw [hsy] at q2 hV0
        have HV0 := Lib.hid hV0
        clear hsx hsy hV0
        go_wp2_with fail
        go_quiet (fail)
        go_wp2_with fail
        have g2i : (yf : Int) < (N : Int) := by omega
        have g1i : (xf : Int) < (N : Int) := by omega
        go_region_held3 (fun w' => (∃ q, w' = w.drewN q) ∧ w'.cell? ⟨RB, 0, none⟩ = some (.slice (some ⟨b1, o1, none⟩) N rc) ∧ w'.cell? ⟨FB, 0, none⟩ = some (.int .i64 far) ∧ w'.cell? ⟨b1, o1 + xf, none⟩ = some (.int .i64 sx) ∧ w'.cell? ⟨b1, o1 + yf, none⟩ = some (.int .i64 sy))
          (first | (exact ⟨⟨_ + 1, rfl⟩, hr, hf, q1, q2⟩) | go_keep)
          (first | (go_at_call 82; refine (compare_calls _ _ _).mono ?_; rintro e wn ⟨rfl, rfl⟩))
        go_wp2_with fail
        go_ret
        refine ⟨?_, ?_⟩
        · rw [← HV0.out]; rfl
        · exact ⟨_ + 1, rfl⟩
      · have g2' : decide (yf < N) = false := by simpa using g2
        rw [if_neg (fun h => g2 h.2), if_neg g2, if_pos g1] at hV0
        have HV0 := Lib.hid hV0
        clear hV0
        go_wp2_with fail
        go_quiet (fail)
        go_wp2_with fail
        go_ret
        exact ⟨by rw [← HV0.out]; rfl, ⟨_, rfl⟩⟩
    · have g1' : decide (xf < N) = false := by simpa using g1
      by_cases g2 : yf < N
      · have g2' : decide (yf < N) = true := by simpa using g2
        rw [if_neg (fun h => g1 h.1), if_pos g2] at hV0
        have HV0 := Lib.hid hV0
        clear hV0
        go_wp2_with fail
        go_quiet (fail)
        go_wp2_with fail
        go_ret
        exact ⟨by rw [← HV0.out]; rfl, ⟨_, rfl⟩⟩
      · have g2' : decide (yf < N) = false := by simpa using g2
        rw [if_neg (fun h => g1 h.1), if_neg g2, if_neg g1] at hV0
        have HV0 := Lib.hid hV0
        clear hV0
        go_wp2_with fail
        go_quiet (fail)
        go_wp2_with fail
        go_ret
        exact ⟨by rw [← HV0.out]; rfl, ⟨_, rfl⟩⟩
  · have h0' : (cmpN rx ry != 0) = true := by simpa using h0
    go_wp2_with fail
    go_ret
    refine ⟨?_, ⟨_, rfl⟩⟩
    rw [← HV.out, HX.out, HY.out, if_pos h0]; rfl
end Go.Proofs.YtjfdlibceldanabGreatDoor
