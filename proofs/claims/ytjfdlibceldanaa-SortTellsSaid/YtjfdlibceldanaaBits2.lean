/- bits.Find and bits.Good: the walks. -/
import Derived.Test.YtjfdlibceldanaaBits
namespace Go.Proofs.Ytjfdlibceldanaa
open Go.RowKit

/-- What Find says of the place r that it returns. -/
def FindIs (b : PB) (k r : Int) : Prop :=
  if k < 0 ∨ onesF b b.N ≤ k then r = -1 else 0 ≤ r ∧ r < b.N ∧ onesF b r ≤ k ∧ k < onesF b (r + 1)
def FindPost (b : PB) (k : Int) (w : World) (e : Ending) (w' : World) : Prop := ∃ r : Int, FindIs b k r ∧ e = .returned (.int .i64 r) ∧ Ext w w'

set_option maxHeartbeats 1000000 in
theorem find_calls (b : PB) (hb : b.Ok) (A1 A2 : Option Addr) (c1 c2 : Nat) (k : Int) (w : World) (hr : RdB w A1 A2 b) (hN0 : 0 ≤ b.N) (hN : b.N ≤ 1152921504606846976) (h0 : onesF b 0 = 0) :
    Calls Try.prog 24 #[.agg #[.int .i64 b.N, .slice A1 b.P.length c1, .slice A2 b.A.length c2], .int .i64 k] w (FindPost b k w) := by
  obtain ⟨f, hf⟩ : ∃ f, onesF b = f := ⟨_, rfl⟩
  have HF := Lib.hid hf
  by_cases g1 : k < 0
  · go_enter Try.func24, Try.ntmps24
    go_wp2_with fail
    go_ret
    exact ⟨-1, by unfold FindIs; rw [if_pos (.inl g1)], rfl, (Ext.refl _).alloc _⟩
  · have hN64 : I64 b.N := hb.n
    have g1' : decide (k < 0) = false := by simpa using g1
    go_enter Try.func24, Try.ntmps24
    go_wp2_with fail
    refine (ones_calls b hb A1 A2 c1 c2 b.N hN64 _ (hr.ext ((Ext.refl _).alloc _))).mono ?_
    generalize hW : World.alloc w _ = W
    have bx := bx3_of hW
    have hx : Ext w W := by rw [← hW]; exact (Ext.refl _).alloc _
    clear hW
    rintro e w1 ⟨rfl, hx1⟩
    obtain ⟨T, hT⟩ : ∃ T, onesF b b.N = T := ⟨_, rfl⟩
    rw [hT]
    have HT := Lib.hid hT; clear hT
    by_cases g2 : T ≤ k
    · go_wp2_with fail
      go_ret
      exact ⟨-1, by unfold FindIs; rw [if_pos (.inr (by rw [HT.out]; exact g2))], rfl, hx.trans hx1⟩
    · obtain ⟨q0, q1, q2⟩ := bx.ext hx1
      have g2' : decide (T ≤ k) = false := by simpa using g2
      go_wp2_with fail
      go_quiet (fail)
      go_wp2_with fail
      go_loopw [5, 6] (fun l h wr => ∃ lo hi : Int, l = .int .i64 lo ∧ h = .int .i64 hi ∧ 0 ≤ lo ∧ lo ≤ hi ∧ hi ≤ b.N ∧ Hid (f lo ≤ k ∧ k < f hi) ∧ Ext W wr) (fun l h _ => (intOf h - intOf l).toNat)
      case atStart => exact ⟨0, b.N, rfl, rfl, by omega, hN0, by omega, Lib.hid ⟨by rw [← HF.out, h0]; omega, by rw [← HF.out, HT.out]; omega⟩, hx1.drewN _⟩
      case round =>
        obtain ⟨lo, hi, rfl, rfl, l0, l1, l2, HK, hxr⟩ := hrel
        obtain ⟨r0, r1, r2⟩ := bx.ext hxr
        by_cases g3 : 1 < hi - lo
        · go_wp2_with fail
          refine (ones_calls b hb A1 A2 c1 c2 ((lo + hi) / 2) ⟨by omega, by omega⟩ _ (hr.ext (hx.trans hxr))).mono ?_
          rintro e w2 ⟨rfl, hx2⟩
          have hE := HF.out
          rw [show onesF b = f from hE]
          clear hE
          obtain ⟨m, hm⟩ : ∃ m, (lo + hi) / 2 = m := ⟨_, rfl⟩
          have hm1 : lo < m := by omega
          have hm2 : m < hi := by omega
          rw [hm]; clear hm
          by_cases g4 : f m ≤ k
          · have g4' : decide (f m ≤ k) = true := by simpa using g4
            have HK2 : Hid (f m ≤ k ∧ k < f hi) := Lib.hid ⟨g4, HK.out.2⟩
            go_wp2_with fail
            go_roundw
            case rel => exact ⟨m, hi, rfl, rfl, by omega, by omega, l2, HK2, hxr.trans hx2⟩
            case measure => simp [intOf]; omega
          · have g4' : decide (f m ≤ k) = false := by simpa using g4
            have HK2 : Hid (f lo ≤ k ∧ k < f m) := Lib.hid ⟨HK.out.1, by omega⟩
            go_wp2_with fail
            go_roundw
            case rel => exact ⟨lo, m, rfl, rfl, by omega, by omega, by omega, HK2, hxr.trans hx2⟩
            case measure => simp [intOf]; omega
        · go_wp2_with fail
          go_ret
          have h1 := HK.out
          have h2 : hi = lo + 1 := by
            rcases (show hi = lo ∨ hi = lo + 1 by omega) with h | h
            · subst h; omega
            · exact h
          subst h2
          refine ⟨lo, ?_, rfl, hx.trans hxr⟩
          have hE : onesF b = f := HF.out
          unfold FindIs
          rw [hE, if_neg (by have := HT.out; rw [hE] at this; omega)]
          exact ⟨l0, by omega, h1.1, h1.2⟩

/-- How many ones the first i numbers have. -/
def psum (P : List Nat) : Nat → Nat
  | 0 => 0
  | i + 1 => psum P i + Pop.pc 64 (nth P i)
theorem psum_le (P : List Nat) : ∀ i, psum P i ≤ 64 * i
  | 0 => Nat.le_refl _
  | i + 1 => by have := psum_le P i; have := Pop.pc_le 64 (nth P i); simp only [psum]; omega
def aheadF (b : PB) : Bool := (List.range b.P.length).all fun i => nth b.A i == (psum b.P i : Int)
theorem aheadF_iff (b : PB) : aheadF b = true ↔ ∀ i, i < b.P.length → nth b.A i = psum b.P i := by
  unfold aheadF; simp
def goodF (b : PB) : Bool :=
  decide (0 ≤ b.N) && (decide ((b.P.length : Int) = b.N / 64 + 1) && (decide (b.A.length = b.P.length) && (aheadF b && (nth b.P (b.N.toNat / 64) / 2 ^ (b.N.toNat % 64) == 0))))

set_option maxHeartbeats 1000000 in
theorem good_calls (b : PB) (hb : b.Ok) (A1 A2 : Option Addr) (c1 c2 : Nat) (w : World) (hr : RdB w A1 A2 b) :
    Calls Try.prog 15 #[.agg #[.int .i64 b.N, .slice A1 b.P.length c1, .slice A2 b.A.length c2]] w fun e w' => e = .returned (.bool (goodF b)) ∧ Ext w w' := by
  have hlp := hb.lp
  have hla := hb.la
  obtain ⟨hn1, hn2⟩ := hb.n
  obtain ⟨R, hR⟩ : ∃ R, goodF b = R := ⟨_, rfl⟩
  rw [hR]
  have HR := Lib.hid hR; clear hR
  by_cases g1 : b.N < 0
  · have g1' : decide (b.N < 0) = true := by simpa using g1
    go_enter Try.func15, Try.ntmps15
    go_wp2_with fail
    go_ret
    refine ⟨?_, (Ext.refl _).alloc _⟩
    rw [← HR.out]; unfold goodF; rw [decide_eq_false (p := 0 ≤ b.N) (by omega)]; rfl
  obtain ⟨N, hN⟩ := Int.eq_ofNat_of_zero_le (show 0 ≤ b.N by omega)
  rw [hN]
  have hN2 : (N : Int) ≤ 9223372036854775807 := by omega
  by_cases g2 : ¬ b.P.length = N / 64 + 1
  · have g2' : ((b.P.length : Int) != (N : Int) / 64 + 1) = true := by rw [bne_iff_ne]; omega
    have HN := Lib.hid hN; clear hN
    go_enter Try.func15, Try.ntmps15
    go_wp2_with fail
    go_ret
    refine ⟨?_, (Ext.refl _).alloc _⟩
    rw [← HR.out]; unfold goodF; rw [HN.out, decide_eq_false (p := (b.P.length : Int) = (N : Int) / 64 + 1) (by omega)]; simp
  have g2' : ((b.P.length : Int) != (N : Int) / 64 + 1) = false := by rw [bne_eq_false_iff_eq]; omega
  by_cases g3 : ¬ b.A.length = b.P.length
  · have g3' : ((b.A.length : Int) != (b.P.length : Int)) = true := by rw [bne_iff_ne]; omega
    have HN := Lib.hid hN; clear hN
    go_enter Try.func15, Try.ntmps15
    go_wp2_with fail
    go_ret
    refine ⟨?_, (Ext.refl _).alloc _⟩
    rw [← HR.out]; unfold goodF; rw [decide_eq_false (p := b.A.length = b.P.length) g3]; simp
  have g3' : ((b.A.length : Int) != (b.P.length : Int)) = false := by rw [bne_eq_false_iff_eq]; omega
  have HN := Lib.hid hN; clear hN
  have hlN : N / 64 < b.P.length := by omega
  have hl0 : 0 < b.P.length := by omega
  have hla0 : b.P.length ≤ b.A.length := by omega
  have G2 := Lib.hid g2; have G3 := Lib.hid g3; clear g2 g3
  obtain ⟨b1, o1, rfl, hb1, hc1⟩ := hr.1 hl0
  obtain ⟨b2, o2, rfl, hb2, hc2⟩ := hr.2 (by omega)
  have HC1 := Lib.hid hc1; have HC2 := Lib.hid hc2; clear hc1 hc2
  obtain ⟨s, hs⟩ : ∃ s, psum b.P = s := ⟨_, rfl⟩
  have HS := Lib.hid hs; clear hs
  go_enter Try.func15, Try.ntmps15
  go_wp2_with fail
  go_loop [3, 31] (fun n i => ∃ k : Nat, k ≤ b.P.length ∧ i = .int .i64 k ∧ n = .int .i64 (s k : Nat) ∧ Hid (∀ j, j < k → nth b.A j = (s j : Int))) (fun _ i => b.P.length - (intOf i).toNat)
  case atStart => exact ⟨0, by omega, rfl, by rw [← HS.out]; rfl, Lib.hid (fun j hj => absurd hj (by omega))⟩
  case round =>
    obtain ⟨k, hk, rfl, rfl, HJ⟩ := hrel
    have hsk : s k ≤ 64 * k := by rw [← HS.out]; exact psum_le _ _
    by_cases g4 : k < b.P.length
    · have p1 := HC1.out k g4
      have p2 := HC2.out k (by omega)
      have hp := hb.p_at k
      have ha := hb.a_at k
      have hpc := Pop.pc_le 64 (nth b.P k)
      by_cases g5 : nth b.A k = (s k : Int)
      · have g5' : (nth b.A k != (s k : Int)) = false := by rw [bne_eq_false_iff_eq]; exact g5
        have HE : Hid (s (k + 1) = s k + Pop.pc 64 (nth b.P k)) := by rw [← HS.out]; rfl
        have HJ2 : Hid (∀ j, j < k + 1 → nth b.A j = (s j : Int)) := Lib.hid (fun j hj => by
          rcases Nat.lt_succ_iff_lt_or_eq.1 hj with h | h
          · exact HJ.out j h
          · rw [h]; exact g5)
        clear g5
        go_wp2_with (go_at_call 61; refine (onesCount64 _ hp _).mono ?_; rintro e w' ⟨rfl, rfl⟩)
        go_round
        case rel => exact ⟨k + 1, by omega, by go_num, by rw [HE.out]; go_num, HJ2⟩
        case measure => simp [intOf]; omega
      · have g5' : (nth b.A k != (s k : Int)) = true := by rw [bne_iff_ne]; exact g5
        go_wp2_with fail
        go_ret
        refine ⟨?_, (Ext.refl _).alloc _⟩
        have : aheadF b = false := by
          rw [← Bool.not_eq_true, aheadF_iff, HS.out]
          intro h
          exact g5 (h k g4)
        rw [← HR.out]; unfold goodF; rw [this]; simp
    · have p1 := HC1.out (N / 64) (by omega)
      have hp := hb.p_at (N / 64)
      have ha : aheadF b = true := by
        rw [aheadF_iff, HS.out]
        intro j hj
        exact HJ.out j (by omega)
      obtain ⟨y, hy⟩ : ∃ y, nth b.P (N / 64) / 2 ^ (N % 64) = y := ⟨_, rfl⟩
      have hR : ((y : Int) == 0) = R := by
        rw [← HR.out]; unfold goodF
        rw [HN.out, ha, Int.toNat_natCast, hy, decide_eq_true (p := (b.P.length : Int) = (N : Int) / 64 + 1) (by have := G2.out; omega), decide_eq_true (p := b.A.length = b.P.length) (by have := G3.out; omega)]
        rw [Bool.eq_iff_iff]; simp
      have e1 : (((nth b.P (N / 64) : Nat) : Int) / 2 ^ (N % 64)) = (y : Int) := by rw [← hy]; simp
      have hR2 := Lib.hid hR; clear hR hy ha
      go_wp2_with fail
      go_quiet (fail)
      go_wp2_with fail
      go_ret
      refine ⟨by rw [← hR2.out]; rfl, ((Ext.refl _).alloc _).drewN _⟩
end Go.Proofs.Ytjfdlibceldanaa
