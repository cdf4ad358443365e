/- The references' small functions on lists and bits: the walks. -/
import Derived.Test.YtjfdlibceldanaaBitsMake
namespace Go.Proofs.Ytjfdlibceldanaa
open Go.RowKit

/-- The world is as it was, but for draws. -/
def Qt (w w' : World) : Prop := ∃ q, w' = w.drewN q
theorem Qt.ext {w w' : World} (h : Qt w w') : Ext w w' := by obtain ⟨q, rfl⟩ := h; exact (Ext.refl _).drewN q
theorem Qt.refl (w : World) : Qt w w := ⟨0, rfl⟩

set_option maxHeartbeats 1000000 in
theorem sameInts_calls (xs ys : List Int) (A1 A2 : Option Addr) (c1 c2 : Nat) (w : World) (hn : xs.length ≤ 1125899906842624)
    (h1 : Rd w A1 xs.length (fun k => .int .i64 (nth xs k))) (h2 : Rd w A2 ys.length (fun k => .int .i64 (nth ys k))) :
    Calls Try.prog 36 #[.slice A1 xs.length c1, .slice A2 ys.length c2] w fun e w' => e = .returned (.bool (decide (xs = ys))) ∧ Qt w w' := by
  obtain ⟨R, hR⟩ : ∃ R, decide (xs = ys) = R := ⟨_, rfl⟩
  rw [hR]
  have HR := Lib.hid hR; clear hR
  by_cases hnm : ¬ xs.length = ys.length
  · have g : ((xs.length : Int) != (ys.length : Int)) = true := by rw [bne_iff_ne]; omega
    go_enter Try.func36, Try.ntmps36
    go_wp2_with fail
    go_ret
    refine ⟨?_, Qt.refl _⟩
    rw [← HR.out, decide_eq_false (fun h => hnm (by rw [h]))]
    rfl
  obtain ⟨n, hx⟩ : ∃ n, xs.length = n := ⟨_, rfl⟩
  have hy : ys.length = n := by omega
  rw [hx, hy]
  rw [hx] at h1 hn
  rw [hy] at h2
  have HX := Lib.hid hx; have HY := Lib.hid hy; clear hx hy hnm
  have H1 := Lib.hid h1; have H2 := Lib.hid h2; clear h1 h2
  go_enter Try.func36, Try.ntmps36
  go_wp2_with fail
  go_loopw [13] (fun i wr => ∃ k q : Nat, k ≤ n ∧ i = .int .i64 k ∧ Hid (∀ j, j < k → nth xs j = nth ys j) ∧ wr = w.drewN q) (fun i _ => n - (intOf i).toNat)
  case atStart => exact ⟨0, 0, Nat.zero_le _, rfl, Lib.hid (fun j hj => absurd hj (by omega)), rfl⟩
  case round =>
    obtain ⟨k, q, hk, rfl, HJ, rfl⟩ := hrel
    by_cases hlt : k < n
    · obtain ⟨b1, o1, rfl, hb1, hc1⟩ := H1.out (by omega)
      obtain ⟨b2, o2, rfl, hb2, hc2⟩ := H2.out (by omega)
      have p1 := hc1 k hlt
      have p2 := hc2 k hlt
      clear hc1 hc2
      by_cases he : nth xs k = nth ys k
      · have he' : (nth xs k != nth ys k) = false := by rw [bne_eq_false_iff_eq]; exact he
        have HJ2 : Hid (∀ j, j < k + 1 → nth xs j = nth ys j) := Lib.hid (fun j hj => by
          rcases Nat.lt_succ_iff_lt_or_eq.1 hj with h | h
          · exact HJ.out j h
          · rw [h]; exact he)
        clear he
        go_wp2_with fail
        go_quiet (fail)
        go_wp2_with fail
        go_roundw
        case rel => exact ⟨k + 1, q + nq, by omega, by go_num, HJ2, by simp⟩
        case measure => simp [intOf]; omega
      · have he' : (nth xs k != nth ys k) = true := by rw [bne_iff_ne]; exact he
        go_wp2_with fail
        go_quiet (fail)
        go_wp2_with fail
        go_ret
        refine ⟨?_, ⟨q + nq, by simp⟩⟩
        rw [← HR.out, decide_eq_false (fun h => he (by rw [h]))]
        rfl
    · go_wp2_with fail
      go_ret
      refine ⟨?_, ⟨q, rfl⟩⟩
      have hxl := HX.out
      have hyl := HY.out
      rw [← HR.out, decide_eq_true (nth_ext (by omega) (fun j hj => HJ.out j (by omega)))]
      rfl

def sameB (a b : PB) : Bool := decide (a.N = b.N ∧ a.P = b.P ∧ a.A = b.A)
theorem sameB_iff (a b : PB) : sameB a b = true ↔ a = b := by
  unfold sameB
  rw [decide_eq_true_iff]
  constructor
  · rintro ⟨h1, h2, h3⟩; cases a; cases b; simp_all
  · rintro rfl; exact ⟨rfl, rfl, rfl⟩

set_option maxHeartbeats 1000000 in
theorem sameBits_calls (a b : PB) (ha : a.Ok) (hb : b.Ok) (A1 A2 B1 B2 : Option Addr) (c1 c2 d1 d2 : Nat) (w : World) (hra : RdB w A1 A2 a) (hrb : RdB w B1 B2 b) :
    Calls Try.prog 18 #[.agg #[.int .i64 a.N, .slice A1 a.P.length c1, .slice A2 a.A.length c2], .agg #[.int .i64 b.N, .slice B1 b.P.length d1, .slice B2 b.A.length d2]] w fun e w' => e = .returned (.bool (sameB a b)) ∧ Ext w w' := by
  obtain ⟨R, hR⟩ : ∃ R, sameB a b = R := ⟨_, rfl⟩
  rw [hR]
  have HR := Lib.hid hR; clear hR
  have hla := ha.lp
  have hlb := hb.lp
  have hla2 := ha.la
  have hlb2 := hb.la
  by_cases g1 : ¬ a.N = b.N
  · have g : (a.N != b.N) = true := by rw [bne_iff_ne]; exact g1
    go_enter Try.func18, Try.ntmps18
    go_wp2_with fail
    go_ret
    refine ⟨?_, ((Ext.refl _).alloc _).alloc _⟩
    rw [← HR.out, sameB, decide_eq_false (fun h => g1 h.1)]
    rfl
  have g1' : (a.N != b.N) = false := by rw [bne_eq_false_iff_eq]; omega
  by_cases g2 : ¬ a.P.length = b.P.length
  · have g : ((a.P.length : Int) != (b.P.length : Int)) = true := by rw [bne_iff_ne]; omega
    have G1 := Lib.hid g1; clear g1
    go_enter Try.func18, Try.ntmps18
    go_wp2_with fail
    go_ret
    refine ⟨?_, ((Ext.refl _).alloc _).alloc _⟩
    rw [← HR.out, sameB, decide_eq_false (fun h => g2 (by rw [h.2.1]))]
    rfl
  have g2' : ((a.P.length : Int) != (b.P.length : Int)) = false := by rw [bne_eq_false_iff_eq]; omega
  have G1 := Lib.hid g1; have G2 := Lib.hid g2; clear g1 g2
  have hla0 : a.P.length ≤ b.P.length := by have := G2.out; omega
  by_cases g3 : ¬ a.A = b.A
  · go_enter Try.func18, Try.ntmps18
    go_wp2_with fail
    refine (sameInts_calls a.A b.A A2 B2 c2 d2 _ hla2 (hra.2.ext (((Ext.refl _).alloc _).alloc _)) (hrb.2.ext (((Ext.refl _).alloc _).alloc _))).mono ?_
    rintro e w1 ⟨rfl, q, rfl⟩
    rw [decide_eq_false g3]
    have G3 := Lib.hid g3; clear g3
    go_wp2_with fail
    go_ret
    refine ⟨?_, (((Ext.refl _).alloc _).alloc _).drewN _⟩
    rw [← HR.out, sameB, decide_eq_false (fun h => G3.out h.2.2)]
    rfl
  have g3' : a.A = b.A := Classical.not_not.1 g3
  have G3 := Lib.hid g3'; clear g3 g3'
  go_enter Try.func18, Try.ntmps18
  go_wp2_with fail
  refine (sameInts_calls a.A b.A A2 B2 c2 d2 _ hla2 (hra.2.ext (((Ext.refl _).alloc _).alloc _)) (hrb.2.ext (((Ext.refl _).alloc _).alloc _))).mono ?_
  rintro e w1 ⟨rfl, q, rfl⟩
  rw [decide_eq_true G3.out]
  generalize hW : World.alloc w _ = W1
  have bx1 := bx3_of hW
  have hx1 := ext_of_alloc hW
  have hs1 : W1.heap.size = w.heap.size + 1 := by rw [← hW]; simp
  clear hW
  generalize hW : World.alloc W1 _ = W2
  have bx2 := bx3_of hW
  rw [hs1] at bx2
  have hx2 := ext_of_alloc hW
  have bx1' := bx1.ext hx2
  clear hW bx1
  have hx := hx1.trans hx2
  clear hs1
  obtain ⟨x0, x1, x2⟩ := bx1'
  obtain ⟨y0, y1, y2⟩ := bx2
  obtain ⟨n, hn⟩ : ∃ n, a.P.length = n := ⟨_, rfl⟩
  have hn2 : b.P.length = n := by have := G2.out; omega
  have H1 := Lib.hid (hra.1.ext hx); have H2 := Lib.hid (hrb.1.ext hx)
  rw [hn] at H1 x1 hla g2' hla0 ⊢
  rw [hn2] at H2 y1 hlb g2' hla0 ⊢
  have HN1 := Lib.hid hn; have HN2 := Lib.hid hn2; clear hn hn2
  go_wp2_with fail
  go_loopw [31] (fun i wr => ∃ k q : Nat, k ≤ n ∧ i = .int .i64 k ∧ Hid (∀ j, j < k → nth a.P j = nth b.P j) ∧ wr = W2.drewN q) (fun i _ => n - (intOf i).toNat)
  case atStart => exact ⟨0, q, Nat.zero_le _, rfl, Lib.hid (fun j hj => absurd hj (by omega)), rfl⟩
  case round =>
    obtain ⟨k, q, hk, rfl, HJ, rfl⟩ := hrel
    by_cases hlt : k < n
    · obtain ⟨b1, o1, rfl, hb1, hc1⟩ := H1.out (by omega)
      obtain ⟨b2, o2, rfl, hb2, hc2⟩ := H2.out (by omega)
      have p1 := hc1 k hlt
      have p2 := hc2 k hlt
      dsimp only at p1 p2
      clear hc1 hc2
      by_cases he : nth a.P k = nth b.P k
      · have he' : (((nth a.P k : Nat) : Int) != ((nth b.P k : Nat) : Int)) = false := by rw [bne_eq_false_iff_eq, he]
        have HJ2 : Hid (∀ j, j < k + 1 → nth a.P j = nth b.P j) := Lib.hid (fun j hj => by
          rcases Nat.lt_succ_iff_lt_or_eq.1 hj with h | h
          · exact HJ.out j h
          · rw [h]; exact he)
        clear he
        go_wp2_with fail
        go_quiet (fail)
        go_wp2_with fail
        go_roundw
        case rel => exact ⟨k + 1, q + nq, by omega, by go_num, HJ2, by simp⟩
        case measure => simp [intOf]; omega
      · have he' : (((nth a.P k : Nat) : Int) != ((nth b.P k : Nat) : Int)) = true := by rw [bne_iff_ne]; omega
        go_wp2_with fail
        go_quiet (fail)
        go_wp2_with fail
        go_ret
        refine ⟨?_, hx.trans (((Ext.refl _).drewN _).drewN _)⟩
        rw [← HR.out, sameB, decide_eq_false (fun h => he (by rw [h.2.1]))]
        rfl
    · go_wp2_with fail
      go_ret
      refine ⟨?_, hx.drewN _⟩
      have hxl := HN1.out
      have hyl := HN2.out
      have : a = b := by
        rw [← sameB_iff]
        exact decide_eq_true ⟨Classical.not_not.1 G1.out, nth_ext (by omega) (fun j hj => HJ.out j (by omega)), G3.out⟩
      rw [← HR.out, (sameB_iff a b).2 this]
      rfl
end Go.Proofs.Ytjfdlibceldanaa
