/- The k-th one: Find's answer and the reference's are one: plain lists, no program in sight. -/
import Derived.Test.YtjfdlibceldanaaRef2
namespace Go.Proofs.Ytjfdlibceldanaa
open Go.RowKit
theorem cnt_take_mono (l : List Bool) {i j : Nat} (h : i ≤ j) : cnt (l.take i) ≤ cnt (l.take j) := by
  have : l.take j = l.take i ++ (l.drop i).take (j - i) := by rw [← List.take_add]; congr 1; omega
  rw [this, cnt_append]; omega
theorem placeGo_none : ∀ (l : List Bool) (k i : Nat), cnt l ≤ k → placeGo l k i = -1
  | [], _, _, _ => rfl
  | b :: t, k, i, h => by
    simp only [cnt] at h
    cases b with
    | true =>
      simp only [if_true] at h
      rw [placeGo, if_pos rfl, if_neg (by omega)]
      exact placeGo_none t (k - 1) (i + 1) (by omega)
    | false =>
      rw [placeGo, if_neg (by simp)]
      exact placeGo_none t k (i + 1) (by simpa using h)
theorem placeGo_some : ∀ (l : List Bool) (k i : Nat), k < cnt l → ∃ p, p < l.length ∧ placeGo l k i = ((i + p : Nat) : Int) ∧ cnt (l.take p) = k ∧ nth l p = true
  | [], _, _, h => by simp [cnt] at h
  | b :: t, k, i, h => by
    simp only [cnt] at h
    have sn : ∀ p, nth (b :: t) (p + 1) = nth t p := fun p => by simp [nth]
    cases b with
    | true =>
      simp only [if_true] at h
      rw [placeGo, if_pos rfl]
      by_cases hk : k = 0
      · rw [if_pos hk]; exact ⟨0, by simp, by simp, by simp [cnt, hk], rfl⟩
      · rw [if_neg hk]
        obtain ⟨p, h1, h2, h3, h4⟩ := placeGo_some t (k - 1) (i + 1) (by omega)
        exact ⟨p + 1, by simpa using h1, by rw [h2]; congr 1; omega, by rw [List.take_succ_cons, cnt, h3]; simp; omega, by rw [sn]; exact h4⟩
    | false =>
      rw [placeGo, if_neg (by simp)]
      obtain ⟨p, h1, h2, h3, h4⟩ := placeGo_some t k (i + 1) (by simpa using h)
      exact ⟨p + 1, by simpa using h1, by rw [h2]; congr 1; omega, by rw [List.take_succ_cons, cnt, h3]; simp, by rw [sn]; exact h4⟩
/-- What the reference says of the k-th one. -/
def placeF (l : List Bool) (k : Int) : Int := if 0 ≤ k then placeGo l k.toNat 0 else -1
theorem clamp_min (i : Int) (n : Nat) : (clamp i n).toNat = min i.toNat n := by
  unfold clamp
  by_cases h1 : (n : Int) < i
  · simp only [h1, if_true]
    by_cases h2 : 0 < (n : Int)
    · rw [if_pos h2]; omega
    · rw [if_neg h2]; omega
  · simp only [h1, if_false]
    by_cases h2 : 0 < i
    · rw [if_pos h2]; omega
    · rw [if_neg h2]; omega
theorem onesF_nat (l : List Bool) (hl : l.length ≤ 1125899906842624) (i : Int) : onesF (bitsOf l) i = cnt (l.take i.toNat) := by
  rw [onesF_made l hl, clamp_min]
  congr 2
  by_cases h : i.toNat ≤ l.length
  · rw [Nat.min_eq_left h]
  · rw [Nat.min_eq_right (by omega), List.take_length, List.take_of_length_le (by omega)]
theorem find_made (l : List Bool) (hl : l.length ≤ 1125899906842624) (k r : Int) (h : FindIs (bitsOf l) k r) : r = placeF l k := by
  have hN : (bitsOf l).N = (l.length : Int) := rfl
  unfold FindIs at h
  rw [hN] at h
  simp only [onesF_nat l hl] at h
  rw [Int.toNat_natCast, List.take_length] at h
  unfold placeF
  by_cases hk : 0 ≤ k
  · rw [if_pos hk]
    obtain ⟨K, rfl⟩ := Int.eq_ofNat_of_zero_le hk
    rw [Int.toNat_natCast]
    by_cases hc : cnt l ≤ K
    · rw [if_pos (by omega)] at h
      rw [h, placeGo_none l K 0 hc]
    · rw [if_neg (by omega)] at h
      obtain ⟨h0, h1, h2, h3⟩ := h
      obtain ⟨R, rfl⟩ := Int.eq_ofNat_of_zero_le h0
      rw [Int.toNat_natCast] at h2
      rw [show ((R : Int) + 1).toNat = R + 1 from by omega, cnt_take_succ l R (by omega)] at h3
      obtain ⟨p, p1, p2, p3, p4⟩ := placeGo_some l K 0 (by omega)
      rw [p2]
      have hp1 := cnt_take_succ l p p1
      rw [p4] at hp1
      simp only [if_true] at hp1
      have hR : nth l R = true := by
        cases hn : nth l R with
        | true => rfl
        | false => rw [hn] at h3; simp at h3; omega
      rw [hR] at h3
      simp only [if_true] at h3
      have hRp : R = p := by
        rcases Nat.lt_trichotomy R p with hlt | heq | hgt
        · have := cnt_take_mono l (i := R + 1) (j := p) (by omega)
          rw [cnt_take_succ l R (by omega), hR] at this
          simp only [if_true] at this
          omega
        · exact heq
        · have := cnt_take_mono l (i := p + 1) (j := R) (by omega)
          omega
      omega
  · rw [if_neg hk]
    rw [if_pos (by omega)] at h
    exact h
end Go.Proofs.Ytjfdlibceldanaa
