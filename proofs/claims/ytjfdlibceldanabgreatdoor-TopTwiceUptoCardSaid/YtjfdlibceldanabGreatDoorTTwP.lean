/- TopTwice: plain laws of a book that stands twice. -/
import Derived.Test.YtjfdlibceldanabGreatDoorShO
namespace Go.Proofs.YtjfdlibceldanabGreatDoor
open Go.RowKit Go.Sort Tx En Wv Gu

theorem stB_zero {T l : List Int} (hz : ∀ k, k < l.length → nth l k ≠ 0) (hn : 0 < l.length) {a : Nat} (ha : a ≤ T.length) :
    stB (T ++ [0]) l a = true ↔ a + l.length ≤ T.length ∧ ∀ k, k < l.length → nth T (a + k) = nth l k := by
  have e0 : nth (T ++ [0]) T.length = 0 := by unfold nth; simp
  rw [stB_iff, List.length_append, List.length_singleton]
  constructor
  · rintro ⟨h1, h2⟩
    have h3 : a + l.length ≤ T.length := by
      by_cases g : a + l.length ≤ T.length
      · exact g
      · have h4 := h2 (l.length - 1) (by omega)
        rw [show a + (l.length - 1) = T.length from by omega, e0] at h4
        exact absurd h4.symm (hz _ (by omega))
    refine ⟨h3, fun k hk => ?_⟩
    rw [← h2 k hk, nth_app_l (by omega)]
  · rintro ⟨h1, h2⟩
    refine ⟨by omega, fun k hk => ?_⟩
    rw [nth_app_l (by omega), h2 k hk]
/-- In a text that stands twice, what has a line's end at most behind all stands twice as often. -/
theorem places_twice {T l : List Int} (hz : ∀ k, k < l.length → nth l k ≠ 0) (hn : 0 < l.length) (h1 : ∀ k, k + 1 < l.length → nth l k ≠ 1) (hT : ∃ v, T = v ++ [1]) :
    (places (T ++ T ++ [0]) l).length = 2 * (places (T ++ [0]) l).length := by
  obtain ⟨v, hv⟩ := hT
  have hpos : 0 < T.length := by rw [hv]; simp
  have hlast : nth T (T.length - 1) = 1 := by rw [hv]; unfold nth; simp
  let P : Nat → Bool := fun a => decide (a + l.length ≤ T.length ∧ ∀ k, k < l.length → nth T (a + k) = nth l k)
  have c1 : (places (T ++ [0]) l).length = (List.range T.length).countP P := by
    rw [places_len, List.length_append, List.length_singleton, List.range_succ, List.countP_append, List.countP_singleton]
    have e0 : stB (T ++ [0]) l T.length ≠ true := fun q => by
      have := ((stB_zero hz hn (Nat.le_refl _)).1 q).1
      omega
    rw [if_neg e0, Nat.add_zero]
    refine List.countP_congr fun a ha => ?_
    have := List.mem_range.1 ha
    rw [stB_zero hz hn (by omega)]
    exact (decide_eq_true_iff).symm
  have c2 : (places (T ++ T ++ [0]) l).length = (List.range T.length).countP P + (List.range T.length).countP P := by
    rw [places_len, List.length_append, List.length_append, List.length_singleton, Nat.add_assoc, List.range_add, List.countP_append, List.countP_map, List.range_succ, List.countP_append, List.countP_singleton]
    have hl2 : (T ++ T).length = T.length + T.length := List.length_append
    have e0 : (stB (T ++ T ++ [0]) l ∘ fun x => T.length + x) T.length ≠ true := fun q => by
      have q' : stB (T ++ T ++ [0]) l (T.length + T.length) = true := q
      have := ((stB_zero (T := T ++ T) hz hn (by omega)).1 q').1
      omega
    rw [if_neg e0, Nat.add_zero]
    congr 1
    · refine List.countP_congr fun a ha => ?_
      have ha := List.mem_range.1 ha
      rw [stB_zero (T := T ++ T) hz hn (by omega), hl2]
      refine Iff.trans ?_ (decide_eq_true_iff).symm
      constructor
      · rintro ⟨g1, g2⟩
        have g3 : a + l.length ≤ T.length := by
          by_cases g : a + l.length ≤ T.length
          · exact g
          · have h4 := g2 (T.length - 1 - a) (by omega)
            rw [show a + (T.length - 1 - a) = T.length - 1 from by omega, nth_app_l (by omega), hlast] at h4
            exact absurd h4.symm (h1 _ (by omega))
        exact ⟨g3, fun k hk => by rw [← g2 k hk, nth_app_l (by omega)]⟩
      · rintro ⟨g1, g2⟩
        exact ⟨by omega, fun k hk => by rw [nth_app_l (by omega), g2 k hk]⟩
    · refine List.countP_congr fun a ha => ?_
      have ha := List.mem_range.1 ha
      rw [Function.comp, stB_zero (T := T ++ T) hz hn (by omega), hl2]
      refine Iff.trans ?_ (decide_eq_true_iff).symm
      constructor
      · rintro ⟨g1, g2⟩
        exact ⟨by omega, fun k hk => by rw [← g2 k hk, Nat.add_assoc, nth_app_r]⟩
      · rintro ⟨g1, g2⟩
        exact ⟨by omega, fun k hk => by rw [Nat.add_assoc, nth_app_r, g2 k hk]⟩
  omega
theorem spl_both (c : UInt8) : ∀ u t : List UInt8, spl c (u ++ c :: t) = spl c u ++ spl c t
  | [], t => by simp [spl]
  | b :: u, t => by
    have ih := spl_both c u t
    obtain ⟨p, r, h⟩ := spl_form c u
    rw [List.cons_append]
    by_cases g : b = c
    · rw [spl, if_pos g, ih, spl, if_pos g]; rfl
    · rw [spl, if_neg g, ih, spl, if_neg g, h]; rfl
theorem lines_nl (u : List UInt8) : linesF (u ++ [10]) = (spl 10 u).map wds := by unfold linesF; rw [suffix_last]
theorem lines_two (u : List UInt8) : linesF ((u ++ [10]) ++ (u ++ [10])) = linesF (u ++ [10]) ++ linesF (u ++ [10]) := by
  rw [← List.append_assoc, lines_nl, lines_nl, List.append_assoc, List.singleton_append, spl_both, List.map_append]
theorem words_two (u : List UInt8) : wordsF ((u ++ [10]) ++ (u ++ [10])) = wordsF (u ++ [10]) := by
  have h : wordsF ((u ++ [10]) ++ (u ++ [10])) = ordW (linesF ((u ++ [10]) ++ (u ++ [10]))).flatten := rfl
  rw [h]
  refine ordW_eq (ordW_sorted _) fun x => ?_
  rw [lines_two, List.flatten_append, List.mem_append, or_self]
  exact mem_ordW _ _
/-- A text's numbers without what is behind all. -/
def bT0 (s : List UInt8) : List Int := (textN (wordsF s) (linesF s)).map Int.ofNat
theorem bT_eq (s : List UInt8) : bT s = bT0 s ++ [0] := by unfold bT bT0; rw [List.map_append]; rfl
theorem bT_two (u : List UInt8) : bT ((u ++ [10]) ++ (u ++ [10])) = bT0 (u ++ [10]) ++ bT0 (u ++ [10]) ++ [0] := by
  rw [bT_eq]
  congr 1
  unfold bT0
  rw [words_two, lines_two]
  unfold textN
  rw [List.flatMap_append, List.map_append]
theorem bT0_last (s : List UInt8) : ∃ v, bT0 s = v ++ [1] := by
  obtain ⟨u, hu⟩ := textN_last (wordsF s) (linesF s) (lines_ne s)
  exact ⟨u.map Int.ofNat, by unfold bT0; rw [hu, List.map_append]; rfl⟩
theorem in_two (u ws : List UInt8) : inB ((u ++ [10]) ++ (u ++ [10])) ws ↔ inB (u ++ [10]) ws := by unfold inB; rw [words_two]
theorem sg_two (u ws : List UInt8) : sgI ((u ++ [10]) ++ (u ++ [10])) ws = sgI (u ++ [10]) ws := by rw [sgI_def, sgI_def, words_two]
theorem cnt_two (u ws : List UInt8) (hn : 0 < (sgI (u ++ [10]) ws).length) (h1 : ∀ k, k + 1 < (sgI (u ++ [10]) ws).length → nth (sgI (u ++ [10]) ws) k ≠ 1) :
    cntF ((u ++ [10]) ++ (u ++ [10])) ws = 2 * cntF (u ++ [10]) ws := by
  unfold cntF
  by_cases g : inB (u ++ [10]) ws
  · rw [if_pos g, if_pos ((in_two u ws).2 g), sg_two, bT_two, bT_eq]
    refine places_twice (fun k hk q => ?_) hn h1 (bT0_last _)
    have := sgI_bd (nth_mem hk)
    omega
  · rw [if_neg g, if_neg fun q => g ((in_two u ws).1 q)]
end Go.Proofs.YtjfdlibceldanabGreatDoor
