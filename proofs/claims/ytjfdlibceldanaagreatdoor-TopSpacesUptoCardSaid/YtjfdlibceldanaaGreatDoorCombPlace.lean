/- comb.Places: the walk. -/
import Derived.Test.YtjfdlibceldanaaGreatDoorCombFind
namespace Go.Proofs.YtjfdlibceldanaaGreatDoor
open Go.RowKit Go.Sort En Wv Gu

/-- The places, by the ends of a span, sorted. -/
theorem sort_places (l s : List Int) : ((((endsF l).take (spanF l (endsF l) s).2).drop (spanF l (endsF l) s).1).map Int.ofNat).mergeSort (fun x y => decide (x ≤ y)) = (places l s).map Int.ofNat := by
  have hE := endsF_is l
  have hf : ((endsF l).take (spanF l (endsF l) s).2).drop (spanF l (endsF l) s).1 = (endsF l).filter (stB l s) := by
    by_cases g : lo l (endsF l) s < hi l (endsF l) s
    · have : spanF l (endsF l) s = (lo l (endsF l) s, hi l (endsF l) s) := by unfold spanF; rw [if_pos g]
      rw [this]; exact span_filter hE s
    · have : spanF l (endsF l) s = (0, 0) := by unfold spanF; rw [if_neg g]
      rw [this]
      have h0 : (endsF l).countP (stB l s) = 0 := by have := lo_hi (l := l) (e := endsF l) s; omega
      symm
      simp only [List.take_zero, List.drop_nil]
      exact List.filter_eq_nil_iff.2 fun a ha => List.countP_eq_zero.1 h0 a ha
  rw [hf]
  have hp : (((endsF l).filter (stB l s)).map Int.ofNat).Perm ((places l s).map Int.ofNat) := (hE.1.filter _).map _
  have hs : ((places l s).map Int.ofNat).Pairwise (fun x y => decide (x ≤ y) = true) := by
    rw [List.pairwise_map]
    refine ((List.pairwise_lt_range (n := l.length)).sublist List.filter_sublist).imp fun {a b} h => ?_
    exact decide_eq_true (Int.ofNat_le.2 (Nat.le_of_lt h))
  refine List.Perm.eq_of_pairwise (le := fun x y => decide (x ≤ y) = true) (fun a b _ _ h1 h2 => by simp at h1 h2; omega) ?_ hs ((List.mergeSort_perm _ _).trans hp)
  exact List.pairwise_mergeSort (fun a b c h1 h2 => by simp at *; omega) (fun a b => by simp; omega) _
theorem span_places (l s : List Int) : (spanF l (endsF l) s).2 - (spanF l (endsF l) s).1 = (places l s).length := by
  have h := congrArg List.length (sort_places l s)
  obtain ⟨h1, h2⟩ := spanF_le (endsF_is l) s
  rw [List.length_mergeSort, List.length_map, List.length_map, List.length_drop, List.length_take, (endsF_is l).length] at h
  omega
theorem places_le (l s : List Int) : (places l s).length ≤ l.length := by
  have := List.length_filter_le (stB l s) (List.range l.length)
  rw [List.length_range] at this
  exact this

end Go.Proofs.YtjfdlibceldanaaGreatDoor
