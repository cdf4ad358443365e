/- The ends by ranks, plain: what one round of sorting gives. No program in sight. -/
import Derived.Test.YtjfdlibceldanaaEndR
import Derived.Sort.Statements
namespace Go.Proofs.Ytjfdlibceldanaa.En
open Go.Sort
theorem swo_key {l : List Int} {k : Nat} {R : Nat → Int} (h : Rank l k R) : SWO (fun x y : Fin l.length => decide (keyF l.length R k x y < 0)) where
  irrefl x := by
    rw [key_rank h x.2 x.2, cK_refl]; rfl
  trans x y z h1 h2 := by
    rw [decide_eq_true_iff, key_rank h x.2 y.2] at h1
    rw [decide_eq_true_iff, key_rank h y.2 z.2] at h2
    rw [decide_eq_true_iff, key_rank h x.2 z.2]
    exact cmpL_trans h1 h2
  ntrans x y z h1 h2 := by
    rw [decide_eq_false_iff_not, key_rank h x.2 y.2] at h1
    rw [decide_eq_false_iff_not, key_rank h y.2 z.2] at h2
    rw [decide_eq_false_iff_not, key_rank h x.2 z.2]
    exact cmpL_ntrans h1 h2
theorem ord_sorted {l : List Int} {k : Nat} {R : Nat → Int} [Inhabited (Fin l.length)] (h : Rank l k R) (d d' : Array (Fin l.length)) (h0 : (d.toList.map Fin.val).Perm (List.range l.length)) (hp : PermIn 0 d.size d d')
    (hs : SortedIn (fun x y : Fin l.length => decide (keyF l.length R k x y < 0)) 0 d.size d') : Ord l (k + k) (d'.toList.map Fin.val) := by
  have hlen : d.size = l.length := by have := h0.length_eq; simpa using this
  obtain ⟨p1, _, p3⟩ := hp
  rw [Array.extract_size, ← p1, Array.extract_size] at p3
  refine ⟨(p3.map Fin.val).trans h0, fun i j hij hj => ?_⟩
  have hi' : i < d'.size := by omega
  have hj' : j < d'.size := by omega
  have e : ∀ i (hi : i < d'.size), nth (d'.toList.map Fin.val) i = (d'[i]!).val := fun i hi => by
    rw [nth_lt (by simpa using hi)]
    simp [hi]
  rw [e i hi', e j hj']
  have := hs i j (Nat.zero_le _) hij (by omega)
  rw [decide_eq_false_iff_not, key_rank h (d'[j]!).2 (d'[i]!).2] at this
  exact this
theorem rank_next {l : List Int} {k : Nat} {e : List Nat} (h : Ord l k e) {R : Nat → Int} (hR : ∀ i, i < l.length → R (nth e i) = (num (cK l k) e i : Nat)) : Rank l k R := by
  intro a b ha hb
  have hm : ∀ a, a < l.length → ∃ i, i < l.length ∧ nth e i = a := fun a ha => by
    obtain ⟨i, hi, hie⟩ := List.getElem_of_mem (h.perm.mem_iff.2 (show a ∈ List.range l.length by simpa using ha))
    have := h.length
    exact ⟨i, by omega, by rw [nth_lt hi]; exact hie⟩
  obtain ⟨i, hi, rfl⟩ := hm a ha
  obtain ⟨j, hj, rfl⟩ := hm b hb
  rw [hR i hi, hR j hj, num_cmp h hi hj]
theorem ord_at {l : List Int} {k : Nat} {e : List Nat} (h : Ord l k e) {i : Nat} (hi : i < l.length) : nth e i < l.length := by
  have := h.perm.mem_iff.1 (nth_mem (l := e) (k := i) (by rw [h.length]; exact hi))
  simpa using this
theorem ord_inj {l : List Int} {k : Nat} {e : List Nat} (h : Ord l k e) {i j : Nat} (hi : i < l.length) (hj : j < l.length) (he : nth e i = nth e j) : i = j := by
  have hn : e.Nodup := h.perm.nodup_iff.2 List.nodup_range
  have hl := h.length
  rw [nth_lt (by omega), nth_lt (by omega)] at he
  rcases Nat.lt_trichotomy i j with g | g | g
  · exact absurd he (List.pairwise_iff_getElem.1 hn i j (by omega) (by omega) g)
  · exact g
  · exact absurd he.symm (List.pairwise_iff_getElem.1 hn j i (by omega) (by omega) g)
/-- All told apart, or all looked at. -/
theorem ends_num {l : List Int} {k : Nat} {e : List Nat} (h : Ord l k e) (hd : l.length ≤ num (cK l k) e (l.length - 1) + 1 ∨ l.length ≤ k) : IsEnds l e := by
  refine ends_of_ord h ?_
  rcases hd with hd | hd
  · left
    intro i hi
    have := num_le (cK l k) e (l.length - 1)
    exact num_full _ _ (l.length - 1) (by omega) i (by omega)
  · exact .inr hd
theorem ord_one {l : List Int} (h : l.length = 0) : IsEnds l [] := ⟨by simp [h], List.Pairwise.nil⟩
end Go.Proofs.Ytjfdlibceldanaa.En
