/- The reference's ends, plain: one end more, where it belongs; the ends by order are one list. No program in sight. -/
import Derived.Test.YtjfdlibceldanaaAlikeL
namespace Go.Proofs.Ytjfdlibceldanaa.En
/-- The ends below m, by order. -/
structure To (l : List Int) (e : List Nat) (m : Nat) : Prop where
  perm : e.Perm (List.range m)
  ord : e.Pairwise fun a b => cE l a b < 0
theorem To.length {l : List Int} {e : List Nat} {m : Nat} (h : To l e m) : e.length = m := by have := h.perm.length_eq; simpa using this
theorem To.lt {l : List Int} {e : List Nat} {m : Nat} (h : To l e m) {a : Nat} (ha : a ∈ e) : a < m := by simpa using h.perm.mem_iff.1 ha
theorem To.nil (l : List Int) : To l [] 0 := ⟨by simp, List.Pairwise.nil⟩
theorem To.ends {l : List Int} {e : List Nat} (h : To l e l.length) : IsEnds l e := ⟨h.perm, h.ord⟩
theorem cE_swap (l : List Int) (a b : Nat) : cE l b a = - cE l a b := cmpL_swap _ _
/-- One end more, where it belongs. -/
theorem To.step {l : List Int} {e : List Nat} {m k : Nat} (h : To l e m) (hm : m < l.length) (hk : k ≤ m) (h1 : ∀ j, k ≤ j → j < m → cE l m (nth e j) < 0) (h2 : k = 0 ∨ ¬ cE l m (nth e (k - 1)) < 0) : To l (e.take k ++ m :: e.drop k) (m + 1) := by
  have hl := h.length
  constructor
  · have p1 : (e.take k ++ m :: e.drop k).Perm (m :: (e.take k ++ e.drop k)) := List.perm_middle
    rw [List.take_append_drop] at p1
    refine p1.trans ?_
    rw [List.range_succ]
    exact (h.perm.cons m).trans (List.perm_append_comm (l₁ := [m]) (l₂ := List.range m))
  · have hp : (e.take k ++ e.drop k).Pairwise fun a b => cE l a b < 0 := by rw [List.take_append_drop]; exact h.ord
    obtain ⟨pa, pb, pc⟩ := List.pairwise_append.1 hp
    refine List.pairwise_append.2 ⟨pa, List.pairwise_cons.2 ⟨?_, pb⟩, ?_⟩
    · intro b hb
      obtain ⟨j, hj, rfl⟩ := List.getElem_of_mem hb
      rw [List.length_drop] at hj
      have := h1 (k + j) (by omega) (by omega)
      rw [nth_lt (by omega)] at this
      rw [List.getElem_drop]; exact this
    · intro a ha b hb
      rcases List.mem_cons.1 hb with rfl | hb
      · obtain ⟨j, hj, rfl⟩ := List.getElem_of_mem ha
        rw [List.length_take] at hj
        rw [List.getElem_take]
        rcases h2 with rfl | h2
        · omega
        · have hne : cE l b (nth e (k - 1)) ≠ 0 := fun q => by
            have h3 := h.lt (nth_mem (l := e) (k := k - 1) (by omega))
            have := cE_inj (l := l) hm (by omega) q
            omega
          have h4 : cE l (nth e (k - 1)) b < 0 := by
            have := cE_swap l b (nth e (k - 1))
            omega
          by_cases g : j = k - 1
          · subst g; rw [← nth_lt (by omega)]; exact h4
          · have h5 := List.pairwise_iff_getElem.1 h.ord j (k - 1) (by omega) (by omega) (by omega)
            rw [nth_lt (by omega)] at h4
            exact cmpL_trans h5 h4
      · exact pc a ha b hb
theorem exists_k {l : List Int} (e : List Nat) (m : Nat) : ∀ n, n ≤ e.length → (∀ j, n ≤ j → j < e.length → cE l m (nth e j) < 0) → ∃ k, k ≤ n ∧ (∀ j, k ≤ j → j < e.length → cE l m (nth e j) < 0) ∧ (k = 0 ∨ ¬ cE l m (nth e (k - 1)) < 0)
  | 0, _, h => ⟨0, Nat.le_refl _, h, .inl rfl⟩
  | n + 1, hn, h => by
    by_cases g : cE l m (nth e n) < 0
    · obtain ⟨k, h1, h2, h3⟩ := exists_k e m n (by omega) (fun j h1 h2 => by
        by_cases q : j = n
        · subst q; exact g
        · exact h j (by omega) h2)
      exact ⟨k, by omega, h2, h3⟩
    · exact ⟨n + 1, Nat.le_refl _, h, .inr g⟩
theorem to_exists (l : List Int) : ∀ m, m ≤ l.length → ∃ e, To l e m
  | 0, _ => ⟨[], To.nil l⟩
  | m + 1, h => by
    obtain ⟨e, he⟩ := to_exists l m (by omega)
    obtain ⟨k, h1, h2, h3⟩ := exists_k (l := l) e m m (by rw [he.length]; exact Nat.le_refl _) (fun j h1 h2 => by rw [he.length] at h2; omega)
    exact ⟨_, he.step (by omega) h1 (fun j a b => h2 j a (by rw [he.length]; exact b)) h3⟩
open Classical in
/-- The ends, by order. -/
noncomputable def endsF (l : List Int) : List Nat := if h : ∃ e, IsEnds l e then Classical.choose h else []
theorem endsF_is (l : List Int) : IsEnds l (endsF l) := by
  have h : ∃ e, IsEnds l e := by
    obtain ⟨e, he⟩ := to_exists l l.length (Nat.le_refl _)
    exact ⟨e, he.ends⟩
  unfold endsF
  rw [dif_pos h]
  exact Classical.choose_spec h
theorem ends_eq {l : List Int} {e : List Nat} (h : IsEnds l e) : e = endsF l := h.unique (endsF_is l)
/-- How the reference compares two ends. -/
theorem cE_step {l : List Int} {a b : Nat} (ha : a < l.length) (hb : b < l.length) : cE l a b = if nth l a < nth l b then -1 else if nth l b < nth l a then 1 else cE l (a + 1) (b + 1) := by
  unfold cE
  rw [List.drop_eq_getElem_cons ha, List.drop_eq_getElem_cons hb, cmpL_cons, nth_lt ha, nth_lt hb]
theorem cE_end {l : List Int} {a b : Nat} (ha : a ≤ l.length) (hb : b ≤ l.length) (h : ¬ (a < l.length ∧ b < l.length)) : (cE l a b < 0 ↔ (a = l.length ∧ b < l.length)) := by
  unfold cE
  by_cases g : a = l.length
  · by_cases g2 : b = l.length
    · subst g; subst g2; rw [cmpL_refl]; omega
    · subst g
      rw [List.drop_eq_nil_of_le (Nat.le_refl _), List.drop_eq_getElem_cons (show b < l.length by omega)]
      constructor
      · intro _; exact ⟨rfl, by omega⟩
      · intro _; show (-1 : Int) < 0; omega
  · have g2 : b = l.length := by omega
    subst g2
    rw [List.drop_eq_nil_of_le (Nat.le_refl _), List.drop_eq_getElem_cons (show a < l.length by omega)]
    constructor
    · intro q; exact absurd q (show ¬ (1 : Int) < 0 by omega)
    · intro q; omega
end Go.Proofs.Ytjfdlibceldanaa.En
