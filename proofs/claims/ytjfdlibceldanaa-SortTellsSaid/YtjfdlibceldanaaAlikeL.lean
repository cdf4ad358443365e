/- What neighbouring ends have in common, plain. No program in sight. -/
import Derived.Test.YtjfdlibceldanaaEndL
namespace Go.Proofs.Ytjfdlibceldanaa.En

/-- How many numbers two lists have in common, from the front. -/
def lcp : List Int → List Int → Nat
  | a :: s, b :: t => if a = b then lcp s t + 1 else 0
  | _, _ => 0
theorem lcp_nil (s : List Int) : lcp [] s = 0 := by cases s <;> rfl
theorem lcp_nil' (s : List Int) : lcp s [] = 0 := by cases s <;> rfl
theorem lcp_cons (a b : Int) (s t : List Int) : lcp (a :: s) (b :: t) = if a = b then lcp s t + 1 else 0 := by rw [lcp]
theorem lcp_le : ∀ s t : List Int, lcp s t ≤ s.length ∧ lcp s t ≤ t.length
  | [], t => by rw [lcp_nil]; exact ⟨Nat.zero_le _, Nat.zero_le _⟩
  | a :: s, [] => by rw [lcp_nil']; exact ⟨Nat.zero_le _, Nat.zero_le _⟩
  | a :: s, b :: t => by
    rw [lcp_cons]
    have := lcp_le s t
    simp only [List.length_cons]
    split <;> omega
theorem nth_nil (k : Nat) : nth ([] : List Int) k = 0 := by rw [nth_ge (by simp)]; rfl
theorem nth_cons_succ {α : Type} [Inhabited α] (a : α) (s : List α) (k : Nat) : nth (a :: s) (k + 1) = nth s k := by unfold nth; simp
theorem nth_cons_zero {α : Type} [Inhabited α] (a : α) (s : List α) : nth (a :: s) 0 = a := by unfold nth; simp
theorem lcp_same : ∀ {s t : List Int} {k : Nat}, k < lcp s t → nth s k = nth t k
  | [], t, k, h => by rw [lcp_nil] at h; omega
  | a :: s, [], k, h => by rw [lcp_nil'] at h; omega
  | a :: s, b :: t, k, h => by
    rw [lcp_cons] at h
    by_cases e : a = b
    · rw [if_pos e] at h
      cases k with
      | zero => rw [nth_cons_zero, nth_cons_zero, e]
      | succ k => rw [nth_cons_succ, nth_cons_succ]; exact lcp_same (by omega)
    · rw [if_neg e] at h; omega
theorem lcp_end : ∀ (s t : List Int), ¬ (lcp s t < s.length ∧ lcp s t < t.length ∧ nth s (lcp s t) = nth t (lcp s t))
  | [], t => by rw [lcp_nil]; simp
  | a :: s, [] => by rw [lcp_nil']; simp
  | a :: s, b :: t => by
    rw [lcp_cons]
    by_cases e : a = b
    · rw [if_pos e, nth_cons_succ, nth_cons_succ]
      have := lcp_end s t
      simp only [List.length_cons]
      intro h
      exact this ⟨by omega, by omega, h.2.2⟩
    · rw [if_neg e, nth_cons_zero, nth_cons_zero]
      intro h
      exact e h.2.2
theorem lcp_go {s t : List Int} {k : Nat} (h : k ≤ lcp s t) : k < lcp s t ↔ (k < s.length ∧ k < t.length ∧ nth s k = nth t k) := by
  constructor
  · intro g
    have := lcp_le s t
    exact ⟨by omega, by omega, lcp_same g⟩
  · intro g
    by_cases e : k = lcp s t
    · subst e; exact absurd g (lcp_end s t)
    · omega
theorem nth_drop {α : Type} [Inhabited α] (l : List α) (a k : Nat) : nth (l.drop a) k = nth l (a + k) := by unfold nth; rw [List.getElem?_drop]
/-- Between two that are in order, there is no less in common with the latter. -/
theorem lcp_between : ∀ {r s t : List Int}, ¬ 0 < cmpL r s → ¬ 0 < cmpL s t → lcp r t ≤ lcp s t
  | [], _, _, _, _ => by rw [lcp_nil]; exact Nat.zero_le _
  | _ :: _, [], _, h, _ => absurd (show 0 < (1 : Int) by omega) h
  | a :: r, b :: s, [], _, _ => by rw [lcp_nil']; exact Nat.zero_le _
  | a :: r, b :: s, c :: t, h, g => by
    rw [lcp_cons, lcp_cons]
    rw [cmpL_cons] at h g
    by_cases e : a = c
    · subst e
      by_cases e2 : b = a
      · subst e2
        rw [if_neg (by omega), if_neg (by omega)] at h g
        rw [if_pos rfl, if_pos rfl]
        have := lcp_between h g
        omega
      · exfalso
        by_cases c1 : a < b
        · rw [if_neg (by omega), if_pos c1] at g; omega
        · rw [if_neg c1, if_pos (by omega)] at h; omega
    · rw [if_neg e]; exact Nat.zero_le _

def alikeAt (l : List Int) (e : List Nat) (i : Nat) : Nat := if i = 0 then 0 else lcp (l.drop (nth e (i - 1))) (l.drop (nth e i))
theorem alikeAt_zero (l : List Int) (e : List Nat) : alikeAt l e 0 = 0 := rfl
theorem alikeAt_pos (l : List Int) (e : List Nat) {i : Nat} (h : 0 < i) : alikeAt l e i = lcp (l.drop (nth e (i - 1))) (l.drop (nth e i)) := if_neg (by omega)
/-- One number fewer at least, one place on. -/
theorem alike_next {l : List Int} {e : List Nat} (h : IsEnds l e) {i i' : Nat} (hi : i < l.length) (hi' : i' < l.length) (hn : nth e i' = nth e i + 1) : alikeAt l e i ≤ alikeAt l e i' + 1 := by
  by_cases h0 : i = 0
  · subst h0; rw [alikeAt_zero]; omega
  · rw [alikeAt_pos l e (by omega)]
    have ho := h.nth_lt (show i - 1 < l.length by omega)
    have ha := h.nth_lt hi
    have hb := h.nth_lt hi'
    have c := h.at (show i - 1 < i by omega) hi
    generalize ho' : nth e (i - 1) = o at *
    generalize ha' : nth e i = a at *
    unfold cE at c
    rw [List.drop_eq_getElem_cons ho, List.drop_eq_getElem_cons ha, cmpL_cons] at c
    rw [List.drop_eq_getElem_cons ho, List.drop_eq_getElem_cons ha, lcp_cons]
    by_cases e1 : l[o] = l[a]
    · rw [if_pos e1]
      rw [if_neg (by omega), if_neg (by omega)] at c
      by_cases ho1 : o + 1 < l.length
      · -- the end o + 1 stands ahead of a + 1
        have hm := h.mem ho1
        obtain ⟨q, hq, hqe⟩ := List.getElem_of_mem hm
        rw [h.length] at hq
        have hqe' : nth e q = o + 1 := by rw [Go.Proofs.Ytjfdlibceldanaa.nth_lt (by rw [h.length]; exact hq)]; exact hqe
        have hlt : q < i' := by
          rcases Nat.lt_trichotomy q i' with g | g | g
          · exact g
          · subst g
            rw [hn] at hqe'
            have : a = o := by omega
            subst this
            rw [cmpL_refl] at c; omega
          · have c2 := h.at g hq
            rw [hqe', hn] at c2
            have := cmpL_trans c2 c
            rw [cmpL_refl] at this; omega
        rw [alikeAt_pos l e (by omega), hn]
        have le1 : ¬ 0 < cmpL (l.drop (o + 1)) (l.drop (nth e (i' - 1))) := by
          by_cases g : q = i' - 1
          · rw [← g, hqe', cmpL_refl]; omega
          · have c2 := h.at (show q < i' - 1 by omega) (show i' - 1 < l.length by omega)
            rw [hqe'] at c2
            unfold cE at c2; omega
        have le2 : ¬ 0 < cmpL (l.drop (nth e (i' - 1))) (l.drop (a + 1)) := by
          have c2 := h.at (show i' - 1 < i' by omega) hi'
          rw [hn] at c2
          unfold cE at c2; omega
        have := lcp_between le1 le2
        omega
      · rw [List.drop_eq_nil_of_le (by omega : l.length ≤ o + 1), lcp_nil]; omega
    · rw [if_neg e1]; omega
end Go.Proofs.Ytjfdlibceldanaa.En
