/- Kinds, plain: all that is counted kind by kind. No program in sight. -/
import Derived.Test.YtjfdlibceldanaaKindL
namespace Go.Proofs.Ytjfdlibceldanaa.Wv
def selK (l : List Nat) (f t N : Nat) : List Nat := (List.range N).filter fun v => decide ((l.take f).count v < (l.take t).count v)
theorem selK_lt (l : List Nat) (f t N j : Nat) (h : j < (selK l f t N).length) : (l.take f).count (nth (selK l f t N) j) < (l.take t).count (nth (selK l f t N) j) := by
  have := (List.mem_filter.1 (show nth (selK l f t N) j ∈ (List.range N).filter fun v => decide ((l.take f).count v < (l.take t).count v) from nth_mem h)).2
  exact of_decide_eq_true this
theorem selK_up (l : List Nat) (f t N j : Nat) (h : j + 1 < (selK l f t N).length) : nth (selK l f t N) j < nth (selK l f t N) (j + 1) := by
  have hp : (selK l f t N).Pairwise (· < ·) := List.Pairwise.filter _ List.pairwise_lt_range
  rw [nth_lt h, nth_lt (by omega)]
  exact List.pairwise_iff_getElem.1 hp j (j + 1) (by omega) h (by omega)
theorem selK_mem (l : List Nat) (f t N j : Nat) (h : j < (selK l f t N).length) : nth (selK l f t N) j < N := by
  have := (List.mem_filter.1 (show nth (selK l f t N) j ∈ (List.range N).filter fun v => decide ((l.take f).count v < (l.take t).count v) from nth_mem h)).1
  exact List.mem_range.1 this
theorem sum_count (s : List Nat) (N : Nat) (h : ∀ x ∈ s, x < N) : ((List.range N).map fun v => s.count v).sum = s.length := by
  induction s with
  | nil => 
    have : ∀ m, ((List.range m).map fun v => ([] : List Nat).count v).sum = 0 := by
      intro m
      induction m with
      | zero => rfl
      | succ m ih => rw [List.range_succ, List.map_append, List.sum_append, ih]; simp
    rw [this]; rfl
  | cons a t ih =>
    have ht := ih fun x hx => h x (List.mem_cons_of_mem _ hx)
    have ha : a < N := h a (List.mem_cons_self ..)
    have key : ∀ m, ((List.range m).map fun v => (a :: t).count v).sum = ((List.range m).map fun v => t.count v).sum + if a < m then 1 else 0 := by
      intro m
      induction m with
      | zero => simp
      | succ m ih2 =>
        rw [List.range_succ, List.map_append, List.sum_append, List.map_append, List.sum_append, ih2]
        simp only [List.map_cons, List.map_nil, List.sum_cons, List.sum_nil, List.count_cons]
        by_cases e : a = m
        · subst e; simp; omega
        · have e2 : (a == m) = false := by simpa using e
          rw [e2]
          by_cases g : a < m
          · simp [g, show a < m + 1 by omega]; omega
          · simp [g, show ¬ a < m + 1 by omega]
    rw [key, ht, if_pos ha]; rfl
theorem sum_filter (g : Nat → Nat) (p : Nat → Bool) (hp : ∀ v, p v = false → g v = 0) : ∀ l : List Nat, ((l.filter p).map g).sum = (l.map g).sum
  | [] => rfl
  | a :: t => by
    have ih := sum_filter g p hp t
    cases h : p a with
    | true => rw [List.filter_cons_of_pos h]; simp [ih]
    | false => rw [List.filter_cons_of_neg (by simp [h])]; simp [ih, hp a h]
theorem selK_sum (l : List Nat) (f t N : Nat) (ht : t ≤ l.length) (h : ∀ x ∈ l, x < N) : ((selK l f t N).map fun v => (l.take t).count v - (l.take f).count v).sum = t - f := by
  unfold selK
  rw [sum_filter (fun v => (l.take t).count v - (l.take f).count v) _ (by intro v hv; simp at hv; show (l.take t).count v - (l.take f).count v = 0; omega)]
  by_cases hft : f ≤ t
  · have e : l.take t = l.take f ++ (l.drop f).take (t - f) := by rw [← List.take_add]; congr 1; omega
    have e2 : (fun v => (l.take t).count v - (l.take f).count v) = fun v => ((l.drop f).take (t - f)).count v := by
      funext v; rw [e, List.count_append]; omega
    rw [e2, sum_count]
    · rw [List.length_take, List.length_drop]; omega
    · intro x hx; exact h x (List.mem_of_mem_drop (List.mem_of_mem_take hx))
  · have e2 : (fun v => (l.take t).count v - (l.take f).count v) = fun _ => 0 := by
      funext v
      have := List.Sublist.count_le v (List.take_sublist_take_left (l := l) (show t ≤ f by omega))
      omega
    rw [e2]
    have : ∀ s : List Nat, (s.map fun _ => 0).sum = 0 := by
      intro s; induction s with
      | nil => rfl
      | cons a t ih => rw [List.map_cons, List.sum_cons, ih]
    rw [this]; omega
/-- The sum of the first k. -/
def sumK (l : List Nat) (f t : Nat) (ks : List Nat) (k : Nat) : Nat := ((ks.take k).map fun v => (l.take t).count v - (l.take f).count v).sum
theorem take_succ_nthK (l : List Nat) (k : Nat) (h : k < l.length) : l.take (k + 1) = l.take k ++ [nth l k] := by
  rw [List.take_succ_eq_append_getElem h, nth_lt h]
theorem sumK_succ (l : List Nat) (f t : Nat) (ks : List Nat) (k : Nat) (h : k < ks.length) : sumK l f t ks (k + 1) = sumK l f t ks k + ((l.take t).count (nth ks k) - (l.take f).count (nth ks k)) := by
  unfold sumK
  rw [take_succ_nthK ks k h, List.map_append, List.sum_append]; simp

theorem kinds_sel {deep : Nat} {l : List Nat} (f t : Nat) : kindsT deep l f t deep 0 = selK l f t (2 ^ deep) := kinds_all f t
end Go.Proofs.Ytjfdlibceldanaa.Wv
