/- The stable sort, plain law: rows by key. -/
import Derived.Lib.SmallJoins
namespace Go.Proofs.Ytjfdlibceldanaa.Stab
variable {α : Type}
def SortedBy (key : α → Nat) (l : List α) : Prop := l.Pairwise fun a b => key a ≤ key b
/-- The same of each key, in the same order. -/
def SameRows (key : α → Nat) (l m : List α) : Prop := ∀ k, l.filter (fun x => key x == k) = m.filter (fun x => key x == k)

theorem split_at (key : α → Nat) (P : Nat) : ∀ l : List α, SortedBy key l → l = l.filter (fun x => decide (key x < P)) ++ l.filter (fun x => decide (P ≤ key x)) := by
  intro l
  induction l with
  | nil => intro _; rfl
  | cons a l ih =>
    intro h
    have h' := List.pairwise_cons.1 h
    by_cases g : key a < P
    · have e := ih h'.2
      rw [List.filter_cons_of_pos (by simpa using g), List.filter_cons_of_neg (by simp; omega), List.cons_append, ← e]
    · rw [List.filter_cons_of_neg (by simpa using g), List.filter_cons_of_pos (by simp; omega)]
      have e1 : l.filter (fun x => decide (key x < P)) = [] := by
        rw [List.filter_eq_nil_iff]; intro x hx; have := h'.1 x hx; simp; omega
      have e2 : l.filter (fun x => decide (P ≤ key x)) = l := by
        rw [List.filter_eq_self]; intro x hx; have := h'.1 x hx; simp; omega
      rw [e1, e2]; rfl

theorem parts (key : α → Nat) : ∀ (P : Nat) (l : List α), (∀ x ∈ l, key x < P) → SortedBy key l → l = (List.range P).flatMap fun p => l.filter (fun x => key x == p) := by
  intro P
  induction P with
  | zero =>
    intro l h _
    cases l with
    | nil => rfl
    | cons a l => exact absurd (h a (by simp)) (by omega)
  | succ P ih =>
    intro l h hs
    rw [List.range_succ, List.flatMap_append]
    have e := split_at key P l hs
    have hs1 : SortedBy key (l.filter fun x => decide (key x < P)) := List.Pairwise.filter _ hs
    have e1 := ih (l.filter fun x => decide (key x < P)) (by intro x hx; simpa using (List.mem_filter.1 hx).2) hs1
    have e2 : (List.range P).flatMap (fun p => (l.filter fun x => decide (key x < P)).filter (fun x => key x == p)) = (List.range P).flatMap (fun p => l.filter (fun x => key x == p)) := by
      rw [List.flatMap_def, List.flatMap_def]
      refine congrArg _ (List.map_congr_left fun p hp => ?_)
      rw [List.filter_filter]
      refine List.filter_congr fun x _ => ?_
      have := List.mem_range.1 hp
      by_cases g : key x = p
      · simp [g]; omega
      · simp [g]
    have e3 : l.filter (fun x => decide (P ≤ key x)) = l.filter (fun x => key x == P) := by
      refine List.filter_congr fun x hx => ?_
      have := h x hx
      by_cases g : key x = P
      · simp [g]
      · have : ¬ P ≤ key x := by omega
        simp [g, this]
    rw [e2] at e1
    rw [e3] at e
    rw [← e1]
    simpa using e

theorem SameRows.refl (key : α → Nat) (l : List α) : SameRows key l l := fun _ => rfl
theorem SameRows.trans {key : α → Nat} {l m n : List α} (h : SameRows key l m) (g : SameRows key m n) : SameRows key l n := fun k => (h k).trans (g k)
theorem SameRows.app {key : α → Nat} {l l' m m' : List α} (h : SameRows key l l') (g : SameRows key m m') : SameRows key (l ++ m) (l' ++ m') := fun k => by
  rw [List.filter_append, List.filter_append, h k, g k]
/-- Two runs change places: each key stands in one of them alone. -/
theorem SameRows.swap {key : α → Nat} {u v : List α} (h : ∀ x ∈ u, ∀ y ∈ v, key y < key x) : SameRows key (u ++ v) (v ++ u) := fun k => by
  rw [List.filter_append, List.filter_append]
  by_cases g : u.filter (fun x => key x == k) = []
  · rw [g]; simp
  · have hv : v.filter (fun x => key x == k) = [] := by
      rw [List.filter_eq_nil_iff]; intro y hy
      have hu : ∃ x ∈ u, key x = k := by
        by_cases hh : ∃ x ∈ u, key x = k
        · exact hh
        · exact absurd (List.filter_eq_nil_iff.2 fun x hx => by
            have : key x ≠ k := fun e => hh ⟨x, hx, e⟩
            simpa using this) g
      obtain ⟨x, hx, e⟩ := hu
      have := h x hx y hy
      simp; omega
    rw [hv]; simp
/-- A finer key's rows are kept where a coarser one's are. -/
theorem SameRows.finer {key fine : α → Nat} {l m : List α} (h : SameRows key l m) (f : Nat → Nat) (hf : ∀ x, key x = f (fine x)) : SameRows fine l m := fun k => by
  have e : ∀ n : List α, n.filter (fun x => fine x == k) = (n.filter (fun x => key x == f k)).filter (fun x => fine x == k) := by
    intro n
    rw [List.filter_filter]
    refine List.filter_congr fun x _ => ?_
    by_cases g : fine x = k
    · simp [g, hf x]
    · simp [g]
  rw [e l, e m, h (f k)]
/-- What is sorted and keeps the rows is the rows, key by key. -/
theorem sorted_rows (key : α → Nat) (P : Nat) (l m : List α) (hm : ∀ x ∈ m, key x < P) (hs : SortedBy key m) (h : SameRows key l m) : m = (List.range P).flatMap fun p => l.filter (fun x => key x == p) := by
  have := parts key P m hm hs
  rw [this]
  rw [List.flatMap_def, List.flatMap_def]
  exact congrArg _ (List.map_congr_left fun p _ => (h p).symm)
theorem SameRows.symm {key : α → Nat} {l m : List α} (h : SameRows key l m) : SameRows key m l := fun k => (h k).symm
theorem SameRows.mem {key : α → Nat} {l m : List α} (h : SameRows key l m) {x : α} (hx : x ∈ m) : x ∈ l := by
  have e := h (key x)
  have h1 : x ∈ m.filter (fun y => key y == key x) := List.mem_filter.2 ⟨hx, by simp⟩
  rw [← e] at h1
  exact (List.mem_filter.1 h1).1
theorem sortedBy_app {key : α → Nat} {l m : List α} : SortedBy key (l ++ m) ↔ SortedBy key l ∧ SortedBy key m ∧ ∀ x ∈ l, ∀ y ∈ m, key x ≤ key y := List.pairwise_append
/-- A merge by halves: the two inner runs change places, each half is merged. -/
theorem merge_join {key : α → Nat} {u1 u2 v1 v2 w1 w2 : List α} (hu : SortedBy key (u1 ++ u2)) (hv : SortedBy key (v1 ++ v2)) (h12 : ∀ x ∈ u1, ∀ y ∈ v2, key x ≤ key y) (h21 : ∀ x ∈ u2, ∀ y ∈ v1, key y < key x)
    (r1 : SameRows key (u1 ++ v1) w1) (s1 : SortedBy key w1) (r2 : SameRows key (u2 ++ v2) w2) (s2 : SortedBy key w2) :
    SameRows key ((u1 ++ u2) ++ (v1 ++ v2)) (w1 ++ w2) ∧ SortedBy key (w1 ++ w2) := by
  have hu := sortedBy_app.1 hu
  have hv := sortedBy_app.1 hv
  refine ⟨?_, sortedBy_app.2 ⟨s1, s2, fun x hx y hy => ?_⟩⟩
  · have e : SameRows key ((u1 ++ u2) ++ (v1 ++ v2)) ((u1 ++ v1) ++ (u2 ++ v2)) := by
      have := (SameRows.refl key u1).app ((SameRows.swap h21).app (SameRows.refl key v2))
      simpa [List.append_assoc] using this
    exact e.trans (r1.app r2)
  · rcases List.mem_append.1 (r1.mem hx) with a | a <;> rcases List.mem_append.1 (r2.mem hy) with b | b
    · exact hu.2.2 x a y b
    · exact h12 x a y b
    · exact Nat.le_of_lt (h21 y b x a)
    · exact hv.2.2 x a y b
/-- One ahead of a sorted run, put in its place. -/
theorem insert_left {key : α → Nat} {x : α} {v1 v2 : List α} (hv : SortedBy key (v1 ++ v2)) (h1 : ∀ y ∈ v1, key y < key x) (h2 : ∀ y ∈ v2, key x ≤ key y) :
    SameRows key ([x] ++ (v1 ++ v2)) (v1 ++ ([x] ++ v2)) ∧ SortedBy key (v1 ++ ([x] ++ v2)) := by
  have hv := sortedBy_app.1 hv
  constructor
  · have := (SameRows.swap (key := key) (u := [x]) (v := v1) (by intro a ha y hy; rw [List.mem_singleton.1 ha]; exact h1 y hy)).app (SameRows.refl key v2)
    simpa [List.append_assoc] using this
  · refine sortedBy_app.2 ⟨hv.1, sortedBy_app.2 ⟨List.pairwise_singleton _ _, hv.2.1, ?_⟩, ?_⟩
    · intro a ha y hy; rw [List.mem_singleton.1 ha]; exact h2 y hy
    · intro a ha y hy
      rcases List.mem_append.1 hy with b | b
      · rw [List.mem_singleton.1 b]; exact Nat.le_of_lt (h1 a ha)
      · exact hv.2.2 a ha y b
/-- One behind a sorted run, put in its place. -/
theorem insert_right {key : α → Nat} {x : α} {u1 u2 : List α} (hu : SortedBy key (u1 ++ u2)) (h1 : ∀ y ∈ u1, key y ≤ key x) (h2 : ∀ y ∈ u2, key x < key y) :
    SameRows key ((u1 ++ u2) ++ [x]) (u1 ++ ([x] ++ u2)) ∧ SortedBy key (u1 ++ ([x] ++ u2)) := by
  have hu := sortedBy_app.1 hu
  constructor
  · have := (SameRows.refl key u1).app (SameRows.swap (key := key) (u := u2) (v := [x]) (by intro a ha y hy; rw [List.mem_singleton.1 hy]; exact h2 a ha))
    simpa [List.append_assoc] using this
  · refine sortedBy_app.2 ⟨hu.1, sortedBy_app.2 ⟨List.pairwise_singleton _ _, hu.2.1, ?_⟩, ?_⟩
    · intro a ha y hy; rw [List.mem_singleton.1 ha]; exact Nat.le_of_lt (h2 y hy)
    · intro a ha y hy
      rcases List.mem_append.1 hy with b | b
      · rw [List.mem_singleton.1 b]; exact h1 a ha
      · exact hu.2.2 a ha y b
end Go.Proofs.Ytjfdlibceldanaa.Stab
