/- The ends of a list, plain: their order, and how ranks by twice as many numbers tell them apart. No program in sight. -/
import Derived.Test.YtjfdlibceldanaaBase
import Derived.Sort.LotA
namespace Go.Proofs.Ytjfdlibceldanaa.En

/-- -1, 0, 1: as numbers compare; as lists compare, a shorter one first. -/
def cmpN (a b : Int) : Int := if a < b then -1 else if b < a then 1 else 0
def cmpL : List Int → List Int → Int
  | [], [] => 0
  | [], _ :: _ => -1
  | _ :: _, [] => 1
  | a :: s, b :: t => if a < b then -1 else if b < a then 1 else cmpL s t
theorem cmpL_cons (a b : Int) (s t : List Int) : cmpL (a :: s) (b :: t) = if a < b then -1 else if b < a then 1 else cmpL s t := by rw [cmpL]
theorem cmpL_cases : ∀ s t : List Int, cmpL s t = -1 ∨ cmpL s t = 0 ∨ cmpL s t = 1
  | [], [] => .inr (.inl rfl)
  | [], _ :: _ => .inl rfl
  | _ :: _, [] => .inr (.inr rfl)
  | a :: s, b :: t => by
    unfold cmpL
    split
    · exact .inl rfl
    · split
      · exact .inr (.inr rfl)
      · exact cmpL_cases s t
theorem cmpL_swap : ∀ s t : List Int, cmpL t s = - cmpL s t
  | [], [] => rfl
  | [], _ :: _ => rfl
  | _ :: _, [] => rfl
  | a :: s, b :: t => by
    unfold cmpL
    by_cases h1 : a < b
    · rw [if_neg (by omega), if_pos h1, if_pos h1]; rfl
    · by_cases h2 : b < a
      · rw [if_pos h2, if_neg h1, if_pos h2]
      · rw [if_neg h2, if_neg h1, if_neg h1, if_neg h2]; exact cmpL_swap s t
theorem cmpL_refl : ∀ s : List Int, cmpL s s = 0
  | [] => rfl
  | a :: s => by unfold cmpL; rw [if_neg (by omega), if_neg (by omega)]; exact cmpL_refl s
theorem cmpL_eq : ∀ {s t : List Int}, cmpL s t = 0 → s = t
  | [], [], _ => rfl
  | [], _ :: _, h => by cases h
  | _ :: _, [], h => by cases h
  | a :: s, b :: t, h => by
    unfold cmpL at h
    by_cases h1 : a < b
    · rw [if_pos h1] at h; cases h
    · by_cases h2 : b < a
      · rw [if_neg h1, if_pos h2] at h; cases h
      · rw [if_neg h1, if_neg h2] at h
        rw [cmpL_eq h, show a = b from by omega]
theorem cmpL_trans : ∀ {r s t : List Int}, cmpL r s < 0 → cmpL s t < 0 → cmpL r t < 0
  | [], [], _, h, _ => by cases h
  | [], _ :: _, [], _, h => by cases h
  | [], _ :: _, _ :: _, _, _ => by show (-1 : Int) < 0; omega
  | _ :: _, [], _, h, _ => by cases h
  | _ :: _, _ :: _, [], _, h => by cases h
  | a :: r, b :: s, c :: t, h, g => by
    unfold cmpL at h g ⊢
    by_cases h1 : a < b
    · by_cases g1 : b < c
      · rw [if_pos (by omega)]; omega
      · by_cases g2 : c < b
        · rw [if_neg g1, if_pos g2] at g; cases g
        · rw [if_pos (by omega)]; omega
    · by_cases h2 : b < a
      · rw [if_neg h1, if_pos h2] at h; cases h
      · rw [if_neg h1, if_neg h2] at h
        have e : a = b := by omega
        subst e
        by_cases g1 : a < c
        · rw [if_pos g1]; omega
        · by_cases g2 : c < a
          · rw [if_neg g1, if_pos g2] at g; cases g
          · rw [if_neg g1, if_neg g2] at g ⊢
            exact cmpL_trans h g
theorem cmpL_ntrans {r s t : List Int} (h : ¬ cmpL r s < 0) (g : ¬ cmpL s t < 0) : ¬ cmpL r t < 0 := by
  have a1 := cmpL_swap r s
  have a2 := cmpL_swap s t
  have a3 := cmpL_swap r t
  intro hc
  rcases cmpL_cases r s with b1 | b1 | b1
  · omega
  · have := cmpL_eq b1; subst this; exact g hc
  · rcases cmpL_cases s t with b2 | b2 | b2
    · omega
    · have := cmpL_eq b2; subst this; exact h hc
    · have := cmpL_trans (r := t) (s := s) (t := r) (by omega) (by omega); omega
/-- By the first j numbers, and only then by the k behind them. -/
theorem cmpL_take : ∀ (j k : Nat) (s t : List Int), cmpL (s.take (j + k)) (t.take (j + k)) = if cmpL (s.take j) (t.take j) ≠ 0 then cmpL (s.take j) (t.take j) else cmpL ((s.drop j).take k) ((t.drop j).take k)
  | 0, k, s, t => by simp [cmpL]
  | j + 1, k, [], [] => by simp [cmpL]
  | j + 1, k, [], b :: t => by rw [show j + 1 + k = j + k + 1 from by omega]; simp [cmpL]
  | j + 1, k, a :: s, [] => by rw [show j + 1 + k = j + k + 1 from by omega]; simp [cmpL]
  | j + 1, k, a :: s, b :: t => by
    rw [show j + 1 + k = j + k + 1 from by omega]
    simp only [List.take_succ_cons, List.drop_succ_cons, cmpL_cons]
    by_cases h1 : a < b
    · rw [if_pos h1, if_pos h1, if_pos (by omega)]
    · by_cases h2 : b < a
      · rw [if_neg h1, if_pos h2, if_neg h1, if_pos h2, if_pos (by omega)]
      · rw [if_neg h1, if_neg h2, if_neg h1, if_neg h2]; exact cmpL_take j k s t
theorem cmpL_take_lt {s t : List Int} {j : Nat} (h : cmpL (s.take j) (t.take j) < 0) : cmpL s t < 0 := by
  have := cmpL_take j (s.length + t.length) s t
  rw [if_pos (by omega), List.take_of_length_le (by omega), List.take_of_length_le (by omega)] at this
  omega

/-! ### Ends of a list -/
/-- How two ends compare; by their first k numbers. -/
def cE (l : List Int) (a b : Nat) : Int := cmpL (l.drop a) (l.drop b)
def cK (l : List Int) (k a b : Nat) : Int := cmpL ((l.drop a).take k) ((l.drop b).take k)
/-- Ranks that tell ends apart as their first k numbers do. -/
def Rank (l : List Int) (k : Nat) (R : Nat → Int) : Prop := ∀ a b, a < l.length → b < l.length → cmpN (R a) (R b) = cK l k a b
def keyF (n : Nat) (R : Nat → Int) (far a b : Nat) : Int :=
  if cmpN (R a) (R b) ≠ 0 then cmpN (R a) (R b) else if a + far < n ∧ b + far < n then cmpN (R (a + far)) (R (b + far)) else if b + far < n then -1 else if a + far < n then 1 else 0
theorem rank_one (l : List Int) : Rank l 1 (nth l) := by
  intro a b ha hb
  unfold cK
  rw [List.drop_eq_getElem_cons ha, List.drop_eq_getElem_cons hb, nth_lt ha, nth_lt hb]
  simp only [List.take_succ_cons, List.take_zero, cmpL, cmpN]
theorem key_rank {l : List Int} {k : Nat} {R : Nat → Int} (h : Rank l k R) {a b : Nat} (ha : a < l.length) (hb : b < l.length) : keyF l.length R k a b = cK l (k + k) a b := by
  unfold keyF
  rw [h a b ha hb]
  unfold cK
  rw [cmpL_take k k]
  by_cases h0 : cmpL ((l.drop a).take k) ((l.drop b).take k) ≠ 0
  · rw [if_pos h0, if_pos h0]
  · rw [if_neg h0, if_neg h0, List.drop_drop, List.drop_drop]
    by_cases h1 : a + k < l.length ∧ b + k < l.length
    · rw [if_pos h1, h _ _ h1.1 h1.2]; rfl
    · rw [if_neg h1]
      have e := cmpL_eq (show cmpL ((l.drop a).take k) ((l.drop b).take k) = 0 by omega)
      have el := congrArg List.length e
      simp only [List.length_take, List.length_drop] at el
      by_cases k0 : k = 0
      · subst k0
        omega
      · by_cases h2 : b + k < l.length
        · rw [if_pos h2, List.drop_eq_nil_of_le (by omega : l.length ≤ a + k), List.drop_eq_getElem_cons h2]
          obtain ⟨k', rfl⟩ : ∃ k', k = k' + 1 := ⟨k - 1, by omega⟩
          rw [List.take_nil, List.take_succ_cons]; rfl
        · rw [if_neg h2]
          by_cases h3 : a + k < l.length
          · rw [if_pos h3, List.drop_eq_nil_of_le (by omega : l.length ≤ b + k), List.drop_eq_getElem_cons h3]
            obtain ⟨k', rfl⟩ : ∃ k', k = k' + 1 := ⟨k - 1, by omega⟩
            rw [List.take_nil, List.take_succ_cons]; rfl
          · rw [if_neg h3, List.drop_eq_nil_of_le (by omega : l.length ≤ a + k), List.drop_eq_nil_of_le (by omega : l.length ≤ b + k), List.take_nil]; rfl
theorem cK_full {l : List Int} {k : Nat} (h : l.length ≤ k) (a b : Nat) : cK l k a b = cE l a b := by
  unfold cK cE
  rw [List.take_of_length_le (by rw [List.length_drop]; omega), List.take_of_length_le (by rw [List.length_drop]; omega)]
theorem cE_inj {l : List Int} {a b : Nat} (ha : a < l.length) (hb : b < l.length) (h : cE l a b = 0) : a = b := by
  have := congrArg List.length (cmpL_eq h)
  simp only [List.length_drop] at this
  omega

/-- The ends of a list by order: this list and no other. -/
def IsEnds (l : List Int) (e : List Nat) : Prop := e.Perm (List.range l.length) ∧ e.Pairwise fun a b => cE l a b < 0
theorem IsEnds.length {l : List Int} {e : List Nat} (h : IsEnds l e) : e.length = l.length := by have := h.1.length_eq; simpa using this
theorem IsEnds.lt {l : List Int} {e : List Nat} (h : IsEnds l e) {a : Nat} (ha : a ∈ e) : a < l.length := by simpa using h.1.mem_iff.1 ha
theorem IsEnds.mem {l : List Int} {e : List Nat} (h : IsEnds l e) {a : Nat} (ha : a < l.length) : a ∈ e := h.1.mem_iff.2 (by simpa using ha)
theorem IsEnds.nodup {l : List Int} {e : List Nat} (h : IsEnds l e) : e.Nodup := h.1.nodup_iff.2 List.nodup_range
theorem IsEnds.unique {l : List Int} {e e' : List Nat} (h : IsEnds l e) (h' : IsEnds l e') : e = e' :=
  List.Perm.eq_of_pairwise (le := fun a b => cE l a b < 0) (fun a b _ _ h1 h2 => by
    have := cmpL_trans h1 h2
    rw [cmpL_refl] at this
    omega) h.2 h'.2 (h.1.trans h'.1.symm)
theorem IsEnds.at {l : List Int} {e : List Nat} (h : IsEnds l e) {i j : Nat} (hij : i < j) (hj : j < l.length) : cE l (nth e i) (nth e j) < 0 := by
  have hl := h.length
  rw [nth_lt (by omega), nth_lt (by omega)]
  exact List.pairwise_iff_getElem.1 h.2 i j (by omega) (by omega) hij
theorem IsEnds.nth_lt {l : List Int} {e : List Nat} (h : IsEnds l e) {i : Nat} (hi : i < l.length) : nth e i < l.length := h.lt (nth_mem (by rw [h.length]; exact hi))

/-! ### New ranks out of an order -/
/-- How many places up to i are unlike the one ahead, by key. -/
def num (K : Nat → Nat → Int) (e : List Nat) : Nat → Nat
  | 0 => 0
  | i + 1 => num K e i + if K (nth e i) (nth e (i + 1)) ≠ 0 then 1 else 0
theorem num_mono (K : Nat → Nat → Int) (e : List Nat) {i j : Nat} (h : i ≤ j) : num K e i ≤ num K e j := by
  induction j with
  | zero => have : i = 0 := by omega
            subst this; exact Nat.le_refl _
  | succ j ih =>
    by_cases g : i = j + 1
    · subst g; exact Nat.le_refl _
    · have := ih (by omega)
      rw [num]; omega
theorem num_le (K : Nat → Nat → Int) (e : List Nat) : ∀ i, num K e i ≤ i
  | 0 => Nat.le_refl _
  | i + 1 => by have := num_le K e i; rw [num]; split <;> omega
/-- What an order by the first k numbers is: sorted, and each end once. -/
structure Ord (l : List Int) (k : Nat) (e : List Nat) : Prop where
  perm : e.Perm (List.range l.length)
  sorted : ∀ i j, i < j → j < l.length → ¬ cK l k (nth e j) (nth e i) < 0
theorem Ord.length {l : List Int} {k : Nat} {e : List Nat} (h : Ord l k e) : e.length = l.length := by have := h.perm.length_eq; simpa using this
theorem cK_swap (l : List Int) (k a b : Nat) : cK l k b a = - cK l k a b := cmpL_swap _ _
theorem cK_refl (l : List Int) (k a : Nat) : cK l k a a = 0 := cmpL_refl _
theorem num_eq {l : List Int} {k : Nat} {e : List Nat} (h : Ord l k e) : ∀ {i j : Nat}, i ≤ j → j < l.length → (num (cK l k) e i = num (cK l k) e j ↔ cK l k (nth e i) (nth e j) = 0) := by
  intro i j hij hj
  induction j with
  | zero =>
    have : i = 0 := by omega
    subst this
    simp [cK_refl]
  | succ j ih =>
    by_cases g : i = j + 1
    · subst g; simp [cK_refl]
    · have ih := ih (by omega) (by omega)
      have m := num_mono (cK l k) e (show i ≤ j by omega)
      rw [num]
      by_cases c : cK l k (nth e j) (nth e (j + 1)) ≠ 0
      · rw [if_pos c]
        constructor
        · intro q; omega
        · intro q
          exfalso
          -- e_i = e_(j+1) by key, and e_j lies between
          have s1 : cK l k (nth e i) (nth e j) ≤ 0 := by
            by_cases g2 : i = j
            · rw [g2, cK_refl]; omega
            · have := h.sorted i j (by omega) (by omega); have := cK_swap l k (nth e i) (nth e j); omega
          have s2 : cK l k (nth e j) (nth e (j + 1)) ≤ 0 := by have := h.sorted j (j + 1) (by omega) hj; have := cK_swap l k (nth e j) (nth e (j + 1)); omega
          have s3 : cK l k (nth e j) (nth e (j + 1)) < 0 := by omega
          rcases Int.lt_or_eq_of_le s1 with s4 | s4
          · have := cmpL_trans (r := (l.drop (nth e i)).take k) (s := (l.drop (nth e j)).take k) (t := (l.drop (nth e (j + 1))).take k) s4 s3
            unfold cK at q; omega
          · have e1 := cmpL_eq s4
            unfold cK at q s3
            rw [e1] at q; omega
      · have c0 : cK l k (nth e j) (nth e (j + 1)) = 0 := by omega
        rw [if_neg c, Nat.add_zero, ih]
        have e1 := cmpL_eq c0
        unfold cK
        rw [e1]
theorem num_cmp {l : List Int} {k : Nat} {e : List Nat} (h : Ord l k e) {i j : Nat} (hi : i < l.length) (hj : j < l.length) : cmpN (num (cK l k) e i) (num (cK l k) e j) = cK l k (nth e i) (nth e j) := by
  have key : ∀ i j, i < j → j < l.length → cmpN (num (cK l k) e i) (num (cK l k) e j) = cK l k (nth e i) (nth e j) := by
    intro i j hij hj
    have m := num_mono (cK l k) e (Nat.le_of_lt hij)
    have q := num_eq h (Nat.le_of_lt hij) hj
    have s := h.sorted i j hij hj
    have s' := cK_swap l k (nth e i) (nth e j)
    unfold cmpN
    by_cases c : num (cK l k) e i = num (cK l k) e j
    · rw [if_neg (by omega), if_neg (by omega), q.1 c]
    · rw [if_pos (by omega)]
      rcases cmpL_cases ((l.drop (nth e i)).take k) ((l.drop (nth e j)).take k) with b | b | b
      · exact b.symm
      · exact absurd (q.2 b) c
      · exfalso; unfold cK at s s'; omega
  rcases Nat.lt_trichotomy i j with c | c | c
  · exact key i j c hj
  · subst c; rw [cK_refl]; unfold cmpN; rw [if_neg (by omega), if_neg (by omega)]
  · have := key j i c hi
    rw [cK_swap l k (nth e j) (nth e i), ← this]
    unfold cmpN
    by_cases c1 : (num (cK l k) e i : Int) < num (cK l k) e j
    · rw [if_pos c1, if_neg (by omega), if_pos c1]
    · by_cases c2 : (num (cK l k) e j : Int) < num (cK l k) e i
      · rw [if_neg c1, if_pos c2, if_pos c2]; rfl
      · rw [if_neg c1, if_neg c2, if_neg c2, if_neg c1]; rfl
/-- All told apart. -/
theorem num_full (K : Nat → Nat → Int) (e : List Nat) : ∀ n, num K e n = n → ∀ i, i < n → K (nth e i) (nth e (i + 1)) ≠ 0
  | 0, _, _, h => by omega
  | n + 1, g, i, h => by
    have h1 := num_le K e n
    rw [num] at g
    by_cases c : K (nth e n) (nth e (n + 1)) ≠ 0
    · rw [if_pos c] at g
      by_cases d : i = n
      · subst d; exact c
      · exact num_full K e n (by omega) i (by omega)
    · rw [if_neg c] at g; omega
theorem ends_of_ord {l : List Int} {k : Nat} {e : List Nat} (h : Ord l k e) (hd : (∀ i, i + 1 < l.length → cK l k (nth e i) (nth e (i + 1)) ≠ 0) ∨ l.length ≤ k) : IsEnds l e := by
  have hl := h.length
  have hn : e.Nodup := h.perm.nodup_iff.2 List.nodup_range
  have hlt : ∀ i, i < l.length → nth e i < l.length := fun i hi => by simpa using h.perm.mem_iff.1 (nth_mem (l := e) (k := i) (by omega))
  refine ⟨h.perm, List.pairwise_iff_getElem.2 fun i j hi hj hij => ?_⟩
  have key : cE l (nth e i) (nth e j) < 0 := by
    have s := h.sorted i j hij (by omega)
    have s' := cK_swap l k (nth e i) (nth e j)
    rcases hd with hd | hd
    · have m := num_eq h (Nat.le_of_lt hij) (by omega)
      have hne : cK l k (nth e i) (nth e j) ≠ 0 := fun q => by
        have e1 := m.2 q
        have g1 := num_mono (cK l k) e (show i + 1 ≤ j by omega)
        rw [num, if_pos (hd i (by omega))] at g1
        omega
      have : cK l k (nth e i) (nth e j) < 0 := by omega
      exact cmpL_take_lt this
    · rw [cK_full hd] at s s'
      rw [cK_full hd] at s'
      have hne : cE l (nth e i) (nth e j) ≠ 0 := fun q => by
        have := cE_inj (hlt i (by omega)) (hlt j (by omega)) q
        rw [nth_lt hi, nth_lt hj] at this
        exact List.pairwise_iff_getElem.1 hn i j hi hj hij this
      omega
  rwa [nth_lt hi, nth_lt hj] at key
end Go.Proofs.Ytjfdlibceldanaa.En
