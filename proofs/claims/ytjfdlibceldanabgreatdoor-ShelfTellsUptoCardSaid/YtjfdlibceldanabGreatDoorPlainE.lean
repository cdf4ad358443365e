/- The ends of a list, plain: their order, and how ranks by twice as many numbers tell them apart. No program in sight. What neighbouring ends have in common, plain. No program in sight. The reference's ends, plain: one end more, where it belongs; the ends by order are one list. No program in sight. The ends by ranks, plain: what one round of sorting gives. No program in sight. The index, plain: the ends that begin with signs are a span, and one sign more goes from span to span. No program in sight. Numbers each once, by order, plain. No program in sight. How likely a sign is, plain: the parts, their bounds. No program in sight. What the index holds, plain. No program in sight. Finding signs by the index, plain. No program in sight. The text again out of the ends, in plain Lean: each end's sign ahead is put where it stands. -/
import Derived.Test.YtjfdlibceldanabGreatDoorBase
import Derived.Sort.LotA
import Derived.Sort.Statements
import Derived.Lib.Slices
/-! The ends of a list, plain: their order, and how ranks by twice as many numbers tell them apart. No program in sight. -/
namespace Go.Proofs.YtjfdlibceldanabGreatDoor.En

/-- -1, 0, 1: as numbers compare; as lists compare, a shorter one first. -/
def cmpN (a b : Int) : Int := if a < b then -1 else if b < a then 1 else 0
def cmpL : List Int → List Int → Int
  | [], [] => 0
  | [], _ :: _ => -1
  | _ :: _, [] => 1
  | a :: s, b :: t => if a < b then -1 else if b < a then 1 else cmpL s t
theorem cmpL_cons (a b : Int) (s t : List Int) : cmpL (a :: s) (b :: t) = if a < b then -1 else if b < a then 1 else cmpL s t := by rw [cmpL]
theorem cmpL_cases : ∀ s t : List Int, cmpL s t = -1 ∨ cmpL s t = 0 ∨ cmpL s t = 1
  | [], [] => .inr (.inl rfl)
  | [], _ :: _ => .inl rfl
  | _ :: _, [] => .inr (.inr rfl)
  | a :: s, b :: t => by
    unfold cmpL
    split
    · exact .inl rfl
    · split
      · exact .inr (.inr rfl)
      · exact cmpL_cases s t
theorem cmpL_swap : ∀ s t : List Int, cmpL t s = - cmpL s t
  | [], [] => rfl
  | [], _ :: _ => rfl
  | _ :: _, [] => rfl
  | a :: s, b :: t => by
    unfold cmpL
    by_cases h1 : a < b
    · rw [if_neg (by omega), if_pos h1, if_pos h1]; rfl
    · by_cases h2 : b < a
      · rw [if_pos h2, if_neg h1, if_pos h2]
      · rw [if_neg h2, if_neg h1, if_neg h1, if_neg h2]; exact cmpL_swap s t
theorem cmpL_refl : ∀ s : List Int, cmpL s s = 0
  | [] => rfl
  | a :: s => by unfold cmpL; rw [if_neg (by omega), if_neg (by omega)]; exact cmpL_refl s
theorem cmpL_eq : ∀ {s t : List Int}, cmpL s t = 0 → s = t
  | [], [], _ => rfl
  | [], _ :: _, h => by cases h
  | _ :: _, [], h => by cases h
  | a :: s, b :: t, h => by
    unfold cmpL at h
    by_cases h1 : a < b
    · rw [if_pos h1] at h; cases h
    · by_cases h2 : b < a
      · rw [if_neg h1, if_pos h2] at h; cases h
      · rw [if_neg h1, if_neg h2] at h
        rw [cmpL_eq h, show a = b from by omega]
theorem cmpL_trans : ∀ {r s t : List Int}, cmpL r s < 0 → cmpL s t < 0 → cmpL r t < 0
  | [], [], _, h, _ => by cases h
  | [], _ :: _, [], _, h => by cases h
  | [], _ :: _, _ :: _, _, _ => by show (-1 : Int) < 0; omega
  | _ :: _, [], _, h, _ => by cases h
  | _ :: _, _ :: _, [], _, h => by cases h
  | a :: r, b :: s, c :: t, h, g => by
    unfold cmpL at h g ⊢
    by_cases h1 : a < b
    · by_cases g1 : b < c
      · rw [if_pos (by omega)]; omega
      · by_cases g2 : c < b
        · rw [if_neg g1, if_pos g2] at g; cases g
        · rw [if_pos (by omega)]; omega
    · by_cases h2 : b < a
      · rw [if_neg h1, if_pos h2] at h; cases h
      · rw [if_neg h1, if_neg h2] at h
        have e : a = b := by omega
        subst e
        by_cases g1 : a < c
        · rw [if_pos g1]; omega
        · by_cases g2 : c < a
          · rw [if_neg g1, if_pos g2] at g; cases g
          · rw [if_neg g1, if_neg g2] at g ⊢
            exact cmpL_trans h g
theorem cmpL_ntrans {r s t : List Int} (h : ¬ cmpL r s < 0) (g : ¬ cmpL s t < 0) : ¬ cmpL r t < 0 := by
  have a1 := cmpL_swap r s
  have a2 := cmpL_swap s t
  have a3 := cmpL_swap r t
  intro hc
  rcases cmpL_cases r s with b1 | b1 | b1
  · omega
  · have := cmpL_eq b1; subst this; exact g hc
  · rcases cmpL_cases s t with b2 | b2 | b2
    · omega
    · have := cmpL_eq b2; subst this; exact h hc
    · have := cmpL_trans (r := t) (s := s) (t := r) (by omega) (by omega); omega
/-- By the first j numbers, and only then by the k behind them. -/
theorem cmpL_take : ∀ (j k : Nat) (s t : List Int), cmpL (s.take (j + k)) (t.take (j + k)) = if cmpL (s.take j) (t.take j) ≠ 0 then cmpL (s.take j) (t.take j) else cmpL ((s.drop j).take k) ((t.drop j).take k)
  | 0, k, s, t => by simp [cmpL]
  | j + 1, k, [], [] => by simp [cmpL]
  | j + 1, k, [], b :: t => by rw [show j + 1 + k = j + k + 1 from by omega]; simp [cmpL]
  | j + 1, k, a :: s, [] => by rw [show j + 1 + k = j + k + 1 from by omega]; simp [cmpL]
  | j + 1, k, a :: s, b :: t => by
    rw [show j + 1 + k = j + k + 1 from by omega]
    simp only [List.take_succ_cons, List.drop_succ_cons, cmpL_cons]
    by_cases h1 : a < b
    · rw [if_pos h1, if_pos h1, if_pos (by omega)]
    · by_cases h2 : b < a
      · rw [if_neg h1, if_pos h2, if_neg h1, if_pos h2, if_pos (by omega)]
      · rw [if_neg h1, if_neg h2, if_neg h1, if_neg h2]; exact cmpL_take j k s t
theorem cmpL_take_lt {s t : List Int} {j : Nat} (h : cmpL (s.take j) (t.take j) < 0) : cmpL s t < 0 := by
  have := cmpL_take j (s.length + t.length) s t
  rw [if_pos (by omega), List.take_of_length_le (by omega), List.take_of_length_le (by omega)] at this
  omega

/-! ### Ends of a list -/
/-- How two ends compare; by their first k numbers. -/
def cE (l : List Int) (a b : Nat) : Int := cmpL (l.drop a) (l.drop b)
def cK (l : List Int) (k a b : Nat) : Int := cmpL ((l.drop a).take k) ((l.drop b).take k)
/-- Ranks that tell ends apart as their first k numbers do. -/
def Rank (l : List Int) (k : Nat) (R : Nat → Int) : Prop := ∀ a b, a < l.length → b < l.length → cmpN (R a) (R b) = cK l k a b
def keyF (n : Nat) (R : Nat → Int) (far a b : Nat) : Int :=
  if cmpN (R a) (R b) ≠ 0 then cmpN (R a) (R b) else if a + far < n ∧ b + far < n then cmpN (R (a + far)) (R (b + far)) else if b + far < n then -1 else if a + far < n then 1 else 0
theorem rank_one (l : List Int) : Rank l 1 (nth l) := by
  intro a b ha hb
  unfold cK
  rw [List.drop_eq_getElem_cons ha, List.drop_eq_getElem_cons hb, nth_lt ha, nth_lt hb]
  simp only [List.take_succ_cons, List.take_zero, cmpL, cmpN]
theorem key_rank {l : List Int} {k : Nat} {R : Nat → Int} (h : Rank l k R) {a b : Nat} (ha : a < l.length) (hb : b < l.length) : keyF l.length R k a b = cK l (k + k) a b := by
  unfold keyF
  rw [h a b ha hb]
  unfold cK
  rw [cmpL_take k k]
  by_cases h0 : cmpL ((l.drop a).take k) ((l.drop b).take k) ≠ 0
  · rw [if_pos h0, if_pos h0]
  · rw [if_neg h0, if_neg h0, List.drop_drop, List.drop_drop]
    by_cases h1 : a + k < l.length ∧ b + k < l.length
    · rw [if_pos h1, h _ _ h1.1 h1.2]; rfl
    · rw [if_neg h1]
      have e := cmpL_eq (show cmpL ((l.drop a).take k) ((l.drop b).take k) = 0 by omega)
      have el := congrArg List.length e
      simp only [List.length_take, List.length_drop] at el
      by_cases k0 : k = 0
      · subst k0
        omega
      · by_cases h2 : b + k < l.length
        · rw [if_pos h2, List.drop_eq_nil_of_le (by omega : l.length ≤ a + k), List.drop_eq_getElem_cons h2]
          obtain ⟨k', rfl⟩ : ∃ k', k = k' + 1 := ⟨k - 1, by omega⟩
          rw [List.take_nil, List.take_succ_cons]; rfl
        · rw [if_neg h2]
          by_cases h3 : a + k < l.length
          · rw [if_pos h3, List.drop_eq_nil_of_le (by omega : l.length ≤ b + k), List.drop_eq_getElem_cons h3]
            obtain ⟨k', rfl⟩ : ∃ k', k = k' + 1 := ⟨k - 1, by omega⟩
            rw [List.take_nil, List.take_succ_cons]; rfl
          · rw [if_neg h3, List.drop_eq_nil_of_le (by omega : l.length ≤ a + k), List.drop_eq_nil_of_le (by omega : l.length ≤ b + k), List.take_nil]; rfl
theorem cK_full {l : List Int} {k : Nat} (h : l.length ≤ k) (a b : Nat) : cK l k a b = cE l a b := by
  unfold cK cE
  rw [List.take_of_length_le (by rw [List.length_drop]; omega), List.take_of_length_le (by rw [List.length_drop]; omega)]
theorem cE_inj {l : List Int} {a b : Nat} (ha : a < l.length) (hb : b < l.length) (h : cE l a b = 0) : a = b := by
  have := congrArg List.length (cmpL_eq h)
  simp only [List.length_drop] at this
  omega

/-- The ends of a list by order: this list and no other. -/
def IsEnds (l : List Int) (e : List Nat) : Prop := e.Perm (List.range l.length) ∧ e.Pairwise fun a b => cE l a b < 0
theorem IsEnds.length {l : List Int} {e : List Nat} (h : IsEnds l e) : e.length = l.length := by have := h.1.length_eq; simpa using this
theorem IsEnds.lt {l : List Int} {e : List Nat} (h : IsEnds l e) {a : Nat} (ha : a ∈ e) : a < l.length := by simpa using h.1.mem_iff.1 ha
theorem IsEnds.mem {l : List Int} {e : List Nat} (h : IsEnds l e) {a : Nat} (ha : a < l.length) : a ∈ e := h.1.mem_iff.2 (by simpa using ha)
theorem IsEnds.nodup {l : List Int} {e : List Nat} (h : IsEnds l e) : e.Nodup := h.1.nodup_iff.2 List.nodup_range
theorem IsEnds.unique {l : List Int} {e e' : List Nat} (h : IsEnds l e) (h' : IsEnds l e') : e = e' :=
  List.Perm.eq_of_pairwise (le := fun a b => cE l a b < 0) (fun a b _ _ h1 h2 => by
    have := cmpL_trans h1 h2
    rw [cmpL_refl] at this
    omega) h.2 h'.2 (h.1.trans h'.1.symm)
theorem IsEnds.at {l : List Int} {e : List Nat} (h : IsEnds l e) {i j : Nat} (hij : i < j) (hj : j < l.length) : cE l (nth e i) (nth e j) < 0 := by
  have hl := h.length
  rw [nth_lt (by omega), nth_lt (by omega)]
  exact List.pairwise_iff_getElem.1 h.2 i j (by omega) (by omega) hij
theorem IsEnds.nth_lt {l : List Int} {e : List Nat} (h : IsEnds l e) {i : Nat} (hi : i < l.length) : nth e i < l.length := h.lt (nth_mem (by rw [h.length]; exact hi))

/-! ### New ranks out of an order -/
/-- How many places up to i are unlike the one ahead, by key. -/
def num (K : Nat → Nat → Int) (e : List Nat) : Nat → Nat
  | 0 => 0
  | i + 1 => num K e i + if K (nth e i) (nth e (i + 1)) ≠ 0 then 1 else 0
theorem num_mono (K : Nat → Nat → Int) (e : List Nat) {i j : Nat} (h : i ≤ j) : num K e i ≤ num K e j := by
  induction j with
  | zero => have : i = 0 := by omega
            subst this; exact Nat.le_refl _
  | succ j ih =>
    by_cases g : i = j + 1
    · subst g; exact Nat.le_refl _
    · have := ih (by omega)
      rw [num]; omega
theorem num_le (K : Nat → Nat → Int) (e : List Nat) : ∀ i, num K e i ≤ i
  | 0 => Nat.le_refl _
  | i + 1 => by have := num_le K e i; rw [num]; split <;> omega
/-- What an order by the first k numbers is: sorted, and each end once. -/
structure Ord (l : List Int) (k : Nat) (e : List Nat) : Prop where
  perm : e.Perm (List.range l.length)
  sorted : ∀ i j, i < j → j < l.length → ¬ cK l k (nth e j) (nth e i) < 0
theorem Ord.length {l : List Int} {k : Nat} {e : List Nat} (h : Ord l k e) : e.length = l.length := by have := h.perm.length_eq; simpa using this
theorem cK_swap (l : List Int) (k a b : Nat) : cK l k b a = - cK l k a b := cmpL_swap _ _
theorem cK_refl (l : List Int) (k a : Nat) : cK l k a a = 0 := cmpL_refl _
theorem num_eq {l : List Int} {k : Nat} {e : List Nat} (h : Ord l k e) : ∀ {i j : Nat}, i ≤ j → j < l.length → (num (cK l k) e i = num (cK l k) e j ↔ cK l k (nth e i) (nth e j) = 0) := by
  intro i j hij hj
  induction j with
  | zero =>
    have : i = 0 := by omega
    subst this
    simp [cK_refl]
  | succ j ih =>
    by_cases g : i = j + 1
    · subst g; simp [cK_refl]
    · have ih := ih (by omega) (by omega)
      have m := num_mono (cK l k) e (show i ≤ j by omega)
      rw [num]
      by_cases c : cK l k (nth e j) (nth e (j + 1)) ≠ 0
      · rw [if_pos c]
        constructor
        · intro q; omega
        · intro q
          exfalso
          -- e_i = e_(j+1) by key, and e_j lies between
          have s1 : cK l k (nth e i) (nth e j) ≤ 0 := by
            by_cases g2 : i = j
            · rw [g2, cK_refl]; omega
            · have := h.sorted i j (by omega) (by omega); have := cK_swap l k (nth e i) (nth e j); omega
          have s2 : cK l k (nth e j) (nth e (j + 1)) ≤ 0 := by have := h.sorted j (j + 1) (by omega) hj; have := cK_swap l k (nth e j) (nth e (j + 1)); omega
          have s3 : cK l k (nth e j) (nth e (j + 1)) < 0 := by omega
          rcases Int.lt_or_eq_of_le s1 with s4 | s4
          · have := cmpL_trans (r := (l.drop (nth e i)).take k) (s := (l.drop (nth e j)).take k) (t := (l.drop (nth e (j + 1))).take k) s4 s3
            unfold cK at q; omega
          · have e1 := cmpL_eq s4
            unfold cK at q s3
            rw [e1] at q; omega
      · have c0 : cK l k (nth e j) (nth e (j + 1)) = 0 := by omega
        rw [if_neg c, Nat.add_zero, ih]
        have e1 := cmpL_eq c0
        unfold cK
        rw [e1]
theorem num_cmp {l : List Int} {k : Nat} {e : List Nat} (h : Ord l k e) {i j : Nat} (hi : i < l.length) (hj : j < l.length) : cmpN (num (cK l k) e i) (num (cK l k) e j) = cK l k (nth e i) (nth e j) := by
  have key : ∀ i j, i < j → j < l.length → cmpN (num (cK l k) e i) (num (cK l k) e j) = cK l k (nth e i) (nth e j) := by
    intro i j hij hj
    have m := num_mono (cK l k) e (Nat.le_of_lt hij)
    have q := num_eq h (Nat.le_of_lt hij) hj
    have s := h.sorted i j hij hj
    have s' := cK_swap l k (nth e i) (nth e j)
    unfold cmpN
    by_cases c : num (cK l k) e i = num (cK l k) e j
    · rw [if_neg (by omega), if_neg (by omega), q.1 c]
    · rw [if_pos (by omega)]
      rcases cmpL_cases ((l.drop (nth e i)).take k) ((l.drop (nth e j)).take k) with b | b | b
      · exact b.symm
      · exact absurd (q.2 b) c
      · exfalso; unfold cK at s s'; omega
  rcases Nat.lt_trichotomy i j with c | c | c
  · exact key i j c hj
  · subst c; rw [cK_refl]; unfold cmpN; rw [if_neg (by omega), if_neg (by omega)]
  · have := key j i c hi
    rw [cK_swap l k (nth e j) (nth e i), ← this]
    unfold cmpN
    by_cases c1 : (num (cK l k) e i : Int) < num (cK l k) e j
    · rw [if_pos c1, if_neg (by omega), if_pos c1]
    · by_cases c2 : (num (cK l k) e j : Int) < num (cK l k) e i
      · rw [if_neg c1, if_pos c2, if_pos c2]; rfl
      · rw [if_neg c1, if_neg c2, if_neg c2, if_neg c1]; rfl
/-- All told apart. -/
theorem num_full (K : Nat → Nat → Int) (e : List Nat) : ∀ n, num K e n = n → ∀ i, i < n → K (nth e i) (nth e (i + 1)) ≠ 0
  | 0, _, _, h => by omega
  | n + 1, g, i, h => by
    have h1 := num_le K e n
    rw [num] at g
    by_cases c : K (nth e n) (nth e (n + 1)) ≠ 0
    · rw [if_pos c] at g
      by_cases d : i = n
      · subst d; exact c
      · exact num_full K e n (by omega) i (by omega)
    · rw [if_neg c] at g; omega
theorem ends_of_ord {l : List Int} {k : Nat} {e : List Nat} (h : Ord l k e) (hd : (∀ i, i + 1 < l.length → cK l k (nth e i) (nth e (i + 1)) ≠ 0) ∨ l.length ≤ k) : IsEnds l e := by
  have hl := h.length
  have hn : e.Nodup := h.perm.nodup_iff.2 List.nodup_range
  have hlt : ∀ i, i < l.length → nth e i < l.length := fun i hi => by simpa using h.perm.mem_iff.1 (nth_mem (l := e) (k := i) (by omega))
  refine ⟨h.perm, List.pairwise_iff_getElem.2 fun i j hi hj hij => ?_⟩
  have key : cE l (nth e i) (nth e j) < 0 := by
    have s := h.sorted i j hij (by omega)
    have s' := cK_swap l k (nth e i) (nth e j)
    rcases hd with hd | hd
    · have m := num_eq h (Nat.le_of_lt hij) (by omega)
      have hne : cK l k (nth e i) (nth e j) ≠ 0 := fun q => by
        have e1 := m.2 q
        have g1 := num_mono (cK l k) e (show i + 1 ≤ j by omega)
        rw [num, if_pos (hd i (by omega))] at g1
        omega
      have : cK l k (nth e i) (nth e j) < 0 := by omega
      exact cmpL_take_lt this
    · rw [cK_full hd] at s s'
      rw [cK_full hd] at s'
      have hne : cE l (nth e i) (nth e j) ≠ 0 := fun q => by
        have := cE_inj (hlt i (by omega)) (hlt j (by omega)) q
        rw [nth_lt hi, nth_lt hj] at this
        exact List.pairwise_iff_getElem.1 hn i j hi hj hij this
      omega
  rwa [nth_lt hi, nth_lt hj] at key
end Go.Proofs.YtjfdlibceldanabGreatDoor.En

/-! What neighbouring ends have in common, plain. No program in sight. -/
namespace Go.Proofs.YtjfdlibceldanabGreatDoor.En

/-- How many numbers two lists have in common, from the front. -/
def lcp : List Int → List Int → Nat
  | a :: s, b :: t => if a = b then lcp s t + 1 else 0
  | _, _ => 0
theorem lcp_nil (s : List Int) : lcp [] s = 0 := by cases s <;> rfl
theorem lcp_nil' (s : List Int) : lcp s [] = 0 := by cases s <;> rfl
theorem lcp_cons (a b : Int) (s t : List Int) : lcp (a :: s) (b :: t) = if a = b then lcp s t + 1 else 0 := by rw [lcp]
theorem lcp_le : ∀ s t : List Int, lcp s t ≤ s.length ∧ lcp s t ≤ t.length
  | [], t => by rw [lcp_nil]; exact ⟨Nat.zero_le _, Nat.zero_le _⟩
  | a :: s, [] => by rw [lcp_nil']; exact ⟨Nat.zero_le _, Nat.zero_le _⟩
  | a :: s, b :: t => by
    rw [lcp_cons]
    have := lcp_le s t
    simp only [List.length_cons]
    split <;> omega
theorem nth_nil (k : Nat) : nth ([] : List Int) k = 0 := by rw [nth_ge (by simp)]; rfl
theorem nth_cons_succ {α : Type} [Inhabited α] (a : α) (s : List α) (k : Nat) : nth (a :: s) (k + 1) = nth s k := by unfold nth; simp
theorem nth_cons_zero {α : Type} [Inhabited α] (a : α) (s : List α) : nth (a :: s) 0 = a := by unfold nth; simp
theorem lcp_same : ∀ {s t : List Int} {k : Nat}, k < lcp s t → nth s k = nth t k
  | [], t, k, h => by rw [lcp_nil] at h; omega
  | a :: s, [], k, h => by rw [lcp_nil'] at h; omega
  | a :: s, b :: t, k, h => by
    rw [lcp_cons] at h
    by_cases e : a = b
    · rw [if_pos e] at h
      cases k with
      | zero => rw [nth_cons_zero, nth_cons_zero, e]
      | succ k => rw [nth_cons_succ, nth_cons_succ]; exact lcp_same (by omega)
    · rw [if_neg e] at h; omega
theorem lcp_end : ∀ (s t : List Int), ¬ (lcp s t < s.length ∧ lcp s t < t.length ∧ nth s (lcp s t) = nth t (lcp s t))
  | [], t => by rw [lcp_nil]; simp
  | a :: s, [] => by rw [lcp_nil']; simp
  | a :: s, b :: t => by
    rw [lcp_cons]
    by_cases e : a = b
    · rw [if_pos e, nth_cons_succ, nth_cons_succ]
      have := lcp_end s t
      simp only [List.length_cons]
      intro h
      exact this ⟨by omega, by omega, h.2.2⟩
    · rw [if_neg e, nth_cons_zero, nth_cons_zero]
      intro h
      exact e h.2.2
theorem lcp_go {s t : List Int} {k : Nat} (h : k ≤ lcp s t) : k < lcp s t ↔ (k < s.length ∧ k < t.length ∧ nth s k = nth t k) := by
  constructor
  · intro g
    have := lcp_le s t
    exact ⟨by omega, by omega, lcp_same g⟩
  · intro g
    by_cases e : k = lcp s t
    · subst e; exact absurd g (lcp_end s t)
    · omega
theorem nth_drop {α : Type} [Inhabited α] (l : List α) (a k : Nat) : nth (l.drop a) k = nth l (a + k) := by unfold nth; rw [List.getElem?_drop]
/-- Between two that are in order, there is no less in common with the latter. -/
theorem lcp_between : ∀ {r s t : List Int}, ¬ 0 < cmpL r s → ¬ 0 < cmpL s t → lcp r t ≤ lcp s t
  | [], _, _, _, _ => by rw [lcp_nil]; exact Nat.zero_le _
  | _ :: _, [], _, h, _ => absurd (show 0 < (1 : Int) by omega) h
  | a :: r, b :: s, [], _, _ => by rw [lcp_nil']; exact Nat.zero_le _
  | a :: r, b :: s, c :: t, h, g => by
    rw [lcp_cons, lcp_cons]
    rw [cmpL_cons] at h g
    by_cases e : a = c
    · subst e
      by_cases e2 : b = a
      · subst e2
        rw [if_neg (by omega), if_neg (by omega)] at h g
        rw [if_pos rfl, if_pos rfl]
        have := lcp_between h g
        omega
      · exfalso
        by_cases c1 : a < b
        · rw [if_neg (by omega), if_pos c1] at g; omega
        · rw [if_neg c1, if_pos (by omega)] at h; omega
    · rw [if_neg e]; exact Nat.zero_le _

def alikeAt (l : List Int) (e : List Nat) (i : Nat) : Nat := if i = 0 then 0 else lcp (l.drop (nth e (i - 1))) (l.drop (nth e i))
theorem alikeAt_zero (l : List Int) (e : List Nat) : alikeAt l e 0 = 0 := rfl
theorem alikeAt_pos (l : List Int) (e : List Nat) {i : Nat} (h : 0 < i) : alikeAt l e i = lcp (l.drop (nth e (i - 1))) (l.drop (nth e i)) := if_neg (by omega)
/-- One number fewer at least, one place on. -/
theorem alike_next {l : List Int} {e : List Nat} (h : IsEnds l e) {i i' : Nat} (hi : i < l.length) (hi' : i' < l.length) (hn : nth e i' = nth e i + 1) : alikeAt l e i ≤ alikeAt l e i' + 1 := by
  by_cases h0 : i = 0
  · subst h0; rw [alikeAt_zero]; omega
  · rw [alikeAt_pos l e (by omega)]
    have ho := h.nth_lt (show i - 1 < l.length by omega)
    have ha := h.nth_lt hi
    have hb := h.nth_lt hi'
    have c := h.at (show i - 1 < i by omega) hi
    generalize ho' : nth e (i - 1) = o at *
    generalize ha' : nth e i = a at *
    unfold cE at c
    rw [List.drop_eq_getElem_cons ho, List.drop_eq_getElem_cons ha, cmpL_cons] at c
    rw [List.drop_eq_getElem_cons ho, List.drop_eq_getElem_cons ha, lcp_cons]
    by_cases e1 : l[o] = l[a]
    · rw [if_pos e1]
      rw [if_neg (by omega), if_neg (by omega)] at c
      by_cases ho1 : o + 1 < l.length
      · -- the end o + 1 stands ahead of a + 1
        have hm := h.mem ho1
        obtain ⟨q, hq, hqe⟩ := List.getElem_of_mem hm
        rw [h.length] at hq
        have hqe' : nth e q = o + 1 := by rw [Go.Proofs.YtjfdlibceldanabGreatDoor.nth_lt (by rw [h.length]; exact hq)]; exact hqe
        have hlt : q < i' := by
          rcases Nat.lt_trichotomy q i' with g | g | g
          · exact g
          · subst g
            rw [hn] at hqe'
            have : a = o := by omega
            subst this
            rw [cmpL_refl] at c; omega
          · have c2 := h.at g hq
            rw [hqe', hn] at c2
            have := cmpL_trans c2 c
            rw [cmpL_refl] at this; omega
        rw [alikeAt_pos l e (by omega), hn]
        have le1 : ¬ 0 < cmpL (l.drop (o + 1)) (l.drop (nth e (i' - 1))) := by
          by_cases g : q = i' - 1
          · rw [← g, hqe', cmpL_refl]; omega
          · have c2 := h.at (show q < i' - 1 by omega) (show i' - 1 < l.length by omega)
            rw [hqe'] at c2
            unfold cE at c2; omega
        have le2 : ¬ 0 < cmpL (l.drop (nth e (i' - 1))) (l.drop (a + 1)) := by
          have c2 := h.at (show i' - 1 < i' by omega) hi'
          rw [hn] at c2
          unfold cE at c2; omega
        have := lcp_between le1 le2
        omega
      · rw [List.drop_eq_nil_of_le (by omega : l.length ≤ o + 1), lcp_nil]; omega
    · rw [if_neg e1]; omega
end Go.Proofs.YtjfdlibceldanabGreatDoor.En

/-! The reference's ends, plain: one end more, where it belongs; the ends by order are one list. No program in sight. -/
namespace Go.Proofs.YtjfdlibceldanabGreatDoor.En
/-- The ends below m, by order. -/
structure To (l : List Int) (e : List Nat) (m : Nat) : Prop where
  perm : e.Perm (List.range m)
  ord : e.Pairwise fun a b => cE l a b < 0
theorem To.length {l : List Int} {e : List Nat} {m : Nat} (h : To l e m) : e.length = m := by have := h.perm.length_eq; simpa using this
theorem To.lt {l : List Int} {e : List Nat} {m : Nat} (h : To l e m) {a : Nat} (ha : a ∈ e) : a < m := by simpa using h.perm.mem_iff.1 ha
theorem To.nil (l : List Int) : To l [] 0 := ⟨by simp, List.Pairwise.nil⟩
theorem To.ends {l : List Int} {e : List Nat} (h : To l e l.length) : IsEnds l e := ⟨h.perm, h.ord⟩
theorem cE_swap (l : List Int) (a b : Nat) : cE l b a = - cE l a b := cmpL_swap _ _
/-- One end more, where it belongs. -/
theorem To.step {l : List Int} {e : List Nat} {m k : Nat} (h : To l e m) (hm : m < l.length) (hk : k ≤ m) (h1 : ∀ j, k ≤ j → j < m → cE l m (nth e j) < 0) (h2 : k = 0 ∨ ¬ cE l m (nth e (k - 1)) < 0) : To l (e.take k ++ m :: e.drop k) (m + 1) := by
  have hl := h.length
  constructor
  · have p1 : (e.take k ++ m :: e.drop k).Perm (m :: (e.take k ++ e.drop k)) := List.perm_middle
    rw [List.take_append_drop] at p1
    refine p1.trans ?_
    rw [List.range_succ]
    exact (h.perm.cons m).trans (List.perm_append_comm (l₁ := [m]) (l₂ := List.range m))
  · have hp : (e.take k ++ e.drop k).Pairwise fun a b => cE l a b < 0 := by rw [List.take_append_drop]; exact h.ord
    obtain ⟨pa, pb, pc⟩ := List.pairwise_append.1 hp
    refine List.pairwise_append.2 ⟨pa, List.pairwise_cons.2 ⟨?_, pb⟩, ?_⟩
    · intro b hb
      obtain ⟨j, hj, rfl⟩ := List.getElem_of_mem hb
      rw [List.length_drop] at hj
      have := h1 (k + j) (by omega) (by omega)
      rw [nth_lt (by omega)] at this
      rw [List.getElem_drop]; exact this
    · intro a ha b hb
      rcases List.mem_cons.1 hb with rfl | hb
      · obtain ⟨j, hj, rfl⟩ := List.getElem_of_mem ha
        rw [List.length_take] at hj
        rw [List.getElem_take]
        rcases h2 with rfl | h2
        · omega
        · have hne : cE l b (nth e (k - 1)) ≠ 0 := fun q => by
            have h3 := h.lt (nth_mem (l := e) (k := k - 1) (by omega))
            have := cE_inj (l := l) hm (by omega) q
            omega
          have h4 : cE l (nth e (k - 1)) b < 0 := by
            have := cE_swap l b (nth e (k - 1))
            omega
          by_cases g : j = k - 1
          · subst g; rw [← nth_lt (by omega)]; exact h4
          · have h5 := List.pairwise_iff_getElem.1 h.ord j (k - 1) (by omega) (by omega) (by omega)
            rw [nth_lt (by omega)] at h4
            exact cmpL_trans h5 h4
      · exact pc a ha b hb
theorem exists_k {l : List Int} (e : List Nat) (m : Nat) : ∀ n, n ≤ e.length → (∀ j, n ≤ j → j < e.length → cE l m (nth e j) < 0) → ∃ k, k ≤ n ∧ (∀ j, k ≤ j → j < e.length → cE l m (nth e j) < 0) ∧ (k = 0 ∨ ¬ cE l m (nth e (k - 1)) < 0)
  | 0, _, h => ⟨0, Nat.le_refl _, h, .inl rfl⟩
  | n + 1, hn, h => by
    by_cases g : cE l m (nth e n) < 0
    · obtain ⟨k, h1, h2, h3⟩ := exists_k e m n (by omega) (fun j h1 h2 => by
        by_cases q : j = n
        · subst q; exact g
        · exact h j (by omega) h2)
      exact ⟨k, by omega, h2, h3⟩
    · exact ⟨n + 1, Nat.le_refl _, h, .inr g⟩
theorem to_exists (l : List Int) : ∀ m, m ≤ l.length → ∃ e, To l e m
  | 0, _ => ⟨[], To.nil l⟩
  | m + 1, h => by
    obtain ⟨e, he⟩ := to_exists l m (by omega)
    obtain ⟨k, h1, h2, h3⟩ := exists_k (l := l) e m m (by rw [he.length]; exact Nat.le_refl _) (fun j h1 h2 => by rw [he.length] at h2; omega)
    exact ⟨_, he.step (by omega) h1 (fun j a b => h2 j a (by rw [he.length]; exact b)) h3⟩
open Classical in
/-- The ends, by order. -/
noncomputable def endsF (l : List Int) : List Nat := if h : ∃ e, IsEnds l e then Classical.choose h else []
theorem endsF_is (l : List Int) : IsEnds l (endsF l) := by
  have h : ∃ e, IsEnds l e := by
    obtain ⟨e, he⟩ := to_exists l l.length (Nat.le_refl _)
    exact ⟨e, he.ends⟩
  unfold endsF
  rw [dif_pos h]
  exact Classical.choose_spec h
theorem ends_eq {l : List Int} {e : List Nat} (h : IsEnds l e) : e = endsF l := h.unique (endsF_is l)
/-- How the reference compares two ends. -/
theorem cE_step {l : List Int} {a b : Nat} (ha : a < l.length) (hb : b < l.length) : cE l a b = if nth l a < nth l b then -1 else if nth l b < nth l a then 1 else cE l (a + 1) (b + 1) := by
  unfold cE
  rw [List.drop_eq_getElem_cons ha, List.drop_eq_getElem_cons hb, cmpL_cons, nth_lt ha, nth_lt hb]
theorem cE_end {l : List Int} {a b : Nat} (ha : a ≤ l.length) (hb : b ≤ l.length) (h : ¬ (a < l.length ∧ b < l.length)) : (cE l a b < 0 ↔ (a = l.length ∧ b < l.length)) := by
  unfold cE
  by_cases g : a = l.length
  · by_cases g2 : b = l.length
    · subst g; subst g2; rw [cmpL_refl]; omega
    · subst g
      rw [List.drop_eq_nil_of_le (Nat.le_refl _), List.drop_eq_getElem_cons (show b < l.length by omega)]
      constructor
      · intro _; exact ⟨rfl, by omega⟩
      · intro _; show (-1 : Int) < 0; omega
  · have g2 : b = l.length := by omega
    subst g2
    rw [List.drop_eq_nil_of_le (Nat.le_refl _), List.drop_eq_getElem_cons (show a < l.length by omega)]
    constructor
    · intro q; exact absurd q (show ¬ (1 : Int) < 0 by omega)
    · intro q; omega
end Go.Proofs.YtjfdlibceldanabGreatDoor.En

/-! The ends by ranks, plain: what one round of sorting gives. No program in sight. -/
namespace Go.Proofs.YtjfdlibceldanabGreatDoor.En
open Go.Sort
theorem swo_key {l : List Int} {k : Nat} {R : Nat → Int} (h : Rank l k R) : SWO (fun x y : Fin l.length => decide (keyF l.length R k x y < 0)) where
  irrefl x := by
    rw [key_rank h x.2 x.2, cK_refl]; rfl
  trans x y z h1 h2 := by
    rw [decide_eq_true_iff, key_rank h x.2 y.2] at h1
    rw [decide_eq_true_iff, key_rank h y.2 z.2] at h2
    rw [decide_eq_true_iff, key_rank h x.2 z.2]
    exact cmpL_trans h1 h2
  ntrans x y z h1 h2 := by
    rw [decide_eq_false_iff_not, key_rank h x.2 y.2] at h1
    rw [decide_eq_false_iff_not, key_rank h y.2 z.2] at h2
    rw [decide_eq_false_iff_not, key_rank h x.2 z.2]
    exact cmpL_ntrans h1 h2
theorem ord_sorted {l : List Int} {k : Nat} {R : Nat → Int} [Inhabited (Fin l.length)] (h : Rank l k R) (d d' : Array (Fin l.length)) (h0 : (d.toList.map Fin.val).Perm (List.range l.length)) (hp : PermIn 0 d.size d d')
    (hs : SortedIn (fun x y : Fin l.length => decide (keyF l.length R k x y < 0)) 0 d.size d') : Ord l (k + k) (d'.toList.map Fin.val) := by
  have hlen : d.size = l.length := by have := h0.length_eq; simpa using this
  obtain ⟨p1, _, p3⟩ := hp
  rw [Array.extract_size, ← p1, Array.extract_size] at p3
  refine ⟨(p3.map Fin.val).trans h0, fun i j hij hj => ?_⟩
  have hi' : i < d'.size := by omega
  have hj' : j < d'.size := by omega
  have e : ∀ i (hi : i < d'.size), nth (d'.toList.map Fin.val) i = (d'[i]!).val := fun i hi => by
    rw [nth_lt (by simpa using hi)]
    simp [hi]
  rw [e i hi', e j hj']
  have := hs i j (Nat.zero_le _) hij (by omega)
  rw [decide_eq_false_iff_not, key_rank h (d'[j]!).2 (d'[i]!).2] at this
  exact this
theorem rank_next {l : List Int} {k : Nat} {e : List Nat} (h : Ord l k e) {R : Nat → Int} (hR : ∀ i, i < l.length → R (nth e i) = (num (cK l k) e i : Nat)) : Rank l k R := by
  intro a b ha hb
  have hm : ∀ a, a < l.length → ∃ i, i < l.length ∧ nth e i = a := fun a ha => by
    obtain ⟨i, hi, hie⟩ := List.getElem_of_mem (h.perm.mem_iff.2 (show a ∈ List.range l.length by simpa using ha))
    have := h.length
    exact ⟨i, by omega, by rw [nth_lt hi]; exact hie⟩
  obtain ⟨i, hi, rfl⟩ := hm a ha
  obtain ⟨j, hj, rfl⟩ := hm b hb
  rw [hR i hi, hR j hj, num_cmp h hi hj]
theorem ord_at {l : List Int} {k : Nat} {e : List Nat} (h : Ord l k e) {i : Nat} (hi : i < l.length) : nth e i < l.length := by
  have := h.perm.mem_iff.1 (nth_mem (l := e) (k := i) (by rw [h.length]; exact hi))
  simpa using this
theorem ord_inj {l : List Int} {k : Nat} {e : List Nat} (h : Ord l k e) {i j : Nat} (hi : i < l.length) (hj : j < l.length) (he : nth e i = nth e j) : i = j := by
  have hn : e.Nodup := h.perm.nodup_iff.2 List.nodup_range
  have hl := h.length
  rw [nth_lt (by omega), nth_lt (by omega)] at he
  rcases Nat.lt_trichotomy i j with g | g | g
  · exact absurd he (List.pairwise_iff_getElem.1 hn i j (by omega) (by omega) g)
  · exact g
  · exact absurd he.symm (List.pairwise_iff_getElem.1 hn j i (by omega) (by omega) g)
/-- All told apart, or all looked at. -/
theorem ends_num {l : List Int} {k : Nat} {e : List Nat} (h : Ord l k e) (hd : l.length ≤ num (cK l k) e (l.length - 1) + 1 ∨ l.length ≤ k) : IsEnds l e := by
  refine ends_of_ord h ?_
  rcases hd with hd | hd
  · left
    intro i hi
    have := num_le (cK l k) e (l.length - 1)
    exact num_full _ _ (l.length - 1) (by omega) i (by omega)
  · exact .inr hd
theorem ord_one {l : List Int} (h : l.length = 0) : IsEnds l [] := ⟨by simp [h], List.Pairwise.nil⟩
end Go.Proofs.YtjfdlibceldanabGreatDoor.En

/-! The index, plain: the ends that begin with signs are a span, and one sign more goes from span to span. No program in sight. -/
namespace Go.Proofs.YtjfdlibceldanabGreatDoor.En

/-- How an end compares with signs, by as many numbers as these are. -/
def pc (u s : List Int) : Int := cmpL (u.take s.length) s
theorem pc_nil (u : List Int) : pc u [] = 0 := rfl
theorem pc_nil_cons (c : Int) (s : List Int) : pc [] (c :: s) = -1 := by simp [pc, cmpL]
theorem pc_cons (x c : Int) (u s : List Int) : pc (x :: u) (c :: s) = if x < c then -1 else if c < x then 1 else pc u s := by
  unfold pc; rw [List.length_cons, List.take_succ_cons, cmpL_cons]
theorem cmpL_take_le {u v : List Int} (h : ¬ 0 < cmpL u v) (k : Nat) : ¬ 0 < cmpL (u.take k) (v.take k) := by
  intro hc
  have := cmpL_take k (u.length + v.length) u v
  rw [if_pos (by omega), List.take_of_length_le (by omega), List.take_of_length_le (by omega)] at this
  omega
theorem cmpL_le_trans {r s t : List Int} (h : ¬ 0 < cmpL r s) (g : ¬ 0 < cmpL s t) : ¬ 0 < cmpL r t := by
  have a1 := cmpL_swap r s
  have a2 := cmpL_swap s t
  have a3 := cmpL_swap r t
  have := cmpL_ntrans (r := t) (s := s) (t := r) (by omega) (by omega)
  omega
theorem pc_le {u v s : List Int} (h : ¬ 0 < cmpL u v) (g : ¬ 0 < pc v s) : ¬ 0 < pc u s := cmpL_le_trans (cmpL_take_le h _) g
theorem pc_lt {u v s : List Int} (h : ¬ 0 < cmpL u v) (g : pc v s < 0) : pc u s < 0 := by
  have h1 := cmpL_take_le h s.length
  unfold pc at g ⊢
  rcases cmpL_cases (u.take s.length) (v.take s.length) with b | b | b
  · exact cmpL_trans (by omega) g
  · rw [cmpL_eq b]; exact g
  · omega

theorem filter_front {α : Type} (p : α → Bool) : ∀ l : List α, (l.Pairwise fun a b => p b = true → p a = true) → l.filter p = l.take (l.countP p)
  | [], _ => by simp
  | a :: l, h => by
    have h' := List.pairwise_cons.1 h
    by_cases g : p a = true
    · rw [List.filter_cons_of_pos g, List.countP_cons_of_pos g, List.take_succ_cons, filter_front p l h'.2]
    · have e : ∀ x ∈ l, ¬ p x = true := fun x hx q => g (h'.1 x hx q)
      rw [List.filter_cons_of_neg g, List.countP_cons_of_neg g, List.countP_eq_zero.2 e, List.filter_eq_nil_iff.2 e]; rfl

def lo (l : List Int) (e : List Nat) (s : List Int) : Nat := e.countP fun a => decide (pc (l.drop a) s < 0)
def hi (l : List Int) (e : List Nat) (s : List Int) : Nat := e.countP fun a => decide (pc (l.drop a) s ≤ 0)
def stB (l : List Int) (s : List Int) (a : Nat) : Bool := decide (pc (l.drop a) s = 0)
section
variable {l : List Int} {e : List Nat} (h : IsEnds l e)
include h
theorem lo_take (s : List Int) : e.filter (fun a => decide (pc (l.drop a) s < 0)) = e.take (lo l e s) := by
  refine filter_front _ _ (h.2.imp fun {a b} g q => ?_)
  unfold cE at g
  simp only [decide_eq_true_eq] at q ⊢
  exact pc_lt (by omega) q
theorem hi_take (s : List Int) : e.filter (fun a => decide (pc (l.drop a) s ≤ 0)) = e.take (hi l e s) := by
  refine filter_front _ _ (h.2.imp fun {a b} g q => ?_)
  unfold cE at g
  simp only [decide_eq_true_eq] at q ⊢
  have := pc_le (u := l.drop a) (v := l.drop b) (s := s) (by omega) (by omega)
  omega
omit h in
theorem lo_hi (s : List Int) : hi l e s = lo l e s + e.countP (stB l s) := by
  unfold hi lo stB
  induction e with
  | nil => rfl
  | cons a t ih =>
    simp only [List.countP_cons, ih]
    by_cases h1 : pc (l.drop a) s < 0
    · have h2 : pc (l.drop a) s ≤ 0 := by omega
      have h3 : ¬ pc (l.drop a) s = 0 := by omega
      simp [h1, h2, h3]; omega
    · by_cases h3 : pc (l.drop a) s = 0
      · simp [h3]; omega
      · have h2 : ¬ pc (l.drop a) s ≤ 0 := by omega
        simp [h1, h2, h3]
theorem hi_le (s : List Int) : hi l e s ≤ l.length := by rw [← h.length]; exact List.countP_le_length
/-- The ends of a span are those that begin with the signs. -/
theorem span_filter (s : List Int) : (e.take (hi l e s)).drop (lo l e s) = e.filter (stB l s) := by
  have e1 := hi_take h s
  have e2 := lo_take h s
  have lh : lo l e s ≤ hi l e s := by rw [lo_hi]; omega
  have key : e = e.take (lo l e s) ++ e.drop (lo l e s) := (List.take_append_drop _ _).symm
  have f1 : (e.take (lo l e s)).filter (stB l s) = [] := by
    rw [← e2, List.filter_filter, List.filter_eq_nil_iff]
    intro a _; simp [stB]; omega
  have f3 : (e.drop (hi l e s)).filter (stB l s) = [] := by
    have c1 : (e.drop (hi l e s)).countP (fun a => decide (pc (l.drop a) s ≤ 0)) = 0 := by
      have c0 : e.countP (fun a => decide (pc (l.drop a) s ≤ 0)) = hi l e s := rfl
      have c2 := List.countP_append (p := fun a => decide (pc (l.drop a) s ≤ 0)) (l₁ := e.take (hi l e s)) (l₂ := e.drop (hi l e s))
      rw [List.take_append_drop, c0, ← e1, List.countP_filter] at c2
      simp only [Bool.and_self] at c2
      rw [c0] at c2
      omega
    rw [List.filter_eq_nil_iff]
    intro a ha
    have := List.countP_eq_zero.1 c1 a ha
    simp [stB] at this ⊢; omega
  have f2 : ((e.take (hi l e s)).drop (lo l e s)).filter (stB l s) = (e.take (hi l e s)).drop (lo l e s) := by
    rw [List.filter_eq_self]
    intro a ha
    have m1 : a ∈ e.take (hi l e s) := List.mem_of_mem_drop ha
    rw [← e1] at m1
    have m2 := (List.mem_filter.1 m1).2
    have c1 : ((e.take (hi l e s)).drop (lo l e s)).countP (fun a => decide (pc (l.drop a) s < 0)) = 0 := by
      have c0 : (e.take (hi l e s)).countP (fun a => decide (pc (l.drop a) s < 0)) = lo l e s := by
        rw [← e1, List.countP_filter]
        unfold lo
        refine List.countP_congr fun a _ => ?_
        simp; omega
      have c2 := List.countP_append (p := fun a => decide (pc (l.drop a) s < 0)) (l₁ := (e.take (hi l e s)).take (lo l e s)) (l₂ := (e.take (hi l e s)).drop (lo l e s))
      rw [List.take_append_drop, c0, List.take_take, Nat.min_eq_left lh, ← e2, List.countP_filter] at c2
      simp only [Bool.and_self] at c2
      have c3 : e.countP (fun a => decide (pc (l.drop a) s < 0)) = lo l e s := rfl
      omega
    have := List.countP_eq_zero.1 c1 a ha
    simp [stB] at this m2 ⊢; omega
  have split : e.filter (stB l s) = (e.take (lo l e s)).filter (stB l s) ++ (((e.take (hi l e s)).drop (lo l e s)).filter (stB l s) ++ (e.drop (hi l e s)).filter (stB l s)) := by
    rw [← List.filter_append, ← List.filter_append]
    congr 1
    have := List.take_append_drop (lo l e s) (e.take (hi l e s))
    rw [List.take_take, Nat.min_eq_left lh] at this
    rw [← List.append_assoc, this, List.take_append_drop]
  rw [split, f1, f2, f3, List.nil_append, List.append_nil]
end

/-- The sign ahead of an end; of the whole the last one. -/
def ahead (l : List Int) (a : Nat) : Int := nth l ((a + l.length - 1) % l.length)
/-- A list of signs: Last at its end alone. -/
def IsL (l : List Int) : Prop := 0 < l.length ∧ (∀ i, i + 1 < l.length → 0 < nth l i) ∧ nth l (l.length - 1) = 0
theorem map_nth {α : Type} [Inhabited α] (l : List α) : (List.range l.length).map (nth l) = l := by
  apply List.ext_getElem
  · simp
  · intro i h1 h2; simp [nth_lt h2]
theorem step_count {l : List Int} {e : List Nat} (h : IsEnds l e) (hl : IsL l) {c : Int} (hc : 0 < c) (s : List Int) (p : Int → Bool) (p1 : p (-1) = true) (p2 : p 1 = false) :
    e.countP (fun a => p (pc (l.drop a) (c :: s))) = l.countP (fun x => decide (x < c)) + e.countP (fun a => p (pc (l.drop a) s) && decide (ahead l a = c)) := by
  rw [h.1.countP_eq, h.1.countP_eq]
  obtain ⟨m, hm⟩ : ∃ m, l.length = m + 1 := ⟨l.length - 1, by have := hl.1; omega⟩
  have hz := hl.2.2
  rw [hm, Nat.add_sub_cancel] at hz
  have e1 : (List.range l.length).countP (fun a => p (pc (l.drop a) (c :: s))) =
      (List.range l.length).countP (fun a => decide (nth l a < c)) + (List.range l.length).countP (fun a => p (pc (l.drop (a + 1)) s) && decide (nth l a = c)) := by
    have : ∀ t : List Nat, (∀ a ∈ t, a < l.length) → t.countP (fun a => p (pc (l.drop a) (c :: s))) = t.countP (fun a => decide (nth l a < c)) + t.countP (fun a => p (pc (l.drop (a + 1)) s) && decide (nth l a = c)) := by
      intro t
      induction t with
      | nil => intro _; rfl
      | cons a t ih =>
        intro ht
        have ha := ht a (by simp)
        simp only [List.countP_cons, ih fun b hb => ht b (by simp [hb])]
        rw [List.drop_eq_getElem_cons ha, pc_cons, ← nth_lt ha]
        by_cases c1 : nth l a < c
        · have c2 : ¬ nth l a = c := by omega
          rw [if_pos c1, p1]; simp [c1, c2]; omega
        · by_cases c2 : c < nth l a
          · have c3 : ¬ nth l a = c := by omega
            rw [if_neg c1, if_pos c2, p2]; simp [c1, c3]
          · have c3 : nth l a = c := by omega
            rw [if_neg c1, if_neg c2]; simp [c3]; omega
    exact this _ (by simp)
  have e2 : (List.range l.length).countP (fun a => decide (nth l a < c)) = l.countP (fun x => decide (x < c)) := by
    conv => rhs; rw [← map_nth l]
    rw [List.countP_map]; rfl
  have e3 : (List.range l.length).countP (fun a => p (pc (l.drop (a + 1)) s) && decide (nth l a = c)) = (List.range l.length).countP (fun a => p (pc (l.drop a) s) && decide (ahead l a = c)) := by
    rw [hm]
    have r1 : (List.range (m + 1)).countP (fun a => p (pc (l.drop (a + 1)) s) && decide (nth l a = c)) = (List.range m).countP (fun a => p (pc (l.drop (a + 1)) s) && decide (nth l a = c)) := by
      have : ¬ nth l m = c := by omega
      rw [List.range_succ, List.countP_append, List.countP_singleton]; simp [this]
    have r2 : (List.range (m + 1)).countP (fun a => p (pc (l.drop a) s) && decide (ahead l a = c)) = (List.range m).countP (fun a => p (pc (l.drop (a + 1)) s) && decide (ahead l (a + 1) = c)) := by
      have : ¬ ahead l 0 = c := by
        unfold ahead
        rw [hm, show 0 + (m + 1) - 1 = m from by omega, Nat.mod_eq_of_lt (by omega)]; omega
      rw [List.range_succ_eq_map, List.countP_cons, List.countP_map]; simp [this]; rfl
    rw [r1, r2]
    refine List.countP_congr fun a ha => ?_
    have ha := List.mem_range.1 ha
    have : ahead l (a + 1) = nth l a := by
      unfold ahead
      rw [hm, show a + 1 + (m + 1) - 1 = a + (m + 1) from by omega, Nat.add_mod_right, Nat.mod_eq_of_lt (by omega)]
    rw [this]
  rw [e1, e2, e3]
theorem lo_step {l : List Int} {e : List Nat} (h : IsEnds l e) (hl : IsL l) {c : Int} (hc : 0 < c) (s : List Int) :
    lo l e (c :: s) = l.countP (fun x => decide (x < c)) + (e.take (lo l e s)).countP (fun a => decide (ahead l a = c)) := by
  have := step_count h hl hc s (fun x => decide (x < 0)) (by decide) (by decide)
  rw [← lo_take h, List.countP_filter]
  unfold lo
  rw [this]
  congr 1
  refine List.countP_congr fun a _ => ?_
  simp [Bool.and_comm]
theorem hi_step {l : List Int} {e : List Nat} (h : IsEnds l e) (hl : IsL l) {c : Int} (hc : 0 < c) (s : List Int) :
    hi l e (c :: s) = l.countP (fun x => decide (x < c)) + (e.take (hi l e s)).countP (fun a => decide (ahead l a = c)) := by
  have := step_count h hl hc s (fun x => decide (x ≤ 0)) (by decide) (by decide)
  rw [← hi_take h, List.countP_filter]
  unfold hi
  rw [this]
  congr 1
  refine List.countP_congr fun a _ => ?_
  simp [Bool.and_comm]
theorem lo_nil {l : List Int} {e : List Nat} : lo l e [] = 0 := by unfold lo; simp [pc_nil]
theorem hi_nil {l : List Int} {e : List Nat} (h : IsEnds l e) : hi l e [] = l.length := by unfold hi; simp [pc_nil, h.length]
/-- Signs stand at a place. -/
theorem stB_iff (l s : List Int) (a : Nat) : stB l s a = true ↔ a + s.length ≤ max a l.length ∧ ∀ k, k < s.length → nth l (a + k) = nth s k := by
  unfold stB
  rw [decide_eq_true_iff]
  unfold pc
  constructor
  · intro g
    have e1 := cmpL_eq g
    have e2 := congrArg List.length e1
    rw [List.length_take, List.length_drop] at e2
    refine ⟨by omega, fun k hk => ?_⟩
    rw [← e1, ← nth_drop]
    unfold nth
    rw [List.getElem?_take_of_lt hk]
  · intro ⟨g1, g2⟩
    have : (l.drop a).take s.length = s := by
      refine nth_ext (by rw [List.length_take, List.length_drop]; omega) fun k hk => ?_
      have hk' : k < s.length := by rw [List.length_take] at hk; omega
      rw [← g2 k hk', ← nth_drop]
      unfold nth
      rw [List.getElem?_take_of_lt hk']
    rw [this]; exact cmpL_refl s
end Go.Proofs.YtjfdlibceldanabGreatDoor.En

/-! Numbers each once, by order, plain. No program in sight. -/
namespace Go.Proofs.YtjfdlibceldanabGreatDoor.Ri
/-- Rising. -/
abbrev Up (l : List Int) : Prop := l.Pairwise (· < ·)
theorem up_nodup {l : List Int} (h : Up l) : l.Nodup := h.imp fun h => by omega
theorem up_ext {a b : List Int} (ha : Up a) (hb : Up b) (h : ∀ x, x ∈ a ↔ x ∈ b) : a = b := by
  have hp : a.Perm b := (List.perm_ext_iff_of_nodup (up_nodup ha) (up_nodup hb)).2 h
  exact List.Perm.eq_of_pairwise (le := (· < ·)) (fun x y _ _ h1 h2 => by omega) ha hb hp
def insU (o : List Int) (n : Int) : List Int := o.filter (fun x => decide (x < n)) ++ n :: o.filter (fun x => decide (n < x))
theorem insU_mem (o : List Int) (n x : Int) : x ∈ insU o n ↔ x ∈ o ∨ x = n := by
  unfold insU
  simp only [List.mem_append, List.mem_cons, List.mem_filter, decide_eq_true_eq]
  constructor
  · rintro (h | h | h)
    · exact .inl h.1
    · exact .inr h
    · exact .inl h.1
  · rintro (h | h)
    · rcases Int.lt_trichotomy x n with g | g | g
      · exact .inl ⟨h, g⟩
      · exact .inr (.inl g)
      · exact .inr (.inr ⟨h, g⟩)
    · exact .inr (.inl h)
theorem insU_up {o : List Int} (h : Up o) (n : Int) : Up (insU o n) := by
  unfold insU
  refine List.pairwise_append.2 ⟨h.filter _, List.pairwise_cons.2 ⟨?_, h.filter _⟩, ?_⟩
  · intro b hb; simpa using (List.mem_filter.1 hb).2
  · intro a ha b hb
    have h1 : a < n := by simpa using (List.mem_filter.1 ha).2
    rcases List.mem_cons.1 hb with rfl | hb
    · exact h1
    · have h2 : n < b := by simpa using (List.mem_filter.1 hb).2
      omega
/-- Each number once, by order. -/
def rise (l : List Int) : List Int := l.foldl insU []
theorem rise_snoc (l : List Int) (n : Int) : rise (l ++ [n]) = insU (rise l) n := by unfold rise; rw [List.foldl_append]; rfl
theorem foldl_up : ∀ (l o : List Int), Up o → Up (l.foldl insU o)
  | [], _, h => h
  | a :: l, _, h => foldl_up l _ (insU_up h a)
theorem foldl_mem : ∀ (l o : List Int) (x : Int), x ∈ l.foldl insU o ↔ x ∈ o ∨ x ∈ l
  | [], _, x => by simp
  | a :: l, _, x => by
    rw [List.foldl_cons, foldl_mem l, insU_mem]
    simp only [List.mem_cons]
    constructor
    · rintro ((h | h) | h)
      · exact .inl h
      · exact .inr (.inl h)
      · exact .inr (.inr h)
    · rintro (h | h | h)
      · exact .inl (.inl h)
      · exact .inl (.inr h)
      · exact .inr h
theorem rise_up (l : List Int) : Up (rise l) := foldl_up l [] List.Pairwise.nil
theorem rise_mem (l : List Int) (x : Int) : x ∈ rise l ↔ x ∈ l := by unfold rise; rw [foldl_mem]; simp
/-- Whatever rises and has just these members. -/
theorem rise_eq {l o : List Int} (h : Up o) (hm : ∀ x, x ∈ o ↔ x ∈ l) : o = rise l := up_ext h (rise_up l) fun x => by rw [hm, rise_mem]
theorem rise_known {l : List Int} {n : Int} (h : n ∈ rise l) : rise (l ++ [n]) = rise l := by
  rw [rise_snoc]
  exact up_ext (insU_up (rise_up l) n) (rise_up l) fun x => by
    rw [insU_mem]
    constructor
    · rintro (g | rfl)
      · exact g
      · exact h
    · exact .inl
theorem rise_new {l : List Int} {n : Int} {k : Nat} (hk : k ≤ (rise l).length) (h1 : ∀ j, k ≤ j → j < (rise l).length → n < nth (rise l) j) (h2 : k = 0 ∨ nth (rise l) (k - 1) < n) : (rise l).take k ++ n :: (rise l).drop k = rise (l ++ [n]) := by
  rw [rise_snoc]
  have hu := rise_up l
  generalize rise l = o at *
  refine up_ext ?_ (insU_up hu n) fun x => ?_
  · have hp : Up (o.take k ++ o.drop k) := by rw [List.take_append_drop]; exact hu
    obtain ⟨pa, pb, pc⟩ := List.pairwise_append.1 hp
    refine List.pairwise_append.2 ⟨pa, List.pairwise_cons.2 ⟨?_, pb⟩, ?_⟩
    · intro b hb
      obtain ⟨j, hj, rfl⟩ := List.getElem_of_mem hb
      rw [List.length_drop] at hj
      have := h1 (k + j) (by omega) (by omega)
      rw [nth_lt (by omega)] at this
      rw [List.getElem_drop]; exact this
    · intro a ha b hb
      rcases List.mem_cons.1 hb with rfl | hb
      · obtain ⟨j, hj, rfl⟩ := List.getElem_of_mem ha
        rw [List.length_take] at hj
        rw [List.getElem_take]
        rcases h2 with rfl | h2
        · omega
        · rw [nth_lt (by omega)] at h2
          by_cases g : j = k - 1
          · subst g; exact h2
          · have h5 := List.pairwise_iff_getElem.1 hu j (k - 1) (by omega) (by omega) (by omega)
            omega
      · exact pc a ha b hb
  · rw [insU_mem]
    conv => rhs; rw [← List.take_append_drop k o]
    simp only [List.mem_append, List.mem_cons]
    constructor
    · rintro (h | h | h)
      · exact .inl (.inl h)
      · exact .inr h
      · exact .inl (.inr h)
    · rintro ((h | h) | h)
      · exact .inl h
      · exact .inr (.inr h)
      · exact .inr (.inl h)
end Go.Proofs.YtjfdlibceldanabGreatDoor.Ri

/-! How likely a sign is, plain: the parts, their bounds. No program in sight. -/
namespace Go.Proofs.YtjfdlibceldanabGreatDoor.Gu
open En Ri
/-- Where signs stand; the unlike signs behind them, and ahead of them. -/
def places (l s : List Int) : List Nat := (List.range l.length).filter (stB l s)
def behs (l s : List Int) : List Int := rise (((places l s).filter fun a => decide (a + s.length < l.length)).map fun a => nth l (a + s.length))
def befs (l s : List Int) : List Int := rise ((places l s).map (En.ahead l))
theorem stB_snoc (l s : List Int) (x : Int) (a : Nat) (ha : a ≤ l.length) : stB l (s ++ [x]) a = true ↔ stB l s a = true ∧ a + s.length < l.length ∧ nth l (a + s.length) = x := by
  rw [stB_iff, stB_iff, Nat.max_eq_right ha, List.length_append, List.length_singleton]
  have e1 : ∀ k, k < s.length → nth (s ++ [x]) k = nth s k := fun k hk => by unfold nth; rw [List.getElem?_append_left hk]
  have e2 : nth (s ++ [x]) s.length = x := by unfold nth; simp
  constructor
  · rintro ⟨h1, h2⟩
    refine ⟨⟨by omega, fun k hk => by rw [h2 k (by omega), e1 k hk]⟩, by omega, by rw [h2 s.length (by omega), e2]⟩
  · rintro ⟨⟨_, h2⟩, h3, h4⟩
    refine ⟨by omega, fun k hk => ?_⟩
    by_cases g : k = s.length
    · subst g; rw [e2, h4]
    · rw [e1 k (by omega), h2 k (by omega)]
theorem stB_cons (l s : List Int) (x : Int) (a : Nat) (ha : a ≤ l.length) (h : stB l (x :: s) a = true) : a + 1 ≤ l.length ∧ stB l s (a + 1) = true := by
  rw [stB_iff, Nat.max_eq_right ha, List.length_cons] at h
  obtain ⟨h1, h2⟩ := h
  refine ⟨by omega, (stB_iff _ _ _).2 ⟨by omega, fun k hk => ?_⟩⟩
  have := h2 (k + 1) (by omega)
  rw [show a + 1 + k = a + (k + 1) from by omega, this]
  unfold nth; simp
theorem places_mem {l s : List Int} {a : Nat} : a ∈ places l s ↔ a < l.length ∧ stB l s a = true := by unfold places; simp
theorem behs_mem {l s : List Int} {x : Int} : x ∈ behs l s ↔ ∃ a, a ∈ places l (s ++ [x]) := by
  unfold behs
  rw [rise_mem, List.mem_map]
  simp only [List.mem_filter, decide_eq_true_eq]
  constructor
  · rintro ⟨a, ⟨h1, h2⟩, h3⟩
    have := places_mem.1 h1
    exact ⟨a, places_mem.2 ⟨this.1, (stB_snoc l s x a (by omega)).2 ⟨this.2, h2, h3⟩⟩⟩
  · rintro ⟨a, h⟩
    have h' := places_mem.1 h
    have := (stB_snoc l s x a (by omega)).1 h'.2
    exact ⟨a, ⟨places_mem.2 ⟨h'.1, this.1⟩, this.2.1⟩, this.2.2⟩
/-- What stands behind more stands behind less. -/
theorem behs_cons {l s : List Int} {x y : Int} (h : x ∈ behs l (y :: s)) : x ∈ behs l s := by
  rw [behs_mem] at h ⊢
  obtain ⟨a, ha⟩ := h
  have h' := places_mem.1 ha
  have := stB_cons l (s ++ [x]) y a (by omega) h'.2
  refine ⟨a + 1, places_mem.2 ⟨?_, this.2⟩⟩
  have h2 := (stB_snoc l s x (a + 1) this.1).1 this.2
  omega
/-- All numbers that may stand behind, looked through one by one. -/
theorem behs_all {l s : List Int} {m : Nat} (hl : ∀ x ∈ l, 0 ≤ x ∧ x ≤ m) : behs l s = ((List.range (m + 1)).filter fun k : Nat => decide (0 < (places l (s ++ [Int.ofNat k])).length)).map Int.ofNat := by
  refine up_ext (rise_up _) ?_ fun x => ?_
  · show List.Pairwise _ _
    rw [List.pairwise_map]
    exact (List.Pairwise.filter _ List.pairwise_lt_range).imp fun h => by simpa using h
  · rw [behs_mem, List.mem_map]
    simp only [List.mem_filter, List.mem_range, decide_eq_true_eq]
    constructor
    · rintro ⟨a, ha⟩
      have h' := places_mem.1 ha
      have h2 := (stB_snoc l s x a (by omega)).1 h'.2
      have h3 := hl x (by rw [← h2.2.2]; exact nth_mem h2.2.1)
      refine ⟨x.toNat, ⟨by omega, ?_⟩, by show ((x.toNat : Nat) : Int) = x; omega⟩
      rw [show Int.ofNat x.toNat = x from by show ((x.toNat : Nat) : Int) = x; omega]
      exact List.length_pos_of_mem ha
    · rintro ⟨k, ⟨h1, h2⟩, rfl⟩
      obtain ⟨a, ha⟩ := List.exists_mem_of_length_pos h2
      exact ⟨a, ha⟩

/-! ### How much signs weigh -/
def nn (l s : List Int) (longest : Bool) (x : Int) : Nat := if longest then (places l (s ++ [x])).length else (befs l (s ++ [x])).length
def kn (l s : List Int) : List Int := (behs l s).filter fun x => decide (x ≠ 0)
def allF (l s : List Int) (longest : Bool) : Nat := ((kn l s).map (nn l s longest)).sum
def ownF (l s : List Int) (longest : Bool) (sign : Int) : Nat := if sign ∈ kn l s then nn l s longest sign else 0
theorem insU_length (o : List Int) (n : Int) : (insU o n).length ≤ o.length + 1 := by
  unfold insU
  rw [List.length_append, List.length_cons]
  induction o with
  | nil => simp
  | cons a t ih =>
    simp only [List.filter_cons, List.length_cons]
    by_cases h1 : a < n
    · have : ¬ n < a := by omega
      simp only [h1, this, decide_true, decide_false, if_true, Bool.false_eq_true, if_false, List.length_cons]; omega
    · by_cases h2 : n < a
      · simp only [h1, h2, decide_true, decide_false, if_true, Bool.false_eq_true, if_false, List.length_cons]; omega
      · simp only [h1, h2, decide_false, Bool.false_eq_true, if_false]; omega
theorem foldl_length : ∀ l o : List Int, (l.foldl insU o).length ≤ o.length + l.length
  | [], _ => by simp
  | a :: l, o => by
    have h1 := foldl_length l (insU o a)
    have h2 := insU_length o a
    rw [List.foldl_cons, List.length_cons]; omega
theorem rise_length (l : List Int) : (rise l).length ≤ l.length := by
  have := foldl_length l []
  rw [List.length_nil, Nat.zero_add] at this
  exact this
theorem nn_le (l s : List Int) (longest : Bool) (x : Int) : nn l s longest x ≤ (places l (s ++ [x])).length := by
  unfold nn
  split
  · exact Nat.le_refl _
  · unfold befs
    have := rise_length ((places l (s ++ [x])).map (En.ahead l))
    rwa [List.length_map] at this
theorem sum_le {f g : Int → Nat} : ∀ xs : List Int, (∀ x ∈ xs, f x ≤ g x) → (xs.map f).sum ≤ (xs.map g).sum
  | [], _ => Nat.le_refl _
  | a :: t, h => by
    rw [List.map_cons, List.map_cons, List.sum_cons, List.sum_cons]
    have h1 := h a (by simp)
    have h2 := sum_le t fun x hx => h x (by simp [hx])
    omega
theorem le_sum {f : Int → Nat} : ∀ xs : List Int, ∀ x ∈ xs, f x ≤ (xs.map f).sum
  | a :: t, x, h => by
    rw [List.map_cons, List.sum_cons]
    rcases List.mem_cons.1 h with rfl | h
    · omega
    · have := le_sum (f := f) t x h; omega
theorem one_each {xs : List Int} (hn : xs.Nodup) (c : Int) : (xs.map fun x => if c = x then 1 else 0).sum ≤ 1 := by
  induction xs with
  | nil => simp
  | cons a t ih =>
    have hn' := List.nodup_cons.1 hn
    rw [List.map_cons, List.sum_cons]
    have := ih hn'.2
    by_cases g : c = a
    · subst g
      have e : (t.map fun x => if c = x then 1 else 0) = t.map fun _ => 0 := List.map_congr_left fun x hx => if_neg (fun (q : c = x) => hn'.1 (q ▸ hx))
      have z : ∀ t : List Int, (t.map fun _ => 0).sum = 0 := fun t => by
        induction t with
        | nil => rfl
        | cons a t ih => rw [List.map_cons, List.sum_cons, ih]
      rw [if_pos rfl, e, z]; omega
    · rw [if_neg g]; omega
theorem sum_add (f g : Int → Nat) : ∀ xs : List Int, (xs.map fun x => f x + g x).sum = (xs.map f).sum + (xs.map g).sum
  | [] => rfl
  | a :: t => by simp only [List.map_cons, List.sum_cons, sum_add f g t]; omega
theorem sum_places {xs : List Int} (hn : xs.Nodup) (g : Nat → Int) (p : Nat → Bool) : ∀ t : List Nat, (xs.map fun x => t.countP fun a => p a && decide (g a = x)).sum ≤ t.length
  | [] => by
    have z : ∀ t : List Int, (t.map fun _ => 0).sum = 0 := fun t => by
      induction t with
      | nil => rfl
      | cons a t ih => rw [List.map_cons, List.sum_cons, ih]
    simp only [List.countP_nil, z]; exact Nat.zero_le _
  | a :: t => by
    have ih := sum_places hn g p t
    have h1 := one_each hn (g a)
    simp only [List.countP_cons, sum_add, List.length_cons]
    have h2 : (xs.map fun x => if (p a && decide (g a = x)) = true then 1 else 0).sum ≤ (xs.map fun x => if g a = x then 1 else 0).sum := by
      refine sum_le xs fun x _ => ?_
      by_cases q : g a = x
      · rw [if_pos q]; split <;> omega
      · rw [if_neg q, if_neg (by simp [q])]; exact Nat.le_refl _
    omega
theorem all_le (l s : List Int) (longest : Bool) : allF l s longest ≤ l.length := by
  unfold allF
  have hn : (kn l s).Nodup := (up_nodup (rise_up _)).filter _
  refine Nat.le_trans (sum_le _ fun x _ => nn_le l s longest x) ?_
  have h := sum_places hn (fun a => nth l (a + s.length)) (fun a => stB l s a && decide (a + s.length < l.length)) (List.range l.length)
  rw [List.length_range] at h
  refine Nat.le_trans (Nat.le_of_eq ?_) h
  congr 1
  refine List.map_congr_left fun x _ => ?_
  unfold places
  rw [← List.countP_eq_length_filter]
  refine List.countP_congr fun a ha => ?_
  have := stB_snoc l s x a (by have := List.mem_range.1 ha; omega)
  rw [this]
  simp only [Bool.and_eq_true, decide_eq_true_eq, and_assoc]

/-! ### Parts -/
def partF (n d : Nat) : Nat × Nat := (n / Nat.gcd n d, d / Nat.gcd n d)
def addF (a b : Nat × Nat) : Nat × Nat := partF (a.1 * b.2 + b.1 * a.2) (a.2 * b.2)
def timesF (a b : Nat × Nat) : Nat × Nat := partF (a.1 * b.1) (a.2 * b.2)
/-- A part of a whole: not above one. -/
structure Pt (p : Nat × Nat) (B : Nat) : Prop where
  d : 0 < p.2
  n : p.1 ≤ p.2
  b : p.2 ≤ B
theorem partF_pos {n d : Nat} (h : 0 < d) : 0 < (partF n d).2 := Nat.div_gcd_pos_of_pos_right _ h
theorem partF_le (n d : Nat) : (partF n d).2 ≤ d ∧ (partF n d).1 ≤ n := ⟨Nat.div_le_self _ _, Nat.div_le_self _ _⟩
theorem partF_pt {n d : Nat} (h : 0 < d) (hn : n ≤ d) : Pt (partF n d) d := ⟨partF_pos h, Nat.div_le_div_right hn, (partF_le n d).1⟩
/-- What a part is worth. -/
theorem partF_val (n d : Nat) : (partF n d).1 * d = n * (partF n d).2 := by
  unfold partF
  have h1 := Nat.div_mul_cancel (Nat.gcd_dvd_left n d)
  have h2 := Nat.div_mul_cancel (Nat.gcd_dvd_right n d)
  show n / Nat.gcd n d * d = n * (d / Nat.gcd n d)
  generalize Nat.gcd n d = g at *
  conv => lhs; rw [← h2]
  conv => rhs; rw [← h1]
  rw [Nat.mul_comm (d / g) g, ← Nat.mul_assoc]
def stepF (l s : List Int) (longest : Bool) (sign : Int) (p : Nat × Nat) : Nat × Nat :=
  addF (partF (4 * ownF l s longest sign - 3) (4 * allF l s longest)) (timesF (partF (3 * (kn l s).length) (4 * allF l s longest)) p)
def likeF (l : List Int) (signs : Nat) (sign : Int) : List Int → Bool → Nat × Nat
  | [], longest => if allF l [] longest = 0 then (1, max 1 signs) else stepF l [] longest sign (1, max 1 signs)
  | x :: s, longest => if allF l (x :: s) longest = 0 then likeF l signs sign s false else stepF l (x :: s) longest sign (likeF l signs sign s false)
theorem nn_pos {l s : List Int} {longest : Bool} {x : Int} (h : x ∈ behs l s) : 0 < nn l s longest x := by
  obtain ⟨a, ha⟩ := behs_mem.1 h
  unfold nn
  split
  · exact List.length_pos_of_mem ha
  · exact List.length_pos_of_mem ((rise_mem _ _).2 (List.mem_map_of_mem ha))
theorem kn_mem {l s : List Int} {x : Int} : x ∈ kn l s ↔ x ∈ behs l s ∧ x ≠ 0 := by unfold kn; simp
theorem all_zero {l s : List Int} {longest : Bool} : allF l s longest = 0 ↔ kn l s = [] := by
  constructor
  · intro h
    cases hk : kn l s with
    | nil => rfl
    | cons x t =>
      have hx : x ∈ kn l s := by rw [hk]; simp
      have h1 := nn_pos (longest := longest) (kn_mem.1 hx).1
      have h2 := le_sum (f := nn l s longest) (kn l s) x hx
      unfold allF at h; omega
  · intro h; unfold allF; rw [h]; rfl
/-- Once nothing stands behind, nothing stands behind more. -/
theorem all_cons {l s : List Int} {b b' : Bool} (y : Int) (h : allF l s b = 0) : allF l (y :: s) b' = 0 := by
  rw [all_zero] at h ⊢
  cases hk : kn l (y :: s) with
  | nil => rfl
  | cons x t =>
    have hx : x ∈ kn l (y :: s) := by rw [hk]; simp
    have := kn_mem.1 hx
    have h2 : x ∈ kn l s := kn_mem.2 ⟨behs_cons this.1, this.2⟩
    rw [h] at h2; cases h2
theorem all_app {l s : List Int} {b b' : Bool} (h : allF l s b = 0) : ∀ t : List Int, allF l (t ++ s) b' = 0
  | [] => by rw [all_zero] at h ⊢; exact h
  | y :: t => all_cons (b := b') y (all_app h t)
theorem like_app {l s : List Int} {signs : Nat} {sign : Int} {b : Bool} (h : allF l s b = 0) : ∀ (t : List Int) (b' : Bool), likeF l signs sign (t ++ s) b' = likeF l signs sign s false ∨ t = []
  | [], _ => .inr rfl
  | y :: t, b' => by
    left
    rw [List.cons_append, likeF, if_pos (show allF l (y :: (t ++ s)) b' = 0 from all_app h (y :: t))]
    rcases like_app h t false with g | g
    · exact g
    · subst g; rfl
theorem like_zero {l s : List Int} {signs : Nat} {sign : Int} {b : Bool} (h : allF l s b = 0) : ∀ b', likeF l signs sign s b' = likeF l signs sign s false := by
  intro b'
  cases s with
  | nil => rw [likeF, likeF, if_pos (show allF l [] b' = 0 from all_app h []), if_pos (show allF l [] false = 0 from all_app h [])]
  | cons y t => rw [likeF, likeF, if_pos (show allF l (y :: t) b' = 0 from all_app h []), if_pos (show allF l (y :: t) false = 0 from all_app h [])]

/-! ### Bounds -/
theorem own_le (l s : List Int) (longest : Bool) (sign : Int) : ownF l s longest sign ≤ allF l s longest := by
  unfold ownF
  split
  · rename_i h; exact le_sum (f := nn l s longest) _ _ h
  · exact Nat.zero_le _
theorem sum_kinds (l s : List Int) (longest : Bool) (sign : Int) : ownF l s longest sign + (kn l s).length ≤ allF l s longest + 1 := by
  have h : ∀ t : List Int, t.Nodup → (∀ x ∈ t, 0 < nn l s longest x) → (if sign ∈ t then nn l s longest sign else 0) + t.length ≤ (t.map (nn l s longest)).sum + 1 := by
    intro t
    induction t with
    | nil => intro _ _; simp
    | cons a t ih =>
      intro hn hp
      have hn' := List.nodup_cons.1 hn
      have ih := ih hn'.2 fun x hx => hp x (by simp [hx])
      have ha := hp a (by simp)
      rw [List.map_cons, List.sum_cons, List.length_cons]
      by_cases g : sign = a
      · subst g
        rw [if_pos (by simp)]
        rw [if_neg hn'.1] at ih
        have : t.length ≤ (t.map (nn l s longest)).sum := by
          have : ∀ u : List Int, (∀ x ∈ u, 0 < nn l s longest x) → u.length ≤ (u.map (nn l s longest)).sum := by
            intro u
            induction u with
            | nil => intro _; simp
            | cons b u ih2 =>
              intro hu
              have := ih2 fun x hx => hu x (by simp [hx])
              have := hu b (by simp)
              rw [List.map_cons, List.sum_cons, List.length_cons]; omega
          exact this t fun x hx => hp x (by simp [hx])
        omega
      · by_cases g2 : sign ∈ t
        · rw [if_pos g2] at ih
          rw [if_pos (by simp [g2])]; omega
        · rw [if_neg g2] at ih
          rw [if_neg (by simp [g, g2])]; omega
  exact h _ ((up_nodup (rise_up _)).filter _) fun x hx => nn_pos (kn_mem.1 hx).1
theorem kinds_le (l s : List Int) (longest : Bool) : (kn l s).length ≤ allF l s longest := by
  have : ∀ u : List Int, (∀ x ∈ u, 0 < nn l s longest x) → u.length ≤ (u.map (nn l s longest)).sum := by
    intro u
    induction u with
    | nil => intro _; simp
    | cons b u ih2 =>
      intro hu
      have := ih2 fun x hx => hu x (by simp [hx])
      have := hu b (by simp)
      rw [List.map_cons, List.sum_cons, List.length_cons]; omega
  exact this _ fun x hx => nn_pos (kn_mem.1 hx).1
theorem step_pt {l s : List Int} {longest : Bool} {sign : Int} {p : Nat × Nat} {B : Nat} (ha : 0 < allF l s longest) (hp : Pt p B) : Pt (stepF l s longest sign p) (16 * (allF l s longest * allF l s longest) * B) := by
  have hk := sum_kinds l s longest sign
  have ho := own_le l s longest sign
  have hk2 := kinds_le l s longest
  unfold stepF
  generalize allF l s longest = A at *
  generalize ownF l s longest sign = O at *
  generalize (kn l s).length = K at *
  obtain ⟨p1, p2, p3⟩ := hp
  have v1 := partF_val (4 * O - 3) (4 * A)
  have d1 := partF_pos (n := 4 * O - 3) (show 0 < 4 * A by omega)
  have b1 := (partF_le (4 * O - 3) (4 * A)).1
  have v2 := partF_val (3 * K) (4 * A)
  have d2 := partF_pos (n := 3 * K) (show 0 < 4 * A by omega)
  have b2 := (partF_le (3 * K) (4 * A)).1
  generalize hx : partF (4 * O - 3) (4 * A) = x at *
  generalize hy : partF (3 * K) (4 * A) = y at *
  have v3 := partF_val (y.1 * p.1) (y.2 * p.2)
  have d3 := partF_pos (n := y.1 * p.1) (show 0 < y.2 * p.2 from Nat.mul_pos d2 p1)
  have b3 := (partF_le (y.1 * p.1) (y.2 * p.2)).1
  unfold timesF
  generalize hz : partF (y.1 * p.1) (y.2 * p.2) = z at *
  have hb : x.2 * z.2 ≤ 16 * (A * A) * B := by
    calc x.2 * z.2 ≤ (4 * A) * (y.2 * p.2) := Nat.mul_le_mul b1 b3
      _ ≤ (4 * A) * ((4 * A) * B) := Nat.mul_le_mul_left _ (Nat.mul_le_mul b2 p3)
      _ = 16 * (A * A) * B := by
        rw [← Nat.mul_assoc, Nat.mul_mul_mul_comm]
  have key : x.1 * z.2 + z.1 * x.2 ≤ x.2 * z.2 := by
    have A0 : 0 < 4 * A := by omega
    -- all over 4 A, y.2, p.2
    have s1 : (4 * O - 3) + 3 * K ≤ 4 * A := by omega
    have z1 : z.1 * (y.2 * p.2) ≤ y.1 * p.2 * z.2 := by
      rw [v3]
      exact Nat.mul_le_mul_right _ (Nat.mul_le_mul_left _ p2)
    have z2 : z.1 * y.2 ≤ y.1 * z.2 := by
      have : (z.1 * y.2) * p.2 ≤ (y.1 * z.2) * p.2 := by
        calc (z.1 * y.2) * p.2 = z.1 * (y.2 * p.2) := Nat.mul_assoc ..
          _ ≤ y.1 * p.2 * z.2 := z1
          _ = (y.1 * z.2) * p.2 := by rw [Nat.mul_right_comm]
      exact Nat.le_of_mul_le_mul_right this p1
    have z3 : z.1 * (4 * A) ≤ 3 * K * z.2 := by
      have : (z.1 * (4 * A)) * y.2 ≤ (3 * K * z.2) * y.2 := by
        calc (z.1 * (4 * A)) * y.2 = (z.1 * y.2) * (4 * A) := Nat.mul_right_comm ..
          _ ≤ (y.1 * z.2) * (4 * A) := Nat.mul_le_mul_right _ z2
          _ = (y.1 * (4 * A)) * z.2 := Nat.mul_right_comm ..
          _ = (3 * K * y.2) * z.2 := by rw [v2]
          _ = (3 * K * z.2) * y.2 := Nat.mul_right_comm ..
      exact Nat.le_of_mul_le_mul_right this d2
    have : (x.1 * z.2 + z.1 * x.2) * (4 * A) ≤ (x.2 * z.2) * (4 * A) := by
      calc (x.1 * z.2 + z.1 * x.2) * (4 * A) = (x.1 * (4 * A)) * z.2 + (z.1 * (4 * A)) * x.2 := by
            rw [Nat.add_mul, Nat.mul_right_comm x.1, Nat.mul_right_comm z.1]
        _ ≤ ((4 * O - 3) * x.2) * z.2 + (3 * K * z.2) * x.2 := by
            rw [v1]; exact Nat.add_le_add_left (Nat.mul_le_mul_right _ z3) _
        _ = ((4 * O - 3) + 3 * K) * (x.2 * z.2) := by
            rw [Nat.add_mul, Nat.mul_assoc, Nat.mul_assoc (3 * K), Nat.mul_comm z.2 x.2]
        _ ≤ (4 * A) * (x.2 * z.2) := Nat.mul_le_mul_right _ s1
        _ = (x.2 * z.2) * (4 * A) := Nat.mul_comm ..
    exact Nat.le_of_mul_le_mul_right this A0
  have hd : 0 < x.2 * z.2 := Nat.mul_pos d1 d3
  have := partF_pt hd key
  exact ⟨this.d, this.n, Nat.le_trans this.b hb⟩
end Go.Proofs.YtjfdlibceldanabGreatDoor.Gu

/-! What the index holds, plain. No program in sight. -/
namespace Go.Proofs.YtjfdlibceldanabGreatDoor.En

/-- The most of a list; nought, if all are below. -/
def mostI (l : List Int) : Int := l.foldl max 0
theorem foldl_max_ge : ∀ (l : List Int) (a : Int), a ≤ l.foldl max a ∧ ∀ x ∈ l, x ≤ l.foldl max a
  | [], a => ⟨Int.le_refl _, fun _ h => by cases h⟩
  | b :: t, a => by
    have h := foldl_max_ge t (max a b)
    rw [List.foldl_cons]
    refine ⟨by omega, fun x hx => ?_⟩
    rcases List.mem_cons.1 hx with rfl | hx
    · have := h.1; omega
    · exact h.2 x hx
theorem foldl_max_lt : ∀ (l : List Int) (a b : Int), a < b → (∀ x ∈ l, x < b) → l.foldl max a < b
  | [], _, _, h, _ => h
  | c :: t, a, b, h, hx => by
    rw [List.foldl_cons]
    have := hx c (by simp)
    exact foldl_max_lt t _ b (by omega) fun x h => hx x (by simp [h])
theorem mostI_ge (l : List Int) : 0 ≤ mostI l := (foldl_max_ge l 0).1
theorem le_mostI {l : List Int} {x : Int} (h : x ∈ l) : x ≤ mostI l := (foldl_max_ge l 0).2 x h
theorem mostI_lt {l : List Int} {b : Int} (hb : 0 < b) : mostI l < b ↔ ∀ x ∈ l, x < b :=
  ⟨fun h x hx => by have := le_mostI hx; omega, fun h => foldl_max_lt l 0 b hb h⟩
theorem maxOf_eq {l : List Int} (hn : 0 < l.length) (h : ∀ x ∈ l, 0 ≤ x) : Lib.maxOf l = mostI l := by
  cases l with
  | nil => simp at hn
  | cons a t =>
    have ha := h a (by simp)
    unfold Lib.maxOf mostI
    rw [List.foldl_cons, List.foldl_cons, List.headD_cons, Int.max_self, Int.max_eq_right ha]
/-- How many signs are less than each. -/
def lessF (l : List Int) (k : Nat) : Nat := l.countP fun x => decide (x < (k : Int))
def lessA (l : List Int) (j : Nat) : Nat := l.countP fun x => decide (x + 1 = (j : Int))
theorem lessF_zero {l : List Int} (h : ∀ x ∈ l, 0 ≤ x) : lessF l 0 = 0 := by
  unfold lessF
  rw [List.countP_eq_zero]
  intro x hx
  have := h x hx
  simp; omega
theorem lessF_succ (l : List Int) (k : Nat) : lessF l (k + 1) = lessA l (k + 1) + lessF l k := by
  unfold lessF lessA
  induction l with
  | nil => rfl
  | cons a t ih =>
    simp only [List.countP_cons, ih]
    by_cases h1 : a < (k : Int)
    · have h2 : a < ((k + 1 : Nat) : Int) := by omega
      have h3 : ¬ a + 1 = ((k + 1 : Nat) : Int) := by omega
      simp only [h1, h2, h3, decide_true, decide_false, if_true, Bool.false_eq_true, if_false]; omega
    · by_cases h3 : a + 1 = ((k + 1 : Nat) : Int)
      · have h2 : a < ((k + 1 : Nat) : Int) := by omega
        simp only [h1, h2, h3, decide_true, decide_false, if_true, Bool.false_eq_true, if_false]; omega
      · have h2 : ¬ a < ((k + 1 : Nat) : Int) := by omega
        simp only [h1, h2, h3, decide_false, Bool.false_eq_true, if_false]; omega
theorem lessF_le (l : List Int) (k : Nat) : lessF l k ≤ l.length := List.countP_le_length
theorem lessA_le (l : List Int) (k : Nat) : lessA l k ≤ l.length := List.countP_le_length
theorem lessA_zero {l : List Int} (h : ∀ x ∈ l, 0 ≤ x) : lessA l 0 = 0 := by
  unfold lessA
  rw [List.countP_eq_zero]
  intro x hx
  have := h x hx
  simp; omega

/-! ### The signs ahead, by the order of the ends -/
def ahN (l : List Int) (e : List Nat) : List Nat := e.map fun a => (ahead l a).toNat
theorem ahN_length (l : List Int) (e : List Nat) : (ahN l e).length = e.length := by unfold ahN; rw [List.length_map]
theorem ahead_mem {l : List Int} (hn : 0 < l.length) (a : Nat) : ahead l a ∈ l := nth_mem (Nat.mod_lt _ hn)
theorem ahN_cast {l : List Int} (h : ∀ x ∈ l, 0 ≤ x) (hn : 0 < l.length) (e : List Nat) : (ahN l e).map Int.ofNat = e.map (ahead l) := by
  unfold ahN
  rw [List.map_map]
  refine List.map_congr_left fun a _ => ?_
  exact Int.toNat_of_nonneg (h _ (ahead_mem hn a))
theorem ahN_count {l : List Int} (h : ∀ x ∈ l, 0 ≤ x) (hn : 0 < l.length) (e : List Nat) (i c : Nat) : ((ahN l e).take i).count c = (e.take i).countP fun a => decide (ahead l a = (c : Int)) := by
  unfold ahN
  rw [← List.map_take, List.count, List.countP_map]
  refine List.countP_congr fun a _ => ?_
  have := h _ (ahead_mem hn a)
  simp only [Function.comp_apply, beq_iff_eq, decide_eq_true_eq]
  omega

/-! ### From span to span -/
/-- The ends that begin with signs: from where to where; (0, 0): there are none. -/
def spanF (l : List Int) (e : List Nat) (s : List Int) : Nat × Nat := if lo l e s < hi l e s then (lo l e s, hi l e s) else (0, 0)
/-- What one sign more makes of a span. -/
def longF (l : List Int) (e : List Nat) (f t : Nat) (c : Int) : Nat × Nat :=
  if c = 0 ∧ ¬ (f = 0 ∧ t = l.length) then (0, 0)
  else if c < 0 ∨ mostI l + 2 ≤ c + 1 then (0, 0)
  else if lessF l c.toNat + (e.take t).countP (fun a => decide (ahead l a = c)) ≤ lessF l c.toNat + (e.take f).countP (fun a => decide (ahead l a = c)) then (0, 0)
  else (lessF l c.toNat + (e.take f).countP (fun a => decide (ahead l a = c)), lessF l c.toNat + (e.take t).countP (fun a => decide (ahead l a = c)))
end Go.Proofs.YtjfdlibceldanabGreatDoor.En

/-! Finding signs by the index, plain. No program in sight. -/
namespace Go.Proofs.YtjfdlibceldanabGreatDoor.En

theorem step_countW {l : List Int} {e : List Nat} (h : IsEnds l e) (hl : IsL l) {c : Int} (s : List Int) (hw : 0 < c ∨ c = 0 ∧ s = []) (p : Int → Bool) (p1 : p (-1) = true) (p2 : p 1 = false) :
    e.countP (fun a => p (pc (l.drop a) (c :: s))) = l.countP (fun x => decide (x < c)) + e.countP (fun a => p (pc (l.drop a) s) && decide (ahead l a = c)) := by
  rcases hw with hc | ⟨rfl, rfl⟩
  · exact step_count h hl hc s p p1 p2
  rw [h.1.countP_eq, h.1.countP_eq]
  obtain ⟨m, hm⟩ : ∃ m, l.length = m + 1 := ⟨l.length - 1, by have := hl.1; omega⟩
  have e0 : l.countP (fun x => decide (x < 0)) = 0 := by
    rw [List.countP_eq_zero]
    intro x hx
    obtain ⟨j, hj, rfl⟩ := List.getElem_of_mem hx
    rw [← nth_lt hj]
    have := hl.2.1 j
    have := hl.2.2
    simp only [decide_eq_true_eq]
    intro q
    by_cases g : j + 1 < l.length
    · have := hl.2.1 j g; omega
    · have e : j = l.length - 1 := by omega
      rw [e] at q; omega
  have e1 : (List.range l.length).countP (fun a => p (pc (l.drop a) [0])) = (List.range l.length).countP (fun a => p 0 && decide (nth l a = 0)) := by
    refine List.countP_congr fun a ha => ?_
    have ha := List.mem_range.1 ha
    rw [List.drop_eq_getElem_cons ha, pc_cons, ← nth_lt ha]
    have hz := List.countP_eq_zero.1 e0 (nth l a) (nth_mem ha)
    simp only [decide_eq_true_eq] at hz
    rw [if_neg hz]
    by_cases g : 0 < nth l a
    · have : ¬ nth l a = 0 := by omega
      rw [if_pos g, p2]; simp [this]
    · have : nth l a = 0 := by omega
      rw [if_neg g, pc_nil]; simp [this]
  have e2 : (List.range l.length).countP (fun a => p 0 && decide (nth l a = 0)) = (List.range l.length).countP (fun a => p (pc (l.drop a) []) && decide (ahead l a = 0)) := by
    simp only [pc_nil]
    rw [hm]
    have r1 := List.range_succ (n := m)
    have r2 := List.range_succ_eq_map (n := m)
    conv => lhs; rw [r1]
    conv => rhs; rw [r2]
    rw [List.countP_append, List.countP_singleton, List.countP_cons, List.countP_map]
    have a0 : ahead l 0 = nth l m := by
      unfold ahead
      rw [hm, show 0 + (m + 1) - 1 = m from by omega, Nat.mod_eq_of_lt (by omega)]
    have e3 : (List.range m).countP (fun a => p 0 && decide (nth l a = 0)) = (List.range m).countP ((fun a => p 0 && decide (ahead l a = 0)) ∘ Nat.succ) := by
      refine List.countP_congr fun a ha => ?_
      have ha := List.mem_range.1 ha
      have : ahead l (a + 1) = nth l a := by
        unfold ahead
        rw [hm, show a + 1 + (m + 1) - 1 = a + (m + 1) from by omega, Nat.add_mod_right, Nat.mod_eq_of_lt (by omega)]
      simp only [Function.comp_apply, Nat.succ_eq_add_one, this]
    rw [a0, e3]
  rw [e1, e2, e0, Nat.zero_add]
section
variable {l : List Int} {e : List Nat} (h : IsEnds l e) (hl : IsL l)
include h hl
theorem lo_stepW {c : Int} (s : List Int) (hw : 0 < c ∨ c = 0 ∧ s = []) :
    lo l e (c :: s) = l.countP (fun x => decide (x < c)) + (e.take (lo l e s)).countP (fun a => decide (ahead l a = c)) := by
  have := step_countW h hl s hw (fun x => decide (x < 0)) (by decide) (by decide)
  rw [← lo_take h, List.countP_filter]
  unfold lo
  rw [this]
  congr 1
  refine List.countP_congr fun a _ => ?_
  simp [Bool.and_comm]
theorem hi_stepW {c : Int} (s : List Int) (hw : 0 < c ∨ c = 0 ∧ s = []) :
    hi l e (c :: s) = l.countP (fun x => decide (x < c)) + (e.take (hi l e s)).countP (fun a => decide (ahead l a = c)) := by
  have := step_countW h hl s hw (fun x => decide (x ≤ 0)) (by decide) (by decide)
  rw [← hi_take h, List.countP_filter]
  unfold hi
  rw [this]
  congr 1
  refine List.countP_congr fun a _ => ?_
  simp [Bool.and_comm]
omit hl in
theorem spanF_none {s : List Int} (g : ∀ a, a < l.length → ¬ stB l s a = true) : spanF l e s = (0, 0) := by
  unfold spanF
  rw [lo_hi, List.countP_eq_zero.2 fun a ha => g a (h.lt ha), if_neg (by omega)]
omit hl in
theorem span_some {s : List Int} (g : lo l e s < hi l e s) : ∃ a, a < l.length ∧ stB l s a = true := by
  rw [lo_hi] at g
  obtain ⟨a, ha, q⟩ := List.countP_pos_iff.1 (show 0 < e.countP (stB l s) by omega)
  exact ⟨a, h.lt ha, q⟩
omit hl in
theorem some_span {s : List Int} {a : Nat} (ha : a < l.length) (q : stB l s a = true) : lo l e s < hi l e s := by
  rw [lo_hi]
  have : 0 < e.countP (stB l s) := List.countP_pos_iff.2 ⟨a, h.1.mem_iff.2 (List.mem_range.2 ha), q⟩
  omega
omit h in
theorem nth_nonneg {j : Nat} (hj : j < l.length) : 0 ≤ nth l j := by
  by_cases g : j + 1 < l.length
  · have := hl.2.1 j g; omega
  · have e : j = l.length - 1 := by omega
    rw [e, hl.2.2]; exact Int.le_refl _
theorem longF_span {c : Int} {s : List Int} (hs : lo l e s < hi l e s) (hw : c ≠ 0 ∨ s = []) : longF l e (lo l e s) (hi l e s) c = spanF l e (c :: s) := by
  unfold longF
  rw [if_neg (by
    rintro ⟨rfl, g⟩
    rcases hw with hw | rfl
    · exact hw rfl
    · exact g ⟨lo_nil, hi_nil h⟩)]
  by_cases g : c < 0 ∨ mostI l + 2 ≤ c + 1
  · rw [if_pos g]
    refine (spanF_none h fun a ha q => ?_).symm
    have := ((stB_iff l (c :: s) a).1 q).2 0 (by simp)
    rw [Nat.add_zero, nth_cons_zero] at this
    have h1 := nth_nonneg hl ha
    have h2 := le_mostI (nth_mem ha)
    omega
  · rw [if_neg g]
    have hc : lessF l c.toNat = l.countP fun x => decide (x < c) := by
      unfold lessF
      rw [Int.toNat_of_nonneg (by omega)]
    have hw' : 0 < c ∨ c = 0 ∧ s = [] := by
      rcases hw with hw | hw
      · left; omega
      · by_cases q : c = 0
        · exact .inr ⟨q, hw⟩
        · left; omega
    rw [hc, ← lo_stepW h hl s hw', ← hi_stepW h hl s hw']
    unfold spanF
    by_cases q : lo l e (c :: s) < hi l e (c :: s)
    · rw [if_pos q, if_neg (by omega)]
    · rw [if_neg q, if_pos (by omega)]
theorem span_last {c : Int} {s : List Int} (hc : c = 0) (hs : s ≠ []) : spanF l e (c :: s) = (0, 0) := by
  subst hc
  refine spanF_none h fun a ha q => ?_
  obtain ⟨q1, q2⟩ := (stB_iff l (0 :: s) a).1 q
  have := q2 0 (by simp)
  rw [Nat.add_zero, nth_cons_zero] at this
  have h1 := List.length_pos_iff.2 hs
  rw [List.length_cons] at q1
  have := hl.2.1 a (by omega)
  omega
theorem span_drop {signs : List Int} {i : Nat} (g : ¬ lo l e (signs.drop i) < hi l e (signs.drop i)) : spanF l e signs = (0, 0) := by
  refine spanF_none h fun a ha q => g ?_
  obtain ⟨q1, q2⟩ := (stB_iff l signs a).1 q
  by_cases hi' : i < signs.length
  · refine some_span h (a := a + i) (by omega) ((stB_iff l _ _).2 ⟨by rw [List.length_drop]; omega, fun k hk => ?_⟩)
    rw [List.length_drop] at hk
    rw [nth_drop, Nat.add_assoc, q2 (i + k) (by omega)]
  · rw [List.drop_eq_nil_of_le (by omega), lo_nil, hi_nil h]
    exact hl.1
theorem span_cut {signs : List Int} {i : Nat} (g : spanF l e (signs.drop i) = (0, 0)) : spanF l e signs = (0, 0) := by
  refine span_drop h hl (i := i) fun q => ?_
  unfold spanF at g
  rw [if_pos q] at g
  injection g with g1 g2
  omega
omit hl in
theorem spanF_le (s : List Int) : (spanF l e s).1 ≤ (spanF l e s).2 ∧ (spanF l e s).2 ≤ l.length := by
  unfold spanF
  split
  · exact ⟨by dsimp only; omega, hi_le h s⟩
  · exact ⟨Nat.le_refl _, Nat.zero_le _⟩
omit h hl in
theorem spanF_lt {s : List Int} (g : (spanF l e s).1 < (spanF l e s).2) : lo l e s < hi l e s ∧ spanF l e s = (lo l e s, hi l e s) := by
  unfold spanF at g ⊢
  split at g
  · next q => exact ⟨q, if_pos q⟩
  · dsimp only at g; omega
theorem spanF_nil : spanF l e [] = (0, l.length) := by
  unfold spanF
  rw [lo_nil, hi_nil h, if_pos hl.1]
/-- One round of Find. -/
theorem find_round {signs : List Int} {i f t : Nat} (hi' : i < signs.length) (hs : spanF l e (signs.drop (i + 1)) = (f, t)) (hft : f < t) (hw : ¬ (nth signs i = 0 ∧ i + 1 < signs.length)) : longF l e f t (nth signs i) = spanF l e (signs.drop i) := by
  have hlt := spanF_lt (l := l) (e := e) (s := signs.drop (i + 1)) (by rw [hs]; exact hft)
  have e2 := hlt.2
  rw [hs] at e2
  injection e2 with e3 e4
  subst e3 e4
  rw [longF_span h hl hlt.1 (by
    by_cases q : nth signs i = 0
    · right; exact List.drop_eq_nil_of_le (by have : ¬ i + 1 < signs.length := fun r => hw ⟨q, r⟩; omega)
    · exact .inl q)]
  congr 1
  rw [List.drop_eq_getElem_cons hi', nth_lt hi']
theorem find_last {signs : List Int} {i : Nat} (hi' : i + 1 < signs.length) (hw : nth signs i = 0) : spanF l e signs = (0, 0) := by
  refine span_cut h hl (i := i) ?_
  rw [List.drop_eq_getElem_cons (by omega), ← nth_lt (by omega)]
  refine span_last h hl hw fun q => ?_
  have := congrArg List.length q
  rw [List.length_drop] at this
  simp at this; omega
end
end Go.Proofs.YtjfdlibceldanabGreatDoor.En

/-! The text again out of the ends, in plain Lean: each end's sign ahead is put where it stands. -/
namespace Go.Proofs.YtjfdlibceldanabGreatDoor.En
/-- The place ahead of an end, in the round. -/
def pr (n a : Nat) : Nat := (a + n - 1) % n
/-- What stands at a place when some ends are done. -/
def outF (l : List Int) (e : List Nat) (i j : Nat) : Int := if (e.take i).any (fun a => decide (pr l.length a = j)) then nth l j else 0
theorem outF_zero (l : List Int) (e : List Nat) (j : Nat) : outF l e 0 j = 0 := by unfold outF; simp
theorem take_succ_nthN {l : List Nat} {i : Nat} (h : i < l.length) : l.take (i + 1) = l.take i ++ [nth l i] := by
  rw [List.take_succ_eq_append_getElem h, nth_lt h]
theorem outF_succ {l : List Int} {e : List Nat} {i : Nat} (h : i < e.length) (j : Nat) : outF l e (i + 1) j = if j = pr l.length (nth e i) then nth l j else outF l e i j := by
  unfold outF
  rw [take_succ_nthN h, List.any_append, List.any_cons, List.any_nil, Bool.or_false]
  by_cases g : j = pr l.length (nth e i)
  · subst g; simp
  · have g' : ¬ pr l.length (nth e i) = j := fun q => g q.symm
    simp [g, g']
theorem pr_next {n j : Nat} (h : j < n) : pr n ((j + 1) % n) = j := by
  unfold pr
  rcases Nat.lt_or_ge (j + 1) n with g | g
  · rw [Nat.mod_eq_of_lt g, show j + 1 + n - 1 = j + n from by omega, Nat.add_mod_right, Nat.mod_eq_of_lt h]
  · rw [show j + 1 = n from by omega, Nat.mod_self, show 0 + n - 1 = j from by omega, Nat.mod_eq_of_lt h]
theorem outF_full {l : List Int} {e : List Nat} (h : IsEnds l e) {j : Nat} (hj : j < l.length) : outF l e l.length j = nth l j := by
  unfold outF
  rw [List.take_of_length_le (Nat.le_of_eq h.length), if_pos]
  rw [List.any_eq_true]
  exact ⟨(j + 1) % l.length, h.mem (Nat.mod_lt _ (by omega)), decide_eq_true (pr_next hj)⟩
theorem nth_ahN {l : List Int} {e : List Nat} (h0 : ∀ x ∈ l, 0 ≤ x) (hn : 0 < l.length) {i : Nat} (h : i < e.length) : ((nth (ahN l e) i : Nat) : Int) = nth l (pr l.length (nth e i)) := by
  unfold ahN
  rw [nth_lt (by rw [List.length_map]; exact h), List.getElem_map, nth_lt h]
  exact Int.toNat_of_nonneg (h0 _ (ahead_mem hn _))
end Go.Proofs.YtjfdlibceldanabGreatDoor.En
