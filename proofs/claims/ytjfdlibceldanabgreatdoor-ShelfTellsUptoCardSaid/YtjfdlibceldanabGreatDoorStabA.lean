/- The stable sort, plain law: rows by key. The stable sort, plain law: what slices' stable sort does to a row, step by step, and that it sorts it and keeps each key's rows. No program in sight. The stable sort, plain law: the merge by halves, and the whole. No program in sight. -/
import Derived.Lib.SmallJoins
import Derived.Sort.LotA
/-! The stable sort, plain law: rows by key. -/
namespace Go.Proofs.YtjfdlibceldanabGreatDoor.Stab
variable {α : Type}
def SortedBy (key : α → Nat) (l : List α) : Prop := l.Pairwise fun a b => key a ≤ key b
/-- The same of each key, in the same order. -/
def SameRows (key : α → Nat) (l m : List α) : Prop := ∀ k, l.filter (fun x => key x == k) = m.filter (fun x => key x == k)

theorem split_at (key : α → Nat) (P : Nat) : ∀ l : List α, SortedBy key l → l = l.filter (fun x => decide (key x < P)) ++ l.filter (fun x => decide (P ≤ key x)) := by
  intro l
  induction l with
  | nil => intro _; rfl
  | cons a l ih =>
    intro h
    have h' := List.pairwise_cons.1 h
    by_cases g : key a < P
    · have e := ih h'.2
      rw [List.filter_cons_of_pos (by simpa using g), List.filter_cons_of_neg (by simp; omega), List.cons_append, ← e]
    · rw [List.filter_cons_of_neg (by simpa using g), List.filter_cons_of_pos (by simp; omega)]
      have e1 : l.filter (fun x => decide (key x < P)) = [] := by
        rw [List.filter_eq_nil_iff]; intro x hx; have := h'.1 x hx; simp; omega
      have e2 : l.filter (fun x => decide (P ≤ key x)) = l := by
        rw [List.filter_eq_self]; intro x hx; have := h'.1 x hx; simp; omega
      rw [e1, e2]; rfl

theorem parts (key : α → Nat) : ∀ (P : Nat) (l : List α), (∀ x ∈ l, key x < P) → SortedBy key l → l = (List.range P).flatMap fun p => l.filter (fun x => key x == p) := by
  intro P
  induction P with
  | zero =>
    intro l h _
    cases l with
    | nil => rfl
    | cons a l => exact absurd (h a (by simp)) (by omega)
  | succ P ih =>
    intro l h hs
    rw [List.range_succ, List.flatMap_append]
    have e := split_at key P l hs
    have hs1 : SortedBy key (l.filter fun x => decide (key x < P)) := List.Pairwise.filter _ hs
    have e1 := ih (l.filter fun x => decide (key x < P)) (by intro x hx; simpa using (List.mem_filter.1 hx).2) hs1
    have e2 : (List.range P).flatMap (fun p => (l.filter fun x => decide (key x < P)).filter (fun x => key x == p)) = (List.range P).flatMap (fun p => l.filter (fun x => key x == p)) := by
      rw [List.flatMap_def, List.flatMap_def]
      refine congrArg _ (List.map_congr_left fun p hp => ?_)
      rw [List.filter_filter]
      refine List.filter_congr fun x _ => ?_
      have := List.mem_range.1 hp
      by_cases g : key x = p
      · simp [g]; omega
      · simp [g]
    have e3 : l.filter (fun x => decide (P ≤ key x)) = l.filter (fun x => key x == P) := by
      refine List.filter_congr fun x hx => ?_
      have := h x hx
      by_cases g : key x = P
      · simp [g]
      · have : ¬ P ≤ key x := by omega
        simp [g, this]
    rw [e2] at e1
    rw [e3] at e
    rw [← e1]
    simpa using e

theorem SameRows.refl (key : α → Nat) (l : List α) : SameRows key l l := fun _ => rfl
theorem SameRows.trans {key : α → Nat} {l m n : List α} (h : SameRows key l m) (g : SameRows key m n) : SameRows key l n := fun k => (h k).trans (g k)
theorem SameRows.app {key : α → Nat} {l l' m m' : List α} (h : SameRows key l l') (g : SameRows key m m') : SameRows key (l ++ m) (l' ++ m') := fun k => by
  rw [List.filter_append, List.filter_append, h k, g k]
/-- Two runs change places: each key stands in one of them alone. -/
theorem SameRows.swap {key : α → Nat} {u v : List α} (h : ∀ x ∈ u, ∀ y ∈ v, key y < key x) : SameRows key (u ++ v) (v ++ u) := fun k => by
  rw [List.filter_append, List.filter_append]
  by_cases g : u.filter (fun x => key x == k) = []
  · rw [g]; simp
  · have hv : v.filter (fun x => key x == k) = [] := by
      rw [List.filter_eq_nil_iff]; intro y hy
      have hu : ∃ x ∈ u, key x = k := by
        by_cases hh : ∃ x ∈ u, key x = k
        · exact hh
        · exact absurd (List.filter_eq_nil_iff.2 fun x hx => by
            have : key x ≠ k := fun e => hh ⟨x, hx, e⟩
            simpa using this) g
      obtain ⟨x, hx, e⟩ := hu
      have := h x hx y hy
      simp; omega
    rw [hv]; simp
/-- A finer key's rows are kept where a coarser one's are. -/
theorem SameRows.finer {key fine : α → Nat} {l m : List α} (h : SameRows key l m) (f : Nat → Nat) (hf : ∀ x, key x = f (fine x)) : SameRows fine l m := fun k => by
  have e : ∀ n : List α, n.filter (fun x => fine x == k) = (n.filter (fun x => key x == f k)).filter (fun x => fine x == k) := by
    intro n
    rw [List.filter_filter]
    refine List.filter_congr fun x _ => ?_
    by_cases g : fine x = k
    · simp [g, hf x]
    · simp [g]
  rw [e l, e m, h (f k)]
/-- What is sorted and keeps the rows is the rows, key by key. -/
theorem sorted_rows (key : α → Nat) (P : Nat) (l m : List α) (hm : ∀ x ∈ m, key x < P) (hs : SortedBy key m) (h : SameRows key l m) : m = (List.range P).flatMap fun p => l.filter (fun x => key x == p) := by
  have := parts key P m hm hs
  rw [this]
  rw [List.flatMap_def, List.flatMap_def]
  exact congrArg _ (List.map_congr_left fun p _ => (h p).symm)
theorem SameRows.symm {key : α → Nat} {l m : List α} (h : SameRows key l m) : SameRows key m l := fun k => (h k).symm
theorem SameRows.mem {key : α → Nat} {l m : List α} (h : SameRows key l m) {x : α} (hx : x ∈ m) : x ∈ l := by
  have e := h (key x)
  have h1 : x ∈ m.filter (fun y => key y == key x) := List.mem_filter.2 ⟨hx, by simp⟩
  rw [← e] at h1
  exact (List.mem_filter.1 h1).1
theorem sortedBy_app {key : α → Nat} {l m : List α} : SortedBy key (l ++ m) ↔ SortedBy key l ∧ SortedBy key m ∧ ∀ x ∈ l, ∀ y ∈ m, key x ≤ key y := List.pairwise_append
/-- A merge by halves: the two inner runs change places, each half is merged. -/
theorem merge_join {key : α → Nat} {u1 u2 v1 v2 w1 w2 : List α} (hu : SortedBy key (u1 ++ u2)) (hv : SortedBy key (v1 ++ v2)) (h12 : ∀ x ∈ u1, ∀ y ∈ v2, key x ≤ key y) (h21 : ∀ x ∈ u2, ∀ y ∈ v1, key y < key x)
    (r1 : SameRows key (u1 ++ v1) w1) (s1 : SortedBy key w1) (r2 : SameRows key (u2 ++ v2) w2) (s2 : SortedBy key w2) :
    SameRows key ((u1 ++ u2) ++ (v1 ++ v2)) (w1 ++ w2) ∧ SortedBy key (w1 ++ w2) := by
  have hu := sortedBy_app.1 hu
  have hv := sortedBy_app.1 hv
  refine ⟨?_, sortedBy_app.2 ⟨s1, s2, fun x hx y hy => ?_⟩⟩
  · have e : SameRows key ((u1 ++ u2) ++ (v1 ++ v2)) ((u1 ++ v1) ++ (u2 ++ v2)) := by
      have := (SameRows.refl key u1).app ((SameRows.swap h21).app (SameRows.refl key v2))
      simpa [List.append_assoc] using this
    exact e.trans (r1.app r2)
  · rcases List.mem_append.1 (r1.mem hx) with a | a <;> rcases List.mem_append.1 (r2.mem hy) with b | b
    · exact hu.2.2 x a y b
    · exact h12 x a y b
    · exact Nat.le_of_lt (h21 y b x a)
    · exact hv.2.2 x a y b
/-- One ahead of a sorted run, put in its place. -/
theorem insert_left {key : α → Nat} {x : α} {v1 v2 : List α} (hv : SortedBy key (v1 ++ v2)) (h1 : ∀ y ∈ v1, key y < key x) (h2 : ∀ y ∈ v2, key x ≤ key y) :
    SameRows key ([x] ++ (v1 ++ v2)) (v1 ++ ([x] ++ v2)) ∧ SortedBy key (v1 ++ ([x] ++ v2)) := by
  have hv := sortedBy_app.1 hv
  constructor
  · have := (SameRows.swap (key := key) (u := [x]) (v := v1) (by intro a ha y hy; rw [List.mem_singleton.1 ha]; exact h1 y hy)).app (SameRows.refl key v2)
    simpa [List.append_assoc] using this
  · refine sortedBy_app.2 ⟨hv.1, sortedBy_app.2 ⟨List.pairwise_singleton _ _, hv.2.1, ?_⟩, ?_⟩
    · intro a ha y hy; rw [List.mem_singleton.1 ha]; exact h2 y hy
    · intro a ha y hy
      rcases List.mem_append.1 hy with b | b
      · rw [List.mem_singleton.1 b]; exact Nat.le_of_lt (h1 a ha)
      · exact hv.2.2 a ha y b
/-- One behind a sorted run, put in its place. -/
theorem insert_right {key : α → Nat} {x : α} {u1 u2 : List α} (hu : SortedBy key (u1 ++ u2)) (h1 : ∀ y ∈ u1, key y ≤ key x) (h2 : ∀ y ∈ u2, key x < key y) :
    SameRows key ((u1 ++ u2) ++ [x]) (u1 ++ ([x] ++ u2)) ∧ SortedBy key (u1 ++ ([x] ++ u2)) := by
  have hu := sortedBy_app.1 hu
  constructor
  · have := (SameRows.refl key u1).app (SameRows.swap (key := key) (u := u2) (v := [x]) (by intro a ha y hy; rw [List.mem_singleton.1 hy]; exact h2 a ha))
    simpa [List.append_assoc] using this
  · refine sortedBy_app.2 ⟨hu.1, sortedBy_app.2 ⟨List.pairwise_singleton _ _, hu.2.1, ?_⟩, ?_⟩
    · intro a ha y hy; rw [List.mem_singleton.1 ha]; exact Nat.le_of_lt (h2 y hy)
    · intro a ha y hy
      rcases List.mem_append.1 hy with b | b
      · rw [List.mem_singleton.1 b]; exact h1 a ha
      · exact hu.2.2 a ha y b
end Go.Proofs.YtjfdlibceldanabGreatDoor.Stab

/-! The stable sort, plain law: what slices' stable sort does to a row, step by step, and that it sorts it and keeps each key's rows. No program in sight. -/
namespace Go.Proofs.YtjfdlibceldanabGreatDoor.Stab
open Go.Sort
variable {α : Type} [Inhabited α]

/-! ### The steps, as functions on arrays -/
def swpN (d : Array α) (a b : Nat) : Nat → Array α
  | 0 => d
  | n + 1 => swp (swpN d a b n) (a + n) (b + n)
theorem size_swpN (d : Array α) (a b n : Nat) : (swpN d a b n).size = d.size := by
  induction n with
  | zero => rfl
  | succ n ih => rw [swpN, size_swp, ih]
def rot (d : Array α) (m i j : Nat) : Array α :=
  if i = 0 ∨ j = 0 then d
  else if i = j then swpN d (m - i) m i
  else if j < i then rot (swpN d (m - i) m j) m (i - j) j
  else rot (swpN d (m - i) (m + j - i) i) m i (j - i)
termination_by i + j
/-- A search by halves: the first place from i on, ahead of j, at which p no longer holds. -/
def bs (p : Nat → Bool) (i j : Nat) : Nat :=
  if i < j then (if p ((i + j) / 2) then bs p ((i + j) / 2 + 1) j else bs p i ((i + j) / 2)) else i
termination_by j - i
def bubR (d : Array α) (k e : Nat) : Array α := if k < e then bubR (swp d k (k + 1)) (k + 1) e else d
termination_by e - k
def bubL (d : Array α) (i : Nat) : Nat → Array α
  | 0 => d
  | k + 1 => if i < k + 1 then bubL (swp d (k + 1) k) i k else d
def symStart (lt : α → α → Bool) (d : Array α) (a m b : Nat) : Nat :=
  bs (fun c => !lt d[(a + b) / 2 + m - 1 - c]! d[c]!) (if (a + b) / 2 < m then (a + b) / 2 + m - b else a) (if (a + b) / 2 < m then (a + b) / 2 else m)
def symM (lt : α → α → Bool) : Nat → Array α → Nat → Nat → Nat → Array α
  | 0, d, _, _, _ => d
  | f + 1, d, a, m, b =>
    if m - a = 1 then bubR d a (bs (fun h => lt d[h]! d[a]!) m b - 1)
    else if b - m = 1 then bubL d (bs (fun h => !lt d[m]! d[h]!) a m) m
    else
      let s := symStart lt d a m b
      let e := (a + b) / 2 + m - s
      let d1 := rot d m (m - s) (e - m)
      let d2 := if a < s ∧ s < (a + b) / 2 then symM lt f d1 a s ((a + b) / 2) else d1
      if (a + b) / 2 < e ∧ e < b then symM lt f d2 ((a + b) / 2) e b else d2
/-- The blocks, sorted by insertion. -/
def blocks (lt : α → α → Bool) (n : Nat) (a : Nat) (d : Array α) : Array α :=
  if a + 20 ≤ n then blocks lt n (a + 20) (insertionSort lt d a (a + 20)) else insertionSort lt d a n
termination_by n - a
def pass (lt : α → α → Bool) (n z : Nat) : Nat → Nat → Array α → Array α
  | 0, _, d => d
  | f + 1, a, d => if a + 2 * z ≤ n then pass lt n z f (a + 2 * z) (symM lt (2 * z) d a (a + z) (a + 2 * z)) else if a + z < n then symM lt (n - a) d a (a + z) n else d
def levels (lt : α → α → Bool) (n : Nat) : Nat → Nat → Array α → Array α
  | 0, _, d => d
  | f + 1, z, d => if z < n then levels lt n f (2 * z) (pass lt n z (n + 1) 0 d) else d
def stableS (lt : α → α → Bool) (d : Array α) : Array α := levels lt d.size (d.size + 1) 20 (blocks lt d.size 0 d)

/-! ### What they leave -/
theorem get_swpN (d : Array α) (a b n : Nat) (hab : a + n ≤ b) (hb : b + n ≤ d.size) (k : Nat) :
    (swpN d a b n)[k]! = if a ≤ k ∧ k < a + n then d[k - a + b]! else if b ≤ k ∧ k < b + n then d[k - b + a]! else d[k]! := by
  induction n generalizing k with
  | zero => rw [swpN, if_neg (by omega), if_neg (by omega)]
  | succ n ih =>
    have ih := ih (by omega) (by omega)
    rw [swpN, swp_get _ (by rw [size_swpN]; omega) (by rw [size_swpN]; omega)]
    by_cases h1 : k = b + n
    · rw [if_pos h1, ih, if_neg (by omega), if_neg (by omega), if_neg (by omega), if_pos (by omega)]; congr 1; omega
    · rw [if_neg h1]
      by_cases h2 : k = a + n
      · rw [if_pos h2, ih, if_neg (by omega), if_neg (by omega), if_pos (by omega)]; congr 1; omega
      · rw [if_neg h2, ih]
        by_cases h3 : a ≤ k ∧ k < a + n
        · rw [if_pos h3, if_pos (by omega)]
        · rw [if_neg h3]
          by_cases h4 : b ≤ k ∧ k < b + n
          · rw [if_pos h4, if_neg (by omega), if_pos (by omega)]
          · rw [if_neg h4, if_neg (by omega), if_neg (by omega)]

/-- d' is d with the i places ahead of m and the j from m on exchanged as wholes. -/
structure Exch (m i j : Nat) (d d' : Array α) : Prop where
  size : d'.size = d.size
  out : ∀ k, k < m - i ∨ m + j ≤ k → d'[k]! = d[k]!
  fst : ∀ k, m - i ≤ k → k < m - i + j → d'[k]! = d[k + i]!
  snd : ∀ k, m - i + j ≤ k → k < m + j → d'[k]! = d[k - j]!
theorem Exch.refl_left (m j : Nat) (d : Array α) : Exch m 0 j d d := ⟨rfl, fun _ _ => rfl, fun k _ _ => rfl, fun k h1 h2 => by omega⟩
theorem Exch.refl_right (m i : Nat) (d : Array α) : Exch m i 0 d d := ⟨rfl, fun _ _ => rfl, fun k h1 h2 => by omega, fun k h1 h2 => rfl⟩
theorem size_rot (d : Array α) (m i j : Nat) : (rot d m i j).size = d.size := by
  fun_induction rot d m i j with
  | case1 => rfl
  | case2 => exact size_swpN ..
  | case3 _ _ _ _ _ _ ih => rw [ih, size_swpN]
  | case4 _ _ _ _ _ _ ih => rw [ih, size_swpN]
theorem rot_exch (m : Nat) : ∀ (t i j : Nat) (d : Array α), i + j ≤ t → i ≤ m → m + j ≤ d.size → Exch m i j d (rot d m i j) := by
  intro t
  induction t with
  | zero =>
    intro i j d h _ _
    have : i = 0 := by omega
    subst this
    rw [rot, if_pos (.inl rfl)]
    exact Exch.refl_left ..
  | succ t ih =>
    intro i j d ht hi hj
    rw [rot]
    by_cases h0 : i = 0 ∨ j = 0
    · rw [if_pos h0]
      rcases h0 with rfl | rfl
      · exact Exch.refl_left ..
      · exact Exch.refl_right _ _ _
    · rw [if_neg h0]
      by_cases h1 : i = j
      · subst h1
        rw [if_pos rfl]
        have g := get_swpN d (m - i) m i (by omega) (by omega)
        refine ⟨size_swpN .., fun k hk => ?_, fun k a b => ?_, fun k a b => ?_⟩
        · rw [g, if_neg (by omega), if_neg (by omega)]
        · rw [g, if_pos (by omega)]; congr 1; omega
        · rw [g, if_neg (by omega), if_pos (by omega)]; congr 1; omega
      · rw [if_neg h1]
        by_cases h2 : j < i
        · rw [if_pos h2]
          have g := get_swpN d (m - i) m j (by omega) (by omega)
          have e := ih (i - j) j (swpN d (m - i) m j) (by omega) (by omega) (by rw [size_swpN]; exact hj)
          refine ⟨e.size.trans (size_swpN ..), fun k hk => ?_, fun k a b => ?_, fun k a b => ?_⟩
          · rw [e.out k (by omega), g, if_neg (by omega), if_neg (by omega)]
          · rw [e.out k (by omega), g, if_pos (by omega)]; congr 1; omega
          · by_cases h3 : k < m - (i - j) + j
            · rw [e.fst k (by omega) (by omega), g, if_neg (by omega)]
              by_cases h4 : m ≤ k + (i - j)
              · rw [if_pos (by omega)]; congr 1; omega
              · rw [if_neg (by omega)]; congr 1; omega
            · rw [e.snd k (by omega) (by omega), g, if_neg (by omega), if_neg (by omega)]
        · rw [if_neg h2]
          have g := get_swpN d (m - i) (m + j - i) i (by omega) (by omega)
          have e := ih i (j - i) (swpN d (m - i) (m + j - i) i) (by omega) (by omega) (by rw [size_swpN]; omega)
          refine ⟨e.size.trans (size_swpN ..), fun k hk => ?_, fun k a b => ?_, fun k a b => ?_⟩
          · by_cases h3 : m + j ≤ k
            · rw [e.out k (by omega), g, if_neg (by omega), if_neg (by omega)]
            · rw [e.out k (by omega), g, if_neg (by omega), if_neg (by omega)]
          · by_cases h3 : k < m - i + (j - i)
            · rw [e.fst k (by omega) (by omega), g, if_neg (by omega), if_neg (by omega)]
            · rw [e.snd k (by omega) (by omega), g, if_pos (by omega)]; congr 1; omega
          · rw [e.out k (by omega), g, if_neg (by omega), if_pos (by omega)]; congr 1; omega

theorem toList_range (d : Array α) : d.toList = (List.range' 0 d.size).map (d[·]!) := by
  have := extract_toList d 0 d.size (Nat.le_refl _)
  simpa using this
theorem Exch.map_fst {m i j : Nat} {d d' : Array α} (h : Exch m i j d d') (hi : i ≤ m) : (List.range' (m - i) j).map (d'[·]!) = (List.range' m j).map (d[·]!) := by
  apply List.ext_getElem
  · simp
  · intro k h1 h2
    simp only [List.getElem_map, List.getElem_range']
    have : k < j := by simpa using h1
    rw [h.fst _ (by omega) (by omega)]; congr 1; omega
theorem Exch.map_snd {m i j : Nat} {d d' : Array α} (h : Exch m i j d d') (hi : i ≤ m) : (List.range' (m - i + j) i).map (d'[·]!) = (List.range' (m - i) i).map (d[·]!) := by
  apply List.ext_getElem
  · simp
  · intro k h1 h2
    simp only [List.getElem_map, List.getElem_range']
    have : k < i := by simpa using h1
    rw [h.snd _ (by omega) (by omega)]; congr 1; omega
theorem Exch.lists {m i j : Nat} {d d' : Array α} (h : Exch m i j d d') (hi : i ≤ m) (hj : m + j ≤ d.size) :
    ∃ p u v s, d.toList = p ++ ((u ++ v) ++ s) ∧ d'.toList = p ++ ((v ++ u) ++ s) ∧ u = (List.range' (m - i) i).map (d[·]!) ∧ v = (List.range' m j).map (d[·]!) := by
  refine ⟨(List.range' 0 (m - i)).map (d[·]!), _, _, (List.range' (m + j) (d.size - (m + j))).map (d[·]!), ?_, ?_, rfl, rfl⟩
  · rw [toList_range d]
    rw [← List.map_append, ← List.map_append, ← List.map_append]
    congr 1
    rw [show m = (m - i) + i from by omega, show m - i + i - i = m - i from by omega]
    rw [List.range'_append_1, show m - i + i + j = m - i + (i + j) from by omega, List.range'_append_1]
    have := List.range'_append_1 (s := 0) (m := m - i) (n := i + j + (d.size - (m - i + (i + j))))
    rw [Nat.zero_add] at this
    rw [this]
    congr 1; omega
  · rw [toList_range d', h.size]
    have e1 : (List.range' 0 (m - i)).map (d[·]!) = (List.range' 0 (m - i)).map (d'[·]!) := by
      apply List.map_congr_left; intro k hk; have := List.mem_range'_1.1 hk; exact (h.out k (by omega)).symm
    have e2 := (h.map_fst hi).symm
    have e3 := (h.map_snd hi).symm
    have e4 : (List.range' (m + j) (d.size - (m + j))).map (d[·]!) = (List.range' (m + j) (d.size - (m + j))).map (d'[·]!) := by
      apply List.map_congr_left; intro k hk; have := List.mem_range'_1.1 hk; exact (h.out k (by omega)).symm
    rw [e1, e2, e3, e4, ← List.map_append, ← List.map_append, ← List.map_append]
    congr 1
    rw [List.range'_append_1, show m + j = m - i + (j + i) from by omega, List.range'_append_1]
    have := List.range'_append_1 (s := 0) (m := m - i) (n := j + i + (d.size - (m - i + (j + i))))
    rw [Nat.zero_add] at this
    rw [this]
    congr 1; omega

variable (key : α → Nat)
def ltk (x y : α) : Bool := decide (key x < key y)
omit [Inhabited α] in
theorem swo_ltk : SWO (ltk key) := ⟨fun x => by simp [ltk], fun x y z h1 h2 => by simp [ltk] at *; omega, fun x y z h1 h2 => by simp [ltk] at *; omega⟩
/-- Permuted within a ≤ i < b, and each key's rows are kept. -/
def Stb (a b : Nat) (d d' : Array α) : Prop := PermIn a b d d' ∧ SameRows key d.toList d'.toList
variable {key}
theorem Stb.refl (a b : Nat) (d : Array α) : Stb key a b d d := ⟨permIn_refl _ _ _, SameRows.refl _ _⟩
theorem Stb.trans {a b : Nat} {d d' d'' : Array α} (h : Stb key a b d d') (g : Stb key a b d' d'') : Stb key a b d d'' := ⟨permIn_trans _ _ _ _ _ h.1 g.1, h.2.trans g.2⟩
theorem Stb.mono {a b a' b' : Nat} {d d' : Array α} (h : Stb key a b d d') (h1 : a' ≤ a) (h2 : b ≤ b') (h3 : b' ≤ d.size) : Stb key a' b' d d' := ⟨permIn_mono _ _ _ _ _ _ h1 h2 h3 h.1, h.2⟩
theorem Stb.size {a b : Nat} {d d' : Array α} (h : Stb key a b d d') : d'.size = d.size := h.1.1
theorem Exch.stb {m i j : Nat} {d d' : Array α} (h : Exch m i j d d') (hi : i ≤ m) (hj : m + j ≤ d.size) (hk : ∀ x y, m - i ≤ x → x < m → m ≤ y → y < m + j → key d[y]! < key d[x]!) : Stb key (m - i) (m + j) d d' := by
  obtain ⟨p, u, v, s, e1, e2, hu, hv⟩ := h.lists hi hj
  refine ⟨⟨h.size, fun k hk => h.out k hk, ?_⟩, ?_⟩
  · rw [extract_toList d _ _ hj, extract_toList d' _ _ (by rw [h.size]; exact hj)]
    rw [show m + j - (m - i) = i + j from by omega]
    have r1 : List.range' (m - i) (i + j) = List.range' (m - i) i ++ List.range' m j := by
      have := List.range'_append_1 (s := m - i) (m := i) (n := j)
      rw [← this]; congr 2; omega
    have r2 : List.range' (m - i) (i + j) = List.range' (m - i) j ++ List.range' (m - i + j) i := by
      rw [List.range'_append_1, Nat.add_comm j i]
    have q1 : (List.range' (m - i) (i + j)).map (d'[·]!) = v ++ u := by rw [r2, List.map_append, h.map_fst hi, h.map_snd hi, hu, hv]
    have q2 : (List.range' (m - i) (i + j)).map (d[·]!) = u ++ v := by rw [r1, List.map_append, hu, hv]
    rw [q1, q2]
    exact List.perm_append_comm
  · rw [e1, e2]
    refine (SameRows.refl _ _).app ((SameRows.swap ?_).app (SameRows.refl _ _))
    intro x hx y hy
    subst hu hv
    obtain ⟨k1, g1, rfl⟩ := List.mem_map.1 hx
    obtain ⟨k2, g2, rfl⟩ := List.mem_map.1 hy
    have := List.mem_range'_1.1 g1
    have := List.mem_range'_1.1 g2
    exact hk _ _ (by omega) (by omega) (by omega) (by omega)

/-! ### The searches and the two insertions -/
theorem bs_spec (p : Nat → Bool) : ∀ (t i j : Nat), j - i ≤ t → i ≤ j → (∀ x y, i ≤ x → x ≤ y → y < j → p y = true → p x = true) →
    i ≤ bs p i j ∧ bs p i j ≤ j ∧ (∀ x, i ≤ x → x < bs p i j → p x = true) ∧ (∀ x, bs p i j ≤ x → x < j → p x = false) := by
  intro t
  induction t with
  | zero =>
    intro i j h hij _
    rw [bs, if_neg (by omega)]
    exact ⟨Nat.le_refl _, hij, fun x a b => by omega, fun x a b => by omega⟩
  | succ t ih =>
    intro i j h hij hm
    rw [bs]
    by_cases g : i < j
    · rw [if_pos g]
      by_cases hp : p ((i + j) / 2) = true
      · rw [if_pos hp]
        obtain ⟨a1, a2, a3, a4⟩ := ih ((i + j) / 2 + 1) j (by omega) (by omega) (fun x y h1 h2 h3 => hm x y (by omega) h2 h3)
        refine ⟨by omega, a2, fun x h1 h2 => ?_, a4⟩
        by_cases hx : x ≤ (i + j) / 2
        · exact hm x _ h1 hx (by omega) hp
        · exact a3 x (by omega) h2
      · rw [if_neg hp]
        obtain ⟨a1, a2, a3, a4⟩ := ih i ((i + j) / 2) (by omega) (by omega) (fun x y h1 h2 h3 => hm x y h1 h2 (by omega))
        refine ⟨a1, by omega, a3, fun x h1 h2 => ?_⟩
        by_cases hx : x < (i + j) / 2
        · exact a4 x h1 hx
        · by_cases hpx : p x = true
          · exact absurd (hm _ x (by omega) (by omega) h2 hpx) hp
          · simpa using hpx
    · rw [if_neg g]
      exact ⟨Nat.le_refl _, hij, fun x a b => by omega, fun x a b => by omega⟩
theorem size_bubR (d : Array α) (k e : Nat) : (bubR d k e).size = d.size := by
  fun_induction bubR d k e with
  | case1 _ _ _ ih => rw [ih, size_swp]
  | case2 => rfl
theorem size_bubL (d : Array α) (i k : Nat) : (bubL d i k).size = d.size := by
  induction k generalizing d with
  | zero => rfl
  | succ k ih => rw [bubL]; split <;> simp [ih, size_swp]
theorem bubR_exch : ∀ (t k e : Nat) (d : Array α), e - k ≤ t → k ≤ e → e < d.size → Exch (k + 1) 1 (e - k) d (bubR d k e) := by
  intro t
  induction t with
  | zero =>
    intro k e d h hk _
    have : e = k := by omega
    subst this
    rw [bubR, if_neg (by omega), Nat.sub_self]
    exact Exch.refl_right _ _ _
  | succ t ih =>
    intro k e d h hk he
    rw [bubR]
    by_cases g : k < e
    · rw [if_pos g]
      have q := swp_get d (i := k) (j := k + 1) (by omega) (by omega)
      have E := ih (k + 1) e (swp d k (k + 1)) (by omega) (by omega) (by rw [size_swp]; exact he)
      refine ⟨E.size.trans (size_swp ..), fun x hx => ?_, fun x a b => ?_, fun x a b => ?_⟩
      · rw [E.out x (by omega), q, if_neg (by omega), if_neg (by omega)]
      · by_cases hx : x = k
        · subst hx; rw [E.out x (by omega), q, if_neg (by omega), if_pos rfl]
        · rw [E.fst x (by omega) (by omega), q, if_neg (by omega), if_neg (by omega)]
      · rw [E.snd x (by omega) (by omega), q, if_pos (by omega)]; congr 1; omega
    · rw [if_neg g]
      have : e = k := by omega
      subst this
      rw [Nat.sub_self]
      exact Exch.refl_right _ _ _
theorem bubL_exch (i : Nat) : ∀ (k : Nat) (d : Array α), i ≤ k → k < d.size → Exch k (k - i) 1 d (bubL d i k) := by
  intro k
  induction k with
  | zero => intro d _ _; rw [bubL]; rw [Nat.zero_sub]; exact Exch.refl_left _ _ _
  | succ k ih =>
    intro d hi hk
    rw [bubL]
    by_cases g : i < k + 1
    · rw [if_pos g]
      have q := swp_get d (i := k + 1) (j := k) (by omega) (by omega)
      have E := ih (swp d (k + 1) k) (by omega) (by rw [size_swp]; omega)
      refine ⟨E.size.trans (size_swp ..), fun x hx => ?_, fun x a b => ?_, fun x a b => ?_⟩
      · rw [E.out x (by omega), q, if_neg (by omega), if_neg (by omega)]
      · rw [E.fst x (by omega) (by omega), q, if_pos (by omega)]; congr 1; omega
      · by_cases hx : x = k + 1
        · subst hx; rw [E.out _ (by omega), q, if_neg (by omega), if_pos rfl]; rfl
        · rw [E.snd x (by omega) (by omega), q, if_neg (by omega), if_neg (by omega)]
    · rw [if_neg g]
      have : i = k + 1 := by omega
      subst this
      rw [Nat.sub_self]
      exact Exch.refl_left _ _ _

/-! ### Sorted parts -/
theorem srt_le {a b : Nat} {d : Array α} (h : SortedIn (ltk key) a b d) {x y : Nat} (h1 : a ≤ x) (h2 : x ≤ y) (h3 : y < b) : key d[x]! ≤ key d[y]! := by
  rcases Nat.lt_or_ge x y with g | g
  · have := h x y h1 g h3; simp [ltk] at this; exact this
  · have : x = y := by omega
    rw [this]; exact Nat.le_refl _
theorem srt_of {a b : Nat} {d : Array α} (h : ∀ x y, a ≤ x → x < y → y < b → key d[x]! ≤ key d[y]!) : SortedIn (ltk key) a b d := fun x y h1 h2 h3 => by
  have := h x y h1 h2 h3; simp [ltk]; exact this
theorem srt_cong {a b : Nat} {d d' : Array α} (h : SortedIn (ltk key) a b d) (he : ∀ x, a ≤ x → x < b → d'[x]! = d[x]!) : SortedIn (ltk key) a b d' := fun x y h1 h2 h3 => by
  rw [he x h1 (by omega), he y (by omega) h3]; exact h x y h1 h2 h3
theorem srt_join {a m b : Nat} {d : Array α} (h1 : SortedIn (ltk key) a m d) (h2 : SortedIn (ltk key) m b d) (h : ∀ x y, a ≤ x → x < m → m ≤ y → y < b → key d[x]! ≤ key d[y]!) : SortedIn (ltk key) a b d :=
  srt_of fun x y g1 g2 g3 => by
    by_cases p : y < m
    · exact srt_le h1 g1 (by omega) p
    · by_cases q : m ≤ x
      · exact srt_le h2 q (by omega) g3
      · exact h x y g1 (by omega) (by omega) g3
theorem srt_sub {a b a' b' : Nat} {d : Array α} (h : SortedIn (ltk key) a b d) (h1 : a ≤ a') (h2 : b' ≤ b) : SortedIn (ltk key) a' b' d := fun x y g1 g2 g3 => h x y (by omega) g2 (by omega)

/-! ### Insertion keeps the rows -/
theorem rows_swp {d : Array α} {j : Nat} (hj : j + 1 < d.size) (h : key d[j + 1]! < key d[j]!) : SameRows key d.toList (swp d (j + 1) j).toList := by
  have q := swp_get d (i := j + 1) (j := j) (by omega) (by omega)
  have E : Exch (j + 1) 1 1 d (swp d (j + 1) j) := ⟨size_swp .., fun x hx => by rw [q, if_neg (by omega), if_neg (by omega)], fun x a b => by rw [q, if_pos (by omega)]; congr 1; omega, fun x a b => by rw [q, if_neg (by omega), if_pos (by omega)]; congr 1; omega⟩
  refine (E.stb (by omega) (by omega) fun x y a b c e => ?_).2
  have e1 : x = j := by omega
  have e2 : y = j + 1 := by omega
  rw [e1, e2]; exact h
theorem rows_insInner (a : Nat) : ∀ (j : Nat) (d : Array α), j < d.size → SameRows key d.toList (insInner (ltk key) a j d).toList
  | 0, d, _ => SameRows.refl _ _
  | j + 1, d, hj => by
    unfold insInner
    split
    · rename_i hc
      simp only [Bool.and_eq_true, decide_eq_true_eq] at hc
      have h2 : key d[j + 1]! < key d[j]! := by have := hc.2; simpa [ltk] using this
      exact (rows_swp hj h2).trans (rows_insInner a j _ (by rw [size_swp]; omega))
    · exact SameRows.refl _ _
theorem size_insInner (lt : α → α → Bool) (a : Nat) : ∀ (j : Nat) (d : Array α), (insInner lt a j d).size = d.size
  | 0, _ => rfl
  | j + 1, d => by
    unfold insInner
    split
    · rw [size_insInner lt a j, size_swp]
    · rfl
theorem rows_insOuter (a b : Nat) : ∀ (t i : Nat) (d : Array α), b - i ≤ t → b ≤ d.size → SameRows key d.toList (insOuter (ltk key) a b i d).toList := by
  intro t
  induction t with
  | zero => intro i d h hb; rw [insOuter, if_neg (by omega)]; exact SameRows.refl _ _
  | succ t ih =>
    intro i d h hb
    rw [insOuter]
    by_cases g : i < b
    · rw [if_pos g]
      exact (rows_insInner a i d (by omega)).trans (ih (i + 1) _ (by omega) (by rw [size_insInner]; exact hb))
    · rw [if_neg g]; exact SameRows.refl _ _
theorem insertion_stb (d : Array α) (a b : Nat) (hab : a ≤ b) (hb : b ≤ d.size) : Stb key a b d (insertionSort (ltk key) d a b) ∧ SortedIn (ltk key) a b (insertionSort (ltk key) d a b) := by
  obtain ⟨h1, h2⟩ := insertionSort_holds (swo_ltk key) d a b hab hb
  exact ⟨⟨h1, rows_insOuter a b _ _ d (Nat.le_refl _) hb⟩, h2⟩
end Go.Proofs.YtjfdlibceldanabGreatDoor.Stab

/-! The stable sort, plain law: the merge by halves, and the whole. No program in sight. -/
namespace Go.Proofs.YtjfdlibceldanabGreatDoor.Stab
open Go.Sort
variable {α : Type} [Inhabited α] {key : α → Nat}

theorem mergeL_law {d : Array α} {a b : Nat} (ha : a + 1 < b) (hb : b ≤ d.size) (hv : SortedIn (ltk key) (a + 1) b d) :
    Stb key a b d (bubR d a (bs (fun h => ltk key d[h]! d[a]!) (a + 1) b - 1)) ∧ SortedIn (ltk key) a b (bubR d a (bs (fun h => ltk key d[h]! d[a]!) (a + 1) b - 1)) := by
  obtain ⟨h1, h2, h3, h4⟩ := bs_spec (fun h => ltk key d[h]! d[a]!) (b - (a + 1)) (a + 1) b (Nat.le_refl _) (by omega) (fun x y g1 g2 g3 g4 => by
    have := srt_le hv g1 g2 g3
    simp [ltk] at g4 ⊢; omega)
  generalize hi : bs (fun h => ltk key d[h]! d[a]!) (a + 1) b = i at *
  have h3' : ∀ x, a + 1 ≤ x → x < i → key d[x]! < key d[a]! := fun x g1 g2 => by have := h3 x g1 g2; simpa [ltk] using this
  have h4' : ∀ x, i ≤ x → x < b → key d[a]! ≤ key d[x]! := fun x g1 g2 => by have := h4 x g1 g2; simpa [ltk] using this
  have E := bubR_exch _ a (i - 1) d (Nat.le_refl _) (by omega) (by omega)
  refine ⟨(E.stb (by omega) (by omega) fun x y g1 g2 g3 g4 => ?_).mono (by omega) (by omega) hb, srt_of fun x y g1 g2 g3 => ?_⟩
  · have : x = a := by omega
    rw [this]; exact h3' y (by omega) (by omega)
  · by_cases p : y < i - 1
    · rw [E.fst x (by omega) (by omega), E.fst y (by omega) (by omega)]; exact srt_le hv (by omega) (by omega) (by omega)
    · by_cases q : y < i
      · rw [E.snd y (by omega) (by omega), E.fst x (by omega) (by omega)]
        have := h3' (x + 1) (by omega) (by omega)
        rw [show y - (i - 1 - a) = a from by omega]; omega
      · rw [E.out y (by omega)]
        by_cases r : x < i - 1
        · rw [E.fst x (by omega) (by omega)]
          have := h3' (x + 1) (by omega) (by omega)
          have := h4' y (by omega) g3
          omega
        · by_cases u : x < i
          · rw [E.snd x (by omega) (by omega), show x - (i - 1 - a) = a from by omega]; exact h4' y (by omega) g3
          · rw [E.out x (by omega)]; exact srt_le hv (by omega) (by omega) g3
theorem mergeR_law {d : Array α} {a m : Nat} (ha : a ≤ m) (hm : m < d.size) (hu : SortedIn (ltk key) a m d) :
    Stb key a (m + 1) d (bubL d (bs (fun h => !ltk key d[m]! d[h]!) a m) m) ∧ SortedIn (ltk key) a (m + 1) (bubL d (bs (fun h => !ltk key d[m]! d[h]!) a m) m) := by
  obtain ⟨h1, h2, h3, h4⟩ := bs_spec (fun h => !ltk key d[m]! d[h]!) (m - a) a m (Nat.le_refl _) (by omega) (fun x y g1 g2 g3 g4 => by
    have := srt_le hu g1 g2 g3
    simp [ltk] at g4 ⊢; omega)
  generalize hi : bs (fun h => !ltk key d[m]! d[h]!) a m = i at *
  have h3' : ∀ x, a ≤ x → x < i → key d[x]! ≤ key d[m]! := fun x g1 g2 => by have := h3 x g1 g2; simpa [ltk] using this
  have h4' : ∀ x, i ≤ x → x < m → key d[m]! < key d[x]! := fun x g1 g2 => by have := h4 x g1 g2; simpa [ltk] using this
  have E := bubL_exch i m d (by omega) hm
  refine ⟨(E.stb (by omega) (by omega) fun x y g1 g2 g3 g4 => ?_).mono (by omega) (by omega) (by omega), srt_of fun x y g1 g2 g3 => ?_⟩
  · have : y = m := by omega
    rw [this]; exact h4' x (by omega) (by omega)
  · by_cases p : y < i
    · rw [E.out x (by omega), E.out y (by omega)]; exact srt_le hu (by omega) (by omega) (by omega)
    · by_cases q : y = i
      · rw [E.fst y (by omega) (by omega), E.out x (by omega), show y + (m - i) = m from by omega]; exact h3' x g1 (by omega)
      · rw [E.snd y (by omega) (by omega)]
        have k1 := h4' (y - 1) (by omega) (by omega)
        by_cases r : x < i
        · rw [E.out x (by omega)]
          have := h3' x g1 r
          omega
        · by_cases u : x = i
          · rw [E.fst x (by omega) (by omega), show x + (m - i) = m from by omega]; omega
          · rw [E.snd x (by omega) (by omega)]; exact srt_le hu (by omega) (by omega) (by omega)

theorem symStart_law {d : Array α} {a m b : Nat} (ha : a < m) (hm : m < b) (hu : SortedIn (ltk key) a m d) (hv : SortedIn (ltk key) m b d) :
    a ≤ symStart (ltk key) d a m b ∧ symStart (ltk key) d a m b ≤ (a + b) / 2 ∧ symStart (ltk key) d a m b ≤ m ∧ m ≤ (a + b) / 2 + m - symStart (ltk key) d a m b ∧ (a + b) / 2 + m - symStart (ltk key) d a m b ≤ b ∧
      (∀ x y, a ≤ x → x < symStart (ltk key) d a m b → (a + b) / 2 + m - symStart (ltk key) d a m b ≤ y → y < b → key d[x]! ≤ key d[y]!) ∧
      (∀ x y, symStart (ltk key) d a m b ≤ x → x < m → m ≤ y → y < (a + b) / 2 + m - symStart (ltk key) d a m b → key d[y]! < key d[x]!) := by
  unfold symStart
  generalize hmid : (a + b) / 2 = mid
  have hab : a ≤ mid ∧ mid < b := by omega
  have key1 : ∀ lo hi, a ≤ lo → lo ≤ hi → hi ≤ m → hi ≤ mid → mid + m - lo ≤ b → (lo = a ∨ mid + m - lo = b) → (hi = m ∨ hi = mid) →
      ∀ s, bs (fun c => !ltk key d[mid + m - 1 - c]! d[c]!) lo hi = s → a ≤ s ∧ s ≤ mid ∧ s ≤ m ∧ m ≤ mid + m - s ∧ mid + m - s ≤ b ∧
      (∀ x y, a ≤ x → x < s → mid + m - s ≤ y → y < b → key d[x]! ≤ key d[y]!) ∧ (∀ x y, s ≤ x → x < m → m ≤ y → y < mid + m - s → key d[y]! < key d[x]!) := by
    intro lo hi g1 g2 g3 g4 g5 g6 g7 s hs
    obtain ⟨h1, h2, h3, h4⟩ := bs_spec (fun c => !ltk key d[mid + m - 1 - c]! d[c]!) (hi - lo) lo hi (Nat.le_refl _) g2 (fun x y k1 k2 k3 k4 => by
      have e1 := srt_le hu (x := x) (y := y) (by omega) k2 (by omega)
      have e2 := srt_le hv (x := mid + m - 1 - y) (y := mid + m - 1 - x) (by omega) (by omega) (by omega)
      simp [ltk] at k4 ⊢; omega)
    rw [hs] at h1 h2 h3 h4
    refine ⟨by omega, by omega, by omega, by omega, by omega, fun x y k1 k2 k3 k4 => ?_, fun x y k1 k2 k3 k4 => ?_⟩
    · by_cases c : lo < s
      · have e := h3 (s - 1) (by omega) (by omega)
        simp only [ltk, Bool.not_eq_true', decide_eq_false_iff_not, Nat.not_lt] at e
        rw [show mid + m - 1 - (s - 1) = mid + m - s from by omega] at e
        have e1 := srt_le hu (x := x) (y := s - 1) k1 (by omega) (by omega)
        have e2 := srt_le hv (x := mid + m - s) (y := y) (by omega) k3 k4
        omega
      · omega
    · by_cases c : s < hi
      · have e := h4 s (by omega) c
        simp only [ltk, Bool.not_eq_false', decide_eq_true_eq] at e
        have e1 := srt_le hu (x := s) (y := x) (by omega) k1 k2
        have e2 := srt_le hv (x := y) (y := mid + m - 1 - s) k3 (by omega) (by omega)
        omega
      · omega
  by_cases c : mid < m
  · rw [if_pos c, if_pos c]
    exact key1 _ _ (by omega) (by omega) (by omega) (by omega) (by omega) (.inr (by omega)) (.inr rfl) _ rfl
  · rw [if_neg c, if_neg c]
    exact key1 _ _ (by omega) (by omega) (by omega) (by omega) (by omega) (.inl rfl) (.inl rfl) _ rfl

theorem symM_law : ∀ (f : Nat) (d : Array α) (a m b : Nat), b - a ≤ f → a < m → m < b → b ≤ d.size → SortedIn (ltk key) a m d → SortedIn (ltk key) m b d →
    Stb key a b d (symM (ltk key) f d a m b) ∧ SortedIn (ltk key) a b (symM (ltk key) f d a m b) := by
  intro f
  induction f with
  | zero => intro d a m b h h1 h2; omega
  | succ f ih =>
    intro d a m b hf ham hmb hb hu hv
    rw [symM]
    by_cases c1 : m - a = 1
    · rw [if_pos c1]
      obtain rfl : m = a + 1 := by omega
      exact mergeL_law hmb hb hv
    · rw [if_neg c1]
      by_cases c2 : b - m = 1
      · rw [if_pos c2]
        obtain rfl : b = m + 1 := by omega
        exact mergeR_law (by omega) (by omega) hu
      · rw [if_neg c2]
        dsimp only
        obtain ⟨s1, s2, s3, s4, s5, hlow, hhigh⟩ := symStart_law ham hmb hu hv
        generalize symStart (ltk key) d a m b = s at *
        generalize hmid : (a + b) / 2 = mid at *
        generalize he : mid + m - s = e at *
        have E := rot_exch m _ (m - s) (e - m) d (Nat.le_refl _) (by omega) (by omega)
        have B1 : Stb key a b d (rot d m (m - s) (e - m)) := (E.stb (by omega) (by omega) fun x y g1 g2 g3 g4 => hhigh x y (by omega) g2 g3 (by omega)).mono (by omega) (by omega) hb
        generalize hd1 : rot d m (m - s) (e - m) = d1 at *
        have sz1 : d1.size = d.size := B1.size
        have u1 : SortedIn (ltk key) a s d1 := srt_cong (srt_sub hu (Nat.le_refl _) s3) fun x g1 g2 => E.out x (by omega)
        have v1 : SortedIn (ltk key) s mid d1 := srt_of fun x y g1 g2 g3 => by
          rw [E.fst x (by omega) (by omega), E.fst y (by omega) (by omega)]; exact srt_le hv (by omega) (by omega) (by omega)
        have u2 : SortedIn (ltk key) mid e d1 := srt_of fun x y g1 g2 g3 => by
          rw [E.snd x (by omega) (by omega), E.snd y (by omega) (by omega)]; exact srt_le hu (by omega) (by omega) (by omega)
        have v2 : SortedIn (ltk key) e b d1 := srt_cong (srt_sub hv s4 (Nat.le_refl _)) fun x g1 g2 => E.out x (by omega)
        have cross : ∀ x y, a ≤ x → x < mid → mid ≤ y → y < b → key d1[x]! ≤ key d1[y]! := fun x y g1 g2 g3 g4 => by
          by_cases p : x < s
          · rw [E.out x (by omega)]
            by_cases q : y < e
            · rw [E.snd y (by omega) (by omega)]; exact srt_le hu g1 (by omega) (by omega)
            · rw [E.out y (by omega)]; exact hlow x y g1 p (by omega) g4
          · rw [E.fst x (by omega) (by omega)]
            by_cases q : y < e
            · rw [E.snd y (by omega) (by omega)]; exact Nat.le_of_lt (hhigh _ _ (by omega) (by omega) (by omega) (by omega))
            · rw [E.out y (by omega)]; exact srt_le hv (by omega) (by omega) g4
        obtain ⟨d2, hd2⟩ : ∃ d2, (if a < s ∧ s < mid then symM (ltk key) f d1 a s mid else d1) = d2 := ⟨_, rfl⟩
        rw [hd2]
        have S2 : Stb key a mid d1 d2 ∧ SortedIn (ltk key) a mid d2 := by
          rw [← hd2]
          split
          · rename_i g
            exact ih d1 a s mid (by omega) g.1 g.2 (by omega) u1 v1
          · rename_i g
            refine ⟨Stb.refl _ _ _, ?_⟩
            by_cases p : a < s
            · have : s = mid := by omega
              rw [← this]; exact u1
            · have : s = a := by omega
              rw [← this]; exact v1
        have sz2 : d2.size = d.size := S2.1.size.trans sz1
        have o2 : ∀ x, mid ≤ x → d2[x]! = d1[x]! := fun x hx => S2.1.1.2.1 x (.inr hx)
        obtain ⟨d3, hd3⟩ : ∃ d3, (if mid < e ∧ e < b then symM (ltk key) f d2 mid e b else d2) = d3 := ⟨_, rfl⟩
        rw [hd3]
        have u2' := srt_cong u2 fun x g1 _ => o2 x g1
        have v2' := srt_cong v2 fun x g1 _ => o2 x (by omega)
        have S3 : Stb key mid b d2 d3 ∧ SortedIn (ltk key) mid b d3 := by
          rw [← hd3]
          split
          · rename_i g
            exact ih d2 mid e b (by omega) g.1 g.2 (by omega) u2' v2'
          · rename_i g
            refine ⟨Stb.refl _ _ _, ?_⟩
            by_cases p : mid < e
            · have : e = b := by omega
              rw [← this]; exact u2'
            · have : e = mid := by omega
              rw [← this]; exact v2'
        have o3 : ∀ x, x < mid → d3[x]! = d2[x]! := fun x hx => S3.1.1.2.1 x (.inl hx)
        refine ⟨B1.trans ((S2.1.mono (Nat.le_refl _) (by omega) (by omega)).trans (S3.1.mono (by omega) (Nat.le_refl _) (by omega))), srt_join (srt_cong S2.2 fun x _ g2 => o3 x g2) S3.2 fun x y g1 g2 g3 g4 => ?_⟩
        rw [o3 x g2]
        have A1 : ∀ i, mid ≤ i → i < b → ∀ z, a ≤ z → z < mid → key d1[z]! ≤ key d2[i]! := fun i k1 k2 z k3 k4 => by rw [o2 i k1]; exact cross z i k3 k4 k1 k2
        have A2 : ∀ i, mid ≤ i → i < b → ∀ z, a ≤ z → z < mid → key d1[z]! ≤ key d3[i]! := permIn_all d2 d3 mid b (fun v => ∀ z, a ≤ z → z < mid → key d1[z]! ≤ key v) (by omega) S3.1.1 A1
        exact permIn_all d1 d2 a mid (fun v => key v ≤ key d3[y]!) (by omega) S2.1.1 (fun z k3 k4 => A2 y g3 g4 z k3 k4) x g1 g2

/-! ### The whole -/
theorem size_symM (d : Array α) {a m b : Nat} (f : Nat) (hf : b - a ≤ f) (ham : a < m) (hmb : m < b) (hb : b ≤ d.size) (hu : SortedIn (ltk key) a m d) (hv : SortedIn (ltk key) m b d) : (symM (ltk key) f d a m b).size = d.size :=
  (symM_law f d a m b hf ham hmb hb hu hv).1.size
/-- From a on, run by run of z places, sorted. -/
def Runs (key : α → Nat) (z n a : Nat) (d : Array α) : Prop := ∀ t, SortedIn (ltk key) (a + t * z) (min (a + (t + 1) * z) n) d
theorem srt_nil {a b : Nat} {d : Array α} (h : b ≤ a) : SortedIn (ltk key) a b d := fun x y g1 g2 g3 => by omega
theorem Runs.cong {z n a : Nat} {d d' : Array α} (h : Runs key z n a d) (he : ∀ x, a ≤ x → d'[x]! = d[x]!) : Runs key z n a d' := fun t => srt_cong (h t) fun x g1 _ => he x (by omega)
theorem Runs.tail {z n a : Nat} {d : Array α} (h : Runs key z n a d) (k : Nat) : Runs key z n (a + k * z) d := fun t => by
  have := h (k + t)
  rw [Nat.add_mul, ← Nat.add_assoc] at this
  rwa [show a + k * z + (t + 1) * z = a + (k + t + 1) * z from by rw [Nat.add_assoc k t 1, Nat.add_mul k, Nat.add_assoc]]
theorem Runs.cons {z n a : Nat} {d : Array α} (h : SortedIn (ltk key) a (min (a + z) n) d) (g : Runs key z n (a + z) d) : Runs key z n a d := fun t => by
  cases t with
  | zero => simpa using h
  | succ t =>
    have := g t
    rwa [show a + z + t * z = a + (t + 1) * z from by rw [Nat.add_mul]; omega, show a + z + (t + 1) * z = a + (t + 1 + 1) * z from by rw [Nat.add_mul (t + 1) 1]; omega] at this
theorem blocks_law (n : Nat) : ∀ (t a : Nat) (d : Array α), n - a ≤ t → a ≤ n → n ≤ d.size → Stb key a n d (blocks (ltk key) n a d) ∧ Runs key 20 n a (blocks (ltk key) n a d) := by
  intro t
  induction t with
  | zero =>
    intro a d h ha hn
    rw [blocks, if_neg (by omega)]
    obtain ⟨h1, h2⟩ := insertion_stb (key := key) d a n ha hn
    exact ⟨h1, fun t => srt_nil (by omega)⟩
  | succ t ih =>
    intro a d h ha hn
    rw [blocks]
    by_cases c : a + 20 ≤ n
    · rw [if_pos c]
      obtain ⟨h1, h2⟩ := insertion_stb (key := key) d a (a + 20) (by omega) (by omega)
      obtain ⟨k1, k2⟩ := ih (a + 20) (insertionSort (ltk key) d a (a + 20)) (by omega) c (by rw [h1.size]; exact hn)
      refine ⟨(h1.mono (Nat.le_refl _) c hn).trans (k1.mono (by omega) (Nat.le_refl _) (by rw [h1.size]; exact hn)), Runs.cons ?_ k2⟩
      rw [Nat.min_eq_left c]
      exact srt_cong h2 fun x _ g => k1.1.2.1 x (.inl g)
    · rw [if_neg c]
      obtain ⟨h1, h2⟩ := insertion_stb (key := key) d a n ha hn
      refine ⟨h1, fun t => ?_⟩
      cases t with
      | zero => exact srt_sub h2 (by omega) (by omega)
      | succ t => exact srt_nil (by omega)
theorem pass_law (n z : Nat) (hz : 0 < z) : ∀ (f a : Nat) (d : Array α), n - a < f → a ≤ n → n ≤ d.size → Runs key z n a d → Stb key a n d (pass (ltk key) n z f a d) ∧ Runs key (2 * z) n a (pass (ltk key) n z f a d) := by
  intro f
  induction f with
  | zero => intro a d h; omega
  | succ f ih =>
    intro a d hf ha hn hr
    rw [pass]
    have r0 := hr 0
    have r1 := hr 1
    simp only [Nat.zero_mul, Nat.add_zero, Nat.zero_add, Nat.one_mul, Nat.reduceAdd] at r0 r1
    by_cases c : a + 2 * z ≤ n
    · rw [if_pos c]
      rw [Nat.min_eq_left (by omega)] at r0 r1
      obtain ⟨h1, h2⟩ := symM_law (2 * z) d a (a + z) (a + 2 * z) (by omega) (by omega) (by omega) (by omega) r0 r1
      have hr2 := (hr.tail 2).cong (fun x hx => h1.1.2.1 x (.inr hx))
      obtain ⟨k1, k2⟩ := ih (a + 2 * z) _ (by omega) c (by rw [h1.size]; exact hn) hr2
      refine ⟨(h1.mono (Nat.le_refl _) c hn).trans (k1.mono (by omega) (Nat.le_refl _) (by rw [h1.size]; exact hn)), Runs.cons ?_ k2⟩
      rw [Nat.min_eq_left c]
      exact srt_cong h2 fun x _ g => k1.1.2.1 x (.inl g)
    · rw [if_neg c]
      have last : ∀ d' : Array α, SortedIn (ltk key) a n d' → Runs key (2 * z) n a d' := fun d' hd t => by
        cases t with
        | zero => exact srt_sub hd (by omega) (by omega)
        | succ t =>
          have : 2 * z ≤ (t + 1) * (2 * z) := Nat.le_mul_of_pos_left _ (by omega)
          exact srt_nil (by omega)
      by_cases c2 : a + z < n
      · rw [if_pos c2]
        rw [Nat.min_eq_left (by omega)] at r0
        rw [Nat.min_eq_right (by omega)] at r1
        obtain ⟨h1, h2⟩ := symM_law (n - a) d a (a + z) n (by omega) (by omega) c2 hn r0 r1
        exact ⟨h1, last _ h2⟩
      · rw [if_neg c2]
        rw [Nat.min_eq_right (by omega)] at r0
        exact ⟨Stb.refl _ _ _, last _ r0⟩
theorem levels_law (n : Nat) : ∀ (f z : Nat) (d : Array α), 0 < z → n - z < f → n ≤ d.size → Runs key z n 0 d → Stb key 0 n d (levels (ltk key) n f z d) ∧ SortedIn (ltk key) 0 n (levels (ltk key) n f z d) := by
  intro f
  induction f with
  | zero => intro z d _ h; omega
  | succ f ih =>
    intro z d hz hf hn hr
    rw [levels]
    by_cases c : z < n
    · rw [if_pos c]
      obtain ⟨h1, h2⟩ := pass_law n z hz (n + 1) 0 d (by omega) (by omega) hn hr
      obtain ⟨k1, k2⟩ := ih (2 * z) _ (by omega) (by omega) (by rw [h1.size]; exact hn) h2
      exact ⟨h1.trans k1, k2⟩
    · rw [if_neg c]
      have := hr 0
      simp only [Nat.zero_mul, Nat.zero_add, Nat.one_mul] at this
      rw [Nat.min_eq_right (by omega)] at this
      exact ⟨Stb.refl _ _ _, this⟩
theorem stableS_law (d : Array α) : Stb key 0 d.size d (stableS (ltk key) d) ∧ SortedIn (ltk key) 0 d.size (stableS (ltk key) d) := by
  unfold stableS
  obtain ⟨h1, h2⟩ := blocks_law (key := key) d.size d.size 0 d (by omega) (by omega) (Nat.le_refl _)
  obtain ⟨k1, k2⟩ := levels_law d.size (d.size + 1) 20 _ (by omega) (by omega) (by rw [h1.size]; exact Nat.le_refl _) h2
  exact ⟨h1.trans k1, k2⟩
/-- The list: sorted by key, each key's numbers in their order. -/
theorem stable_list (P : Nat) (l : List α) (h : ∀ x ∈ l, key x < P) : (stableS (ltk key) l.toArray).toList = (List.range P).flatMap fun p => l.filter (fun x => key x == p) := by
  obtain ⟨h1, h2⟩ := stableS_law (key := key) l.toArray
  have hs : SortedBy key (stableS (ltk key) l.toArray).toList := by
    rw [toList_range]
    unfold SortedBy
    rw [List.pairwise_map]
    refine List.Pairwise.imp_of_mem ?_ (List.pairwise_lt_range' (s := 0) (n := (stableS (ltk key) l.toArray).size))
    intro x y hx hy hxy
    have := List.mem_range'_1.1 hy
    refine srt_le h2 (by omega) (Nat.le_of_lt hxy) ?_
    rw [h1.size] at this; omega
  exact sorted_rows key P l _ (fun x hx => h x (h1.2.mem (by simpa using hx))) hs (by simpa using h1.2)
end Go.Proofs.YtjfdlibceldanabGreatDoor.Stab
