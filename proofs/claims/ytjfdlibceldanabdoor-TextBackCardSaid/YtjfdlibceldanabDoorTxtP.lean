/- The book of a text, in plain Lean: its words by order, its text as numbers; and its text again out of these. -/
import Derived.Test.YtjfdlibceldanabDoorTxtG
import Derived.Lib.SlicesCompact
namespace Go.Proofs.YtjfdlibceldanabDoor.Tx
open Go.Lib

/-! ### Words by order -/
def ordW (ws : List (List UInt8)) : List (List UInt8) := compact (ws.mergeSort fun x y => decide (x ≤ y))
theorem arr_get {α : Type} [Inhabited α] (zs : List α) {j : Nat} (h : j < zs.length) : zs.toArray[j]! = zs[j] := by simp [h]
theorem mem_compact {α : Type} [Inhabited α] [DecidableEq α] (zs : List α) (x : α) : x ∈ compact zs ↔ x ∈ zs := by
  unfold compact compactUpTo
  constructor
  · intro h
    obtain ⟨j, hj, rfl⟩ := List.mem_map.1 h
    have := List.mem_range.1 (List.mem_filter.1 hj).1
    rw [arr_get zs this]
    exact List.getElem_mem _
  · intro h
    have key : ∀ n j, j ≤ n → (hj : j < zs.length) → ∃ k, ∃ hk : k < zs.length, keeps zs.toArray k = true ∧ zs[k] = zs[j] := by
      intro n
      induction n with
      | zero =>
        intro j h0 hj
        have : j = 0 := by omega
        subst this
        exact ⟨0, hj, by simp [keeps], rfl⟩
      | succ n ih =>
        intro j h0 hj
        by_cases g : j = 0
        · subst g; exact ⟨0, hj, by simp [keeps], rfl⟩
        · by_cases e : zs[j] = zs[j - 1]
          · obtain ⟨k, hk, q1, q2⟩ := ih (j - 1) (by omega) (by omega)
            exact ⟨k, hk, q1, q2.trans e.symm⟩
          · refine ⟨j, hj, ?_, rfl⟩
            unfold keeps
            rw [arr_get zs hj, arr_get zs (by omega : j - 1 < zs.length)]
            exact decide_eq_true (Or.inr e)
    obtain ⟨j, hj, rfl⟩ := List.getElem_of_mem h
    obtain ⟨k, hk, q1, q2⟩ := key j j (Nat.le_refl _) hj
    refine List.mem_map.2 ⟨k, List.mem_filter.2 ⟨List.mem_range.2 hk, q1⟩, ?_⟩
    rw [arr_get zs hk, q2]
theorem le_sorted (ws : List (List UInt8)) : (ws.mergeSort fun x y => decide (x ≤ y)).Pairwise fun x y => x ≤ y := by
  have := List.pairwise_mergeSort (le := fun (x y : List UInt8) => decide (x ≤ y)) (fun a b c h1 h2 => decide_eq_true (List.le_trans (of_decide_eq_true h1) (of_decide_eq_true h2)))
    (fun a b => by rcases List.le_total a b with h | h <;> simp [h]) ws
  exact this.imp fun h => of_decide_eq_true h
theorem lt_of_le_ne {a b : List UInt8} (h : a ≤ b) (g : a ≠ b) : a < b := by
  rcases List.le_iff_lt_or_eq.1 h with h | h
  · exact h
  · exact absurd h g
theorem lt_of_le_lt {a b c : List UInt8} (h : a ≤ b) (g : b < c) : a < c := by
  rcases List.le_iff_lt_or_eq.1 h with h | h
  · exact List.lt_trans h g
  · rw [h]; exact g
theorem ordW_sorted (ws : List (List UInt8)) : (ordW ws).Pairwise fun x y => x < y := by
  have hs := le_sorted ws
  unfold ordW
  generalize (ws.mergeSort fun x y => decide (x ≤ y)) = zs at hs
  unfold compact compactUpTo
  rw [List.pairwise_map, List.pairwise_filter]
  refine List.Pairwise.imp_of_mem ?_ (List.pairwise_lt_range (n := zs.length))
  intro i j hi hj hij _ kj
  have h1 := List.mem_range.1 hi
  have h2 := List.mem_range.1 hj
  rw [arr_get zs h1, arr_get zs h2]
  unfold keeps at kj
  rw [arr_get zs h2, arr_get zs (by omega : j - 1 < zs.length)] at kj
  have kj := of_decide_eq_true kj
  rcases kj with q | q
  · omega
  · have a2 : zs[j - 1] ≤ zs[j] := List.pairwise_iff_getElem.1 hs (j - 1) j (by omega) h2 (by omega)
    have a3 : zs[j - 1] < zs[j] := lt_of_le_ne a2 fun e => q e.symm
    by_cases e : i = j - 1
    · subst e; exact a3
    · exact lt_of_le_lt (List.pairwise_iff_getElem.1 hs i (j - 1) h1 (by omega) (by omega)) a3
theorem mem_ordW (ws : List (List UInt8)) (x : List UInt8) : x ∈ ordW ws ↔ x ∈ ws := by
  unfold ordW
  rw [mem_compact]
  exact (List.mergeSort_perm _ _).mem_iff

/-! ### Numbers of words -/
/-- How many words are less. -/
def num (W : List (List UInt8)) (w : List UInt8) : Nat := W.countP fun x => decide (x < w)
theorem num_le (W : List (List UInt8)) (w : List UInt8) : num W w ≤ W.length := List.countP_le_length
theorem num_below : ∀ {W : List (List UInt8)}, (W.Pairwise fun x y => x < y) → ∀ (w : List UInt8) (j : Nat) (h : j < W.length), (j < num W w ↔ W[j] < w)
  | [], _, _, j, h => by simp at h
  | a :: W, hs, w, j, h => by
    have hs' := List.pairwise_cons.1 hs
    unfold num
    rw [List.countP_cons]
    by_cases ha : a < w
    · have : (decide (a < w)) = true := decide_eq_true ha
      rw [if_pos this]
      cases j with
      | zero => simp only [List.getElem_cons_zero]; exact ⟨fun _ => ha, fun _ => by omega⟩
      | succ j =>
        have ih := num_below hs'.2 w j (by simpa using h)
        unfold num at ih
        simp only [List.getElem_cons_succ]
        rw [← ih]; omega
    · have : ¬ (decide (a < w)) = true := fun q => ha (of_decide_eq_true q)
      rw [if_neg this]
      have hz : W.countP (fun x => decide (x < w)) = 0 := List.countP_eq_zero.2 fun x hx => by
        have h1 := hs'.1 x hx
        intro q
        exact ha (List.lt_trans h1 (of_decide_eq_true q))
      rw [hz]
      refine ⟨fun q => by omega, fun q => ?_⟩
      cases j with
      | zero => exact absurd q ha
      | succ j =>
        exfalso
        simp only [List.getElem_cons_succ] at q
        exact ha (List.lt_trans (hs'.1 _ (List.getElem_mem _)) q)
theorem num_at {W : List (List UInt8)} (hs : W.Pairwise fun x y => x < y) {j : Nat} (h : j < W.length) : num W W[j] = j := by
  have hb := num_below hs W[j]
  have h1 : ¬ j < num W W[j] := fun q => List.lt_irrefl _ ((hb j h).1 q)
  rcases Nat.lt_or_ge (num W W[j]) j with g | g
  · exfalso
    have h2 : W[num W W[j]]'(by omega) < W[j] := List.pairwise_iff_getElem.1 hs _ j (by omega) h g
    have := (hb (num W W[j]) (by omega)).2 h2
    omega
  · omega
theorem num_mem {W : List (List UInt8)} (hs : W.Pairwise fun x y => x < y) {w : List UInt8} (h : w ∈ W) : ∃ hj : num W w < W.length, W[num W w] = w := by
  obtain ⟨j, hj, rfl⟩ := List.getElem_of_mem h
  have := num_at hs hj
  exact ⟨by omega, by simp only [this]⟩
theorem num_found {W : List (List UInt8)} (hs : W.Pairwise fun x y => x < y) (w : List UInt8) : w ∈ W ↔ ∃ hj : num W w < W.length, W[num W w] = w :=
  ⟨num_mem hs, fun ⟨hj, e⟩ => by rw [← e]; exact List.getElem_mem _⟩

/-! ### The book -/
/-- The text as numbers, but for the last one. -/
def textN (W : List (List UInt8)) (L : List (List (List UInt8))) : List Nat := L.flatMap fun l => (l.map fun w => num W w + 2) ++ [1]
def wordsF (s : List UInt8) : List (List UInt8) := ordW (linesF s).flatten
def errF (s : List UInt8) : Nat := if 400 < s.length then 2 else if (linesF s).all (fun l => l.all okW) = false then 1 else if 100 < (textN (wordsF s) (linesF s)).length then 2 else 0
/-- The signs of words; none: one is no word of the book. -/
def signF (W : List (List UInt8)) (w : List UInt8) : Option Nat := if w = [10] then some 1 else if w ∈ W then some (num W w + 2) else none
def signsF (W : List (List UInt8)) (s : List UInt8) : Option (List Nat) := (toks s).mapM (signF W)

theorem letter_ne {b : UInt8} (h : letter b = true) : b ≠ 32 ∧ b ≠ 10 := by
  have := of_decide_eq_true h
  constructor
  · intro q; subst q; exact absurd this (by decide)
  · intro q; subst q; exact absurd this (by decide)
/-- A line written as a space ahead of each word. -/
def wr (l : List (List UInt8)) : List UInt8 := l.flatMap fun w => 32 :: w
theorem wds_wr : ∀ (l : List (List UInt8)), (∀ w ∈ l, w ≠ [] ∧ ∀ b ∈ w, b ≠ 32) → wds (wr l) = l
  | [], _ => rfl
  | w :: l, h => by
    have hw := h w (by simp)
    have ih := wds_wr l fun x hx => h x (by simp [hx])
    unfold wr at ih ⊢
    rw [List.flatMap_cons, List.cons_append, wds_sp]
    cases l with
    | nil => simp only [List.flatMap_nil, List.append_nil]; exact wds_last w hw.1 hw.2
    | cons w' l =>
      rw [List.flatMap_cons, List.cons_append] at ih ⊢
      rw [wds_sp] at ih
      rw [wds_word w _ hw.1 hw.2, ih]
theorem wr_no : ∀ (l : List (List UInt8)), (∀ w ∈ l, ∀ b ∈ w, b ≠ 10) → (10 : UInt8) ∉ wr l := by
  intro l h hm
  unfold wr at hm
  obtain ⟨w, hw, hb⟩ := List.mem_flatMap.1 hm
  rcases List.mem_cons.1 hb with q | q
  · exact absurd q (by decide)
  · exact h w hw 10 q rfl
/-- All lines written. -/
def wrL (L : List (List (List UInt8))) : List UInt8 := L.flatMap fun l => wr l ++ [10]
theorem spl_wrL : ∀ (L : List (List (List UInt8))), (∀ l ∈ L, ∀ w ∈ l, ∀ b ∈ w, b ≠ 10) → spl 10 (wrL L) = L.map wr ++ [[]]
  | [], _ => rfl
  | l :: L, h => by
    have ih := spl_wrL L fun x hx => h x (by simp [hx])
    unfold wrL at ih ⊢
    rw [List.flatMap_cons, List.append_assoc, List.singleton_append, spl_app 10 _ _ (wr_no l (h l (by simp))), ih]
    rfl
theorem toks_wrL (L : List (List (List UInt8))) (h : ∀ l ∈ L, ∀ w ∈ l, w ≠ [] ∧ ∀ b ∈ w, b ≠ 32 ∧ b ≠ 10) : toks (wrL L) = L.flatMap fun l => l ++ [[10]] := by
  have hs := spl_wrL L fun l hl w hw b hb => ((h l hl w hw).2 b hb).2
  have hw : ∀ l ∈ L, wds (wr l) = l := fun l hl => wds_wr l fun w hw => ⟨(h l hl w hw).1, fun b hb => ((h l hl w hw).2 b hb).1⟩
  have key : ∀ (M : List (List (List UInt8))), (∀ l ∈ M, wds (wr l) = l) → (M.map wr ++ [[]]).flatMap (fun l => [10] :: wds l) = [10] :: M.flatMap fun l => l ++ [[10]] := by
    intro M hM
    induction M with
    | nil => rfl
    | cons l M ih =>
      rw [List.map_cons, List.cons_append, List.flatMap_cons, List.flatMap_cons, hM l (by simp), ih fun x hx => hM x (by simp [hx])]
      simp
  cases L with
  | nil => rfl
  | cons l L =>
    rw [List.map_cons, List.cons_append] at hs
    rw [toks_eq hs, hw l (by simp), key L fun x hx => hw x (by simp [hx]), List.flatMap_cons, List.append_assoc, List.singleton_append]
theorem suffix_last (u : List UInt8) : trimSuffix (u ++ [10]) [10] = u := by
  unfold trimSuffix hasSuffix
  rw [if_pos (by simp)]
  simp
theorem spl_snoc : ∀ (u : List UInt8), spl 10 (u ++ [10]) = spl 10 u ++ [[]]
  | [] => by simp [spl]
  | b :: u => by
    obtain ⟨p, r, hp⟩ := spl_form 10 u
    have ih := spl_snoc u
    rw [hp] at ih
    rw [List.cons_append, spl, spl, ih, hp]
    split <;> rfl
theorem lines_wrL (L : List (List (List UInt8))) (hL : L ≠ []) (h : ∀ l ∈ L, ∀ w ∈ l, w ≠ [] ∧ ∀ b ∈ w, b ≠ 32 ∧ b ≠ 10) : linesF (wrL L) = L := by
  have hs := spl_wrL L fun l hl w hw b hb => ((h l hl w hw).2 b hb).2
  have hw : ∀ l ∈ L, wds (wr l) = l := fun l hl => wds_wr l fun w hw => ⟨(h l hl w hw).1, fun b hb => ((h l hl w hw).2 b hb).1⟩
  obtain ⟨u, hu⟩ : ∃ u, wrL L = u ++ [10] := by
    obtain ⟨M, l, rfl⟩ : ∃ M l, L = M ++ [l] := ⟨L.dropLast, L.getLast hL, (List.dropLast_concat_getLast hL).symm⟩
    refine ⟨wrL M ++ wr l, ?_⟩
    unfold wrL
    rw [List.flatMap_append, List.flatMap_cons, List.flatMap_nil, List.append_nil, List.append_assoc]
  unfold linesF
  rw [hu, suffix_last]
  rw [hu, spl_snoc] at hs
  have := List.append_cancel_right hs
  rw [this, List.map_map]
  conv => rhs; rw [← List.map_id L]
  exact List.map_congr_left hw
theorem lines_ne (s : List UInt8) : linesF s ≠ [] := by
  unfold linesF
  obtain ⟨p, r, h⟩ := spl_form 10 (trimSuffix s [10])
  rw [h]
  exact List.cons_ne_nil _ _
/-- Words of lines: none is empty, none has a space or a line's end. -/
theorem lines_words {s : List UInt8} {l : List (List UInt8)} (hl : l ∈ linesF s) {w : List UInt8} (hw : w ∈ l) : w ≠ [] ∧ ∀ b ∈ w, b ≠ 32 ∧ b ≠ 10 := by
  unfold linesF at hl
  obtain ⟨p, hp, rfl⟩ := List.mem_map.1 hl
  refine ⟨wds_ne hw, fun b hb => ?_⟩
  obtain ⟨h1, h2⟩ := fl_mem p [] (fun x hx => by cases hx) w hw b hb
  refine ⟨h1, fun q => ?_⟩
  rcases h2 with h2 | h2
  · cases h2
  · subst q; exact spl_no 10 _ p hp h2
/-- The text again. -/
theorem text_again (s : List UInt8) : linesF (wrL (linesF s)) = linesF s := lines_wrL _ (lines_ne s) fun _ hl _ hw => lines_words hl hw
theorem toks_again (s : List UInt8) : toks (wrL (linesF s)) = (linesF s).flatMap fun l => l ++ [[10]] := toks_wrL _ fun _ hl _ hw => lines_words hl hw
theorem fm_congr {α β : Type} (f g : α → List β) : ∀ (l : List α), (∀ x ∈ l, f x = g x) → l.flatMap f = l.flatMap g
  | [], _ => rfl
  | a :: l, h => by rw [List.flatMap_cons, List.flatMap_cons, h a (by simp), fm_congr f g l fun x hx => h x (by simp [hx])]
theorem mapM_some {α β : Type} (f : α → Option β) (g : α → β) : ∀ (l : List α), (∀ x ∈ l, f x = some (g x)) → l.mapM f = some (l.map g)
  | [], _ => rfl
  | a :: l, h => by
    rw [List.mapM_cons, h a (by simp), mapM_some f g l fun x hx => h x (by simp [hx])]
    rfl
theorem signs_again (s : List UInt8) : signsF (wordsF s) (wrL (linesF s)) = some (textN (wordsF s) (linesF s)) := by
  unfold signsF
  rw [toks_again, mapM_some (signF (wordsF s)) (fun w => if w = [10] then 1 else num (wordsF s) w + 2)]
  · congr 1
    unfold textN
    rw [List.map_flatMap]
    have : ∀ l ∈ linesF s, (l ++ [[10]]).map (fun w => if w = [10] then 1 else num (wordsF s) w + 2) = (l.map fun w => num (wordsF s) w + 2) ++ [1] := by
      intro l hl
      rw [List.map_append]
      congr 1
      refine List.map_congr_left fun w hw => ?_
      rw [if_neg fun q => ?_]
      have := ((lines_words hl hw).2 10 (by rw [q]; simp)).2
      exact this rfl
    exact fm_congr _ _ _ this
  · intro w hw
    obtain ⟨l, hl, hm⟩ := List.mem_flatMap.1 hw
    unfold signF
    by_cases g : w = [10]
    · rw [if_pos g, if_pos g]
    · rw [if_neg g, if_neg g, if_pos]
      unfold wordsF
      rw [mem_ordW]
      rcases List.mem_append.1 hm with q | q
      · exact List.mem_flatten.2 ⟨l, hl, q⟩
      · exact absurd (List.mem_singleton.1 q) g
end Go.Proofs.YtjfdlibceldanabDoor.Tx
