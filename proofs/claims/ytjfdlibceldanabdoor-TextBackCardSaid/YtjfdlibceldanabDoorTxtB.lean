/- The book of a text is good, and its text is there again: plain Lean. -/
import Derived.Test.YtjfdlibceldanabDoorTxtP
import Derived.Test.YtjfdlibceldanabDoorBase
namespace Go.Proofs.YtjfdlibceldanabDoor.Tx
open Go.Lib

/-- Is the word at a place good? -/
def gw (W : List (List UInt8)) (T : List Int) (i : Nat) : Bool :=
  decide (1 ≤ (nth W i).length ∧ (nth W i).length ≤ 8) && (nth W i).all letter && (decide (i = 0) || decide (nth W (i - 1) < nth W i)) && T.contains ((i : Int) + 2)
/-- Is it a book of a text? -/
def goodB (W : List (List UInt8)) (T : List Int) : Bool :=
  decide (2 ≤ T.length ∧ T.length ≤ 101 ∧ nth T (T.length - 1) = 0 ∧ nth T (T.length - 2) = 1) && (List.range W.length).all (gw W T) && (T.take (T.length - 1)).all fun k => decide (1 ≤ k ∧ k < W.length + 2)

theorem nth_num {W : List (List UInt8)} (hs : W.Pairwise fun x y => x < y) {w : List UInt8} (h : w ∈ W) : num W w < W.length ∧ nth W (num W w) = w := by
  obtain ⟨h1, h2⟩ := num_mem hs h
  exact ⟨h1, by rw [nth_lt h1]; exact h2⟩
/-- What a sign is written as. -/
def piece (W : List (List UInt8)) (k : Nat) : List UInt8 := if k = 1 then [10] else if 2 ≤ k ∧ k - 2 < W.length then 32 :: nth W (k - 2) else []
theorem piece_words {W : List (List UInt8)} (hs : W.Pairwise fun x y => x < y) : ∀ (L : List (List (List UInt8))), (∀ l ∈ L, ∀ w ∈ l, w ∈ W) → (textN W L).flatMap (piece W) = wrL L
  | [], _ => rfl
  | l :: L, h => by
    have ih := piece_words hs L fun x hx => h x (by simp [hx])
    unfold textN wrL at ih ⊢
    rw [List.flatMap_cons, List.flatMap_append, List.flatMap_cons, ih, List.flatMap_append]
    congr 1
    have e1 : [1].flatMap (piece W) = [10] := by simp [piece]
    rw [e1]
    congr 1
    have hl := h l (by simp)
    clear h ih e1
    induction l with
    | nil => rfl
    | cons w l ih =>
      have hw := nth_num hs (hl w (by simp))
      unfold wr at ih ⊢
      rw [List.map_cons, List.flatMap_cons, List.flatMap_cons, ih fun x hx => hl x (by simp [hx])]
      congr 1
      unfold piece
      rw [if_neg (by omega), if_pos ⟨by omega, by omega⟩, Nat.add_sub_cancel, hw.2]
theorem words_mem {s : List UInt8} {l : List (List UInt8)} (hl : l ∈ linesF s) {w : List UInt8} (hw : w ∈ l) : w ∈ wordsF s := by
  unfold wordsF
  rw [mem_ordW]
  exact List.mem_flatten.2 ⟨l, hl, hw⟩
theorem mem_words {s w : List UInt8} (h : w ∈ wordsF s) : ∃ l ∈ linesF s, w ∈ l := by
  unfold wordsF at h
  rw [mem_ordW] at h
  exact List.mem_flatten.1 h
/-- The whole text, written. -/
theorem piece_all (s : List UInt8) : (textN (wordsF s) (linesF s) ++ [0]).flatMap (piece (wordsF s)) = wrL (linesF s) := by
  rw [List.flatMap_append, piece_words (W := wordsF s) (ordW_sorted _) (linesF s) fun l hl w hw => words_mem hl hw]
  simp [piece]
theorem textN_last : ∀ (W : List (List UInt8)) (L : List (List (List UInt8))), L ≠ [] → ∃ u, textN W L = u ++ [1]
  | W, [l], _ => ⟨l.map fun w => num W w + 2, by simp [textN]⟩
  | W, l :: l2 :: L, _ => by
    obtain ⟨u, hu⟩ := textN_last W (l2 :: L) (List.cons_ne_nil _ _)
    refine ⟨((l.map fun w => num W w + 2) ++ [1]) ++ u, ?_⟩
    unfold textN at hu ⊢
    rw [List.flatMap_cons, hu]
    simp
theorem mem_textN {W : List (List UInt8)} {L : List (List (List UInt8))} {k : Nat} : k ∈ textN W L ↔ (∃ l ∈ L, k = 1 ∨ ∃ w ∈ l, k = num W w + 2) := by
  unfold textN
  rw [List.mem_flatMap]
  constructor
  · rintro ⟨l, hl, hk⟩
    refine ⟨l, hl, ?_⟩
    rcases List.mem_append.1 hk with h | h
    · obtain ⟨w, hw, e⟩ := List.mem_map.1 h
      exact Or.inr ⟨w, hw, e.symm⟩
    · exact Or.inl (List.mem_singleton.1 h)
  · rintro ⟨l, hl, hk⟩
    refine ⟨l, hl, List.mem_append.2 ?_⟩
    rcases hk with rfl | ⟨w, hw, rfl⟩
    · exact Or.inr (by simp)
    · exact Or.inl (List.mem_map.2 ⟨w, hw, rfl⟩)
/-- A read book is good. -/
theorem good_read {s : List UInt8} (h : errF s = 0) : goodB (wordsF s) ((textN (wordsF s) (linesF s) ++ [0]).map Int.ofNat) = true := by
  have hW := ordW_sorted (linesF s).flatten
  obtain ⟨hok, hT⟩ : (linesF s).all (fun l => l.all okW) = true ∧ (textN (wordsF s) (linesF s)).length ≤ 100 := by
    unfold errF at h
    split at h
    · cases h
    · split at h
      · cases h
      · rename_i g
        split at h
        · cases h
        · exact ⟨by simpa using g, by omega⟩
  obtain ⟨u, hu⟩ := textN_last (wordsF s) (linesF s) (lines_ne s)
  unfold goodB
  rw [Bool.and_eq_true, Bool.and_eq_true]
  refine ⟨⟨?_, ?_⟩, ?_⟩
  · rw [hu] at hT ⊢
    simp only [List.length_append, List.length_singleton] at hT
    apply decide_eq_true
    simp only [List.length_map, List.length_append, List.length_singleton]
    refine ⟨by omega, by omega, ?_, ?_⟩
    · rw [nth_lt (by simp), List.getElem_map, List.getElem_append_right (by simp)]
      simp
    · rw [nth_lt (by simp), List.getElem_map, List.getElem_append_left (by simp), List.getElem_append_right (by simp)]
      simp
  · rw [List.all_eq_true]
    intro i hi
    have hi := List.mem_range.1 hi
    have hmem : nth (wordsF s) i ∈ wordsF s := nth_mem hi
    obtain ⟨l, hl, hw⟩ := mem_words hmem
    have h1 := List.all_eq_true.1 (List.all_eq_true.1 hok l hl) _ hw
    unfold okW at h1
    rw [Bool.and_eq_true] at h1
    have h2 := of_decide_eq_true h1.1
    have h3 := (lines_words hl hw).1
    have h4 : 0 < (nth (wordsF s) i).length := List.length_pos_iff.2 h3
    have hnum : num (wordsF s) (nth (wordsF s) i) = i := by rw [nth_lt hi]; exact num_at hW hi
    unfold gw
    rw [decide_eq_true (show _ ∧ _ from ⟨by omega, h2⟩), h1.2, Bool.and_eq_true, Bool.true_and, Bool.true_and]
    refine ⟨?_, ?_⟩
    · by_cases g : i = 0
      · subst g; rfl
      · rw [Bool.or_eq_true]
        right
        apply decide_eq_true
        rw [nth_lt hi, nth_lt (by omega : i - 1 < (wordsF s).length)]
        exact List.pairwise_iff_getElem.1 hW (i - 1) i _ hi (by omega)
    · rw [List.contains_iff_mem]
      refine List.mem_map.2 ⟨i + 2, List.mem_append_left _ ?_, by simp⟩
      rw [mem_textN]
      exact ⟨l, hl, Or.inr ⟨_, hw, by rw [hnum]⟩⟩
  · rw [List.all_eq_true]
    intro k hk
    have e : ((textN (wordsF s) (linesF s) ++ [0]).map Int.ofNat).take (((textN (wordsF s) (linesF s) ++ [0]).map Int.ofNat).length - 1) = (textN (wordsF s) (linesF s)).map Int.ofNat := by
      rw [List.length_map, List.length_append, List.length_singleton, Nat.add_sub_cancel, List.map_append]
      rw [List.take_append_of_le_length (by simp), List.take_of_length_le (by simp)]
    rw [e] at hk
    obtain ⟨n, hn, rfl⟩ := List.mem_map.1 hk
    obtain ⟨l, hl, hc⟩ := mem_textN.1 hn
    apply decide_eq_true
    rcases hc with rfl | ⟨w, hw, rfl⟩
    · simp; omega
    · have := (nth_num hW (words_mem hl hw)).1
      have : num (wordsF s) w < (wordsF s).length := this
      simp; omega
/-- The words of a list are known by their order. -/
theorem ordW_eq {ws V : List (List UInt8)} (hV : V.Pairwise fun x y => x < y) (hm : ∀ x, x ∈ V ↔ x ∈ ws) : ordW ws = V := by
  have h1 := ordW_sorted ws
  have n1 : (ordW ws).Nodup := h1.imp fun h e => by subst e; exact List.lt_irrefl _ h
  have n2 : V.Nodup := hV.imp fun h e => by subst e; exact List.lt_irrefl _ h
  have hp : (ordW ws).Perm V := (List.perm_ext_iff_of_nodup n1 n2).2 fun x => by rw [mem_ordW, hm]
  exact List.Perm.eq_of_pairwise (le := fun x y : List UInt8 => x < y) (fun a b _ _ h1 h2 => absurd (List.lt_trans h1 h2) (List.lt_irrefl _)) h1 hV hp
/-- The text that tells whether text answers at all. -/
def sB : List UInt8 := [98, 32, 97, 10, 98]
theorem lines_sB : linesF sB = [[[98], [97]], [[98]]] := by decide
theorem words_sB : wordsF sB = [[97], [98]] := by
  unfold wordsF
  rw [lines_sB]
  refine ordW_eq (by decide) fun x => ?_
  simp only [List.flatten_cons, List.flatten_nil, List.append_nil, List.cons_append, List.nil_append, List.mem_cons, List.not_mem_nil, or_false]
  constructor
  · rintro (h | h) <;> simp [h]
  · rintro (h | h | h) <;> simp [h]
theorem text_sB : textN (wordsF sB) (linesF sB) = [3, 2, 1, 3, 1] := by rw [words_sB, lines_sB]; decide
theorem err_sB : errF sB = 0 := by
  unfold errF
  rw [text_sB, lines_sB]
  decide
/-- The text written again has the same book. -/
theorem again {s : List UInt8} (h : errF s = 0) (hl : (wrL (linesF s)).length ≤ 400) : errF (wrL (linesF s)) = 0 ∧ wordsF (wrL (linesF s)) = wordsF s ∧ linesF (wrL (linesF s)) = linesF s := by
  have e := text_again s
  have ew : wordsF (wrL (linesF s)) = wordsF s := by unfold wordsF; rw [e]
  refine ⟨?_, ew, e⟩
  unfold errF at h ⊢
  rw [e, ew, if_neg (by omega)]
  by_cases g : 400 < s.length
  · rw [if_pos g] at h; cases h
  · rw [if_neg g] at h; exact h
end Go.Proofs.YtjfdlibceldanabDoor.Tx
