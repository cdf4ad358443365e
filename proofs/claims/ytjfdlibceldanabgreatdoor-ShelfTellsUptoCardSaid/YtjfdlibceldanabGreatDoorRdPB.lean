/- What the document's own ReadText and SignsOf compute, in plain Lean: a text byte by byte, the words by order, the signs line by line. No program in sight. What the document's own IsBook computes, in plain Lean: just what Good does. No program in sight. -/
import Derived.Test.YtjfdlibceldanabGreatDoorTxtR
import Derived.Test.YtjfdlibceldanabGreatDoorTxtPl
/-! What the document's own ReadText and SignsOf compute, in plain Lean: a text byte by byte, the words by order, the signs line by line. No program in sight. -/
namespace Go.Proofs.YtjfdlibceldanabGreatDoor.Tx
open Go.Lib

/-! ### A text byte by byte -/
/-- One byte more: what is whole so far, and what is open. -/
def scS (st : List (List UInt8) × List UInt8) (c : UInt8) : List (List UInt8) × List UInt8 :=
  if c = 32 ∨ c = 10 then ((if st.2 = [] then st.1 else st.1 ++ [st.2]) ++ (if c = 10 then [[10]] else []), []) else (st.1, st.2 ++ [c])
def scn (u : List UInt8) : List (List UInt8) × List UInt8 := u.foldl scS ([], [])
theorem scn_succ {t : List UInt8} {i : Nat} (hi : i < t.length) : scn (t.take (i + 1)) = scS (scn (t.take i)) (nth t i) := by
  unfold scn
  rw [List.take_add_one, List.getElem?_eq_getElem hi, nth_lt hi, Option.toList_some, List.foldl_append]
  rfl
def sc : List UInt8 → List UInt8 → List (List UInt8)
  | _, [] => []
  | cur, c :: t => if c = 32 then (if cur = [] then [] else [cur]) ++ sc [] t else if c = 10 then (if cur = [] then [] else [cur]) ++ [10] :: sc [] t else sc (cur ++ [c]) t
theorem scn_sc : ∀ (t cur : List UInt8) (L : List (List UInt8)), (t.foldl scS (L, cur)).1 = L ++ sc cur t
  | [], cur, L => by simp [sc]
  | c :: t, cur, L => by
    rw [List.foldl_cons, scS, sc]
    by_cases h : c = 32
    · subst h
      rw [if_pos (Or.inl rfl), if_pos rfl, scn_sc t]
      by_cases e : cur = [] <;> simp [e]
    · by_cases g : c = 10
      · subst g
        rw [if_pos (Or.inr rfl), if_neg h, if_pos rfl, scn_sc t]
        by_cases e : cur = [] <;> simp [e]
      · rw [if_neg (fun q => q.elim h g), if_neg h, if_neg g, scn_sc t]
theorem sc_lines : ∀ (v cur p : List UInt8) (r : List (List UInt8)), spl 10 v = p :: r → sc cur (v ++ [10]) = fl cur p ++ [10] :: r.flatMap fun l => wds l ++ [[10]]
  | [], cur, p, r, h => by
    rw [spl] at h
    injection h with h1 h2
    subst h1; subst h2
    simp [sc, fl]
  | b :: t, cur, p, r, h => by
    obtain ⟨p', r', ht⟩ := spl_form 10 t
    rw [spl, ht] at h
    rw [List.cons_append, sc]
    by_cases g : b = 10
    · rw [if_pos g] at h
      injection h with h1 h2
      subst h1; subst h2; subst g
      rw [if_neg (by decide), if_pos rfl, sc_lines t [] p' r' ht, fl, List.flatMap_cons]
      simp [wds]
    · rw [if_neg g] at h
      injection h with h1 h2
      subst h1; subst h2
      show _ = fl cur (b :: p') ++ _
      by_cases g2 : b = 32
      · subst g2
        rw [if_pos rfl, sc_lines t [] p' r' ht, fl_sp]
        split <;> simp
      · rw [if_neg g2, if_neg g, sc_lines t _ p' r' ht, fl, if_neg g2]
        rfl
/-- Words, and ends of lines. -/
def tokF (s : List UInt8) : List (List UInt8) := (linesF s).flatMap fun l => l ++ [[10]]
def endS (s : List UInt8) : List UInt8 := if hasSuffix s [10] = true then s else s ++ [10]
theorem end_form (s : List UInt8) : endS s = trimSuffix s [10] ++ [10] := by
  unfold endS
  by_cases h : hasSuffix s [10] = true
  · rw [if_pos h]
    have h' := h
    unfold hasSuffix at h'
    obtain ⟨u, hu⟩ := List.isSuffixOf_iff_suffix.1 h'
    rw [← hu, suffix_last]
  · rw [if_neg h]
    unfold trimSuffix
    rw [if_neg h]
theorem scn_all (s : List UInt8) : (scn (endS s)).1 = tokF s := by
  unfold scn
  rw [scn_sc, List.nil_append, end_form]
  obtain ⟨p, r, h⟩ := spl_form 10 (trimSuffix s [10])
  rw [sc_lines _ _ p r h]
  unfold tokF linesF
  rw [h, List.map_cons, List.flatMap_cons, List.append_assoc, List.flatMap_map]
  rfl
theorem scn_pre (t : List UInt8) (i : Nat) : ∃ u, (scn t).1 = (scn (t.take i)).1 ++ u := by
  have h : scn t = (t.drop i).foldl scS (scn (t.take i)) := by
    unfold scn
    rw [← List.foldl_append, List.take_append_drop]
  generalize scn (t.take i) = st at h
  obtain ⟨L, cur⟩ := st
  exact ⟨sc cur (t.drop i), by rw [h, scn_sc]⟩
theorem endS_len (s : List UInt8) : (endS s).length ≤ s.length + 1 := by
  unfold endS
  split
  · omega
  · simp
/-- What is open is as long as what was read, at most. -/
theorem scn_open (t : List UInt8) : ∀ i, i ≤ t.length → (scn (t.take i)).2.length ≤ i ∧ (scn (t.take i)).1.length ≤ 2 * i
  | 0, _ => by simp [scn]
  | i + 1, h => by
    have ih := scn_open t i (by omega)
    rw [scn_succ (by omega), scS]
    split
    · refine ⟨by simp, ?_⟩
      dsimp only
      rw [List.length_append]
      have h1 : (if (scn (t.take i)).2 = [] then (scn (t.take i)).1 else (scn (t.take i)).1 ++ [(scn (t.take i)).2]).length ≤ (scn (t.take i)).1.length + 1 := by split <;> simp
      have h2 : (if nth t i = 10 then [([10] : List UInt8)] else []).length ≤ 1 := by split <;> simp
      omega
    · refine ⟨?_, by dsimp only; omega⟩
      dsimp only
      rw [List.length_append]
      show _ + 1 ≤ _
      omega
/-! ### A text's faults -/
def tokOk (w : List UInt8) : Prop := w = [10] ∨ okW w = true
instance (w : List UInt8) : Decidable (tokOk w) := inferInstanceAs (Decidable (_ ∨ _))
theorem ok_nl : okW [10] = false := by decide
theorem tok_mem {s w : List UInt8} : w ∈ tokF s ↔ (w = [10] ∨ ∃ l ∈ linesF s, w ∈ l) := by
  unfold tokF
  rw [List.mem_flatMap]
  constructor
  · rintro ⟨l, hl, h⟩
    rcases List.mem_append.1 h with h | h
    · exact Or.inr ⟨l, hl, h⟩
    · exact Or.inl (List.mem_singleton.1 h)
  · rintro (h | ⟨l, hl, h⟩)
    · obtain ⟨l, hl⟩ := List.exists_mem_of_ne_nil _ (lines_ne s)
      exact ⟨l, hl, List.mem_append.2 (Or.inr (by simp [h]))⟩
    · exact ⟨l, hl, List.mem_append.2 (Or.inl h)⟩
theorem tok_all {s : List UInt8} : (linesF s).all (fun l => l.all okW) = true ↔ ∀ w ∈ tokF s, tokOk w := by
  constructor
  · intro h w hw
    rcases tok_mem.1 hw with e | ⟨l, hl, hm⟩
    · exact Or.inl e
    · exact Or.inr (List.all_eq_true.1 (List.all_eq_true.1 h l hl) w hm)
  · intro h
    refine List.all_eq_true.2 fun l hl => List.all_eq_true.2 fun w hw => ?_
    rcases h w (tok_mem.2 (Or.inr ⟨l, hl, hw⟩)) with e | e
    · exact absurd (by rw [e]; simp) (fun q : (10 : UInt8) ∈ w => ((lines_words hl hw).2 10 q).2 rfl)
    · exact e
theorem tok_len (s : List UInt8) : (tokF s).length = (textN (wordsF s) (linesF s)).length := by
  unfold tokF textN
  generalize wordsF s = W
  induction linesF s with
  | nil => rfl
  | cons l L ih => rw [List.flatMap_cons, List.flatMap_cons, List.length_append, List.length_append, ih]; simp; omega
theorem err_tok (s : List UInt8) : errF s = if 400 < s.length then 2 else if ∀ w ∈ tokF s, tokOk w then (if 100 < (tokF s).length then 2 else 0) else 1 := by
  unfold errF
  rw [tok_len]
  by_cases h0 : 400 < s.length
  · rw [if_pos h0, if_pos h0]
  · rw [if_neg h0, if_neg h0]
    by_cases h : (linesF s).all (fun l => l.all okW) = true
    · rw [if_neg (by rw [h]; decide), if_pos (tok_all.1 h)]
    · rw [if_pos (Bool.eq_false_iff.2 h), if_neg (fun q => h (tok_all.2 q))]
theorem err_bad {s w : List UInt8} {i : Nat} (hl : s.length ≤ 400) (hw : w ∈ (scn ((endS s).take i)).1) (hb : ¬ tokOk w) : errF s = 1 := by
  rw [err_tok, if_neg (by omega), if_neg]
  intro q
  refine hb (q w ?_)
  obtain ⟨u, hu⟩ := scn_pre (endS s) i
  rw [← scn_all, hu]
  exact List.mem_append.2 (Or.inl hw)
/-! ### The least word that is left -/
/-- Is w a word that is left, if j of W are told? -/
def cand (W : List (List UInt8)) (j : Nat) (w : List UInt8) : Prop := w ≠ [10] ∧ (j = 0 ∨ nth W (j - 1) < w)
instance (W : List (List UInt8)) (j : Nat) (w : List UInt8) : Decidable (cand W j w) := inferInstanceAs (Decidable (_ ∧ _))
def lsS (W : List (List UInt8)) (j : Nat) (m w : List UInt8) : List UInt8 := if cand W j w ∧ (m = [] ∨ w < m) then w else m
def lsF (W : List (List UInt8)) (j : Nat) (l : List (List UInt8)) : List UInt8 := l.foldl (lsS W j) []
theorem ls_succ (W : List (List UInt8)) (j : Nat) {l : List (List UInt8)} {i : Nat} (hi : i < l.length) : lsF W j (l.take (i + 1)) = lsS W j (lsF W j (l.take i)) (nth l i) := by
  unfold lsF
  rw [List.take_add_one, List.getElem?_eq_getElem hi, nth_lt hi, Option.toList_some, List.foldl_append]
  rfl
theorem ls_inv (W : List (List UInt8)) (j : Nat) (l : List (List UInt8)) (hl : ∀ w ∈ l, w ≠ []) : ∀ i, i ≤ l.length →
    (lsF W j (l.take i) = [] ∧ ∀ w ∈ l.take i, ¬ cand W j w) ∨ (lsF W j (l.take i) ∈ l ∧ cand W j (lsF W j (l.take i)) ∧ ∀ w ∈ l.take i, cand W j w → lsF W j (l.take i) ≤ w)
  | 0, _ => Or.inl ⟨rfl, by simp⟩
  | i + 1, h => by
    have hi : i < l.length := by omega
    have hm : nth l i ∈ l := nth_mem hi
    have ih := ls_inv W j l hl i (by omega)
    rw [ls_succ W j hi, lsS]
    have et : l.take (i + 1) = l.take i ++ [nth l i] := by rw [List.take_add_one, List.getElem?_eq_getElem hi, nth_lt hi]; rfl
    rw [et]
    generalize lsF W j (l.take i) = m at *
    generalize nth l i = x at *
    rcases ih with ⟨rfl, h1⟩ | ⟨h1, h2, h3⟩
    · by_cases g : cand W j x
      · rw [if_pos ⟨g, Or.inl rfl⟩]
        refine Or.inr ⟨hm, g, fun w hw c => ?_⟩
        rcases List.mem_append.1 hw with q | q
        · exact absurd c (h1 w q)
        · rw [List.mem_singleton.1 q]; exact List.le_refl _
      · rw [if_neg fun q => g q.1]
        refine Or.inl ⟨rfl, fun w hw c => ?_⟩
        rcases List.mem_append.1 hw with q | q
        · exact h1 w q c
        · rw [List.mem_singleton.1 q] at c; exact g c
    · have hne : m ≠ [] := hl m h1
      by_cases g : cand W j x ∧ (m = [] ∨ x < m)
      · rw [if_pos g]
        have hlt := g.2.resolve_left hne
        refine Or.inr ⟨hm, g.1, fun w hw c => ?_⟩
        rcases List.mem_append.1 hw with q | q
        · exact List.le_trans (List.le_iff_lt_or_eq.2 (Or.inl hlt)) (h3 w q c)
        · rw [List.mem_singleton.1 q]; exact List.le_refl _
      · rw [if_neg g]
        refine Or.inr ⟨h1, h2, fun w hw c => ?_⟩
        rcases List.mem_append.1 hw with q | q
        · exact h3 w q c
        · rw [List.mem_singleton.1 q] at c ⊢
          exact List.not_lt.1 fun q => g ⟨c, Or.inr q⟩
theorem ls_all {W l : List (List UInt8)} (hW : W.Pairwise fun x y => x < y) (hl : ∀ w ∈ l, w ≠ []) (hm : ∀ w, w ∈ W ↔ w ∈ l ∧ w ≠ [10]) {j : Nat} (hj : j ≤ W.length) :
    lsF W j l = if j < W.length then nth W j else [] := by
  have h := ls_inv W j l hl l.length (Nat.le_refl _)
  rw [List.take_length] at h
  generalize lsF W j l = m at *
  have cd : ∀ k, (hk : k < W.length) → (cand W j W[k] ↔ j ≤ k) := fun k hk => by
    have hne : W[k] ≠ [10] := ((hm _).1 (List.getElem_mem hk)).2
    unfold cand
    constructor
    · rintro ⟨_, q | q⟩
      · omega
      · rw [nth_lt (show j - 1 < W.length by omega)] at q
        rcases Nat.lt_or_ge k j with g | g
        · exfalso
          by_cases e : k = j - 1
          · subst e; exact List.lt_irrefl _ q
          · exact List.lt_irrefl _ (List.lt_trans q (List.pairwise_iff_getElem.1 hW k (j - 1) hk (by omega) (by omega)))
        · exact g
    · intro q
      refine ⟨hne, ?_⟩
      by_cases e : j = 0
      · exact Or.inl e
      · rw [nth_lt (show j - 1 < W.length by omega)]
        exact Or.inr (List.pairwise_iff_getElem.1 hW (j - 1) k (by omega) hk (by omega))
  by_cases g : j < W.length
  · rw [if_pos g, nth_lt g]
    have cj := (cd j g).2 (Nat.le_refl _)
    have mj := ((hm _).1 (List.getElem_mem g)).1
    rcases h with ⟨_, h1⟩ | ⟨h1, h2, h3⟩
    · exact absurd cj (h1 _ mj)
    · obtain ⟨k, hk, e⟩ := List.getElem_of_mem ((hm m).2 ⟨h1, h2.1⟩)
      have hk2 := (cd k hk).1 (by rw [e]; exact h2)
      have h4 := h3 _ mj cj
      by_cases q : k = j
      · subst q; exact e.symm
      · have h5 := List.pairwise_iff_getElem.1 hW j k g hk (by omega)
        rw [e] at h5
        exact absurd h5 (List.not_lt.2 h4)
  · rw [if_neg g]
    rcases h with ⟨e, _⟩ | ⟨h1, h2, _⟩
    · exact e
    · obtain ⟨k, hk, e⟩ := List.getElem_of_mem ((hm m).2 ⟨h1, h2.1⟩)
      have hk2 := (cd k hk).1 (by rw [e]; exact h2)
      omega
theorem tok_ne {s w : List UInt8} (h : w ∈ tokF s) : w ≠ [] := by
  rcases tok_mem.1 h with e | ⟨l, hl, hw⟩
  · rw [e]; exact List.cons_ne_nil _ _
  · exact (lines_words hl hw).1
theorem words_tok {s w : List UInt8} : w ∈ wordsF s ↔ w ∈ tokF s ∧ w ≠ [10] := by
  unfold wordsF
  rw [mem_ordW]
  constructor
  · intro h
    obtain ⟨l, hl, hw⟩ := List.mem_flatten.1 h
    refine ⟨tok_mem.2 (Or.inr ⟨l, hl, hw⟩), fun e => ?_⟩
    exact ((lines_words hl hw).2 10 (by rw [e]; simp)).2 rfl
  · rintro ⟨h, hn⟩
    rcases tok_mem.1 h with e | ⟨l, hl, hw⟩
    · exact absurd e hn
    · exact List.mem_flatten.2 ⟨l, hl, hw⟩
theorem least_all (s : List UInt8) {j : Nat} (hj : j ≤ (wordsF s).length) : lsF (wordsF s) j (tokF s) = if j < (wordsF s).length then nth (wordsF s) j else [] :=
  ls_all (ordW_sorted _) (fun _ h => tok_ne h) (fun _ => words_tok) hj
/-! ### Numbers -/
/-- The number of a word, or of a line's end. -/
def nbF (W : List (List UInt8)) (w : List UInt8) : Int := if w = [10] then 1 else if w ∈ W then ((num W w : Nat) : Int) + 2 else -1
theorem nb_at {W : List (List UInt8)} (hW : W.Pairwise fun x y => x < y) {w : List UInt8} (hn : w ≠ [10]) {i : Nat} (hi : i < W.length) (e : nth W i = w) : nbF W w = (i : Int) + 2 := by
  have hm : w ∈ W := by rw [← e]; exact nth_mem hi
  have h1 := num_at hW hi
  rw [nth_lt hi] at e
  unfold nbF
  rw [if_neg hn, if_pos hm, ← e, h1]
theorem nb_no {W : List (List UInt8)} {w : List UInt8} (hn : w ≠ [10]) (h : ∀ i, i < W.length → nth W i ≠ w) : nbF W w = -1 := by
  unfold nbF
  rw [if_neg hn, if_neg]
  intro q
  obtain ⟨i, hi, e⟩ := List.getElem_of_mem q
  exact h i hi (by rw [nth_lt hi]; exact e)
theorem text_tok (s : List UInt8) : (tokF s).map (nbF (wordsF s)) = (textN (wordsF s) (linesF s)).map Int.ofNat := by
  unfold tokF textN
  rw [List.map_flatMap, List.map_flatMap]
  refine fm_congr _ _ _ fun l hl => ?_
  rw [List.map_append, List.map_append, List.map_map]
  congr 1
  refine List.map_congr_left fun w hw => ?_
  have hm := words_mem hl hw
  have hn := (words_tok.1 hm).2
  unfold nbF
  rw [if_neg hn, if_pos hm]
  rfl
/-! ### Signs line by line -/
theorem fl_spl : ∀ (t cur p : List UInt8) (r : List (List UInt8)), spl 32 t = p :: r → fl cur t = (if cur ++ p = [] then [] else [cur ++ p]) ++ r.filter fun w => decide (w ≠ [])
  | [], cur, p, r, h => by
    rw [spl] at h
    injection h with h1 h2
    subst h1; subst h2
    simp [fl]
  | b :: t, cur, p, r, h => by
    obtain ⟨p', r', ht⟩ := spl_form 32 t
    rw [spl, ht] at h
    rw [fl]
    by_cases g : b = 32
    · rw [if_pos g] at h ⊢
      injection h with h1 h2
      subst h1; subst h2
      have ih := fl_spl t [] p' r' ht
      rw [ih, List.append_nil, List.filter_cons, List.nil_append]
      by_cases e : p' = []
      · subst e; simp
        split <;> simp
      · have : decide (p' ≠ []) = true := decide_eq_true e
        rw [if_pos this, if_neg e]
        split <;> simp
    · rw [if_neg g] at h ⊢
      injection h with h1 h2
      subst h1; subst h2
      rw [fl_spl t _ p' r' ht]
      simp
theorem wds_spl (t : List UInt8) : wds t = (spl 32 t).filter fun w => decide (w ≠ []) := by
  obtain ⟨p, r, h⟩ := spl_form 32 t
  unfold wds
  rw [fl_spl t [] p r h, h, List.filter_cons, List.nil_append]
  by_cases e : p = []
  · subst e; simp
  · rw [if_neg e, if_pos (decide_eq_true e)]; rfl
/-- The tokens of the first i lines. -/
def tkL (L : List (List UInt8)) : Nat → List (List UInt8)
  | 0 => []
  | i + 1 => tkL L i ++ (if i = 0 then [] else [[10]]) ++ wds (nth L i)
theorem tkL_cons (p : List UInt8) (r : List (List UInt8)) : ∀ i, i ≤ r.length → tkL (p :: r) (i + 1) = wds p ++ (r.take i).flatMap fun l => [10] :: wds l
  | 0, _ => by simp [tkL, nth]
  | i + 1, h => by
    have hi : i < r.length := by omega
    have e : nth (p :: r) (i + 1) = nth r i := by unfold nth; rw [List.getElem?_cons_succ]
    rw [tkL, tkL_cons p r i (by omega), if_neg (by omega), e, List.take_add_one, List.getElem?_eq_getElem hi, nth_lt hi, Option.toList_some, List.flatMap_append]
    simp
theorem tkL_all (t : List UInt8) : tkL (spl 10 t) (spl 10 t).length = toks t := by
  obtain ⟨p, r, h⟩ := spl_form 10 t
  rw [toks_eq h, h, List.length_cons, tkL_cons p r _ (Nat.le_refl _), List.take_length]
/-- What is there of line i after k of its pieces. -/
def tkP (L : List (List UInt8)) (i k : Nat) : List (List UInt8) := tkL L i ++ (if i = 0 then [] else [[10]]) ++ ((spl 32 (nth L i)).take k).filter fun w => decide (w ≠ [])
theorem tkP_zero (L : List (List UInt8)) (i : Nat) : tkP L i 0 = tkL L i ++ (if i = 0 then [] else [[10]]) := by unfold tkP; simp
theorem tkP_succ (L : List (List UInt8)) (i : Nat) {k : Nat} (hk : k < (spl 32 (nth L i)).length) : tkP L i (k + 1) = if nth (spl 32 (nth L i)) k = [] then tkP L i k else tkP L i k ++ [nth (spl 32 (nth L i)) k] := by
  unfold tkP
  generalize spl 32 (nth L i) = Q at hk ⊢
  rw [List.take_add_one, List.getElem?_eq_getElem hk, nth_lt hk, Option.toList_some, List.filter_append]
  generalize Q[k] = x
  by_cases e : x = []
  · subst e; simp
  · rw [if_neg e, List.filter_cons, if_pos (decide_eq_true e)]
    simp
theorem tkP_all (L : List (List UInt8)) (i : Nat) : tkP L i (spl 32 (nth L i)).length = tkL L (i + 1) := by
  unfold tkP
  rw [List.take_length, tkL, wds_spl]
/-- A sign that is none makes all none. -/
theorem sigs_nb {W : List (List UInt8)} {L : List (List UInt8)} (h : ∀ t ∈ L, t = [10] ∨ t ∈ W) : (L.map (nbF W)) = L.map fun t => ((signV W t : Nat) : Int) := by
  refine List.map_congr_left fun t ht => ?_
  unfold nbF signV
  rcases h t ht with e | e
  · rw [if_pos e, if_pos e]; rfl
  · by_cases g : t = [10]
    · rw [if_pos g, if_pos g]; rfl
    · rw [if_neg g, if_neg g, if_pos e]; rfl
end Go.Proofs.YtjfdlibceldanabGreatDoor.Tx

/-! What the document's own IsBook computes, in plain Lean: just what Good does. No program in sight. -/
namespace Go.Proofs.YtjfdlibceldanabGreatDoor.Tx

/-- Is a word one of eight letters at most? -/
def wrdB (w : List UInt8) : Bool := decide (1 ≤ w.length ∧ w.length ≤ 8) && w.all letter
/-- Is the word at a place one of a book's? -/
def giB (W : List (List UInt8)) (T : List Int) (i : Nat) : Bool := wrdB (nth W i) && (T.take (T.length - 1)).contains ((i : Int) + 2) && (decide (i = 0) || decide (nth W (i - 1) < nth W i))
def isB (W : List (List UInt8)) (T : List Int) : Bool :=
  decide (2 ≤ T.length ∧ T.length ≤ 101 ∧ nth T (T.length - 1) = 0 ∧ nth T (T.length - 2) = 1) && ((T.take (T.length - 1)).all fun k => decide (1 ≤ k ∧ k < W.length + 2)) && (List.range W.length).all (giB W T)
theorem contains_last {T : List Int} (h : 2 ≤ T.length) (h0 : nth T (T.length - 1) = 0) (i : Nat) : (T.take (T.length - 1)).contains ((i : Int) + 2) = T.contains ((i : Int) + 2) := by
  have e : T = T.take (T.length - 1) ++ [0] := by
    have h1 : T.length - 1 < T.length := by omega
    rw [nth_lt h1] at h0
    have h2 := List.take_add_one (l := T) (i := T.length - 1)
    rw [List.getElem?_eq_getElem h1, h0, show T.length - 1 + 1 = T.length from by omega, List.take_length] at h2
    exact h2
  rw [Bool.eq_iff_iff, List.contains_iff_mem, List.contains_iff_mem]
  constructor
  · exact fun q => List.mem_of_mem_take q
  · intro q
    rw [e] at q
    rcases List.mem_append.1 q with q | q
    · exact q
    · have := List.mem_singleton.1 q; omega
theorem is_good (W : List (List UInt8)) (T : List Int) : isB W T = goodB W T := by
  unfold isB goodB
  by_cases h : 2 ≤ T.length ∧ T.length ≤ 101 ∧ nth T (T.length - 1) = 0 ∧ nth T (T.length - 2) = 1
  · have e : giB W T = gw W T := by
      funext i
      unfold giB gw wrdB
      rw [contains_last h.1 h.2.2.1]
      cases decide (1 ≤ (nth W i).length ∧ (nth W i).length ≤ 8) <;> cases (nth W i).all letter <;> cases T.contains ((i : Int) + 2) <;> cases (decide (i = 0) || decide (nth W (i - 1) < nth W i)) <;> rfl
    rw [e, decide_eq_true h]
    cases ((T.take (T.length - 1)).all fun k => decide (1 ≤ k ∧ k < W.length + 2)) <;> cases (List.range W.length).all (gw W T) <;> rfl
  · rw [decide_eq_false h]; rfl
end Go.Proofs.YtjfdlibceldanabGreatDoor.Tx
