/- TopSums: plain laws of how likely a book's words are. -/
import Derived.Test.YtjfdlibceldanabGreatDoorShO
import Derived.Test.YtjfdlibceldanabGreatDoorGuessW
namespace Go.Proofs.YtjfdlibceldanabGreatDoor
open Go.RowKit Go.Sort Tx En Wv Gu Ri

/-! ### A sign is worth something, and not above all -/
theorem kn_pos {l s : List Int} {b : Bool} (h : allF l s b ≠ 0) : 0 < (kn l s).length := by
  rcases Nat.eq_zero_or_pos (kn l s).length with e | e
  · exfalso; apply h; unfold allF; rw [List.length_eq_zero_iff.1 e]; rfl
  · exact e
theorem share_pos (l : List Int) (signs : Nat) (sign : Int) : ∀ (s : List Int) (b : Bool), 0 < share l signs sign s b
  | [], b => by
    rw [share]
    split
    · omega
    · rename_i h; have := kn_pos h; omega
  | x :: s, b => by
    rw [share]
    split
    · exact share_pos l signs sign s false
    · rename_i h
      have h1 := kn_pos h
      have h2 := share_pos l signs sign s false
      have := Nat.mul_pos (show 0 < 3 * (kn l (x :: s)).length by omega) h2
      omega
theorem like_pos (l : List Int) (signs : Nat) (sign : Int) (s : List Int) (b : Bool) : 0 < (likeF l signs sign s b).1 := by
  have v := like_val l signs sign s b
  have d := like_d l signs sign s b
  have p := Nat.mul_pos (share_pos l signs sign s b) d
  unfold Val at v
  rcases Nat.eq_zero_or_pos (likeF l signs sign s b).1 with e | e
  · rw [e, Nat.zero_mul] at v; omega
  · exact e
theorem sumS_mono (f : Int → Nat) (n : Nat) : ∀ m, n ≤ m → sumS f n ≤ sumS f m
  | 0, h => by obtain rfl : n = 0 := by omega
               exact Nat.le_refl _
  | m + 1, h => by
    by_cases e : n = m + 1
    · rw [e]; exact Nat.le_refl _
    · rw [sumS_succ]
      exact Nat.le_trans (sumS_mono f n m (by omega)) (Nat.le_add_right _ _)
theorem sumP_le {l : List Int} {signs : Nat} (hs : 1 ≤ signs) (hl : ∀ x ∈ l, 0 ≤ x ∧ x ≤ signs) (s : List Int) (b : Bool) {n : Nat} (hn : n ≤ signs) : (sumP l signs s b n).1 ≤ (sumP l signs s b n).2 := by
  have v := sumP_val l signs s b n
  unfold Val at v
  have h := sumS_mono (fun x => share l signs x s b) n signs hn
  rw [share_sum hs hl] at h
  have hw := whole_pos l signs s b
  have h2 : (sumP l signs s b n).1 * whole l signs s b ≤ (sumP l signs s b n).2 * whole l signs s b := by
    rw [v, Nat.mul_comm]
    exact Nat.mul_le_mul (Nat.le_refl _) h
  exact Nat.le_of_mul_le_mul_right h2 hw
theorem like_le {l : List Int} {signs : Nat} (hs : 1 ≤ signs) (hl : ∀ x ∈ l, 0 ≤ x ∧ x ≤ signs) (s : List Int) (b : Bool) {n : Nat} (hn : n < signs) : (likeF l signs (Int.ofNat (n + 1)) s b).1 ≤ (likeF l signs (Int.ofNat (n + 1)) s b).2 := by
  have v := like_val l signs (Int.ofNat (n + 1)) s b
  unfold Val at v
  have h := sumS_mono (fun x => share l signs x s b) (n + 1) signs hn
  rw [share_sum hs hl, sumS_succ] at h
  have hw := whole_pos l signs s b
  have h2 : (likeF l signs (Int.ofNat (n + 1)) s b).1 * whole l signs s b ≤ (likeF l signs (Int.ofNat (n + 1)) s b).2 * whole l signs s b := by
    rw [v, Nat.mul_comm]
    exact Nat.mul_le_mul (Nat.le_refl _) (by omega)
  exact Nat.le_of_mul_le_mul_right h2 hw
/-! ### In a book -/
def lastTwo (s : List Int) : List Int := s.drop (s.length - 2)
def lgB (s : List Int) : Bool := decide ((lastTwo s).length = 2)
theorem likG_like {l s : List Int} {i : Nat} (hi : (i : Int) < mostI l) : likG l s ((i : Int) + 1) = likeF l (mostI l).toNat (Int.ofNat (i + 1)) (lastTwo s) (lgB s) := by
  unfold likG
  rw [if_neg (by omega)]
  unfold VF lgF
  rw [if_pos (Nat.zero_le _), List.drop_zero]
  unfold lgB lastTwo
  congr 1
  simp
section
variable {s : List UInt8} (ws : List UInt8)
theorem lkA_like {i : Nat} (hi : i ≤ (wordsF s).length) : lkA s ws i = likeF (bT s) ((wordsF s).length + 1) (Int.ofNat (i + 1)) (lastTwo (sgI s ws)) (lgB (sgI s ws)) := by
  have hmo := bT_most s
  unfold lkA
  rw [likG_like (by omega), show (mostI (bT s)).toNat = (wordsF s).length + 1 from by omega]
theorem bT_bd' : ∀ x ∈ bT s, 0 ≤ x ∧ x ≤ (((wordsF s).length + 1 : Nat) : Int) := fun x hx => by have := bT_bd hx; omega
theorem lkA_ok {i : Nat} (hi : i ≤ (wordsF s).length) : 1 ≤ (lkA s ws i).1 ∧ (lkA s ws i).1 ≤ (lkA s ws i).2 := by
  rw [lkA_like ws hi]
  exact ⟨like_pos _ _ _ _ _, like_le (by omega) bT_bd' _ _ (by omega)⟩
/-- The sum of the first parts. -/
def smF (s ws : List UInt8) (i : Nat) : Nat × Nat := sumP (bT s) ((wordsF s).length + 1) (lastTwo (sgI s ws)) (lgB (sgI s ws)) i
theorem smF_zero : smF s ws 0 = (0, 1) := rfl
theorem smF_succ {i : Nat} (hi : i ≤ (wordsF s).length) : smF s ws (i + 1) = addF (smF s ws i) (lkA s ws i) := by rw [lkA_like ws hi]; rfl
theorem smF_one : smF s ws ((wordsF s).length + 1) = (1, 1) := sumP_one (by omega) bT_bd' _ _
theorem smF_ok {i : Nat} (hi : i ≤ (wordsF s).length + 1) : (smF s ws i).1 ≤ (smF s ws i).2 ∧ 0 < (smF s ws i).2 := ⟨sumP_le (by omega) bT_bd' _ _ hi, sumP_d _ _ _ _ _⟩
end
/-! ### A book's words, and a line's end ahead -/
def wrdF (s : List UInt8) (i : Nat) : List UInt8 := if i = 0 then [10] else nth (wordsF s) (i - 1)
theorem toks_word {w : List UInt8} (hn : w ≠ []) (h : ∀ b ∈ w, b ≠ 32 ∧ b ≠ 10) : toks w = [w] := by
  have e : w.flatMap nl = w := by
    clear hn
    induction w with
    | nil => rfl
    | cons b t ih =>
      rw [List.flatMap_cons, ih fun x hx => h x (List.mem_cons_of_mem _ hx)]
      have : nl b = [b] := by unfold nl; rw [if_neg (h b (List.mem_cons_self ..)).2]
      rw [this]; rfl
  unfold toks
  rw [e]
  exact wds_last w hn fun b hb => (h b hb).1
theorem toks_nl : toks [10] = [[10]] := by decide
theorem wrd_toks {s : List UInt8} {i : Nat} (hi : i ≤ (wordsF s).length) : toks (wrdF s i) = [wrdF s i] := by
  unfold wrdF
  by_cases h : i = 0
  · rw [if_pos h]; exact toks_nl
  · rw [if_neg h]
    obtain ⟨l, hl, hw⟩ := mem_words (s := s) (w := nth (wordsF s) (i - 1)) (nth_mem (by omega))
    obtain ⟨h1, h2⟩ := lines_words hl hw
    exact toks_word h1 h2
theorem wrd_in {s : List UInt8} {i : Nat} (hi : i ≤ (wordsF s).length) : inB s (wrdF s i) := by
  unfold inB
  rw [wrd_toks hi]
  intro t ht
  obtain rfl := List.mem_singleton.1 ht
  unfold wrdF
  by_cases h : i = 0
  · rw [if_pos h]; exact Or.inl rfl
  · rw [if_neg h]; exact Or.inr (nth_mem (by omega))
theorem wrd_sg {s : List UInt8} {i : Nat} (hi : i ≤ (wordsF s).length) : sgI s (wrdF s i) = [(i : Int) + 1] := by
  rw [sgI_def, wrd_toks hi, List.map_singleton]
  congr 1
  unfold wrdF signV
  by_cases h : i = 0
  · subst h; rfl
  · rw [if_neg h]
    have hj : i - 1 < (wordsF s).length := by omega
    have hne : nth (wordsF s) (i - 1) ≠ [10] := fun q => by
      obtain ⟨l, hl, hw⟩ := mem_words (s := s) (w := nth (wordsF s) (i - 1)) (nth_mem hj)
      exact ((lines_words hl hw).2 10 (by rw [q]; simp)).2 rfl
    rw [if_neg hne]
    have := num_at (W := wordsF s) (ordW_sorted _) hj
    rw [nth_lt hj, this]
    omega
theorem wrd_lk {s ws : List UInt8} (hin : inB s ws) {i : Nat} (hi : i ≤ (wordsF s).length) : lkF s ws (wrdF s i) = lkA s ws i ∧ lkE s ws (wrdF s i) = 0 := by
  have hok : lkOk s ws (wrdF s i) := ⟨hin, wrd_in hi, by rw [wrd_sg hi]; rfl⟩
  unfold lkF lkE
  rw [if_pos hok, if_pos hok, wrd_sg hi]
  exact ⟨rfl, rfl⟩
theorem wrd_len {s : List UInt8} (h : errF s = 0) {i : Nat} (hi : i ≤ (wordsF s).length) : (wrdF s i).length ≤ 8 := by
  unfold wrdF
  by_cases g : i = 0
  · rw [if_pos g]; decide
  · rw [if_neg g]
    have := sword_ok h _ (nth_mem (show i - 1 < (wordsF s).length by omega))
    unfold okW at this
    rw [Bool.and_eq_true] at this
    exact of_decide_eq_true this.1
end Go.Proofs.YtjfdlibceldanabGreatDoor
