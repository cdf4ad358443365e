/- Bits as numbers of 64 each: plain lists and numbers, no program in sight. -/
import Derived.Test.YtjfdlibceldanaaBits2
namespace Go.Proofs.Ytjfdlibceldanaa
open Go.RowKit

/-- A list of bits as a number, the lowest first. -/
def bn : List Bool → Nat
  | [] => 0
  | b :: t => (if b then 1 else 0) + 2 * bn t
theorem bn_lt : ∀ t : List Bool, bn t < 2 ^ t.length
  | [] => by simp [bn]
  | b :: t => by
    have := bn_lt t
    simp only [bn, List.length_cons, Nat.pow_succ]
    split <;> omega
theorem bn_append : ∀ s t : List Bool, bn (s ++ t) = bn s + 2 ^ s.length * bn t
  | [], t => by simp [bn]
  | b :: s, t => by
    simp only [List.cons_append, bn, bn_append s t, List.length_cons, Nat.pow_succ]
    rw [Nat.mul_add, Nat.mul_comm (2 ^ s.length) 2, Nat.mul_assoc]; omega
theorem bn_bit : ∀ (t : List Bool) (i : Nat), bn t / 2 ^ i % 2 = if nth t i then 1 else 0
  | [], i => by simp [bn, nth]
  | b :: t, 0 => by cases b <;> simp [bn, nth] <;> omega
  | b :: t, i + 1 => by
    have := bn_bit t i
    have e : (b :: t)[i + 1]? = t[i]? := by simp
    unfold nth at this ⊢
    have e2 : ((if b then 1 else 0) + 2 * bn t) / 2 = bn t := by split <;> omega
    rw [e, ← this, Nat.pow_succ, Nat.mul_comm, ← Nat.div_div_eq_div_mul]
    show ((if b then 1 else 0) + 2 * bn t) / 2 / 2 ^ i % 2 = _
    rw [e2]
theorem bn_mod (t : List Bool) (i : Nat) : bn t % 2 ^ i = bn (t.take i) := by
  have h : bn t = bn (t.take i) + 2 ^ (t.take i).length * bn (t.drop i) := by rw [← bn_append, List.take_append_drop]
  have hl := bn_lt (t.take i)
  by_cases hi : i ≤ t.length
  · rw [List.length_take, Nat.min_eq_left hi] at h hl
    rw [h, Nat.add_mul_mod_self_left, Nat.mod_eq_of_lt hl]
  · rw [List.take_of_length_le (by omega)] at h hl ⊢
    exact Nat.mod_eq_of_lt (Nat.lt_of_lt_of_le hl (Nat.pow_le_pow_right (by omega) (by omega)))
/-- How many are true. -/
def cnt : List Bool → Nat
  | [] => 0
  | b :: t => (if b then 1 else 0) + cnt t
theorem cnt_append : ∀ s t : List Bool, cnt (s ++ t) = cnt s + cnt t
  | [], t => by simp [cnt]
  | b :: s, t => by simp only [List.cons_append, cnt, cnt_append s t]; omega
theorem cnt_le : ∀ t : List Bool, cnt t ≤ t.length
  | [] => by simp [cnt]
  | b :: t => by have := cnt_le t; simp only [cnt, List.length_cons]; split <;> omega
theorem pc_bn : ∀ (t : List Bool) (n : Nat), t.length ≤ n → Pop.pc n (bn t) = cnt t
  | [], n, _ => by simp [bn, cnt, Pop.pc_zero]
  | b :: t, 0, h => by simp at h
  | b :: t, n + 1, h => by
    simp only [Pop.pc, bn, cnt]
    have e1 : ((if b then 1 else 0) + 2 * bn t) % 2 = if b then 1 else 0 := by split <;> omega
    have e2 : ((if b then 1 else 0) + 2 * bn t) / 2 = bn t := by split <;> omega
    rw [e1, e2, pc_bn t n (by simpa using h)]

def word (l : List Bool) (j : Nat) : Nat := bn ((l.drop (64 * j)).take 64)
theorem word_lt (l : List Bool) (j : Nat) : word l j < 18446744073709551616 := by
  have h := bn_lt ((l.drop (64 * j)).take 64)
  have : (2 : Nat) ^ ((l.drop (64 * j)).take 64).length ≤ 2 ^ 64 := Nat.pow_le_pow_right (by omega) (by rw [List.length_take]; omega)
  unfold word
  omega
theorem word_nil (j : Nat) : word [] j = 0 := by simp [word, bn]
theorem word_low (l : List Bool) (k : Nat) (hk : k ≤ l.length) : word (l.take k) (k / 64) < 2 ^ (k % 64) := by
  have h := bn_lt (((l.take k).drop (64 * (k / 64))).take 64)
  have e : (((l.take k).drop (64 * (k / 64))).take 64).length = k % 64 := by
    rw [List.length_take, List.length_drop, List.length_take]; omega
  rw [e] at h; exact h
theorem take_succ_nth {α : Type} [Inhabited α] (l : List α) (k : Nat) (h : k < l.length) : l.take (k + 1) = l.take k ++ [nth l k] := by
  rw [List.take_succ_eq_append_getElem h, nth_lt h]
theorem word_step (l : List Bool) (k j : Nat) (hk : k < l.length) :
    word (l.take (k + 1)) j = if j = k / 64 then word (l.take k) j + (if nth l k then 2 ^ (k % 64) else 0) else word (l.take k) j := by
  rw [take_succ_nth l k hk]
  unfold word
  have hlen : (l.take k).length = k := by rw [List.length_take]; omega
  by_cases h1 : k < 64 * j
  · rw [if_neg (by omega), List.drop_eq_nil_of_le (by simp [hlen]; omega), List.drop_eq_nil_of_le (by rw [hlen]; omega)]
  · rw [List.drop_append_of_le_length (by omega)]
    have hdl : ((l.take k).drop (64 * j)).length = k - 64 * j := by rw [List.length_drop, hlen]
    by_cases h2 : j = k / 64
    · have t1 : ((l.take k).drop (64 * j) ++ [nth l k]).take 64 = (l.take k).drop (64 * j) ++ [nth l k] := List.take_of_length_le (by rw [List.length_append, hdl]; simp; omega)
      have t2 : ((l.take k).drop (64 * j)).take 64 = (l.take k).drop (64 * j) := List.take_of_length_le (by rw [hdl]; omega)
      rw [if_pos h2, t1, t2, bn_append, hdl]
      have : k - 64 * j = k % 64 := by omega
      rw [this]; simp only [bn]
      split <;> simp
    · rw [if_neg h2, List.take_append_of_le_length (by rw [hdl]; omega)]

/-- Bits as Make and BitsOf make them. -/
def words (l : List Bool) : List Nat := (List.range (l.length / 64 + 1)).map (word l)
def bitsOf (l : List Bool) : PB := { N := l.length, P := words l, A := (List.range (l.length / 64 + 1)).map fun i => (psum (words l) i : Int) }
theorem words_length (l : List Bool) : (words l).length = l.length / 64 + 1 := by simp [words]
theorem nth_map_range {α : Type} [Inhabited α] (f : Nat → α) (n k : Nat) (h : k < n) : nth ((List.range n).map f) k = f k := by
  rw [nth_lt (by simpa using h)]; simp
theorem words_at (l : List Bool) (j : Nat) (h : j ≤ l.length / 64) : nth (words l) j = word l j := nth_map_range _ _ _ (by omega)
theorem bitsOf_A_length (l : List Bool) : (bitsOf l).A.length = l.length / 64 + 1 := by simp [bitsOf]
theorem bitsOf_P_length (l : List Bool) : (bitsOf l).P.length = l.length / 64 + 1 := words_length l
theorem bitsOf_A_at (l : List Bool) (j : Nat) (h : j ≤ l.length / 64) : nth (bitsOf l).A j = psum (words l) j := nth_map_range _ _ _ (by omega)
theorem bitsOf_P_at (l : List Bool) (j : Nat) (h : j ≤ l.length / 64) : nth (bitsOf l).P j = word l j := words_at l j h

/-- All numbers ahead of a place: the ones ahead of it. -/
theorem psum_words (l : List Bool) : ∀ j, j ≤ l.length / 64 + 1 → psum (words l) j = cnt (l.take (64 * j))
  | 0, _ => by simp [psum, cnt]
  | j + 1, h => by
    rw [psum, psum_words l j (by omega), words_at l j (by omega), word, pc_bn _ 64 (by rw [List.length_take]; omega), ← cnt_append]
    congr 1
    rw [show 64 * (j + 1) = 64 * j + 64 from by omega, List.take_add]
theorem ones_words (l : List Bool) (i : Nat) (h : i ≤ l.length) : psum (words l) (i / 64) + Pop.pc 64 (nth (words l) (i / 64) % 2 ^ (i % 64)) = cnt (l.take i) := by
  rw [psum_words l _ (by omega), words_at l _ (by omega), word, bn_mod, pc_bn _ 64 (by rw [List.length_take, List.length_take]; omega), ← cnt_append]
  congr 1
  rw [List.take_take, Nat.min_eq_left (by omega), ← List.take_add]
  congr 1; omega
theorem bitsOf_ok (l : List Bool) (hl : l.length ≤ 1125899906842624) : (bitsOf l).Ok where
  n := ⟨by show (-9223372036854775808 : Int) ≤ (l.length : Int); omega, by show (l.length : Int) ≤ 9223372036854775807; omega⟩
  p := fun x hx => by
    obtain ⟨j, hj, rfl⟩ := List.mem_map.1 hx
    exact word_lt l j
  a := fun x hx => by
    obtain ⟨j, hj, rfl⟩ := List.mem_map.1 hx
    have := psum_le (words l) j
    have := List.mem_range.1 hj
    constructor <;> omega
  lp := by rw [bitsOf_P_length]; omega
  la := by rw [bitsOf_A_length]; omega

/-! ### What is said of bits that were made -/
theorem clamp_nat (i : Int) (n : Nat) : clamp i n = ((clamp i n).toNat : Int) ∧ (clamp i n).toNat ≤ n := by
  unfold clamp
  split <;> split at * <;> omega
theorem onesF_made (l : List Bool) (hl : l.length ≤ 1125899906842624) (i : Int) : onesF (bitsOf l) i = cnt (l.take (clamp i l.length).toNat) := by
  have hc := (clamp_nat i l.length).2
  unfold onesF
  show (if (clamp i l.length).toNat / 64 < (bitsOf l).P.length ∧ (clamp i l.length).toNat / 64 < (bitsOf l).A.length then _ else _) = _
  rw [bitsOf_P_length, bitsOf_A_length, if_pos ⟨by omega, by omega⟩]
  show wrap64 (nth (bitsOf l).A ((clamp i l.length).toNat / 64) + (Pop.pc 64 (nth (words l) ((clamp i l.length).toNat / 64) % 2 ^ ((clamp i l.length).toNat % 64)) : Nat)) = _
  rw [bitsOf_A_at l _ (by omega), ← Int.natCast_add, ones_words l _ hc]
  have := cnt_le (l.take (clamp i l.length).toNat)
  rw [List.length_take] at this
  exact IntWalk.wrap64_in _ ⟨by omega, by omega⟩
theorem noughtsF_made (l : List Bool) (hl : l.length ≤ 1125899906842624) (i : Int) : noughtsF (bitsOf l) i = clamp i l.length - cnt (l.take (clamp i l.length).toNat) := by
  unfold noughtsF
  rw [onesF_made l hl i]
  have h1 := clamp_nat i l.length
  have := cnt_le (l.take (clamp i l.length).toNat)
  rw [List.length_take] at this
  show wrap64 (clamp i l.length - _) = _
  exact IntWalk.wrap64_in _ ⟨by omega, by omega⟩
theorem atF_made (l : List Bool) (i : Int) : atF (bitsOf l) i = (decide (0 ≤ i ∧ i < l.length) && nth l i.toNat) := by
  unfold atF
  show (decide (0 ≤ i) && (decide (i < (l.length : Int)) && (decide (i / 64 < (bitsOf l).P.length) && (nth (bitsOf l).P (i.toNat / 64) / 2 ^ (i.toNat % 64) % 2 == 1)))) = _
  by_cases h1 : 0 ≤ i
  · by_cases h2 : i < l.length
    · rw [bitsOf_P_length, bitsOf_P_at l _ (by omega), word, bn_bit]
      have e : nth ((l.drop (64 * (i.toNat / 64))).take 64) (i.toNat % 64) = nth l i.toNat := by
        unfold nth
        rw [List.getElem?_take_of_lt (by omega), List.getElem?_drop]
        congr 2; omega
      rw [e]
      have h3 : i / 64 < ((l.length / 64 + 1 : Nat) : Int) := by omega
      rw [decide_eq_true h3]
      simp [h1, h2]
      cases nth l i.toNat <;> simp
    · simp [h2]
  · simp [h1]
theorem goodF_made (l : List Bool) : goodF (bitsOf l) = true := by
  unfold goodF
  have h1 : aheadF (bitsOf l) = true := by
    rw [aheadF_iff]
    intro i hi
    rw [bitsOf_P_length] at hi
    exact bitsOf_A_at l i (by omega)
  rw [h1, bitsOf_P_length, bitsOf_A_length]
  show (decide (0 ≤ (l.length : Int)) && (decide (((l.length / 64 + 1 : Nat) : Int) = (l.length : Int) / 64 + 1) && (decide (l.length / 64 + 1 = l.length / 64 + 1) && (true && (nth (words l) ((l.length : Int).toNat / 64) / 2 ^ ((l.length : Int).toNat % 64) == 0))))) = true
  rw [Int.toNat_natCast, words_at l _ (by omega)]
  have := word_low l l.length (Nat.le_refl _)
  rw [List.take_length] at this
  rw [Nat.div_eq_of_lt this]
  simp
theorem map_range_set {α : Type} (f : Nat → α) (n j : Nat) (u : α) : ((List.range n).map f).set j u = (List.range n).map fun i => if i = j then u else f i := by
  apply List.ext_getElem
  · simp
  · intro i h1 h2
    simp only [List.getElem_set, List.getElem_map, List.getElem_range]
    by_cases h : j = i
    · rw [if_pos h, if_pos h.symm]
    · rw [if_neg h, if_neg (fun e => h e.symm)]
theorem map_range_congr {α : Type} {f g : Nat → α} {n : Nat} (h : ∀ i, i < n → f i = g i) : (List.range n).map f = (List.range n).map g :=
  List.map_congr_left fun i hi => h i (List.mem_range.1 hi)
theorem map_range_get {α : Type} (f : Nat → α) (n j : Nat) (h : j < n) : ((List.range n).map f)[j]? = some (f j) := by simp [h]
end Go.Proofs.Ytjfdlibceldanaa
