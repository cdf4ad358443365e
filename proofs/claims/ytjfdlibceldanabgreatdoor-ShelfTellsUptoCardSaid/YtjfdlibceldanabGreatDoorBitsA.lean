/- bits.Find and bits.Good: the walks. Bits as numbers of 64 each: plain lists and numbers, no program in sight. bits.Make: the walk. The references' small functions on lists and bits: the walks. The references OnesOf and PlaceOf: the walks. The k-th one: Find's answer and the reference's are one: plain lists, no program in sight. -/
import Derived.Test.YtjfdlibceldanabGreatDoorBits
/-! bits.Find and bits.Good: the walks. -/
namespace Go.Proofs.YtjfdlibceldanabGreatDoor
open Go.RowKit

/-- What Find says of the place r that it returns. -/
def FindIs (b : PB) (k r : Int) : Prop :=
  if k < 0 ∨ onesF b b.N ≤ k then r = -1 else 0 ≤ r ∧ r < b.N ∧ onesF b r ≤ k ∧ k < onesF b (r + 1)
def FindPost (b : PB) (k : Int) (w : World) (e : Ending) (w' : World) : Prop := ∃ r : Int, FindIs b k r ∧ e = .returned (.int .i64 r) ∧ Ext w w'

/-- How many ones the first i numbers have. -/
def psum (P : List Nat) : Nat → Nat
  | 0 => 0
  | i + 1 => psum P i + Pop.pc 64 (nth P i)
theorem psum_le (P : List Nat) : ∀ i, psum P i ≤ 64 * i
  | 0 => Nat.le_refl _
  | i + 1 => by have := psum_le P i; have := Pop.pc_le 64 (nth P i); simp only [psum]; omega
def aheadF (b : PB) : Bool := (List.range b.P.length).all fun i => nth b.A i == (psum b.P i : Int)
theorem aheadF_iff (b : PB) : aheadF b = true ↔ ∀ i, i < b.P.length → nth b.A i = psum b.P i := by
  unfold aheadF; simp
def goodF (b : PB) : Bool :=
  decide (0 ≤ b.N) && (decide ((b.P.length : Int) = b.N / 64 + 1) && (decide (b.A.length = b.P.length) && (aheadF b && (nth b.P (b.N.toNat / 64) / 2 ^ (b.N.toNat % 64) == 0))))

set_option maxHeartbeats 1000000 in
theorem good_calls (b : PB) (hb : b.Ok) (A1 A2 : Option Addr) (c1 c2 : Nat) (w : World) (hr : RdB w A1 A2 b) :
    Calls Tryz.prog 173 #[.agg #[.int .i64 b.N, .slice A1 b.P.length c1, .slice A2 b.A.length c2]] w fun e w' => e = .returned (.bool (goodF b)) ∧ Ext w w' := by
  have hlp := hb.lp
  have hla := hb.la
  obtain ⟨hn1, hn2⟩ := hb.n
  obtain ⟨R, hR⟩ : ∃ R, goodF b = R := ⟨_, rfl⟩
  rw [hR]
  have HR := Lib.hid hR; clear hR
  by_cases g1 : b.N < 0
  · have g1' : decide (b.N < 0) = true := by simpa using g1
    go_enter Tryz.func173, Tryz.ntmps173
    go_wp2_with fail
    go_ret
    refine ⟨?_, (Ext.refl _).alloc _⟩
    rw [← HR.out]; unfold goodF; rw [decide_eq_false (p := 0 ≤ b.N) (by omega)]; rfl
  obtain ⟨N, hN⟩ := Int.eq_ofNat_of_zero_le (show 0 ≤ b.N by omega)
  rw [hN]
  have hN2 : (N : Int) ≤ 9223372036854775807 := by omega
  by_cases g2 : ¬ b.P.length = N / 64 + 1
  · have g2' : ((b.P.length : Int) != (N : Int) / 64 + 1) = true := by rw [bne_iff_ne]; omega
    have HN := Lib.hid hN; clear hN
    go_enter Tryz.func173, Tryz.ntmps173
    go_wp2_with fail
    go_ret
    refine ⟨?_, (Ext.refl _).alloc _⟩
    rw [← HR.out]; unfold goodF; rw [HN.out, decide_eq_false (p := (b.P.length : Int) = (N : Int) / 64 + 1) (by omega)]; simp
  have g2' : ((b.P.length : Int) != (N : Int) / 64 + 1) = false := by rw [bne_eq_false_iff_eq]; omega
  by_cases g3 : ¬ b.A.length = b.P.length
  · have g3' : ((b.A.length : Int) != (b.P.length : Int)) = true := by rw [bne_iff_ne]; omega
    have HN := Lib.hid hN; clear hN
    go_enter Tryz.func173, Tryz.ntmps173
    go_wp2_with fail
    go_ret
    refine ⟨?_, (Ext.refl _).alloc _⟩
    rw [← HR.out]; unfold goodF; rw [decide_eq_false (p := b.A.length = b.P.length) g3]; simp
  have g3' : ((b.A.length : Int) != (b.P.length : Int)) = false := by rw [bne_eq_false_iff_eq]; omega
  have HN := Lib.hid hN; clear hN
  have hlN : N / 64 < b.P.length := by omega
  have hl0 : 0 < b.P.length := by omega
  have hla0 : b.P.length ≤ b.A.length := by omega
  have G2 := Lib.hid g2; have G3 := Lib.hid g3; clear g2 g3
  obtain ⟨b1, o1, rfl, hb1, hc1⟩ := hr.1 hl0
  obtain ⟨b2, o2, rfl, hb2, hc2⟩ := hr.2 (by omega)
  have HC1 := Lib.hid hc1; have HC2 := Lib.hid hc2; clear hc1 hc2
  obtain ⟨s, hs⟩ : ∃ s, psum b.P = s := ⟨_, rfl⟩
  have HS := Lib.hid hs; clear hs
  go_enter Tryz.func173, Tryz.ntmps173
  go_wp2_with fail
  go_loop [3, 31] (fun n i => ∃ k : Nat, k ≤ b.P.length ∧ i = .int .i64 k ∧ n = .int .i64 (s k : Nat) ∧ Hid (∀ j, j < k → nth b.A j = (s j : Int))) (fun _ i => b.P.length - (intOf i).toNat)
  case atStart => exact ⟨0, by omega, rfl, by rw [← HS.out]; rfl, Lib.hid (fun j hj => absurd hj (by omega))⟩
  case round =>
    obtain ⟨k, hk, rfl, rfl, HJ⟩ := hrel
    have hsk : s k ≤ 64 * k := by rw [← HS.out]; exact psum_le _ _
    by_cases g4 : k < b.P.length
    · have p1 := HC1.out k g4
      have p2 := HC2.out k (by omega)
      have hp := hb.p_at k
      have ha := hb.a_at k
      have hpc := Pop.pc_le 64 (nth b.P k)
      by_cases g5 : nth b.A k = (s k : Int)
      · have g5' : (nth b.A k != (s k : Int)) = false := by rw [bne_eq_false_iff_eq]; exact g5
        have HE : Hid (s (k + 1) = s k + Pop.pc 64 (nth b.P k)) := by rw [← HS.out]; rfl
        have HJ2 : Hid (∀ j, j < k + 1 → nth b.A j = (s j : Int)) := Lib.hid (fun j hj => by
          rcases Nat.lt_succ_iff_lt_or_eq.1 hj with h | h
          · exact HJ.out j h
          · rw [h]; exact g5)
        clear g5
        go_wp2_with (go_at_call 117; refine (onesCount64 _ hp _).mono ?_; rintro e w' ⟨rfl, rfl⟩)
        go_round
        case rel => exact ⟨k + 1, by omega, by go_num, by rw [HE.out]; go_num, HJ2⟩
        case measure => simp [intOf]; omega
      · have g5' : (nth b.A k != (s k : Int)) = true := by rw [bne_iff_ne]; exact g5
        go_wp2_with fail
        go_ret
        refine ⟨?_, (Ext.refl _).alloc _⟩
        have : aheadF b = false := by
          rw [← Bool.not_eq_true, aheadF_iff, HS.out]
          intro h
          exact g5 (h k g4)
        rw [← HR.out]; unfold goodF; rw [this]; simp
    · have p1 := HC1.out (N / 64) (by omega)
      have hp := hb.p_at (N / 64)
      have ha : aheadF b = true := by
        rw [aheadF_iff, HS.out]
        intro j hj
        exact HJ.out j (by omega)
      obtain ⟨y, hy⟩ : ∃ y, nth b.P (N / 64) / 2 ^ (N % 64) = y := ⟨_, rfl⟩
      have hR : ((y : Int) == 0) = R := by
        rw [← HR.out]; unfold goodF
        rw [HN.out, ha, Int.toNat_natCast, hy, decide_eq_true (p := (b.P.length : Int) = (N : Int) / 64 + 1) (by have := G2.out; omega), decide_eq_true (p := b.A.length = b.P.length) (by have := G3.out; omega)]
        rw [Bool.eq_iff_iff]; simp
      have e1 : (((nth b.P (N / 64) : Nat) : Int) / 2 ^ (N % 64)) = (y : Int) := by rw [← hy]; simp
      have hR2 := Lib.hid hR; clear hR hy ha
      go_wp2_with fail
      go_quiet (fail)
      go_wp2_with fail
      go_ret
      refine ⟨by rw [← hR2.out]; rfl, ((Ext.refl _).alloc _).drewN _⟩
end Go.Proofs.YtjfdlibceldanabGreatDoor

/-! Bits as numbers of 64 each: plain lists and numbers, no program in sight. -/
namespace Go.Proofs.YtjfdlibceldanabGreatDoor
open Go.RowKit

/-- A list of bits as a number, the lowest first. -/
def bn : List Bool → Nat
  | [] => 0
  | b :: t => (if b then 1 else 0) + 2 * bn t
theorem bn_lt : ∀ t : List Bool, bn t < 2 ^ t.length
  | [] => by simp [bn]
  | b :: t => by
    have := bn_lt t
    simp only [bn, List.length_cons, Nat.pow_succ]
    split <;> omega
theorem bn_append : ∀ s t : List Bool, bn (s ++ t) = bn s + 2 ^ s.length * bn t
  | [], t => by simp [bn]
  | b :: s, t => by
    simp only [List.cons_append, bn, bn_append s t, List.length_cons, Nat.pow_succ]
    rw [Nat.mul_add, Nat.mul_comm (2 ^ s.length) 2, Nat.mul_assoc]; omega
theorem bn_bit : ∀ (t : List Bool) (i : Nat), bn t / 2 ^ i % 2 = if nth t i then 1 else 0
  | [], i => by simp [bn, nth]
  | b :: t, 0 => by cases b <;> simp [bn, nth] <;> omega
  | b :: t, i + 1 => by
    have := bn_bit t i
    have e : (b :: t)[i + 1]? = t[i]? := by simp
    unfold nth at this ⊢
    have e2 : ((if b then 1 else 0) + 2 * bn t) / 2 = bn t := by split <;> omega
    rw [e, ← this, Nat.pow_succ, Nat.mul_comm, ← Nat.div_div_eq_div_mul]
    show ((if b then 1 else 0) + 2 * bn t) / 2 / 2 ^ i % 2 = _
    rw [e2]
theorem bn_mod (t : List Bool) (i : Nat) : bn t % 2 ^ i = bn (t.take i) := by
  have h : bn t = bn (t.take i) + 2 ^ (t.take i).length * bn (t.drop i) := by rw [← bn_append, List.take_append_drop]
  have hl := bn_lt (t.take i)
  by_cases hi : i ≤ t.length
  · rw [List.length_take, Nat.min_eq_left hi] at h hl
    rw [h, Nat.add_mul_mod_self_left, Nat.mod_eq_of_lt hl]
  · rw [List.take_of_length_le (by omega)] at h hl ⊢
    exact Nat.mod_eq_of_lt (Nat.lt_of_lt_of_le hl (Nat.pow_le_pow_right (by omega) (by omega)))
/-- How many are true. -/
def cnt : List Bool → Nat
  | [] => 0
  | b :: t => (if b then 1 else 0) + cnt t
theorem cnt_append : ∀ s t : List Bool, cnt (s ++ t) = cnt s + cnt t
  | [], t => by simp [cnt]
  | b :: s, t => by simp only [List.cons_append, cnt, cnt_append s t]; omega
theorem cnt_le : ∀ t : List Bool, cnt t ≤ t.length
  | [] => by simp [cnt]
  | b :: t => by have := cnt_le t; simp only [cnt, List.length_cons]; split <;> omega
theorem pc_bn : ∀ (t : List Bool) (n : Nat), t.length ≤ n → Pop.pc n (bn t) = cnt t
  | [], n, _ => by simp [bn, cnt, Pop.pc_zero]
  | b :: t, 0, h => by simp at h
  | b :: t, n + 1, h => by
    simp only [Pop.pc, bn, cnt]
    have e1 : ((if b then 1 else 0) + 2 * bn t) % 2 = if b then 1 else 0 := by split <;> omega
    have e2 : ((if b then 1 else 0) + 2 * bn t) / 2 = bn t := by split <;> omega
    rw [e1, e2, pc_bn t n (by simpa using h)]

def word (l : List Bool) (j : Nat) : Nat := bn ((l.drop (64 * j)).take 64)
theorem word_lt (l : List Bool) (j : Nat) : word l j < 18446744073709551616 := by
  have h := bn_lt ((l.drop (64 * j)).take 64)
  have : (2 : Nat) ^ ((l.drop (64 * j)).take 64).length ≤ 2 ^ 64 := Nat.pow_le_pow_right (by omega) (by rw [List.length_take]; omega)
  unfold word
  omega
theorem word_nil (j : Nat) : word [] j = 0 := by simp [word, bn]
theorem word_low (l : List Bool) (k : Nat) (hk : k ≤ l.length) : word (l.take k) (k / 64) < 2 ^ (k % 64) := by
  have h := bn_lt (((l.take k).drop (64 * (k / 64))).take 64)
  have e : (((l.take k).drop (64 * (k / 64))).take 64).length = k % 64 := by
    rw [List.length_take, List.length_drop, List.length_take]; omega
  rw [e] at h; exact h
theorem take_succ_nth {α : Type} [Inhabited α] (l : List α) (k : Nat) (h : k < l.length) : l.take (k + 1) = l.take k ++ [nth l k] := by
  rw [List.take_succ_eq_append_getElem h, nth_lt h]
theorem word_step (l : List Bool) (k j : Nat) (hk : k < l.length) :
    word (l.take (k + 1)) j = if j = k / 64 then word (l.take k) j + (if nth l k then 2 ^ (k % 64) else 0) else word (l.take k) j := by
  rw [take_succ_nth l k hk]
  unfold word
  have hlen : (l.take k).length = k := by rw [List.length_take]; omega
  by_cases h1 : k < 64 * j
  · rw [if_neg (by omega), List.drop_eq_nil_of_le (by simp [hlen]; omega), List.drop_eq_nil_of_le (by rw [hlen]; omega)]
  · rw [List.drop_append_of_le_length (by omega)]
    have hdl : ((l.take k).drop (64 * j)).length = k - 64 * j := by rw [List.length_drop, hlen]
    by_cases h2 : j = k / 64
    · have t1 : ((l.take k).drop (64 * j) ++ [nth l k]).take 64 = (l.take k).drop (64 * j) ++ [nth l k] := List.take_of_length_le (by rw [List.length_append, hdl]; simp; omega)
      have t2 : ((l.take k).drop (64 * j)).take 64 = (l.take k).drop (64 * j) := List.take_of_length_le (by rw [hdl]; omega)
      rw [if_pos h2, t1, t2, bn_append, hdl]
      have : k - 64 * j = k % 64 := by omega
      rw [this]; simp only [bn]
      split <;> simp
    · rw [if_neg h2, List.take_append_of_le_length (by rw [hdl]; omega)]

/-- Bits as Make and BitsOf make them. -/
def words (l : List Bool) : List Nat := (List.range (l.length / 64 + 1)).map (word l)
def bitsOf (l : List Bool) : PB := { N := l.length, P := words l, A := (List.range (l.length / 64 + 1)).map fun i => (psum (words l) i : Int) }
theorem words_length (l : List Bool) : (words l).length = l.length / 64 + 1 := by simp [words]
theorem nth_map_range {α : Type} [Inhabited α] (f : Nat → α) (n k : Nat) (h : k < n) : nth ((List.range n).map f) k = f k := by
  rw [nth_lt (by simpa using h)]; simp
theorem words_at (l : List Bool) (j : Nat) (h : j ≤ l.length / 64) : nth (words l) j = word l j := nth_map_range _ _ _ (by omega)
theorem bitsOf_A_length (l : List Bool) : (bitsOf l).A.length = l.length / 64 + 1 := by simp [bitsOf]
theorem bitsOf_P_length (l : List Bool) : (bitsOf l).P.length = l.length / 64 + 1 := words_length l
theorem bitsOf_A_at (l : List Bool) (j : Nat) (h : j ≤ l.length / 64) : nth (bitsOf l).A j = psum (words l) j := nth_map_range _ _ _ (by omega)
theorem bitsOf_P_at (l : List Bool) (j : Nat) (h : j ≤ l.length / 64) : nth (bitsOf l).P j = word l j := words_at l j h

/-- All numbers ahead of a place: the ones ahead of it. -/
theorem psum_words (l : List Bool) : ∀ j, j ≤ l.length / 64 + 1 → psum (words l) j = cnt (l.take (64 * j))
  | 0, _ => by simp [psum, cnt]
  | j + 1, h => by
    rw [psum, psum_words l j (by omega), words_at l j (by omega), word, pc_bn _ 64 (by rw [List.length_take]; omega), ← cnt_append]
    congr 1
    rw [show 64 * (j + 1) = 64 * j + 64 from by omega, List.take_add]
theorem ones_words (l : List Bool) (i : Nat) (h : i ≤ l.length) : psum (words l) (i / 64) + Pop.pc 64 (nth (words l) (i / 64) % 2 ^ (i % 64)) = cnt (l.take i) := by
  rw [psum_words l _ (by omega), words_at l _ (by omega), word, bn_mod, pc_bn _ 64 (by rw [List.length_take, List.length_take]; omega), ← cnt_append]
  congr 1
  rw [List.take_take, Nat.min_eq_left (by omega), ← List.take_add]
  congr 1; omega
theorem bitsOf_ok (l : List Bool) (hl : l.length ≤ 1125899906842624) : (bitsOf l).Ok where
  n := ⟨by show (-9223372036854775808 : Int) ≤ (l.length : Int); omega, by show (l.length : Int) ≤ 9223372036854775807; omega⟩
  p := fun x hx => by
    obtain ⟨j, hj, rfl⟩ := List.mem_map.1 hx
    exact word_lt l j
  a := fun x hx => by
    obtain ⟨j, hj, rfl⟩ := List.mem_map.1 hx
    have := psum_le (words l) j
    have := List.mem_range.1 hj
    constructor <;> omega
  lp := by rw [bitsOf_P_length]; omega
  la := by rw [bitsOf_A_length]; omega

/-! ### What is said of bits that were made -/
theorem clamp_nat (i : Int) (n : Nat) : clamp i n = ((clamp i n).toNat : Int) ∧ (clamp i n).toNat ≤ n := by
  unfold clamp
  split <;> split at * <;> omega
theorem onesF_made (l : List Bool) (hl : l.length ≤ 1125899906842624) (i : Int) : onesF (bitsOf l) i = cnt (l.take (clamp i l.length).toNat) := by
  have hc := (clamp_nat i l.length).2
  unfold onesF
  show (if (clamp i l.length).toNat / 64 < (bitsOf l).P.length ∧ (clamp i l.length).toNat / 64 < (bitsOf l).A.length then _ else _) = _
  rw [bitsOf_P_length, bitsOf_A_length, if_pos ⟨by omega, by omega⟩]
  show wrap64 (nth (bitsOf l).A ((clamp i l.length).toNat / 64) + (Pop.pc 64 (nth (words l) ((clamp i l.length).toNat / 64) % 2 ^ ((clamp i l.length).toNat % 64)) : Nat)) = _
  rw [bitsOf_A_at l _ (by omega), ← Int.natCast_add, ones_words l _ hc]
  have := cnt_le (l.take (clamp i l.length).toNat)
  rw [List.length_take] at this
  exact IntWalk.wrap64_in _ ⟨by omega, by omega⟩
theorem noughtsF_made (l : List Bool) (hl : l.length ≤ 1125899906842624) (i : Int) : noughtsF (bitsOf l) i = clamp i l.length - cnt (l.take (clamp i l.length).toNat) := by
  unfold noughtsF
  rw [onesF_made l hl i]
  have h1 := clamp_nat i l.length
  have := cnt_le (l.take (clamp i l.length).toNat)
  rw [List.length_take] at this
  show wrap64 (clamp i l.length - _) = _
  exact IntWalk.wrap64_in _ ⟨by omega, by omega⟩
theorem atF_made (l : List Bool) (i : Int) : atF (bitsOf l) i = (decide (0 ≤ i ∧ i < l.length) && nth l i.toNat) := by
  unfold atF
  show (decide (0 ≤ i) && (decide (i < (l.length : Int)) && (decide (i / 64 < (bitsOf l).P.length) && (nth (bitsOf l).P (i.toNat / 64) / 2 ^ (i.toNat % 64) % 2 == 1)))) = _
  by_cases h1 : 0 ≤ i
  · by_cases h2 : i < l.length
    · rw [bitsOf_P_length, bitsOf_P_at l _ (by omega), word, bn_bit]
      have e : nth ((l.drop (64 * (i.toNat / 64))).take 64) (i.toNat % 64) = nth l i.toNat := by
        unfold nth
        rw [List.getElem?_take_of_lt (by omega), List.getElem?_drop]
        congr 2; omega
      rw [e]
      have h3 : i / 64 < ((l.length / 64 + 1 : Nat) : Int) := by omega
      rw [decide_eq_true h3]
      simp [h1, h2]
      cases nth l i.toNat <;> simp
    · simp [h2]
  · simp [h1]
theorem goodF_made (l : List Bool) : goodF (bitsOf l) = true := by
  unfold goodF
  have h1 : aheadF (bitsOf l) = true := by
    rw [aheadF_iff]
    intro i hi
    rw [bitsOf_P_length] at hi
    exact bitsOf_A_at l i (by omega)
  rw [h1, bitsOf_P_length, bitsOf_A_length]
  show (decide (0 ≤ (l.length : Int)) && (decide (((l.length / 64 + 1 : Nat) : Int) = (l.length : Int) / 64 + 1) && (decide (l.length / 64 + 1 = l.length / 64 + 1) && (true && (nth (words l) ((l.length : Int).toNat / 64) / 2 ^ ((l.length : Int).toNat % 64) == 0))))) = true
  rw [Int.toNat_natCast, words_at l _ (by omega)]
  have := word_low l l.length (Nat.le_refl _)
  rw [List.take_length] at this
  rw [Nat.div_eq_of_lt this]
  simp
theorem map_range_set {α : Type} (f : Nat → α) (n j : Nat) (u : α) : ((List.range n).map f).set j u = (List.range n).map fun i => if i = j then u else f i := by
  apply List.ext_getElem
  · simp
  · intro i h1 h2
    simp only [List.getElem_set, List.getElem_map, List.getElem_range]
    by_cases h : j = i
    · rw [if_pos h, if_pos h.symm]
    · rw [if_neg h, if_neg (fun e => h e.symm)]
theorem map_range_congr {α : Type} {f g : Nat → α} {n : Nat} (h : ∀ i, i < n → f i = g i) : (List.range n).map f = (List.range n).map g :=
  List.map_congr_left fun i hi => h i (List.mem_range.1 hi)
theorem map_range_get {α : Type} (f : Nat → α) (n j : Nat) (h : j < n) : ((List.range n).map f)[j]? = some (f j) := by simp [h]
end Go.Proofs.YtjfdlibceldanabGreatDoor

/-! bits.Make: the walk. -/
namespace Go.Proofs.YtjfdlibceldanabGreatDoor
open Go.RowKit

/-- Bits that a call returned, in memory. -/
def RetBits (b : PB) (w : World) (e : Ending) (w' : World) : Prop :=
  ∃ (A1 : Option Addr) (c1 : Nat) (A2 : Option Addr) (c2 : Nat), e = .returned (.agg #[.int .i64 b.N, .slice A1 b.P.length c1, .slice A2 b.A.length c2]) ∧ RdB w' A1 A2 b ∧ Ext w w'

/-- Bits whose two lists lie in rows of the call's own. -/
def OwnB (w : World) (base : Nat) (A1 A2 : Option Addr) (c1 c2 : Nat) (b : PB) : Prop :=
  w.ownsRow base 145 1 (.slice A1 b.P.length c1) b.P.length ((List.range b.P.length).map fun j => .int .u64 (nth b.P j : Nat)) ∧ w.ownsRow base 3 1 (.slice A2 b.A.length c2) b.A.length ((List.range b.A.length).map fun j => .int .i64 (nth b.A j))
theorem OwnB.rd {w : World} {base : Nat} {A1 A2 : Option Addr} {c1 c2 : Nat} {b : PB} (h : OwnB w base A1 A2 c1 c2 b) : RdB w A1 A2 b := ⟨rd_own h.1, rd_own h.2⟩
theorem OwnB.ext {w w' : World} {base : Nat} {A1 A2 : Option Addr} {c1 c2 : Nat} {b : PB} (h : OwnB w base A1 A2 c1 c2 b) (hx : Ext w w') : OwnB w' base A1 A2 c1 c2 b := ⟨own_ext h.1 hx, own_ext h.2 hx⟩
def RetBitsO (b : PB) (w : World) (e : Ending) (w' : World) : Prop :=
  ∃ (A1 : Option Addr) (c1 : Nat) (A2 : Option Addr) (c2 : Nat), e = .returned (.agg #[.int .i64 b.N, .slice A1 b.P.length c1, .slice A2 b.A.length c2]) ∧ OwnB w' w.heap.size A1 A2 c1 c2 b ∧ Ext w w'

theorem info_u64 : (Tryz.prog.info? 145).map (fun i => (i.zero, i.size, i.bytes)) = some (some (.int .u64 0), 1, 8) := by kernel_rfl
theorem info_int : (Tryz.prog.info? 3).map (fun i => (i.zero, i.size, i.bytes)) = some (some (.int .i64 0), 1, 8) := by kernel_rfl

theorem or_eq (p k : Nat) (hp : p < 2 ^ (k % 64)) : bits BinOp.or IntKind.u64 (p : Int) (IntKind.u64.wrap ((2 : Int) ^ (k % 64))) = ((p + 2 ^ (k % 64) : Nat) : Int) := by
  have h1 : (2 : Nat) ^ (k % 64) < 18446744073709551616 := by
    have : (2 : Nat) ^ (k % 64) < 2 ^ 64 := Nat.pow_lt_pow_right (by omega) (by omega)
    simpa using this
  have e : ((2 : Int) ^ (k % 64)) = ((2 ^ (k % 64) : Nat) : Int) := by simp
  rw [e, Pop.wrap_u64_nat _ h1, u64_or_nat _ _ (by omega) h1]
  congr 1
  have := Nat.two_pow_add_eq_or_of_lt hp 1
  rw [Nat.or_comm, ← Nat.mul_one (2 ^ (k % 64)), ← this]
  omega

theorem made_zero (n : Nat) (u : Value) : (madeCells #[u] n).toList = (List.range n).map fun _ => u := by
  simp [madeCells, Array.toList_range, Nat.mod_one]

set_option maxHeartbeats 2000000 in
set_option maxRecDepth 100000 in
theorem make_callsO (l : List Bool) (A : Option Addr) (c : Nat) (w : World) (hl : l.length ≤ 17592186044416) (hr : Rd w A l.length (fun k => .bool (nth l k))) :
    Calls Tryz.prog 84 #[.slice A l.length c] w (RetBitsO (bitsOf l) w) := by
  obtain ⟨iu, hu, hz0, hz1, hz2⟩ := info_parts info_u64
  obtain ⟨ii, hi, hj0, hj1, hj2⟩ := info_parts info_int
  obtain ⟨n, hn⟩ : ∃ n, l.length / 64 + 1 = n := ⟨_, rfl⟩
  have es : (l.length : Int) / 64 + 1 = (n : Int) := by omega
  have hn1 : n ≤ 17592186044416 := by omega
  have HN := Lib.hid hn; clear hn
  go_enter Tryz.func84, Tryz.ntmps84
  go_wp2_with (at_make; refine wpList_make_full _ rfl _ _ 114 rfl w.heap.size 145 iu (.int .u64 0) 1 Tryz.underlying114 hu hz0 hz1 _ _ _ _ n rfl rfl rfl rfl ?c1 ?c2 ?c3 ?_)
  case c1 => rw [hz2]; omega
  case c2 => unfold maxLen; omega
  case c3 => simp
  intro w1 hown1 hgrow1
  have hx0 := (bk_of (w := w) rfl).ext (ext_of_grown hgrow1)
  have hxw : Ext w w1 := ((Ext.refl w).alloc _).trans (ext_of_grown hgrow1)
  have HO := Lib.hid hown1; clear hown1 hgrow1
  have HX0 := Lib.hid hx0; clear hx0
  go_wp2_with fail
  generalize hW2 : World.alloc w1 _ = w2
  have bx := bk_of hW2
  have hx1 := hxw.trans (ext_of_alloc hW2)
  have own1 := own_ext HO.out (ext_of_alloc hW2)
  have bx0 := HX0.out.ext (ext_of_alloc hW2)
  have hB : w.heap.size + 1 < w1.heap.size := (own_row_ge HO.out _ rfl).2
  have ES := Lib.hid es; clear hW2 es
  generalize w1.heap.size = B3 at *
  go_loopw [19] (fun i wr => ∃ k : Nat, k ≤ l.length ∧ i = .int .i64 k ∧ wr.ownsRow w.heap.size 145 1 (.slice (some ⟨w.heap.size + 1, 0, none⟩) n n) n ((List.range n).map fun j => Value.int .u64 (word (l.take k) j : Nat)) ∧
      Bk wr B3 116 #[Value.int IntKind.i64 ↑l.length, Value.slice (some { block := w.heap.size + 1, off := 0 }) n n, Value.slice none 0 0] ∧ Bk wr w.heap.size 116 #[Value.int IntKind.i64 0, Value.slice none 0 0, Value.slice none 0 0] ∧ Ext w wr) (fun i _ => l.length - (intOf i).toNat)
  case atStart =>
    refine ⟨0, by omega, rfl, ?_, bx, bx0, hx1⟩
    simp only [List.take_zero, word_nil]
    rw [made_zero] at own1
    exact own1
  case round =>
    obtain ⟨k, hk, rfl, own, bx, bx0, hxr⟩ := hrel
    by_cases g1 : k < l.length
    · obtain ⟨b1, o1, hA, hb1, hc1⟩ := hr (by omega)
      subst hA
      have p1 := ecell (hc1 k g1) hxr
      dsimp only at p1
      have hkn : k / 64 < n := by have := HN.out; omega
      have hg0 : w.heap.size ≤ w.heap.size + 1 := by omega
      clear hc1
      have hst := word_step l k
      by_cases g2 : nth l k = true
      · rw [g2] at p1
        have hlow := word_low l k (by omega)
        have q1 := (own.cellAt (k / 64) (by omega)).trans (map_range_get _ n (k / 64) hkn)
        have q2 := own.frozenAt (k / 64)
        obtain ⟨x0, x1, x2⟩ := bx3_bk bx
        have own2 := (own.stored (k / 64) (.int .u64 ((word (l.take k) (k / 64) + 2 ^ (k % 64) : Nat) : Int))).1
        rw [map_range_set] at own2
        have HO2 : Hid ((wr.setCell ⟨w.heap.size + 1, k / 64, none⟩ (.int .u64 ((word (l.take k) (k / 64) + 2 ^ (k % 64) : Nat) : Int))).ownsRow w.heap.size 145 1 (.slice (some ⟨w.heap.size + 1, 0, none⟩) n n) n ((List.range n).map fun j => Value.int .u64 (word (l.take (k + 1)) j : Nat))) := by
          rw [map_range_congr (g := fun j => if j = k / 64 then Value.int .u64 ((word (l.take k) (k / 64) + 2 ^ (k % 64) : Nat) : Int) else Value.int .u64 (word (l.take k) j : Nat)) ?_]
          · exact own2
          · intro j _
            rw [hst j g1]
            by_cases hj : j = k / 64
            · rw [if_pos hj, if_pos hj, if_pos g2, hj]
            · rw [if_neg hj, if_neg hj]
        have e1 := or_eq (word (l.take k) (k / 64)) k hlow
        have hw64 : word (l.take k) (k / 64) < 18446744073709551616 := word_lt _ _
        have HB1 := Lib.hid (bx.far (p := ⟨w.heap.size + 1, k / 64, none⟩) (by show B3 ≠ w.heap.size + 1; omega) (.int .u64 ((word (l.take k) (k / 64) + 2 ^ (k % 64) : Nat) : Int)))
        have HB0 := Lib.hid (bx0.far (p := ⟨w.heap.size + 1, k / 64, none⟩) (by show w.heap.size ≠ w.heap.size + 1; omega) (.int .u64 ((word (l.take k) (k / 64) + 2 ^ (k % 64) : Nat) : Int)))
        have HX := Lib.hid (hxr.setCell (p := ⟨w.heap.size + 1, k / 64, none⟩) hg0 (.int .u64 ((word (l.take k) (k / 64) + 2 ^ (k % 64) : Nat) : Int)))
        obtain ⟨y, hy⟩ : ∃ y, word (l.take k) (k / 64) + 2 ^ (k % 64) = y := ⟨_, rfl⟩
        rw [hy] at e1 HO2 HB1 HB0 HX
        clear own2 hst own bx bx0 hy hlow g2
        go_wp2_with fail
        go_roundw
        case rel => exact ⟨k + 1, by omega, by go_num, HO2, HB1, HB0, HX⟩
        case measure => simp [intOf]; omega
      · have g2' : nth l k = false := by simpa using g2
        rw [g2'] at p1
        have HO2 : Hid (wr.ownsRow w.heap.size 145 1 (.slice (some ⟨w.heap.size + 1, 0, none⟩) n n) n ((List.range n).map fun j => Value.int .u64 (word (l.take (k + 1)) j : Nat))) := by
          rw [map_range_congr (g := fun j => Value.int .u64 (word (l.take k) j : Nat)) ?_]
          · exact own
          · intro j _
            rw [hst j g1, g2']
            split <;> simp
        have HB1 := Lib.hid bx
        have HB0 := Lib.hid bx0
        clear own bx bx0 hst g2 g2'
        go_wp2_with fail
        go_roundw
        case rel => exact ⟨k + 1, by omega, by go_num, HO2, HB1, HB0, hxr⟩
        case measure => simp [intOf]; omega
    · have hkl : k = l.length := by omega
      subst hkl
      rw [List.take_length] at own
      obtain ⟨S, hS⟩ : ∃ S, psum (words l) = S := ⟨_, rfl⟩
      obtain ⟨W, hW⟩ : ∃ W, word l = W := ⟨_, rfl⟩
      rw [hW] at own
      have HS := Lib.hid hS; have HW := Lib.hid hW; clear hS hW
      have HB1 := Lib.hid bx; have HB0 := Lib.hid bx0; have HOW := Lib.hid own
      obtain ⟨x0, x1, x2⟩ := bx3_bk bx
      clear bx bx0 own
      go_wp2_with fail
      clear x0 x1 x2
      obtain ⟨wo, rfl⟩ : ∃ wo : World, wo = wr := ⟨_, rfl⟩
      go_loopw [6, 41] (fun s i wr => ∃ (k : Nat) (A2 : Option Addr) (c2 : Nat), k ≤ n ∧ i = .int .i64 k ∧ s = .int .i64 (S k : Nat) ∧
          Hid (wr.ownsRow w.heap.size 145 1 (.slice (some ⟨w.heap.size + 1, 0, none⟩) n n) n ((List.range n).map fun j => Value.int .u64 (W j : Nat))) ∧
          Hid (wr.ownsRow w.heap.size 3 1 (.slice A2 k c2) k ((List.range k).map fun j => Value.int .i64 (S j : Nat))) ∧
          Hid (Bk wr B3 116 #[Value.int IntKind.i64 ↑l.length, Value.slice (some { block := w.heap.size + 1, off := 0 }) n n, Value.slice A2 k c2]) ∧ Hid (Bk wr w.heap.size 116 #[Value.int IntKind.i64 0, Value.slice none 0 0, Value.slice none 0 0]) ∧ Hid (Ext w wr)) (fun _ i _ => n - (intOf i).toNat)
      case atStart => exact ⟨0, none, 0, by omega, rfl, by rw [← HS.out]; rfl, HOW, Lib.hid (own_nil ..), HB1, HB0, Lib.hid hxr⟩
      case round =>
        obtain ⟨k, A2, c2, hk, rfl, rfl, HOW, HOA, HB1, HB0, HX⟩ := hrel
        by_cases g1 : k < n
        · have q1 := (HOW.out.cellAt k (by omega)).trans (map_range_get _ n k g1)
          obtain ⟨x0, x1, x2⟩ := bx3_bk HB1.out
          have hWk : W k < 18446744073709551616 := by rw [← HW.out]; exact word_lt _ _
          have hSk : S k ≤ 64 * k := by rw [← HS.out]; exact psum_le _ _
          have hpc := Pop.pc_le 64 (W k)
          have hS1 : Hid (S (k + 1) = S k + Pop.pc 64 (W k)) := Lib.hid (by
            rw [← HS.out, psum, words_at l k (by have := HN.out; omega)]
            have := HW.out
            rw [← this])
          have hBsz : w.heap.size ≤ wr.heap.size := HX.out.size
          go_wp2_with (at_builtin; refine wpList_app1 (by rfl) _ _ 24 rfl w.heap.size 3 ii (.int .i64 0) 8 Tryz.underlying24 hi hj0 hj1 hj2 rfl _ k _ rfl wr (.int .i64 (S k : Nat)) 3 rfl HOA.out rfl rfl ?d1 ?d2 hBsz ?_)
          case d1 => omega
          case d2 => omega
          intro g cap w3 own3 hgr
          have bx3 := HB1.out.grown hgr (Bk.own_ne HOA.out HB1.out (by decide))
          have bx30 := HB0.out.grown hgr (Bk.own_ne HOA.out HB0.out (by decide))
          have hx3 := HX.out.grown hgr (fun k hk => (own_row_ge HOA.out k hk).1)
          have ow3 := own_grown HOW.out hgr (own_own_ne HOW.out HOA.out (by decide))
          have hgB : some B3 ≠ some g := Bk.own_ne own3 bx3 (by decide)
          have hBne : B3 ≠ w.heap.size + 1 := by omega
          rw [show List.map (fun j => Value.int IntKind.i64 ↑(S j)) (List.range k) ++ [Value.int IntKind.i64 ↑(S k)] = List.map (fun j => Value.int IntKind.i64 ↑(S j)) (List.range (k + 1)) from by rw [List.range_succ]; simp] at own3
          have R1 := Lib.hid (own_far (p := ⟨B3, 2, none⟩) ow3 (by simp [Value.ownBlock]; omega) (.slice (some ⟨g, 0, none⟩) (k + 1) cap))
          have R2 := Lib.hid (own_far (p := ⟨B3, 2, none⟩) own3 (by simp [Value.ownBlock]; intro e; exact hgB (by rw [e])) (.slice (some ⟨g, 0, none⟩) (k + 1) cap))
          have R3 := Lib.hid (bx3.set 2 (.slice (some ⟨g, 0, none⟩) (k + 1) cap))
          have R4 := Lib.hid (bx30.far (p := ⟨B3, 2, none⟩) (by show w.heap.size ≠ B3; omega) (.slice (some ⟨g, 0, none⟩) (k + 1) cap))
          have R5 := Lib.hid (hx3.setCell (p := ⟨B3, 2, none⟩) (by show w.heap.size ≤ B3; omega) (.slice (some ⟨g, 0, none⟩) (k + 1) cap))
          obtain ⟨y0, y1, y2⟩ := bx3_bk bx3
          have y3 := bx3.frozen 2
          clear bx3 bx30 hx3 ow3 own3 hgr hgB x0 x1 x2 HOA HOW HB1 HB0 HX
          go_wp2_with (go_at_call 117; refine (onesCount64 _ hWk _).mono ?_; rintro e w' ⟨rfl, rfl⟩)
          go_roundw
          case rel => exact ⟨k + 1, some ⟨g, 0, none⟩, cap, by omega, by go_num, by rw [hS1.out]; go_num, R1, R2, R3, R4, R5⟩
          case measure => simp [intOf]; omega
        · have hkn : k = n := by omega
          subst hkn
          obtain ⟨x0, x1, x2⟩ := bx3_bk HB1.out
          have x3 := HB1.out.frozen 0
          obtain ⟨y0, y1, y2⟩ := bx3_bk HB0.out
          have f0 := HB0.out.frozen 0
          have f1 := HB0.out.frozen 1
          have f2 := HB0.out.frozen 2
          go_wp2_with fail
          have hP : (bitsOf l).P.length = k := by rw [bitsOf_P_length]; exact HN.out
          have hA : (bitsOf l).A.length = k := by rw [bitsOf_A_length]; exact HN.out
          have r1 := own_far (p := ⟨w.heap.size, 0, none⟩) HOW.out (by simp [Value.ownBlock]) (Value.int IntKind.i64 ↑l.length)
          have r2 := own_far (p := ⟨w.heap.size, 1, none⟩) r1 (by simp [Value.ownBlock]) (Value.slice (some { block := w.heap.size + 1, off := 0 }) k k)
          have r3 := own_far (p := ⟨w.heap.size, 2, none⟩) r2 (by simp [Value.ownBlock]) (Value.slice A2 k c2)
          have hne : (Value.slice A2 k c2).ownBlock ≠ some w.heap.size := fun e => Bk.own_ne HOA.out HB0.out (by decide) e.symm
          have s1 := own_far (p := ⟨w.heap.size, 0, none⟩) HOA.out hne (Value.int IntKind.i64 ↑l.length)
          have s2 := own_far (p := ⟨w.heap.size, 1, none⟩) s1 hne (Value.slice (some { block := w.heap.size + 1, off := 0 }) k k)
          have s3 := own_far (p := ⟨w.heap.size, 2, none⟩) s2 hne (Value.slice A2 k c2)
          have hsz : w.heap.size ≤ w.heap.size := Nat.le_refl _
          have hxF := ((HX.out.setCell (p := ⟨w.heap.size, 0, none⟩) hsz (Value.int IntKind.i64 ↑l.length)).setCell (p := ⟨w.heap.size, 1, none⟩) hsz (Value.slice (some { block := w.heap.size + 1, off := 0 }) k k)).setCell (p := ⟨w.heap.size, 2, none⟩) hsz (Value.slice A2 k c2)
          have bF := (((HB0.out.set 0 (Value.int IntKind.i64 ↑l.length)).set 1 (Value.slice (some { block := w.heap.size + 1, off := 0 }) k k)).set 2 (Value.slice A2 k c2))
          have rdP := r3
          rw [map_range_congr (g := fun j => Value.int .u64 (nth (bitsOf l).P j : Nat)) (fun j hj => by rw [bitsOf_P_at l j (by have := HN.out; omega), ← HW.out])] at rdP
          have rdA := s3
          rw [map_range_congr (g := fun j => Value.int .i64 (nth (bitsOf l).A j)) (fun j hj => by rw [bitsOf_A_at l j (by have := HN.out; omega), ← HS.out])] at rdA
          generalize ((wr.setCell _ _).setCell _ _).setCell _ _ = wF at *
          obtain ⟨z0, z1, z2⟩ := bx3_bk bF
          refine bodyPost_ret (v := .agg #[.int .i64 (l.length : Nat), .slice (some { block := w.heap.size + 1, off := 0 }) k k, .slice A2 k c2]) (by simp [results, Tryz.results84, go_sem, z0, z1, z2]) rfl ?_
          refine ⟨some ⟨w.heap.size + 1, 0, none⟩, k, A2, c2, ?_, ⟨?_, ?_⟩, hxF⟩
          · rw [hP, hA]; rfl
          · rw [hP]; exact rdP
          · rw [hA]; exact rdA
theorem make_calls (l : List Bool) (A : Option Addr) (c : Nat) (w : World) (hl : l.length ≤ 17592186044416) (hr : Rd w A l.length (fun k => .bool (nth l k))) :
    Calls Tryz.prog 84 #[.slice A l.length c] w (RetBits (bitsOf l) w) :=
  (make_callsO l A c w hl hr).mono fun _ _ ⟨A1, c1, A2, c2, he, ho, hx⟩ => ⟨A1, c1, A2, c2, he, ho.rd, hx⟩
end Go.Proofs.YtjfdlibceldanabGreatDoor

/-! The references' small functions on lists and bits: the walks. -/
namespace Go.Proofs.YtjfdlibceldanabGreatDoor
open Go.RowKit

/-- The world is as it was, but for draws. -/
def Qt (w w' : World) : Prop := ∃ q, w' = w.drewN q
theorem Qt.ext {w w' : World} (h : Qt w w') : Ext w w' := by obtain ⟨q, rfl⟩ := h; exact (Ext.refl _).drewN q
theorem Qt.refl (w : World) : Qt w w := ⟨0, rfl⟩

set_option maxHeartbeats 1000000 in
theorem sameInts_calls (xs ys : List Int) (A1 A2 : Option Addr) (c1 c2 : Nat) (w : World) (hn : xs.length ≤ 1125899906842624)
    (h1 : Rd w A1 xs.length (fun k => .int .i64 (nth xs k))) (h2 : Rd w A2 ys.length (fun k => .int .i64 (nth ys k))) :
    Calls Tryz.prog 21 #[.slice A1 xs.length c1, .slice A2 ys.length c2] w fun e w' => e = .returned (.bool (decide (xs = ys))) ∧ Qt w w' := by
  obtain ⟨R, hR⟩ : ∃ R, decide (xs = ys) = R := ⟨_, rfl⟩
  rw [hR]
  have HR := Lib.hid hR; clear hR
  by_cases hnm : ¬ xs.length = ys.length
  · have g : ((xs.length : Int) != (ys.length : Int)) = true := by rw [bne_iff_ne]; omega
    go_enter Tryz.func21, Tryz.ntmps21
    go_wp2_with fail
    go_ret
    refine ⟨?_, Qt.refl _⟩
    rw [← HR.out, decide_eq_false (fun h => hnm (by rw [h]))]
    rfl
  obtain ⟨n, hx⟩ : ∃ n, xs.length = n := ⟨_, rfl⟩
  have hy : ys.length = n := by omega
  rw [hx, hy]
  rw [hx] at h1 hn
  rw [hy] at h2
  have HX := Lib.hid hx; have HY := Lib.hid hy; clear hx hy hnm
  have H1 := Lib.hid h1; have H2 := Lib.hid h2; clear h1 h2
  go_enter Tryz.func21, Tryz.ntmps21
  go_wp2_with fail
  go_loopw [13] (fun i wr => ∃ k q : Nat, k ≤ n ∧ i = .int .i64 k ∧ Hid (∀ j, j < k → nth xs j = nth ys j) ∧ wr = w.drewN q) (fun i _ => n - (intOf i).toNat)
  case atStart => exact ⟨0, 0, Nat.zero_le _, rfl, Lib.hid (fun j hj => absurd hj (by omega)), rfl⟩
  case round =>
    obtain ⟨k, q, hk, rfl, HJ, rfl⟩ := hrel
    by_cases hlt : k < n
    · obtain ⟨b1, o1, rfl, hb1, hc1⟩ := H1.out (by omega)
      obtain ⟨b2, o2, rfl, hb2, hc2⟩ := H2.out (by omega)
      have p1 := hc1 k hlt
      have p2 := hc2 k hlt
      clear hc1 hc2
      by_cases he : nth xs k = nth ys k
      · have he' : (nth xs k != nth ys k) = false := by rw [bne_eq_false_iff_eq]; exact he
        have HJ2 : Hid (∀ j, j < k + 1 → nth xs j = nth ys j) := Lib.hid (fun j hj => by
          rcases Nat.lt_succ_iff_lt_or_eq.1 hj with h | h
          · exact HJ.out j h
          · rw [h]; exact he)
        clear he
        go_wp2_with fail
        go_quiet (fail)
        go_wp2_with fail
        go_roundw
        case rel => exact ⟨k + 1, q + nq, by omega, by go_num, HJ2, by simp⟩
        case measure => simp [intOf]; omega
      · have he' : (nth xs k != nth ys k) = true := by rw [bne_iff_ne]; exact he
        go_wp2_with fail
        go_quiet (fail)
        go_wp2_with fail
        go_ret
        refine ⟨?_, ⟨q + nq, by simp⟩⟩
        rw [← HR.out, decide_eq_false (fun h => he (by rw [h]))]
        rfl
    · go_wp2_with fail
      go_ret
      refine ⟨?_, ⟨q, rfl⟩⟩
      have hxl := HX.out
      have hyl := HY.out
      rw [← HR.out, decide_eq_true (nth_ext (by omega) (fun j hj => HJ.out j (by omega)))]
      rfl

def sameB (a b : PB) : Bool := decide (a.N = b.N ∧ a.P = b.P ∧ a.A = b.A)
theorem sameB_iff (a b : PB) : sameB a b = true ↔ a = b := by
  unfold sameB
  rw [decide_eq_true_iff]
  constructor
  · rintro ⟨h1, h2, h3⟩; cases a; cases b; simp_all
  · rintro rfl; exact ⟨rfl, rfl, rfl⟩

end Go.Proofs.YtjfdlibceldanabGreatDoor

/-! The references OnesOf and PlaceOf: the walks. -/
namespace Go.Proofs.YtjfdlibceldanabGreatDoor
open Go.RowKit

theorem cnt_take_succ (l : List Bool) (k : Nat) (h : k < l.length) : cnt (l.take (k + 1)) = cnt (l.take k) + if nth l k then 1 else 0 := by
  rw [take_succ_nth l k h, cnt_append]
  simp [cnt]

/-- The place of the k-th true, from i on. -/
def placeGo : List Bool → Nat → Nat → Int
  | [], _, _ => -1
  | b :: t, k, i => if b then (if k = 0 then i else placeGo t (k - 1) (i + 1)) else placeGo t k (i + 1)
theorem drop_nth {α : Type} [Inhabited α] (l : List α) (i : Nat) (h : i < l.length) : l.drop i = nth l i :: l.drop (i + 1) := by
  rw [nth_lt h]; exact List.drop_eq_getElem_cons h

end Go.Proofs.YtjfdlibceldanabGreatDoor

/-! The k-th one: Find's answer and the reference's are one: plain lists, no program in sight. -/
namespace Go.Proofs.YtjfdlibceldanabGreatDoor
open Go.RowKit
theorem cnt_take_mono (l : List Bool) {i j : Nat} (h : i ≤ j) : cnt (l.take i) ≤ cnt (l.take j) := by
  have : l.take j = l.take i ++ (l.drop i).take (j - i) := by rw [← List.take_add]; congr 1; omega
  rw [this, cnt_append]; omega
theorem placeGo_none : ∀ (l : List Bool) (k i : Nat), cnt l ≤ k → placeGo l k i = -1
  | [], _, _, _ => rfl
  | b :: t, k, i, h => by
    simp only [cnt] at h
    cases b with
    | true =>
      simp only [if_true] at h
      rw [placeGo, if_pos rfl, if_neg (by omega)]
      exact placeGo_none t (k - 1) (i + 1) (by omega)
    | false =>
      rw [placeGo, if_neg (by simp)]
      exact placeGo_none t k (i + 1) (by simpa using h)
theorem placeGo_some : ∀ (l : List Bool) (k i : Nat), k < cnt l → ∃ p, p < l.length ∧ placeGo l k i = ((i + p : Nat) : Int) ∧ cnt (l.take p) = k ∧ nth l p = true
  | [], _, _, h => by simp [cnt] at h
  | b :: t, k, i, h => by
    simp only [cnt] at h
    have sn : ∀ p, nth (b :: t) (p + 1) = nth t p := fun p => by simp [nth]
    cases b with
    | true =>
      simp only [if_true] at h
      rw [placeGo, if_pos rfl]
      by_cases hk : k = 0
      · rw [if_pos hk]; exact ⟨0, by simp, by simp, by simp [cnt, hk], rfl⟩
      · rw [if_neg hk]
        obtain ⟨p, h1, h2, h3, h4⟩ := placeGo_some t (k - 1) (i + 1) (by omega)
        exact ⟨p + 1, by simpa using h1, by rw [h2]; congr 1; omega, by rw [List.take_succ_cons, cnt, h3]; simp; omega, by rw [sn]; exact h4⟩
    | false =>
      rw [placeGo, if_neg (by simp)]
      obtain ⟨p, h1, h2, h3, h4⟩ := placeGo_some t k (i + 1) (by simpa using h)
      exact ⟨p + 1, by simpa using h1, by rw [h2]; congr 1; omega, by rw [List.take_succ_cons, cnt, h3]; simp, by rw [sn]; exact h4⟩
/-- What the reference says of the k-th one. -/
def placeF (l : List Bool) (k : Int) : Int := if 0 ≤ k then placeGo l k.toNat 0 else -1
theorem clamp_min (i : Int) (n : Nat) : (clamp i n).toNat = min i.toNat n := by
  unfold clamp
  by_cases h1 : (n : Int) < i
  · simp only [h1, if_true]
    by_cases h2 : 0 < (n : Int)
    · rw [if_pos h2]; omega
    · rw [if_neg h2]; omega
  · simp only [h1, if_false]
    by_cases h2 : 0 < i
    · rw [if_pos h2]; omega
    · rw [if_neg h2]; omega
theorem onesF_nat (l : List Bool) (hl : l.length ≤ 1125899906842624) (i : Int) : onesF (bitsOf l) i = cnt (l.take i.toNat) := by
  rw [onesF_made l hl, clamp_min]
  congr 2
  by_cases h : i.toNat ≤ l.length
  · rw [Nat.min_eq_left h]
  · rw [Nat.min_eq_right (by omega), List.take_length, List.take_of_length_le (by omega)]
theorem find_made (l : List Bool) (hl : l.length ≤ 1125899906842624) (k r : Int) (h : FindIs (bitsOf l) k r) : r = placeF l k := by
  have hN : (bitsOf l).N = (l.length : Int) := rfl
  unfold FindIs at h
  rw [hN] at h
  simp only [onesF_nat l hl] at h
  rw [Int.toNat_natCast, List.take_length] at h
  unfold placeF
  by_cases hk : 0 ≤ k
  · rw [if_pos hk]
    obtain ⟨K, rfl⟩ := Int.eq_ofNat_of_zero_le hk
    rw [Int.toNat_natCast]
    by_cases hc : cnt l ≤ K
    · rw [if_pos (by omega)] at h
      rw [h, placeGo_none l K 0 hc]
    · rw [if_neg (by omega)] at h
      obtain ⟨h0, h1, h2, h3⟩ := h
      obtain ⟨R, rfl⟩ := Int.eq_ofNat_of_zero_le h0
      rw [Int.toNat_natCast] at h2
      rw [show ((R : Int) + 1).toNat = R + 1 from by omega, cnt_take_succ l R (by omega)] at h3
      obtain ⟨p, p1, p2, p3, p4⟩ := placeGo_some l K 0 (by omega)
      rw [p2]
      have hp1 := cnt_take_succ l p p1
      rw [p4] at hp1
      simp only [if_true] at hp1
      have hR : nth l R = true := by
        cases hn : nth l R with
        | true => rfl
        | false => rw [hn] at h3; simp at h3; omega
      rw [hR] at h3
      simp only [if_true] at h3
      have hRp : R = p := by
        rcases Nat.lt_trichotomy R p with hlt | heq | hgt
        · have := cnt_take_mono l (i := R + 1) (j := p) (by omega)
          rw [cnt_take_succ l R (by omega), hR] at this
          simp only [if_true] at this
          omega
        · exact heq
        · have := cnt_take_mono l (i := p + 1) (j := R) (by omega)
          omega
      omega
  · rw [if_neg hk]
    rw [if_pos (by omega)] at h
    exact h
end Go.Proofs.YtjfdlibceldanabGreatDoor
