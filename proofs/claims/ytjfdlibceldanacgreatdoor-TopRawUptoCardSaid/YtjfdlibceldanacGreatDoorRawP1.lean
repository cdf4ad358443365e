/- Waves, plain: whatever bits stand on the levels of a wave that is Good, there are numbers of which it is the wave. No program in sight. comb and guess over an index of whatever numbers, in plain Lean: what they compute. No program in sight. -/
import Derived.Test.YtjfdlibceldanacGreatDoorWvGood
import Derived.Test.YtjfdlibceldanacGreatDoorPlainE
/-! Waves, plain: whatever bits stand on the levels of a wave that is Good, there are numbers of which it is the wave. No program in sight. -/
namespace Go.Proofs.YtjfdlibceldanacGreatDoor.Any
open Go.Proofs.YtjfdlibceldanacGreatDoor Wv

def lst (P : List Nat) (n : Nat) : List Bool := (List.range n).map fun i => nth P (i / 64) / 2 ^ (i % 64) % 2 == 1
theorem lst_length (P : List Nat) (n : Nat) : (lst P n).length = n := by simp [lst]
theorem bn_range (x : Nat) : ∀ m, bn ((List.range m).map fun i => x / 2 ^ i % 2 == 1) = x % 2 ^ m
  | 0 => by simp [bn, Nat.mod_one]
  | m + 1 => by
    rw [List.range_succ, List.map_append, bn_append, bn_range x m]
    simp only [List.length_map, List.length_range, List.map_cons, List.map_nil, bn]
    rw [Nat.pow_succ, Nat.mod_mul]
    rcases Nat.mod_two_eq_zero_or_one (x / 2 ^ m) with h | h <;> simp [h]
theorem lst_word (P : List Nat) (n j : Nat) : word (lst P n) j = nth P j % 2 ^ (min 64 (n - 64 * j)) := by
  rw [← bn_range, word]
  congr 1
  apply List.ext_getElem
  · simp [lst_length]
  · intro i h1 h2
    simp only [List.length_map, List.length_range] at h2
    have e1 : (64 * j + i) / 64 = j := by omega
    have e2 : (64 * j + i) % 64 = i := by omega
    simp [lst, e1, e2]
theorem good_list (b : PB) (hb : b.Ok) (N : Nat) (hN : b.N = N) (hl : b.P.length = N / 64 + 1) : sameB (bitsOf (lst b.P N)) b = goodF b := by
  rw [Bool.eq_iff_iff, sameB_iff]
  constructor
  · intro h; rw [← h]; exact goodF_made _
  · intro h
    unfold goodF at h
    simp only [Bool.and_eq_true, decide_eq_true_eq, beq_iff_eq] at h
    obtain ⟨_, _, hA, ha, hz⟩ := h
    rw [aheadF_iff] at ha
    rw [hN, Int.toNat_natCast] at hz
    have hP : (bitsOf (lst b.P N)).P = b.P := by
      apply nth_ext
      · rw [bitsOf_P_length, lst_length, hl]
      · intro k hk
        rw [bitsOf_P_length, lst_length] at hk
        rw [bitsOf_P_at _ _ (by rw [lst_length]; omega), lst_word]
        apply Nat.mod_eq_of_lt
        by_cases hk2 : k = N / 64
        · subst hk2
          rw [show min 64 (N - 64 * (N / 64)) = N % 64 from by omega]
          rcases Nat.lt_or_ge (nth b.P (N / 64)) (2 ^ (N % 64)) with h | h
          · exact h
          · exact absurd hz (Nat.ne_of_gt (Nat.div_pos h (Nat.pow_pos (by omega))))
        · rw [show min 64 (N - 64 * k) = 64 from by omega]
          exact hb.p_at k
    have hA2 : (bitsOf (lst b.P N)).A = b.A := by
      apply nth_ext
      · rw [bitsOf_A_length, lst_length, hA, hl]
      · intro k hk
        rw [bitsOf_A_length, lst_length] at hk
        rw [bitsOf_A_at _ _ (by rw [lst_length]; omega), ha k (by omega), show words (lst b.P N) = b.P from hP]
    rw [← sameB_iff]
    exact decide_eq_true ⟨by show ((lst b.P N).length : Int) = b.N; rw [lst_length, hN], hP, hA2⟩
/-- Where the numbers of a list stand, by their order. -/
def idx (l : List Nat) (P : Nat) : List Nat := (List.range P).flatMap fun p => (List.range l.length).filter fun i => nth l i == p
theorem idx_nodup (l : List Nat) (P : Nat) : (idx l P).Nodup := by
  unfold idx List.Nodup
  rw [List.pairwise_flatMap]
  refine ⟨fun p _ => (List.nodup_range).filter _, ?_⟩
  refine List.Pairwise.imp ?_ (List.nodup_range (n := P))
  intro a b hab x hx y hy e
  subst e
  have h1 := (List.mem_filter.1 hx).2
  have h2 := (List.mem_filter.1 hy).2
  simp at h1 h2
  omega
/-- The number at a place, a bit longer. -/
def more (l : List Nat) (B : List Bool) (P : Nat) (i : Nat) : Nat := 2 * nth l i + if nth B ((idx l P).idxOf i) then 1 else 0
def grown (l : List Nat) (B : List Bool) (P : Nat) : List Nat := (List.range l.length).map (more l B P)
theorem grown_len (l B P) : (grown l B P).length = l.length := by simp [grown]
theorem grown_lt {d : Nat} {l : List Nat} (hl : ∀ x ∈ l, x < 2 ^ d) (B P) : ∀ x ∈ grown l B P, x < 2 ^ (d + 1) := by
  intro x hx
  obtain ⟨i, hi, rfl⟩ := List.mem_map.1 hx
  have := hl _ (nth_mem (List.mem_range.1 hi))
  unfold more
  rw [Nat.pow_succ]
  split <;> omega
theorem pre_more {d L : Nat} (hL : L ≤ d) (l B P i) : pre (d + 1) L (more l B P i) = pre d L (nth l i) := by
  unfold pre
  rw [show d + 1 - L = (d - L) + 1 from by omega, Nat.pow_succ, Nat.mul_comm, ← Nat.div_div_eq_div_mul]
  congr 1
  unfold more
  split <;> omega
theorem bitL_more {d L : Nat} (hL : L < d) (l B P i) : bitL (d + 1) L (more l B P i) = bitL d L (nth l i) := by
  unfold bitL
  rw [show d + 1 - 1 - L = (d - 1 - L) + 1 from by omega, Nat.pow_succ, Nat.mul_comm, ← Nat.div_div_eq_div_mul]
  congr 3
  unfold more
  split <;> omega
theorem map_nth (l : List Nat) : (List.range l.length).map (nth l) = l := by
  apply nth_ext
  · simp
  · intro k hk
    simp at hk
    rw [nth_lt (by simpa using hk)]
    simp
/-- The places of a level. -/
def idxL (d L : Nat) (l : List Nat) : List Nat := (List.range (2 ^ L)).flatMap fun p => (List.range l.length).filter fun i => pre d L (nth l i) == p
theorem rowsAt_idx (d L : Nat) (l : List Nat) : rowsAt d l L = (idxL d L l).map (nth l) := by
  unfold rowsAt rows idxL
  rw [List.map_flatMap]
  congr 1
  funext p
  conv => lhs; rw [← map_nth l]
  rw [List.filter_map]
  rfl
theorem rowsAt_grown {d L : Nat} (hL : L ≤ d) (l B P) : rowsAt (d + 1) (grown l B P) L = (idxL d L l).map (more l B P) := by
  unfold rowsAt rows idxL grown
  rw [List.map_flatMap]
  congr 1
  funext p
  rw [List.filter_map]
  congr 1
  congr 1
  funext i
  show (pre (d + 1) L (more l B P i) == p) = _
  rw [pre_more hL]
theorem bitsAt_grown {d L : Nat} (hL : L < d) (l B P) : bitsAt (d + 1) (grown l B P) L = bitsAt d l L := by
  unfold bitsAt
  rw [rowsAt_grown (Nat.le_of_lt hL), rowsAt_idx, List.map_map, List.map_map]
  congr 1
  funext i
  exact bitL_more hL l B P i
theorem bitsAt_last {d : Nat} {l : List Nat} (hl : ∀ x ∈ l, x < 2 ^ d) {B : List Bool} (hB : B.length = l.length) : bitsAt (d + 1) (grown l B (2 ^ d)) d = B := by
  have hlen := bitsAt_length (grown_lt hl B (2 ^ d)) (L := d) (by omega)
  rw [grown_len] at hlen
  have e : idxL d d l = idx l (2 ^ d) := by
    unfold idxL idx pre
    simp
  unfold bitsAt at hlen ⊢
  rw [rowsAt_grown (Nat.le_refl d), e, List.map_map] at hlen ⊢
  rw [List.length_map] at hlen
  have hnd := idx_nodup l (2 ^ d)
  apply nth_ext
  · rw [List.length_map]; omega
  · intro k hk
    rw [List.length_map] at hk
    rw [nth_lt (by rw [List.length_map]; exact hk), List.getElem_map]
    show bitL (d + 1) d (more l B (2 ^ d) _) = _
    have h1 : (idx l (2 ^ d)).idxOf ((idx l (2 ^ d))[k]) = k := hnd.idxOf_getElem k hk
    unfold bitL more
    rw [h1, show d + 1 - 1 - d = 0 from by omega]
    cases nth B k <;> simp <;> omega
/-- Whatever bits stand on the levels, there are numbers of which they are the bits. -/
theorem wave_of (n : Nat) : ∀ (d : Nat) (Bs : Nat → List Bool), (∀ L, L < d → (Bs L).length = n) → ∃ l : List Nat, l.length = n ∧ (∀ x ∈ l, x < 2 ^ d) ∧ ∀ L, L < d → bitsAt d l L = Bs L
  | 0, _, _ => ⟨List.replicate n 0, by simp, fun x hx => by rw [List.eq_of_mem_replicate hx]; exact Nat.one_pos, fun L hL => absurd hL (Nat.not_lt_zero _)⟩
  | d + 1, Bs, h => by
    obtain ⟨l, h1, h2, h3⟩ := wave_of n d Bs (fun L hL => h L (by omega))
    refine ⟨grown l (Bs d) (2 ^ d), by rw [grown_len, h1], grown_lt h2 _ _, fun L hL => ?_⟩
    by_cases e : L = d
    · subst e
      exact bitsAt_last h2 (by rw [h L (by omega), h1])
    · rw [bitsAt_grown (by omega)]
      exact h3 L (by omega)
theorem wave_good (x : PW) (hx : x.Ok) (h : goodW x = true) : ∃ (ln : List Nat) (d : Nat), (1 ≤ d ∧ d ≤ 16) ∧ (∀ y ∈ ln, y < 2 ^ d) ∧ x = waveOf ln d := by
  unfold goodW at h
  rw [Bool.and_eq_true] at h
  obtain ⟨h1, h2⟩ := h
  unfold goodHead at h1
  have h1 := of_decide_eq_true h1
  obtain ⟨⟨d1, d2⟩, d3, n0⟩ := h1
  obtain ⟨N, D, L⟩ := x
  have hok := hx.l
  dsimp only at d1 d2 d3 n0 h2 hok
  obtain ⟨n, rfl⟩ := Int.eq_ofNat_of_zero_le n0
  obtain ⟨d, rfl⟩ := Int.eq_ofNat_of_zero_le (show 0 ≤ D by omega)
  have hd : L.length = d := by omega
  have each : ∀ k, k < d → bitsOf (lst (nth L k).P n) = nth L k := fun k hk => by
    have hm := nth_mem (l := L) (k := k) (by omega)
    have hg := List.all_eq_true.1 h2 _ hm
    unfold goodPart at hg
    rw [Bool.and_eq_true] at hg
    have hN := of_decide_eq_true hg.2
    have hgF := hg.1
    have hP : (nth L k).P.length = n / 64 + 1 := by
      unfold goodF at hgF
      simp only [Bool.and_eq_true, decide_eq_true_eq, beq_iff_eq] at hgF
      omega
    rw [← sameB_iff, good_list _ (hok _ hm) n hN hP]
    exact hgF
  obtain ⟨ln, l1, l2, l3⟩ := wave_of n d (fun k => lst (nth L k).P n) (fun k _ => lst_length _ _)
  refine ⟨ln, d, ⟨by omega, by omega⟩, l2, ?_⟩
  unfold waveOf
  rw [l1]
  congr 1
  apply nth_ext
  · rw [levelsOf_length, hd]
  · intro k hk
    unfold levelsOf
    rw [nth_map_range _ _ _ (by omega), l3 k (by omega), each k (by omega)]
end Go.Proofs.YtjfdlibceldanacGreatDoor.Any

/-! comb and guess over an index of whatever numbers, in plain Lean: what they compute. No program in sight. -/
namespace Go.Proofs.YtjfdlibceldanacGreatDoor.Raw
open Go.Proofs.YtjfdlibceldanacGreatDoor

section
variable (cf : Int → Int → Nat) (n m2 : Nat) (ls : List Int)
/-- A span, one sign longer. -/
def longR (f t : Nat) (c : Int) : Nat × Nat :=
  if c = 0 ∧ ¬ (f = 0 ∧ t = n) then (0, 0) else if c < 0 ∨ (m2 : Int) ≤ c + 1 then (0, 0) else
  if IntKind.i64.wrap (nth ls c.toNat + cf c f) < IntKind.i64.wrap (nth ls c.toNat + cf c t) ∧ 0 ≤ IntKind.i64.wrap (nth ls c.toNat + cf c f) ∧ IntKind.i64.wrap (nth ls c.toNat + cf c t) ≤ n then
    ((IntKind.i64.wrap (nth ls c.toNat + cf c f)).toNat, (IntKind.i64.wrap (nth ls c.toNat + cf c t)).toNat) else (0, 0)
theorem longR_le (f t : Nat) (c : Int) : (longR cf n m2 ls f t c).1 ≤ (longR cf n m2 ls f t c).2 ∧ (longR cf n m2 ls f t c).2 ≤ n ∧ (¬ (longR cf n m2 ls f t c).1 < (longR cf n m2 ls f t c).2 → longR cf n m2 ls f t c = (0, 0)) := by
  unfold longR
  split
  · exact ⟨Nat.le_refl _, Nat.zero_le _, fun _ => rfl⟩
  · split
    · exact ⟨Nat.le_refl _, Nat.zero_le _, fun _ => rfl⟩
    · split
      · rename_i h
        generalize IntKind.i64.wrap (nth ls c.toNat + cf c f) = z at *
        generalize IntKind.i64.wrap (nth ls c.toNat + cf c t) = v at *
        dsimp only
        refine ⟨by omega, by omega, fun q => ?_⟩
        omega
      · exact ⟨Nat.le_refl _, Nat.zero_le _, fun _ => rfl⟩
/-- The span of signs. -/
def findR : List Int → Nat × Nat
  | [] => (0, n)
  | c :: r => if ¬ (findR r).1 < (findR r).2 then (0, 0) else if c = 0 ∧ r ≠ [] then (0, 0) else longR cf n m2 ls (findR r).1 (findR r).2 c
theorem findR_le : ∀ s : List Int, (findR cf n m2 ls s).1 ≤ (findR cf n m2 ls s).2 ∧ (findR cf n m2 ls s).2 ≤ n ∧ (¬ (findR cf n m2 ls s).1 < (findR cf n m2 ls s).2 → findR cf n m2 ls s = (0, 0))
  | [] => ⟨Nat.zero_le _, Nat.le_refl _, fun h => by
      unfold findR at h ⊢
      dsimp only at h
      obtain rfl : n = 0 := by omega
      rfl⟩
  | c :: r => by
    unfold findR
    split
    · exact ⟨Nat.le_refl _, Nat.zero_le _, fun _ => rfl⟩
    · split
      · exact ⟨Nat.le_refl _, Nat.zero_le _, fun _ => rfl⟩
      · exact longR_le cf n m2 ls _ _ c
theorem findR_app {r : List Int} (h : ¬ (findR cf n m2 ls r).1 < (findR cf n m2 ls r).2) : ∀ t : List Int, findR cf n m2 ls (t ++ r) = (0, 0)
  | [] => (findR_le cf n m2 ls r).2.2 h
  | c :: t => by
    have ih := findR_app h t
    rw [List.cons_append, findR, if_pos (by rw [ih]; exact Nat.lt_irrefl _)]
theorem findR_drop {s : List Int} {k : Nat} (h : ¬ (findR cf n m2 ls (s.drop k)).1 < (findR cf n m2 ls (s.drop k)).2) : findR cf n m2 ls s = (0, 0) := by
  have := findR_app cf n m2 ls h (s.take k)
  rwa [List.take_append_drop] at this
theorem drop_at {s : List Int} {i : Nat} (hi : i < s.length) : s.drop i = nth s i :: s.drop (i + 1) := by
  rw [List.drop_eq_getElem_cons hi, nth_lt hi]
theorem findR_last {s : List Int} {i : Nat} (hi : i + 1 < s.length) (h0 : nth s i = 0) : findR cf n m2 ls s = (0, 0) := by
  refine findR_drop cf n m2 ls (k := i) ?_
  rw [drop_at (by omega), findR]
  have hne : s.drop (i + 1) ≠ [] := fun q => by
    have := congrArg List.length q
    rw [List.length_drop, List.length_nil] at this
    omega
  split
  · exact Nat.lt_irrefl _
  · rw [if_pos ⟨h0, hne⟩]; exact Nat.lt_irrefl _
theorem findR_step {s : List Int} {i : Nat} (hi : i < s.length) (hlt : (findR cf n m2 ls (s.drop (i + 1))).1 < (findR cf n m2 ls (s.drop (i + 1))).2) (h : ¬ (nth s i = 0 ∧ i + 1 < s.length)) :
    findR cf n m2 ls (s.drop i) = longR cf n m2 ls (findR cf n m2 ls (s.drop (i + 1))).1 (findR cf n m2 ls (s.drop (i + 1))).2 (nth s i) := by
  rw [drop_at hi, findR, if_neg (fun q => q hlt), if_neg]
  rintro ⟨q1, q2⟩
  refine h ⟨q1, ?_⟩
  rcases Nat.lt_or_ge (i + 1) s.length with g | g
  · exact g
  · exact absurd (List.drop_eq_nil_of_le g) q2
/-- How often signs stand there. -/
def countR (s : List Int) : Nat := (findR cf n m2 ls s).2 - (findR cf n m2 ls s).1
theorem countR_le (s : List Int) : countR cf n m2 ls s ≤ n := by
  have := (findR_le cf n m2 ls s).2.1
  unfold countR
  omega
end

/-! ### How much signs weigh -/
def wR (xs : List Nat) (nv : Nat → Nat) (sign : Int) : Nat → Nat × Nat × Nat
  | 0 => (0, 0, 0)
  | i + 1 => if nth xs i = 0 then wR xs nv sign i else (if ((nth xs i : Nat) : Int) = sign then nv (nth xs i) else (wR xs nv sign i).1, (wR xs nv sign i).2.1 + nv (nth xs i), (wR xs nv sign i).2.2 + 1)
theorem wR_le (xs : List Nat) (nv : Nat → Nat) (sign : Int) (B : Nat) (hB : ∀ x, nv x ≤ B) : ∀ i, (wR xs nv sign i).1 ≤ B ∧ (wR xs nv sign i).2.1 ≤ min i xs.length * B ∧ (wR xs nv sign i).2.2 ≤ min i xs.length
  | 0 => ⟨Nat.zero_le _, Nat.zero_le _, Nat.zero_le _⟩
  | i + 1 => by
    obtain ⟨h1, h2, h3⟩ := wR_le xs nv sign B hB i
    have hm : min i xs.length ≤ min (i + 1) xs.length := by omega
    have hmB := Nat.mul_le_mul_right B hm
    rw [wR]
    by_cases g : nth xs i = 0
    · rw [if_pos g]
      exact ⟨h1, by omega, by omega⟩
    · rw [if_neg g]
      have hi : i < xs.length := by
        rcases Nat.lt_or_ge i xs.length with q | q
        · exact q
        · rw [nth_ge q] at g; exact absurd rfl g
      have e1 : min (i + 1) xs.length = i + 1 := by omega
      have e2 : min i xs.length = i := by omega
      have hv := hB (nth xs i)
      rw [e2] at h2 h3
      rw [e1]
      refine ⟨?_, ?_, by dsimp only; omega⟩
      · dsimp only
        split <;> omega
      · dsimp only
        rw [Nat.add_mul, Nat.one_mul]; omega

/-! ### Parts of whatever numbers -/
def gI : Nat → Int → Int → Int
  | 0, a, _ => a
  | k + 1, a, b => if b = 0 then a else gI k b (Int.tmod a b)
theorem tmod_abs {a b : Int} (h : b ≠ 0) : (Int.tmod a b).natAbs < b.natAbs := by
  rw [Int.natAbs_tmod]
  exact Nat.mod_lt _ (by omega)
theorem gI_fuel : ∀ (k k' : Nat) (a b : Int), b.natAbs < k → b.natAbs < k' → gI k a b = gI k' a b
  | 0, _, _, _, h, _ => absurd h (Nat.not_lt_zero _)
  | _ + 1, 0, _, _, _, h => absurd h (Nat.not_lt_zero _)
  | k + 1, k' + 1, a, b, h, h' => by
    rw [gI, gI]
    by_cases g : b = 0
    · rw [if_pos g, if_pos g]
    · rw [if_neg g, if_neg g]
      have := tmod_abs (a := a) g
      exact gI_fuel k k' _ _ (by omega) (by omega)
def gG (a b : Int) : Int := gI (b.natAbs + 1) a b
theorem gG_zero (a : Int) : gG a 0 = a := rfl
theorem gG_step {a b : Int} (h : b ≠ 0) : gG a b = gG b (Int.tmod a b) := by
  unfold gG
  rw [gI, if_neg h]
  have := tmod_abs (a := a) h
  exact gI_fuel _ _ _ _ (by omega) (by omega)
theorem tmod_i64 {a b : Int} (ha : I64 a) (hb : I64 b) : I64 (Int.tmod a b) := by
  unfold I64 at *
  by_cases h : b = 0
  · subst h; rw [Int.tmod_zero]; exact ha
  · have h1 := tmod_abs (a := a) h
    omega
theorem gG_i64 : ∀ (k : Nat) (a b : Int), b.natAbs ≤ k → I64 a → I64 b → I64 (gG a b)
  | 0, a, b, h, ha, _ => by
    obtain rfl : b = 0 := by omega
    rw [gG_zero]; exact ha
  | k + 1, a, b, h, ha, hb => by
    by_cases g : b = 0
    · subst g; rw [gG_zero]; exact ha
    · rw [gG_step g]
      have := tmod_abs (a := a) g
      exact gG_i64 k _ _ (by omega) hb (tmod_i64 ha hb)
def tidyI (n d : Int) : Int × Int := if gG n d = 0 then (0, 1) else (IntKind.i64.wrap (Int.tdiv n (gG n d)), IntKind.i64.wrap (Int.tdiv d (gG n d)))
def addI (a b : Int × Int) : Int × Int := tidyI (IntKind.i64.wrap (IntKind.i64.wrap (a.1 * b.2) + IntKind.i64.wrap (b.1 * a.2))) (IntKind.i64.wrap (a.2 * b.2))
def timesI (a b : Int × Int) : Int × Int := tidyI (IntKind.i64.wrap (a.1 * b.1)) (IntKind.i64.wrap (a.2 * b.2))
theorem wrap_i64 (x : Int) : I64 (IntKind.i64.wrap x) := by
  rw [IntKind.wrap_i64]
  unfold I64
  omega
theorem tidyI_i64 (n d : Int) : I64 (tidyI n d).1 ∧ I64 (tidyI n d).2 := by
  unfold tidyI
  split
  · exact ⟨⟨by decide, by decide⟩, by decide, by decide⟩
  · exact ⟨wrap_i64 _, wrap_i64 _⟩

/-! ### From the longest to the shortest -/
/-- What is left to do from k signs on down, and the part so far. -/
def resR (a : Nat → Nat) (st : Nat → Int × Int → Int × Int) : Nat → Int × Int → Int × Int
  | 0, p => p
  | k + 1, p => if a k = 0 then p else resR a st k (st k p)
end Go.Proofs.YtjfdlibceldanacGreatDoor.Raw
