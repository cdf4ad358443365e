/- TopGuess: plain laws: nothing wraps round, and what is guessed is the likeliest. -/
import Derived.Test.YtjfdlibceldanabGreatDoorTSumP
namespace Go.Proofs.YtjfdlibceldanabGreatDoor
open Go.RowKit Go.Sort Tx En Wv Gu Ri

/-! ### A part's whole divides the whole -/
theorem partF_cop (n : Nat) {d : Nat} (h : 0 < d) : Nat.Coprime (partF n d).1 (partF n d).2 := Nat.coprime_div_gcd_div_gcd (Nat.gcd_pos_of_pos_right _ h)
theorem like_cop (l : List Int) (signs : Nat) (sign : Int) : ∀ (s : List Int) (b : Bool), Nat.Coprime (likeF l signs sign s b).1 (likeF l signs sign s b).2 := by
  have st : ∀ (s : List Int) (b : Bool) (p : Nat × Nat), 0 < allF l s b → 0 < p.2 → Nat.Coprime (stepF l s b sign p).1 (stepF l s b sign p).2 := fun s b p ha hp => by
    unfold stepF
    have d1 := partF_pos (n := 4 * ownF l s b sign - 3) (show 0 < 4 * allF l s b by omega)
    have d2 := partF_pos (n := 3 * (kn l s).length) (show 0 < 4 * allF l s b by omega)
    exact partF_cop _ (Nat.mul_pos d1 (partF_pos (Nat.mul_pos d2 hp)))
  intro s
  induction s with
  | nil =>
    intro b
    rw [likeF]
    split
    · exact Nat.coprime_one_left _
    · exact st _ _ _ (by omega) (by show 0 < max 1 signs; omega)
  | cons x s ih =>
    intro b
    rw [likeF]
    split
    · exact ih false
    · exact st _ _ _ (by omega) (like_d l signs sign s false)
theorem like_dvd (l : List Int) (signs : Nat) (sign : Int) (s : List Int) (b : Bool) : (likeF l signs sign s b).2 ∣ whole l signs s b := by
  have v := like_val l signs sign s b
  unfold Val at v
  exact (like_cop l signs sign s b).symm.dvd_of_dvd_mul_left ⟨share l signs sign s b, by rw [v, Nat.mul_comm]⟩
theorem like_d_le (l : List Int) (signs : Nat) (sign : Int) (s : List Int) (b : Bool) : (likeF l signs sign s b).2 ≤ whole l signs s b := Nat.le_of_dvd (whole_pos l signs s b) (like_dvd l signs sign s b)
/-! ### The whole is small -/
theorem all_places (l s : List Int) (b : Bool) : allF l s b ≤ (places l s).length := by
  unfold allF
  have hn : (kn l s).Nodup := (up_nodup (rise_up _)).filter _
  refine Nat.le_trans (sum_le _ fun x _ => nn_le l s b x) ?_
  have h := sum_places hn (fun a => nth l (a + s.length)) (fun a => decide (a + s.length < l.length)) (places l s)
  refine Nat.le_trans (Nat.le_of_eq ?_) h
  congr 1
  refine List.map_congr_left fun x _ => ?_
  unfold places
  rw [← List.countP_eq_length_filter, List.countP_filter]
  refine List.countP_congr fun a ha => ?_
  have := stB_snoc l s x a (by have := List.mem_range.1 ha; omega)
  rw [this]
  simp only [Bool.and_eq_true, decide_eq_true_eq]
  exact and_comm
theorem stB_one (l : List Int) (x : Int) {a : Nat} (ha : a < l.length) : stB l [x] a = true ↔ nth l a = x := by
  have := stB_snoc l [] x a (by omega)
  rw [List.nil_append] at this
  have e : stB l [] a = true := (stB_iff l [] a).2 ⟨by show a + 0 ≤ max a l.length; omega, fun k hk => absurd hk (Nat.not_lt_zero k)⟩
  rw [this]
  constructor
  · exact fun q => q.2.2
  · exact fun q => ⟨e, ha, q⟩
theorem ones_le (l : List Int) {xs : List Int} (hn : xs.Nodup) : (xs.map fun x => (places l [x]).length).sum ≤ l.length := by
  have h := sum_places hn (fun a => nth l a) (fun _ => true) (List.range l.length)
  rw [List.length_range] at h
  refine Nat.le_trans (Nat.le_of_eq ?_) h
  congr 1
  refine List.map_congr_left fun x _ => ?_
  unfold places
  rw [← List.countP_eq_length_filter]
  refine List.countP_congr fun a ha => ?_
  rw [stB_one l x (List.mem_range.1 ha)]
  simp
theorem sum_ones {f : Int → Nat} : ∀ xs : List Int, (∀ x ∈ xs, 1 ≤ f x) → xs.length ≤ (xs.map f).sum
  | [], _ => Nat.le_refl _
  | a :: t, h => by
    rw [List.map_cons, List.sum_cons, List.length_cons]
    have h1 := h a (by simp)
    have h2 := sum_ones t fun x hx => h x (by simp [hx])
    omega
theorem sum_more {f : Int → Nat} {y : Int} : ∀ xs : List Int, y ∈ xs → (∀ x ∈ xs, 1 ≤ f x) → f y + xs.length ≤ (xs.map f).sum + 1
  | [], h, _ => by cases h
  | a :: t, h, hf => by
    rw [List.map_cons, List.sum_cons, List.length_cons]
    rcases List.mem_cons.1 h with rfl | h
    · have := sum_ones t fun x hx => hf x (by simp [hx])
      omega
    · have := sum_more t h fun x hx => hf x (by simp [hx])
      have := hf a (by simp)
      omega
theorem places_some {l : List Int} {x : Int} : 0 < (places l [x]).length ↔ x ∈ l := by
  constructor
  · intro h
    obtain ⟨a, ha⟩ := List.exists_mem_of_length_pos h
    obtain ⟨h1, h2⟩ := places_mem.1 ha
    rw [← (stB_one l x h1).1 h2]
    exact nth_mem h1
  · intro h
    obtain ⟨a, ha, e⟩ := List.mem_iff_getElem.1 h
    refine List.length_pos_of_mem (places_mem.2 ⟨ha, (stB_one l x ha).2 ?_⟩)
    rw [nth_lt ha, e]
theorem bT_all {s : List UInt8} (k : Nat) (h : k ≤ (wordsF s).length + 1) : ((k : Nat) : Int) ∈ bT s := by
  unfold bT
  refine List.mem_map.2 ⟨k, List.mem_append.2 ?_, rfl⟩
  by_cases h0 : k = 0
  · exact Or.inr (by simp [h0])
  · refine Or.inl (mem_textN.2 ?_)
    by_cases g : k = 1
    · obtain ⟨l, hl⟩ := List.exists_mem_of_ne_nil _ (lines_ne s)
      exact ⟨l, hl, Or.inl g⟩
    · have hj : k - 2 < (wordsF s).length := by omega
      have hm : (wordsF s)[k - 2] ∈ wordsF s := List.getElem_mem hj
      obtain ⟨l, hl, hw⟩ := mem_words hm
      refine ⟨l, hl, Or.inr ⟨_, hw, ?_⟩⟩
      have := num_at (W := wordsF s) (ordW_sorted _) hj
      omega
theorem one_many {s : List UInt8} (h : errF s = 0) (y : Int) : (places (bT s) [y]).length = 0 ∨ (places (bT s) [y]).length + ((wordsF s).length + 1) ≤ 101 := by
  by_cases hy : y ∈ bT s
  · right
    have hb := bT_bd hy
    have hn : ((List.range ((wordsF s).length + 2)).map Int.ofNat).Nodup := List.pairwise_map.2 (List.nodup_range.imp fun h q => h (Int.ofNat.inj q))
    have h1 := ones_le (bT s) hn
    have h2 := sum_more (f := fun x => (places (bT s) [x]).length) (y := y) ((List.range ((wordsF s).length + 2)).map Int.ofNat) (List.mem_map.2 ⟨y.toNat, List.mem_range.2 (by omega), by show ((y.toNat : Nat) : Int) = y; omega⟩) (fun x hx => by
      obtain ⟨k, hk, rfl⟩ := List.mem_map.1 hx
      exact places_some.2 (bT_all k (by have := List.mem_range.1 hk; omega)))
    have h3 := (serr_ok h).2.2
    rw [bT_len] at h1
    rw [List.length_map, List.length_range] at h2
    omega
  · left
    rcases Nat.eq_zero_or_pos (places (bT s) [y]).length with e | e
    · exact e
    · exact absurd (places_some.1 e) hy
theorem prod_le {a b : Nat} (h : a + b ≤ 101) : a * b ≤ 2550 := by
  have k : ∀ a, a < 102 → a * (101 - a) ≤ 2550 := by decide
  exact Nat.le_trans (Nat.mul_le_mul_left a (show b ≤ 101 - a by omega)) (k a (by omega))
section
variable {s : List UInt8} (h : errF s = 0)
include h
theorem all_101 (t : List Int) (b : Bool) : allF (bT s) t b ≤ 101 := by
  have := all_le (bT s) t b
  have := bT_len s
  have := (serr_ok h).2.2
  omega
theorem whole_nil (b : Bool) : whole (bT s) ((wordsF s).length + 1) [] b ≤ 404 * ((wordsF s).length + 1) := by
  rw [whole]
  have := all_101 h [] b
  rw [Nat.max_eq_right (by omega)]
  split
  · omega
  · exact Nat.mul_le_mul_right _ (by omega)
theorem signs_100 : (wordsF s).length + 1 ≤ 100 := by
  have h1 := swords_le h
  have h2 : 0 < (linesF s).length := List.length_pos_iff.2 (lines_ne s)
  omega
theorem whole_one (y : Int) (b : Bool) : whole (bT s) ((wordsF s).length + 1) [y] b ≤ 4120800 := by
  have hs := signs_100 h
  have h0 := whole_nil h false
  rw [whole]
  split
  · omega
  · rename_i g
    have ha := all_places (bT s) [y] b
    have hm := one_many h y
    have hp : allF (bT s) [y] b * ((wordsF s).length + 1) ≤ 2550 := prod_le (by omega)
    generalize allF (bT s) [y] b = A at *
    generalize whole (bT s) ((wordsF s).length + 1) [] false = W at *
    generalize (wordsF s).length + 1 = S at *
    have h1 : 4 * A * W ≤ 4 * A * (404 * S) := Nat.mul_le_mul_left _ h0
    have h2 : 4 * A * (404 * S) = 1616 * (A * S) := by
      rw [Nat.mul_mul_mul_comm]
    omega
theorem whole_two (x y : Int) (b : Bool) : whole (bT s) ((wordsF s).length + 1) [x, y] b ≤ 1700000000 := by
  have h1 := whole_one h y false
  rw [whole]
  split
  · omega
  · have h2 := all_101 h [x, y] b
    have : 4 * allF (bT s) [x, y] b * whole (bT s) ((wordsF s).length + 1) [y] false ≤ 404 * 4120800 := Nat.mul_le_mul (by omega) h1
    omega
theorem whole_le (t : List Int) (ht : t.length ≤ 2) (b : Bool) : whole (bT s) ((wordsF s).length + 1) t b ≤ 1700000000 := by
  match t, ht with
  | [], _ => have := whole_nil h b; have := signs_100 h; omega
  | [y], _ => have := whole_one h y b; omega
  | [x, y], _ => exact whole_two h x y b
  | _ :: _ :: _ :: _, ht => simp at ht
theorem lkA_small (ws : List UInt8) {i : Nat} (hi : i ≤ (wordsF s).length) : (lkA s ws i).2 ≤ 1700000000 := by
  rw [lkA_like ws hi]
  exact Nat.le_trans (like_d_le _ _ _ _ _) (whole_le h _ (by unfold lastTwo; rw [List.length_drop]; omega) _)
end
/-! ### The greatest -/
theorem two_wrap {a b : Nat} (ha : a ≤ 1700000000) (hb : b ≤ 1700000000) : IntKind.i64.wrap ((a : Int) * (b : Int)) = ((a * b : Nat) : Int) := by
  have : a * b ≤ 1700000000 * 1700000000 := Nat.mul_le_mul ha hb
  exact mul_wrap rfl (by omega)
theorem gF_step {f : Nat → Nat × Nat} {i : Nat} (h1 : (gF f i).2.1 ≤ 1700000000) (h2 : (gF f i).2.2 ≤ 1700000000) (h3 : (f i).1 ≤ 1700000000) (h4 : (f i).2 ≤ 1700000000) :
    gF f (i + 1) = if (gF f i).2.1 * (f i).2 < (f i).1 * (gF f i).2.2 then (i, f i) else gF f i := by
  rw [gF, two_wrap h1 h4, two_wrap h3 h2]
  by_cases g : (gF f i).2.1 * (f i).2 < (f i).1 * (gF f i).2.2
  · rw [if_pos g, if_pos (by omega)]
  · rw [if_neg g, if_neg (by omega)]
theorem gF_pick {f : Nat → Nat × Nat} {n : Nat} (hf : ∀ i, i < n → 1 ≤ (f i).1 ∧ (f i).1 ≤ (f i).2 ∧ (f i).2 ≤ 1700000000) : ∀ i, i < n →
    (gF f (i + 1)).1 ≤ i ∧ (gF f (i + 1)).2 = f (gF f (i + 1)).1 ∧ ∀ j, j ≤ i → (f j).1 * (gF f (i + 1)).2.2 ≤ (gF f (i + 1)).2.1 * (f j).2
  | 0, h => by
    have h0 := hf 0 h
    have e := gF_step (f := f) (i := 0) (by show 0 ≤ _; omega) (by show 1 ≤ _; omega) (by omega) (by omega)
    have g0 : gF f 0 = (0, (0, 1)) := rfl
    rw [g0] at e
    dsimp only at e
    rw [if_pos (by omega)] at e
    rw [e]
    refine ⟨Nat.le_refl _, rfl, fun j hj => ?_⟩
    obtain rfl : j = 0 := by omega
    exact Nat.le_refl _
  | i + 1, h => by
    obtain ⟨k1, k2, k3⟩ := gF_pick hf i (by omega)
    have hi := hf (i + 1) h
    have hg := hf (gF f (i + 1)).1 (by omega)
    rw [← k2] at hg
    have e := gF_step (f := f) (i := i + 1) (by omega) hg.2.2 (by omega) hi.2.2
    generalize gF f (i + 1) = G at *
    by_cases g : G.2.1 * (f (i + 1)).2 < (f (i + 1)).1 * G.2.2
    · rw [if_pos g] at e
      rw [e]
      refine ⟨Nat.le_refl _, rfl, fun j hj => ?_⟩
      show (f j).1 * (f (i + 1)).2 ≤ (f (i + 1)).1 * (f j).2
      by_cases hj' : j = i + 1
      · rw [hj']; exact Nat.le_refl _
      · have k := k3 j (by omega)
        generalize f (i + 1) = F at *
        generalize f j = J at *
        have hp : 0 < G.2.2 := by omega
        refine Nat.le_of_mul_le_mul_right ?_ hp
        calc J.1 * F.2 * G.2.2 = (J.1 * G.2.2) * F.2 := Nat.mul_right_comm ..
          _ ≤ (G.2.1 * J.2) * F.2 := Nat.mul_le_mul_right _ k
          _ = (G.2.1 * F.2) * J.2 := Nat.mul_right_comm ..
          _ ≤ (F.1 * G.2.2) * J.2 := Nat.mul_le_mul_right _ (Nat.le_of_lt g)
          _ = F.1 * J.2 * G.2.2 := Nat.mul_right_comm ..
    · rw [if_neg g] at e
      rw [e]
      refine ⟨by omega, k2, fun j hj => ?_⟩
      by_cases hj' : j = i + 1
      · subst hj'; omega
      · exact k3 j (by omega)
section
variable {s : List UInt8} (h : errF s = 0) (ws : List UInt8)
include h
theorem best_pick : bestF s ws ≤ (wordsF s).length ∧ ∀ j, j ≤ (wordsF s).length → (lkA s ws j).1 * (lkA s ws (bestF s ws)).2 ≤ (lkA s ws (bestF s ws)).1 * (lkA s ws j).2 := by
  obtain ⟨h1, h2, h3⟩ := gF_pick (f := lkA s ws) (n := (wordsF s).length + 1) (fun i hi => ⟨(lkA_ok ws (by omega)).1, (lkA_ok ws (by omega)).2, lkA_small h ws (by omega)⟩) (wordsF s).length (by omega)
  rw [h2] at h3
  exact ⟨h1, h3⟩
theorem gs_wrd (hin : inB s ws) : gsF s ws = wrdF s (bestF s ws) := by
  have := (best_pick h ws).1
  unfold gsF wrdF
  rw [if_pos hin]
  by_cases g : bestF s ws = 0
  · rw [if_pos (Or.inl g), if_pos g]
  · rw [if_neg (by omega), if_neg g]
end
end Go.Proofs.YtjfdlibceldanabGreatDoor
