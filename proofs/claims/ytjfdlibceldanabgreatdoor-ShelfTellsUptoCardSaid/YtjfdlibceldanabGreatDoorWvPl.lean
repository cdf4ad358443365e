/- Waves, plain: the levels' bits, and how a place goes down from level to level. No program in sight. Kinds, plain: the reference's kinds are the wave's. No program in sight. Kinds, plain: all that is counted kind by kind. No program in sight. -/
import Derived.Test.YtjfdlibceldanabGreatDoorBitsA
import Derived.Test.YtjfdlibceldanabGreatDoorStabA
/-! Waves, plain: the levels' bits, and how a place goes down from level to level. No program in sight. -/
namespace Go.Proofs.YtjfdlibceldanabGreatDoor.Wv
open Go.Proofs.YtjfdlibceldanabGreatDoor.Stab

/-- What a number begins with on a level. -/
def pre (deep L x : Nat) : Nat := x / 2 ^ (deep - L)
/-- A level's order: by what numbers begin with, otherwise as they stand; the parts below P. -/
def rows (deep L : Nat) (l : List Nat) (P : Nat) : List Nat := (List.range P).flatMap fun p => l.filter fun x => pre deep L x == p
def bitL (deep L x : Nat) : Bool := x / 2 ^ (deep - 1 - L) % 2 == 1
def rowsAt (deep : Nat) (l : List Nat) (L : Nat) : List Nat := rows deep L l (2 ^ L)
def bitsAt (deep : Nat) (l : List Nat) (L : Nat) : List Bool := (rowsAt deep l L).map (bitL deep L)
/-- How many begin with p, ahead of place i; how many begin with less. -/
def C (deep : Nat) (l : List Nat) (L p i : Nat) : Nat := (l.take i).countP fun x => pre deep L x == p
def F (deep : Nat) (l : List Nat) (L p : Nat) : Nat := l.countP fun x => decide (pre deep L x < p)

theorem pre_zero {deep x : Nat} (h : x < 2 ^ deep) : pre deep 0 x = 0 := Nat.div_eq_of_lt (by simpa using h)
theorem pre_deep (deep x : Nat) : pre deep deep x = x := by simp [pre]
theorem pre_step {deep L : Nat} (h : L < deep) (x : Nat) : pre deep L x = pre deep (L + 1) x / 2 := by
  unfold pre
  rw [Nat.div_div_eq_div_mul, ← Nat.pow_succ]
  congr 2; omega
theorem bit_step {deep L : Nat} (x : Nat) : bitL deep L x = (pre deep (L + 1) x % 2 == 1) := by
  unfold bitL pre
  congr 4; omega
theorem pre_lt {deep L x : Nat} (hL : L ≤ deep) (h : x < 2 ^ deep) : pre deep L x < 2 ^ L := by
  unfold pre
  rw [Nat.div_lt_iff_lt_mul (Nat.pow_pos (by omega)), ← Nat.pow_add]
  rwa [show L + (deep - L) = deep from by omega]

variable {deep : Nat} {l : List Nat}
theorem rows_succ (L P : Nat) : rows deep L l (P + 1) = rows deep L l P ++ l.filter fun x => pre deep L x == P := by
  unfold rows; rw [List.range_succ, List.flatMap_append]; simp
theorem F_succ (L p : Nat) : F deep l L (p + 1) = F deep l L p + C deep l L p l.length := by
  unfold F C
  rw [List.take_length]
  induction l with
  | nil => rfl
  | cons a t ih =>
    simp only [List.countP_cons, ih]
    by_cases h1 : pre deep L a < p
    · have h2 : pre deep L a < p + 1 := by omega
      have h3 : ¬ pre deep L a = p := by omega
      simp [h1, h2, h3]; omega
    · by_cases h3 : pre deep L a = p
      · simp [h3]; omega
      · have h2 : ¬ pre deep L a < p + 1 := by omega
        simp [h1, h2, h3]
theorem rows_length (L : Nat) : ∀ P, (rows deep L l P).length = F deep l L P
  | 0 => by simp [rows, F]
  | P + 1 => by
    rw [rows_succ, List.length_append, rows_length L P, F_succ]
    unfold C
    rw [List.take_length, List.countP_eq_length_filter]
theorem F_all {L P : Nat} (h : ∀ x ∈ l, pre deep L x < P) : F deep l L P = l.length := by
  unfold F
  rw [List.countP_eq_length]
  intro x hx; simpa using h x hx
theorem F_zero (L : Nat) : F deep l L 0 = 0 := by unfold F; simp
theorem F_le (L p : Nat) : F deep l L p ≤ l.length := List.countP_le_length
theorem F_mono {L p q : Nat} (h : p ≤ q) : F deep l L p ≤ F deep l L q := by
  unfold F
  refine List.countP_mono_left fun x _ hx => ?_
  simp at hx ⊢; omega
theorem C_mono {L p i j : Nat} (h : i ≤ j) : C deep l L p i ≤ C deep l L p j := by
  unfold C
  have : l.take j = l.take i ++ (l.drop i).take (j - i) := by rw [← List.take_add]; congr 1; omega
  rw [this, List.countP_append]; omega
theorem C_le (L p i : Nat) : C deep l L p i ≤ C deep l L p l.length := by
  by_cases h : i ≤ l.length
  · exact C_mono h
  · unfold C; rw [List.take_length, List.take_of_length_le (by omega)]; exact Nat.le_refl _
theorem C_le' (L p i : Nat) : C deep l L p i ≤ i := by
  unfold C
  exact Nat.le_trans List.countP_le_length (by rw [List.length_take]; omega)
theorem C_zero (hl : ∀ x ∈ l, x < 2 ^ deep) (i : Nat) : C deep l 0 0 i = min i l.length := by
  unfold C
  rw [List.countP_eq_length.2, List.length_take]
  intro x hx
  simp [pre_zero (hl x (List.mem_of_mem_take hx))]
theorem FC_le (L p i : Nat) : F deep l L p + C deep l L p i ≤ l.length := by
  have h1 := F_succ (deep := deep) (l := l) L p
  have h2 := C_le (deep := deep) (l := l) L p i
  have h3 := F_le (deep := deep) (l := l) L (p + 1)
  omega
theorem C_split {L : Nat} (h : L < deep) (p i : Nat) : C deep l L p i = C deep l (L + 1) (2 * p) i + C deep l (L + 1) (2 * p + 1) i := by
  unfold C
  generalize l.take i = t
  induction t with
  | nil => rfl
  | cons a t ih =>
    simp only [List.countP_cons, ih]
    have e := pre_step h a
    generalize pre deep (L + 1) a = q at *
    rw [e]
    by_cases h1 : q = 2 * p
    · simp [h1]; omega
    · by_cases h2 : q = 2 * p + 1
      · have : (2 * p + 1) / 2 = p := by omega
        simp [h2, this]; omega
      · have : ¬ q / 2 = p := by omega
        simp [h1, h2, this]
theorem F_even {L : Nat} (h : L < deep) (p : Nat) : F deep l (L + 1) (2 * p) = F deep l L p := by
  unfold F
  refine List.countP_congr fun x _ => ?_
  have e := pre_step h x
  simp; omega
theorem F_odd {L : Nat} (h : L < deep) (p : Nat) : F deep l (L + 1) (2 * p + 1) = F deep l L p + C deep l (L + 1) (2 * p) l.length := by
  rw [F_succ, F_even h]

/-- The front of a level's order, cut within a part. -/
theorem rows_take (L : Nat) : ∀ (P p i : Nat), p < P → (rows deep L l P).take (F deep l L p + C deep l L p i) = rows deep L l p ++ (l.take i).filter fun x => pre deep L x == p := by
  intro P
  induction P with
  | zero => intro p i h; omega
  | succ P ih =>
    intro p i h
    rw [rows_succ]
    by_cases hp : p < P
    · rw [List.take_append_of_le_length]
      · exact ih p i hp
      · rw [rows_length]
        have h1 := F_succ (deep := deep) (l := l) L p
        have h2 := C_le (deep := deep) (l := l) L p i
        have h3 := F_mono (deep := deep) (l := l) (L := L) (show p + 1 ≤ P by omega)
        omega
    · have : p = P := by omega
      subst this
      rw [← rows_length, List.take_append, List.take_of_length_le (by omega), Nat.add_sub_cancel_left]
      congr 1
      unfold C
      have e : l.filter (fun x => pre deep L x == p) = (l.take i).filter (fun x => pre deep L x == p) ++ (l.drop i).filter (fun x => pre deep L x == p) := by rw [← List.filter_append, List.take_append_drop]
      rw [e, List.countP_eq_length_filter, List.take_left]
theorem cnt_map {α : Type} (f : α → Bool) : ∀ t : List α, cnt (t.map f) = t.countP f
  | [] => rfl
  | a :: t => by simp only [List.map_cons, cnt, List.countP_cons, cnt_map f t]; omega
theorem filter_bit {L : Nat} (h : L < deep) (p : Nat) (t : List Nat) : (t.filter fun x => pre deep L x == p).countP (bitL deep L) = t.countP fun x => pre deep (L + 1) x == 2 * p + 1 := by
  rw [List.countP_filter]
  refine List.countP_congr fun x _ => ?_
  rw [bit_step, pre_step h]
  generalize pre deep (L + 1) x = q
  simp; omega
/-- How many ones there are ahead of a place of a part. -/
theorem ones_at {L p : Nat} (hL : L < deep) (hp : p < 2 ^ L) (i : Nat) :
    cnt ((bitsAt deep l L).take (F deep l L p + C deep l L p i)) = cnt ((bitsAt deep l L).take (F deep l L p)) + C deep l (L + 1) (2 * p + 1) i := by
  have h0 := rows_take (deep := deep) (l := l) L (2 ^ L) p 0 hp
  have h1 := rows_take (deep := deep) (l := l) L (2 ^ L) p i hp
  have c0 : C deep l L p 0 = 0 := by simp [C]
  rw [c0, Nat.add_zero] at h0
  unfold bitsAt rowsAt
  rw [← List.map_take, ← List.map_take, h0, h1, List.map_append, List.map_append, cnt_append, cnt_append, cnt_map _ ((l.take i).filter _), filter_bit hL]
  simp [cnt, C]
theorem ones_end {L p : Nat} (hL : L < deep) (hp : p < 2 ^ L) :
    cnt ((bitsAt deep l L).take (F deep l L (p + 1))) = cnt ((bitsAt deep l L).take (F deep l L p)) + C deep l (L + 1) (2 * p + 1) l.length := by
  rw [F_succ, ones_at hL hp]
theorem bitsAt_length (hl : ∀ x ∈ l, x < 2 ^ deep) {L : Nat} (hL : L ≤ deep) : (bitsAt deep l L).length = l.length := by
  unfold bitsAt rowsAt
  rw [List.length_map, rows_length, F_all fun x hx => pre_lt hL (hl x hx)]
/-- The bit at a number's own place. -/
theorem bit_at (hl : ∀ x ∈ l, x < 2 ^ deep) {L i : Nat} (hL : L < deep) (hi : i < l.length) :
    nth (bitsAt deep l L) (F deep l L (pre deep L (nth l i)) + C deep l L (pre deep L (nth l i)) i) = bitL deep L (nth l i) := by
  have hx : nth l i < 2 ^ deep := hl _ (nth_mem hi)
  have hp := pre_lt (Nat.le_of_lt hL) hx
  have h1 := rows_take (deep := deep) (l := l) L (2 ^ L) (pre deep L (nth l i)) (i + 1) hp
  have h0 := rows_take (deep := deep) (l := l) L (2 ^ L) (pre deep L (nth l i)) i hp
  have c1 : C deep l L (pre deep L (nth l i)) (i + 1) = C deep l L (pre deep L (nth l i)) i + 1 := by
    unfold C; rw [take_succ_nth l i hi, List.countP_append]; simp
  rw [c1, take_succ_nth l i hi, List.filter_append, ← List.append_assoc, ← h0] at h1
  have hlen : F deep l L (pre deep L (nth l i)) + C deep l L (pre deep L (nth l i)) i < (rows deep L l (2 ^ L)).length := by
    rw [rows_length, F_all fun x hx => pre_lt (Nat.le_of_lt hL) (hl x hx)]
    have := FC_le (deep := deep) (l := l) L (pre deep L (nth l i)) (i + 1)
    omega
  rw [← Nat.add_assoc, take_succ_nth _ _ hlen] at h1
  have h2 := List.append_cancel_left h1
  unfold bitsAt rowsAt
  have h3 : nth (rows deep L l (2 ^ L)) (F deep l L (pre deep L (nth l i)) + C deep l L (pre deep L (nth l i)) i) = nth l i := by simpa using h2
  rw [nth_lt (by rw [List.length_map]; exact hlen), List.getElem_map, ← nth_lt hlen, h3]

/-! ### Make's step: sorted once more, by one bit more -/
theorem rows_same (L P : Nat) (h : ∀ x ∈ l, pre deep L x < P) : SameRows (pre deep L) l (rows deep L l P) := by
  intro k
  unfold rows
  rw [List.filter_flatMap]
  have e : ∀ p, ((l.filter fun x => pre deep L x == p).filter fun x => pre deep L x == k) = if p = k then l.filter (fun x => pre deep L x == k) else [] := by
    intro p
    rw [List.filter_filter]
    split
    · rename_i g; subst g; simp
    · rename_i g
      rw [List.filter_eq_nil_iff]; intro x _; simp; omega
  simp only [e]
  have sum : ∀ Q, (List.range Q).flatMap (fun p => if p = k then l.filter (fun x => pre deep L x == k) else []) = if k < Q then l.filter (fun x => pre deep L x == k) else [] := by
    intro Q
    induction Q with
    | zero => simp
    | succ Q ih =>
      rw [List.range_succ, List.flatMap_append, ih]
      by_cases g : k < Q
      · rw [if_pos g, if_pos (by omega)]; simp; omega
      · by_cases g2 : k = Q
        · subst g2; simp
        · rw [if_neg g, if_neg (by omega)]; simp; omega
  rw [sum P]
  split
  · rfl
  · rename_i g
    rw [List.filter_eq_nil_iff]; intro x hx; have := h x hx; simp; omega
theorem rowsAt_mem {L : Nat} {x : Nat} (h : x ∈ rowsAt deep l L) : x ∈ l := by
  unfold rowsAt rows at h
  obtain ⟨p, _, hp⟩ := List.mem_flatMap.1 h
  exact (List.mem_filter.1 hp).1
theorem rowsAt_zero (hl : ∀ x ∈ l, x < 2 ^ deep) : rowsAt deep l 0 = l := by
  unfold rowsAt rows
  simp only [Nat.pow_zero, List.range_one, List.flatMap_cons, List.flatMap_nil, List.append_nil]
  rw [List.filter_eq_self]
  intro x hx; simp [pre_zero (hl x hx)]
theorem rowsAt_step (hl : ∀ x ∈ l, x < 2 ^ deep) {L : Nat} (hL : L < deep) : rows deep (L + 1) (rowsAt deep l L) (2 ^ (L + 1)) = rowsAt deep l (L + 1) := by
  have h := rows_same (deep := deep) (l := l) L (2 ^ L) fun x hx => pre_lt (Nat.le_of_lt hL) (hl x hx)
  have g := SameRows.finer (fine := pre deep (L + 1)) h (· / 2) (fun x => pre_step hL x)
  unfold rowsAt
  conv => lhs; unfold rows
  conv => rhs; unfold rows
  rw [List.flatMap_def, List.flatMap_def]
  exact congrArg _ (List.map_congr_left fun p _ => (g p).symm)

/-! ### Kinds -/
def kindsT (deep : Nat) (l : List Nat) (f t : Nat) : Nat → Nat → List Nat
  | 0, p => if C deep l deep p t ≤ C deep l deep p f then [] else [p]
  | k + 1, p => if C deep l (deep - (k + 1)) p t ≤ C deep l (deep - (k + 1)) p f then [] else kindsT deep l f t k (2 * p) ++ kindsT deep l f t k (2 * p + 1)
theorem C_down {L : Nat} (h : L < deep) {p f t : Nat} (g : C deep l L p t ≤ C deep l L p f) : C deep l (L + 1) (2 * p) t ≤ C deep l (L + 1) (2 * p) f ∧ C deep l (L + 1) (2 * p + 1) t ≤ C deep l (L + 1) (2 * p + 1) f := by
  rcases Nat.le_total t f with a | a
  · exact ⟨C_mono a, C_mono a⟩
  · have h1 := C_mono (deep := deep) (l := l) (L := L + 1) (p := 2 * p) a
    have h2 := C_mono (deep := deep) (l := l) (L := L + 1) (p := 2 * p + 1) a
    have h3 := C_split (l := l) h p t
    have h4 := C_split (l := l) h p f
    omega
theorem kindsT_eq (f t : Nat) : ∀ (k p : Nat), k ≤ deep → kindsT deep l f t k p = ((List.range (2 ^ k)).map (p * 2 ^ k + ·)).filter fun v => decide (C deep l deep v f < C deep l deep v t)
  | 0, p, _ => by
    unfold kindsT
    by_cases h : C deep l deep p t ≤ C deep l deep p f
    · rw [if_pos h]
      have : ¬ C deep l deep p f < C deep l deep p t := by omega
      simp [this]
    · rw [if_neg h]
      have : C deep l deep p f < C deep l deep p t := by omega
      simp [this]
  | k + 1, p, hk => by
    have e : ((List.range (2 ^ (k + 1))).map (p * 2 ^ (k + 1) + ·)) = ((List.range (2 ^ k)).map (2 * p * 2 ^ k + ·)) ++ ((List.range (2 ^ k)).map ((2 * p + 1) * 2 ^ k + ·)) := by
      rw [show 2 ^ (k + 1) = 2 ^ k + 2 ^ k from by rw [Nat.pow_succ]; omega, List.range_add, List.map_append, List.map_map]
      refine congr (congrArg _ (List.map_congr_left fun x _ => ?_)) (List.map_congr_left fun x _ => ?_)
      · rw [Nat.mul_add, Nat.mul_comm 2 p, Nat.mul_assoc, Nat.two_mul, Nat.mul_add]
      · simp only [Function.comp_apply]
        rw [Nat.mul_add, Nat.add_mul, Nat.mul_comm 2 p, Nat.mul_assoc, Nat.two_mul, Nat.mul_add]; omega
    rw [kindsT, e, List.filter_append, ← kindsT_eq f t k (2 * p) (by omega), ← kindsT_eq f t k (2 * p + 1) (by omega)]
    split
    · rename_i h
      have down : ∀ (k' q : Nat), k' ≤ deep → C deep l (deep - k') q t ≤ C deep l (deep - k') q f → kindsT deep l f t k' q = [] := by
        intro k' q hk' g
        cases k' with
        | zero => rw [kindsT, if_pos (by simpa using g)]
        | succ k' => rw [kindsT, if_pos g]
      have g := C_down (L := deep - (k + 1)) (by omega) h
      rw [show deep - (k + 1) + 1 = deep - k from by omega] at g
      rw [down k _ (by omega) g.1, down k _ (by omega) g.2]; rfl
    · rfl
theorem C_deep (v i : Nat) : C deep l deep v i = (l.take i).count v := by
  unfold C
  simp only [pre_deep]
  rfl
theorem kinds_all (f t : Nat) : kindsT deep l f t deep 0 = (List.range (2 ^ deep)).filter fun v => decide ((l.take f).count v < (l.take t).count v) := by
  rw [kindsT_eq f t deep 0 (Nat.le_refl _)]
  simp only [Nat.zero_mul, Nat.zero_add, C_deep]
  congr 1
  exact List.map_id' _
end Go.Proofs.YtjfdlibceldanabGreatDoor.Wv

/-! Kinds, plain: the reference's kinds are the wave's. No program in sight. -/
namespace Go.Proofs.YtjfdlibceldanabGreatDoor.Wv

/-- A place, held between 0 and the length. -/
def cl (i : Int) (n : Nat) : Nat := min i.toNat n
def found (l : List Nat) (f0 t0 v : Int) (k : Nat) : Bool := (List.range k).any fun a => decide (((nth l a : Nat) : Int) = v) && (decide (f0 ≤ a) && decide ((a : Int) < t0))
def kindsRef (l : List Nat) (f0 t0 : Int) : List Nat := (List.range 2050).filter fun v => found l f0 t0 v l.length
theorem found_iff (l : List Nat) (f0 t0 : Int) (v : Nat) : found l f0 t0 v l.length = true ↔ ∃ a, a < l.length ∧ nth l a = v ∧ f0 ≤ a ∧ (a : Int) < t0 := by
  unfold found
  simp only [List.any_eq_true, List.mem_range, Bool.and_eq_true, decide_eq_true_eq]
  constructor
  · rintro ⟨a, h1, h2, h3, h4⟩; exact ⟨a, h1, by omega, h3, h4⟩
  · rintro ⟨a, h1, h2, h3, h4⟩; exact ⟨a, h1, by omega, h3, h4⟩
theorem count_iff (l : List Nat) (f t v : Nat) : (l.take f).count v < (l.take t).count v ↔ ∃ a, a < l.length ∧ nth l a = v ∧ f ≤ a ∧ a < t := by
  by_cases h : f ≤ t
  · have e : l.take t = l.take f ++ (l.drop f).take (t - f) := by rw [← List.take_add]; congr 1; omega
    rw [e, List.count_append]
    have : (l.take f).count v < (l.take f).count v + ((l.drop f).take (t - f)).count v ↔ v ∈ (l.drop f).take (t - f) := by
      rw [← List.count_pos_iff]; omega
    rw [this]
    constructor
    · intro hm
      obtain ⟨k, hk, hke⟩ := List.getElem_of_mem hm
      rw [List.length_take, List.length_drop] at hk
      refine ⟨f + k, by omega, ?_, by omega, by omega⟩
      rw [List.getElem_take, List.getElem_drop] at hke
      rw [nth_lt (by omega)]; exact hke
    · rintro ⟨a, h1, h2, h3, h4⟩
      have : ((l.drop f).take (t - f))[a - f]? = some v := by
        rw [List.getElem?_take_of_lt (by omega), List.getElem?_drop, show f + (a - f) = a from by omega, List.getElem?_eq_getElem h1, ← nth_lt h1, h2]
      exact List.mem_of_getElem? this
  · constructor
    · intro hc
      have := List.Sublist.count_le v (List.take_sublist_take_left (l := l) (show t ≤ f by omega))
      omega
    · rintro ⟨a, h1, h2, h3, h4⟩; omega
theorem kindsRef_eq {deep : Nat} {l : List Nat} (hl : ∀ x ∈ l, x < 2 ^ deep) (hd : deep ≤ 11) (f0 t0 : Int) : kindsRef l f0 t0 = kindsT deep l (cl f0 l.length) (cl t0 l.length) deep 0 := by
  rw [kinds_all]
  unfold kindsRef
  have e : ∀ v : Nat, found l f0 t0 v l.length = decide ((l.take (cl f0 l.length)).count v < (l.take (cl t0 l.length)).count v) := by
    intro v
    rw [Bool.eq_iff_iff, found_iff, decide_eq_true_iff, count_iff]
    unfold cl
    constructor
    · rintro ⟨a, h1, h2, h3, h4⟩; exact ⟨a, h1, h2, by omega, by omega⟩
    · rintro ⟨a, h1, h2, h3, h4⟩; exact ⟨a, h1, h2, by omega, by omega⟩
  simp only [e]
  have hp : 2 ^ deep ≤ 2048 := by
    have := Nat.pow_le_pow_right (show 0 < 2 by omega) hd
    simpa using this
  obtain ⟨r, hr⟩ : ∃ r, 2050 = 2 ^ deep + r := ⟨2050 - 2 ^ deep, by omega⟩
  rw [hr, List.range_add, List.filter_append]
  have : ((List.range r).map (2 ^ deep + ·)).filter (fun v => decide ((l.take (cl f0 l.length)).count v < (l.take (cl t0 l.length)).count v)) = [] := by
    rw [List.filter_eq_nil_iff]
    intro v hv
    obtain ⟨k, _, rfl⟩ := List.mem_map.1 hv
    simp only [decide_eq_true_eq, count_iff]
    rintro ⟨a, h1, h2, _⟩
    have := hl _ (nth_mem h1)
    omega
  rw [this, List.append_nil]
end Go.Proofs.YtjfdlibceldanabGreatDoor.Wv

/-! Kinds, plain: all that is counted kind by kind. No program in sight. -/
namespace Go.Proofs.YtjfdlibceldanabGreatDoor.Wv
def selK (l : List Nat) (f t N : Nat) : List Nat := (List.range N).filter fun v => decide ((l.take f).count v < (l.take t).count v)
theorem selK_lt (l : List Nat) (f t N j : Nat) (h : j < (selK l f t N).length) : (l.take f).count (nth (selK l f t N) j) < (l.take t).count (nth (selK l f t N) j) := by
  have := (List.mem_filter.1 (show nth (selK l f t N) j ∈ (List.range N).filter fun v => decide ((l.take f).count v < (l.take t).count v) from nth_mem h)).2
  exact of_decide_eq_true this
theorem selK_up (l : List Nat) (f t N j : Nat) (h : j + 1 < (selK l f t N).length) : nth (selK l f t N) j < nth (selK l f t N) (j + 1) := by
  have hp : (selK l f t N).Pairwise (· < ·) := List.Pairwise.filter _ List.pairwise_lt_range
  rw [nth_lt h, nth_lt (by omega)]
  exact List.pairwise_iff_getElem.1 hp j (j + 1) (by omega) h (by omega)
theorem selK_mem (l : List Nat) (f t N j : Nat) (h : j < (selK l f t N).length) : nth (selK l f t N) j < N := by
  have := (List.mem_filter.1 (show nth (selK l f t N) j ∈ (List.range N).filter fun v => decide ((l.take f).count v < (l.take t).count v) from nth_mem h)).1
  exact List.mem_range.1 this
theorem sum_count (s : List Nat) (N : Nat) (h : ∀ x ∈ s, x < N) : ((List.range N).map fun v => s.count v).sum = s.length := by
  induction s with
  | nil => 
    have : ∀ m, ((List.range m).map fun v => ([] : List Nat).count v).sum = 0 := by
      intro m
      induction m with
      | zero => rfl
      | succ m ih => rw [List.range_succ, List.map_append, List.sum_append, ih]; simp
    rw [this]; rfl
  | cons a t ih =>
    have ht := ih fun x hx => h x (List.mem_cons_of_mem _ hx)
    have ha : a < N := h a (List.mem_cons_self ..)
    have key : ∀ m, ((List.range m).map fun v => (a :: t).count v).sum = ((List.range m).map fun v => t.count v).sum + if a < m then 1 else 0 := by
      intro m
      induction m with
      | zero => simp
      | succ m ih2 =>
        rw [List.range_succ, List.map_append, List.sum_append, List.map_append, List.sum_append, ih2]
        simp only [List.map_cons, List.map_nil, List.sum_cons, List.sum_nil, List.count_cons]
        by_cases e : a = m
        · subst e; simp; omega
        · have e2 : (a == m) = false := by simpa using e
          rw [e2]
          by_cases g : a < m
          · simp [g, show a < m + 1 by omega]; omega
          · simp [g, show ¬ a < m + 1 by omega]
    rw [key, ht, if_pos ha]; rfl
theorem sum_filter (g : Nat → Nat) (p : Nat → Bool) (hp : ∀ v, p v = false → g v = 0) : ∀ l : List Nat, ((l.filter p).map g).sum = (l.map g).sum
  | [] => rfl
  | a :: t => by
    have ih := sum_filter g p hp t
    cases h : p a with
    | true => rw [List.filter_cons_of_pos h]; simp [ih]
    | false => rw [List.filter_cons_of_neg (by simp [h])]; simp [ih, hp a h]
theorem selK_sum (l : List Nat) (f t N : Nat) (ht : t ≤ l.length) (h : ∀ x ∈ l, x < N) : ((selK l f t N).map fun v => (l.take t).count v - (l.take f).count v).sum = t - f := by
  unfold selK
  rw [sum_filter (fun v => (l.take t).count v - (l.take f).count v) _ (by intro v hv; simp at hv; show (l.take t).count v - (l.take f).count v = 0; omega)]
  by_cases hft : f ≤ t
  · have e : l.take t = l.take f ++ (l.drop f).take (t - f) := by rw [← List.take_add]; congr 1; omega
    have e2 : (fun v => (l.take t).count v - (l.take f).count v) = fun v => ((l.drop f).take (t - f)).count v := by
      funext v; rw [e, List.count_append]; omega
    rw [e2, sum_count]
    · rw [List.length_take, List.length_drop]; omega
    · intro x hx; exact h x (List.mem_of_mem_drop (List.mem_of_mem_take hx))
  · have e2 : (fun v => (l.take t).count v - (l.take f).count v) = fun _ => 0 := by
      funext v
      have := List.Sublist.count_le v (List.take_sublist_take_left (l := l) (show t ≤ f by omega))
      omega
    rw [e2]
    have : ∀ s : List Nat, (s.map fun _ => 0).sum = 0 := by
      intro s; induction s with
      | nil => rfl
      | cons a t ih => rw [List.map_cons, List.sum_cons, ih]
    rw [this]; omega
/-- The sum of the first k. -/
def sumK (l : List Nat) (f t : Nat) (ks : List Nat) (k : Nat) : Nat := ((ks.take k).map fun v => (l.take t).count v - (l.take f).count v).sum
theorem take_succ_nthK (l : List Nat) (k : Nat) (h : k < l.length) : l.take (k + 1) = l.take k ++ [nth l k] := by
  rw [List.take_succ_eq_append_getElem h, nth_lt h]
theorem sumK_succ (l : List Nat) (f t : Nat) (ks : List Nat) (k : Nat) (h : k < ks.length) : sumK l f t ks (k + 1) = sumK l f t ks k + ((l.take t).count (nth ks k) - (l.take f).count (nth ks k)) := by
  unfold sumK
  rw [take_succ_nthK ks k h, List.map_append, List.sum_append]; simp

theorem kinds_sel {deep : Nat} {l : List Nat} (f t : Nat) : kindsT deep l f t deep 0 = selK l f t (2 ^ deep) := kinds_all f t
end Go.Proofs.YtjfdlibceldanabGreatDoor.Wv
