/- The stable sort, plain law: what slices' stable sort does to a row, step by step, and that it sorts it and keeps each key's rows. No program in sight. -/
import Derived.Test.YtjfdlibceldanaaStab
import Derived.Sort.LotA
namespace Go.Proofs.Ytjfdlibceldanaa.Stab
open Go.Sort
variable {α : Type} [Inhabited α]

/-! ### The steps, as functions on arrays -/
def swpN (d : Array α) (a b : Nat) : Nat → Array α
  | 0 => d
  | n + 1 => swp (swpN d a b n) (a + n) (b + n)
theorem size_swpN (d : Array α) (a b n : Nat) : (swpN d a b n).size = d.size := by
  induction n with
  | zero => rfl
  | succ n ih => rw [swpN, size_swp, ih]
def rot (d : Array α) (m i j : Nat) : Array α :=
  if i = 0 ∨ j = 0 then d
  else if i = j then swpN d (m - i) m i
  else if j < i then rot (swpN d (m - i) m j) m (i - j) j
  else rot (swpN d (m - i) (m + j - i) i) m i (j - i)
termination_by i + j
/-- A search by halves: the first place from i on, ahead of j, at which p no longer holds. -/
def bs (p : Nat → Bool) (i j : Nat) : Nat :=
  if i < j then (if p ((i + j) / 2) then bs p ((i + j) / 2 + 1) j else bs p i ((i + j) / 2)) else i
termination_by j - i
def bubR (d : Array α) (k e : Nat) : Array α := if k < e then bubR (swp d k (k + 1)) (k + 1) e else d
termination_by e - k
def bubL (d : Array α) (i : Nat) : Nat → Array α
  | 0 => d
  | k + 1 => if i < k + 1 then bubL (swp d (k + 1) k) i k else d
def symStart (lt : α → α → Bool) (d : Array α) (a m b : Nat) : Nat :=
  bs (fun c => !lt d[(a + b) / 2 + m - 1 - c]! d[c]!) (if (a + b) / 2 < m then (a + b) / 2 + m - b else a) (if (a + b) / 2 < m then (a + b) / 2 else m)
def symM (lt : α → α → Bool) : Nat → Array α → Nat → Nat → Nat → Array α
  | 0, d, _, _, _ => d
  | f + 1, d, a, m, b =>
    if m - a = 1 then bubR d a (bs (fun h => lt d[h]! d[a]!) m b - 1)
    else if b - m = 1 then bubL d (bs (fun h => !lt d[m]! d[h]!) a m) m
    else
      let s := symStart lt d a m b
      let e := (a + b) / 2 + m - s
      let d1 := rot d m (m - s) (e - m)
      let d2 := if a < s ∧ s < (a + b) / 2 then symM lt f d1 a s ((a + b) / 2) else d1
      if (a + b) / 2 < e ∧ e < b then symM lt f d2 ((a + b) / 2) e b else d2
/-- The blocks, sorted by insertion. -/
def blocks (lt : α → α → Bool) (n : Nat) (a : Nat) (d : Array α) : Array α :=
  if a + 20 ≤ n then blocks lt n (a + 20) (insertionSort lt d a (a + 20)) else insertionSort lt d a n
termination_by n - a
def pass (lt : α → α → Bool) (n z : Nat) : Nat → Nat → Array α → Array α
  | 0, _, d => d
  | f + 1, a, d => if a + 2 * z ≤ n then pass lt n z f (a + 2 * z) (symM lt (2 * z) d a (a + z) (a + 2 * z)) else if a + z < n then symM lt (n - a) d a (a + z) n else d
def levels (lt : α → α → Bool) (n : Nat) : Nat → Nat → Array α → Array α
  | 0, _, d => d
  | f + 1, z, d => if z < n then levels lt n f (2 * z) (pass lt n z (n + 1) 0 d) else d
def stableS (lt : α → α → Bool) (d : Array α) : Array α := levels lt d.size (d.size + 1) 20 (blocks lt d.size 0 d)

/-! ### What they leave -/
theorem get_swpN (d : Array α) (a b n : Nat) (hab : a + n ≤ b) (hb : b + n ≤ d.size) (k : Nat) :
    (swpN d a b n)[k]! = if a ≤ k ∧ k < a + n then d[k - a + b]! else if b ≤ k ∧ k < b + n then d[k - b + a]! else d[k]! := by
  induction n generalizing k with
  | zero => rw [swpN, if_neg (by omega), if_neg (by omega)]
  | succ n ih =>
    have ih := ih (by omega) (by omega)
    rw [swpN, swp_get _ (by rw [size_swpN]; omega) (by rw [size_swpN]; omega)]
    by_cases h1 : k = b + n
    · rw [if_pos h1, ih, if_neg (by omega), if_neg (by omega), if_neg (by omega), if_pos (by omega)]; congr 1; omega
    · rw [if_neg h1]
      by_cases h2 : k = a + n
      · rw [if_pos h2, ih, if_neg (by omega), if_neg (by omega), if_pos (by omega)]; congr 1; omega
      · rw [if_neg h2, ih]
        by_cases h3 : a ≤ k ∧ k < a + n
        · rw [if_pos h3, if_pos (by omega)]
        · rw [if_neg h3]
          by_cases h4 : b ≤ k ∧ k < b + n
          · rw [if_pos h4, if_neg (by omega), if_pos (by omega)]
          · rw [if_neg h4, if_neg (by omega), if_neg (by omega)]

/-- d' is d with the i places ahead of m and the j from m on exchanged as wholes. -/
structure Exch (m i j : Nat) (d d' : Array α) : Prop where
  size : d'.size = d.size
  out : ∀ k, k < m - i ∨ m + j ≤ k → d'[k]! = d[k]!
  fst : ∀ k, m - i ≤ k → k < m - i + j → d'[k]! = d[k + i]!
  snd : ∀ k, m - i + j ≤ k → k < m + j → d'[k]! = d[k - j]!
theorem Exch.refl_left (m j : Nat) (d : Array α) : Exch m 0 j d d := ⟨rfl, fun _ _ => rfl, fun k _ _ => rfl, fun k h1 h2 => by omega⟩
theorem Exch.refl_right (m i : Nat) (d : Array α) : Exch m i 0 d d := ⟨rfl, fun _ _ => rfl, fun k h1 h2 => by omega, fun k h1 h2 => rfl⟩
theorem size_rot (d : Array α) (m i j : Nat) : (rot d m i j).size = d.size := by
  fun_induction rot d m i j with
  | case1 => rfl
  | case2 => exact size_swpN ..
  | case3 _ _ _ _ _ _ ih => rw [ih, size_swpN]
  | case4 _ _ _ _ _ _ ih => rw [ih, size_swpN]
theorem rot_exch (m : Nat) : ∀ (t i j : Nat) (d : Array α), i + j ≤ t → i ≤ m → m + j ≤ d.size → Exch m i j d (rot d m i j) := by
  intro t
  induction t with
  | zero =>
    intro i j d h _ _
    have : i = 0 := by omega
    subst this
    rw [rot, if_pos (.inl rfl)]
    exact Exch.refl_left ..
  | succ t ih =>
    intro i j d ht hi hj
    rw [rot]
    by_cases h0 : i = 0 ∨ j = 0
    · rw [if_pos h0]
      rcases h0 with rfl | rfl
      · exact Exch.refl_left ..
      · exact Exch.refl_right _ _ _
    · rw [if_neg h0]
      by_cases h1 : i = j
      · subst h1
        rw [if_pos rfl]
        have g := get_swpN d (m - i) m i (by omega) (by omega)
        refine ⟨size_swpN .., fun k hk => ?_, fun k a b => ?_, fun k a b => ?_⟩
        · rw [g, if_neg (by omega), if_neg (by omega)]
        · rw [g, if_pos (by omega)]; congr 1; omega
        · rw [g, if_neg (by omega), if_pos (by omega)]; congr 1; omega
      · rw [if_neg h1]
        by_cases h2 : j < i
        · rw [if_pos h2]
          have g := get_swpN d (m - i) m j (by omega) (by omega)
          have e := ih (i - j) j (swpN d (m - i) m j) (by omega) (by omega) (by rw [size_swpN]; exact hj)
          refine ⟨e.size.trans (size_swpN ..), fun k hk => ?_, fun k a b => ?_, fun k a b => ?_⟩
          · rw [e.out k (by omega), g, if_neg (by omega), if_neg (by omega)]
          · rw [e.out k (by omega), g, if_pos (by omega)]; congr 1; omega
          · by_cases h3 : k < m - (i - j) + j
            · rw [e.fst k (by omega) (by omega), g, if_neg (by omega)]
              by_cases h4 : m ≤ k + (i - j)
              · rw [if_pos (by omega)]; congr 1; omega
              · rw [if_neg (by omega)]; congr 1; omega
            · rw [e.snd k (by omega) (by omega), g, if_neg (by omega), if_neg (by omega)]
        · rw [if_neg h2]
          have g := get_swpN d (m - i) (m + j - i) i (by omega) (by omega)
          have e := ih i (j - i) (swpN d (m - i) (m + j - i) i) (by omega) (by omega) (by rw [size_swpN]; omega)
          refine ⟨e.size.trans (size_swpN ..), fun k hk => ?_, fun k a b => ?_, fun k a b => ?_⟩
          · by_cases h3 : m + j ≤ k
            · rw [e.out k (by omega), g, if_neg (by omega), if_neg (by omega)]
            · rw [e.out k (by omega), g, if_neg (by omega), if_neg (by omega)]
          · by_cases h3 : k < m - i + (j - i)
            · rw [e.fst k (by omega) (by omega), g, if_neg (by omega), if_neg (by omega)]
            · rw [e.snd k (by omega) (by omega), g, if_pos (by omega)]; congr 1; omega
          · rw [e.out k (by omega), g, if_neg (by omega), if_pos (by omega)]; congr 1; omega

theorem toList_range (d : Array α) : d.toList = (List.range' 0 d.size).map (d[·]!) := by
  have := extract_toList d 0 d.size (Nat.le_refl _)
  simpa using this
theorem Exch.map_fst {m i j : Nat} {d d' : Array α} (h : Exch m i j d d') (hi : i ≤ m) : (List.range' (m - i) j).map (d'[·]!) = (List.range' m j).map (d[·]!) := by
  apply List.ext_getElem
  · simp
  · intro k h1 h2
    simp only [List.getElem_map, List.getElem_range']
    have : k < j := by simpa using h1
    rw [h.fst _ (by omega) (by omega)]; congr 1; omega
theorem Exch.map_snd {m i j : Nat} {d d' : Array α} (h : Exch m i j d d') (hi : i ≤ m) : (List.range' (m - i + j) i).map (d'[·]!) = (List.range' (m - i) i).map (d[·]!) := by
  apply List.ext_getElem
  · simp
  · intro k h1 h2
    simp only [List.getElem_map, List.getElem_range']
    have : k < i := by simpa using h1
    rw [h.snd _ (by omega) (by omega)]; congr 1; omega
theorem Exch.lists {m i j : Nat} {d d' : Array α} (h : Exch m i j d d') (hi : i ≤ m) (hj : m + j ≤ d.size) :
    ∃ p u v s, d.toList = p ++ ((u ++ v) ++ s) ∧ d'.toList = p ++ ((v ++ u) ++ s) ∧ u = (List.range' (m - i) i).map (d[·]!) ∧ v = (List.range' m j).map (d[·]!) := by
  refine ⟨(List.range' 0 (m - i)).map (d[·]!), _, _, (List.range' (m + j) (d.size - (m + j))).map (d[·]!), ?_, ?_, rfl, rfl⟩
  · rw [toList_range d]
    rw [← List.map_append, ← List.map_append, ← List.map_append]
    congr 1
    rw [show m = (m - i) + i from by omega, show m - i + i - i = m - i from by omega]
    rw [List.range'_append_1, show m - i + i + j = m - i + (i + j) from by omega, List.range'_append_1]
    have := List.range'_append_1 (s := 0) (m := m - i) (n := i + j + (d.size - (m - i + (i + j))))
    rw [Nat.zero_add] at this
    rw [this]
    congr 1; omega
  · rw [toList_range d', h.size]
    have e1 : (List.range' 0 (m - i)).map (d[·]!) = (List.range' 0 (m - i)).map (d'[·]!) := by
      apply List.map_congr_left; intro k hk; have := List.mem_range'_1.1 hk; exact (h.out k (by omega)).symm
    have e2 := (h.map_fst hi).symm
    have e3 := (h.map_snd hi).symm
    have e4 : (List.range' (m + j) (d.size - (m + j))).map (d[·]!) = (List.range' (m + j) (d.size - (m + j))).map (d'[·]!) := by
      apply List.map_congr_left; intro k hk; have := List.mem_range'_1.1 hk; exact (h.out k (by omega)).symm
    rw [e1, e2, e3, e4, ← List.map_append, ← List.map_append, ← List.map_append]
    congr 1
    rw [List.range'_append_1, show m + j = m - i + (j + i) from by omega, List.range'_append_1]
    have := List.range'_append_1 (s := 0) (m := m - i) (n := j + i + (d.size - (m - i + (j + i))))
    rw [Nat.zero_add] at this
    rw [this]
    congr 1; omega

variable (key : α → Nat)
def ltk (x y : α) : Bool := decide (key x < key y)
omit [Inhabited α] in
theorem swo_ltk : SWO (ltk key) := ⟨fun x => by simp [ltk], fun x y z h1 h2 => by simp [ltk] at *; omega, fun x y z h1 h2 => by simp [ltk] at *; omega⟩
/-- Permuted within a ≤ i < b, and each key's rows are kept. -/
def Stb (a b : Nat) (d d' : Array α) : Prop := PermIn a b d d' ∧ SameRows key d.toList d'.toList
variable {key}
theorem Stb.refl (a b : Nat) (d : Array α) : Stb key a b d d := ⟨permIn_refl _ _ _, SameRows.refl _ _⟩
theorem Stb.trans {a b : Nat} {d d' d'' : Array α} (h : Stb key a b d d') (g : Stb key a b d' d'') : Stb key a b d d'' := ⟨permIn_trans _ _ _ _ _ h.1 g.1, h.2.trans g.2⟩
theorem Stb.mono {a b a' b' : Nat} {d d' : Array α} (h : Stb key a b d d') (h1 : a' ≤ a) (h2 : b ≤ b') (h3 : b' ≤ d.size) : Stb key a' b' d d' := ⟨permIn_mono _ _ _ _ _ _ h1 h2 h3 h.1, h.2⟩
theorem Stb.size {a b : Nat} {d d' : Array α} (h : Stb key a b d d') : d'.size = d.size := h.1.1
theorem Exch.stb {m i j : Nat} {d d' : Array α} (h : Exch m i j d d') (hi : i ≤ m) (hj : m + j ≤ d.size) (hk : ∀ x y, m - i ≤ x → x < m → m ≤ y → y < m + j → key d[y]! < key d[x]!) : Stb key (m - i) (m + j) d d' := by
  obtain ⟨p, u, v, s, e1, e2, hu, hv⟩ := h.lists hi hj
  refine ⟨⟨h.size, fun k hk => h.out k hk, ?_⟩, ?_⟩
  · rw [extract_toList d _ _ hj, extract_toList d' _ _ (by rw [h.size]; exact hj)]
    rw [show m + j - (m - i) = i + j from by omega]
    have r1 : List.range' (m - i) (i + j) = List.range' (m - i) i ++ List.range' m j := by
      have := List.range'_append_1 (s := m - i) (m := i) (n := j)
      rw [← this]; congr 2; omega
    have r2 : List.range' (m - i) (i + j) = List.range' (m - i) j ++ List.range' (m - i + j) i := by
      rw [List.range'_append_1, Nat.add_comm j i]
    have q1 : (List.range' (m - i) (i + j)).map (d'[·]!) = v ++ u := by rw [r2, List.map_append, h.map_fst hi, h.map_snd hi, hu, hv]
    have q2 : (List.range' (m - i) (i + j)).map (d[·]!) = u ++ v := by rw [r1, List.map_append, hu, hv]
    rw [q1, q2]
    exact List.perm_append_comm
  · rw [e1, e2]
    refine (SameRows.refl _ _).app ((SameRows.swap ?_).app (SameRows.refl _ _))
    intro x hx y hy
    subst hu hv
    obtain ⟨k1, g1, rfl⟩ := List.mem_map.1 hx
    obtain ⟨k2, g2, rfl⟩ := List.mem_map.1 hy
    have := List.mem_range'_1.1 g1
    have := List.mem_range'_1.1 g2
    exact hk _ _ (by omega) (by omega) (by omega) (by omega)

/-! ### The searches and the two insertions -/
theorem bs_spec (p : Nat → Bool) : ∀ (t i j : Nat), j - i ≤ t → i ≤ j → (∀ x y, i ≤ x → x ≤ y → y < j → p y = true → p x = true) →
    i ≤ bs p i j ∧ bs p i j ≤ j ∧ (∀ x, i ≤ x → x < bs p i j → p x = true) ∧ (∀ x, bs p i j ≤ x → x < j → p x = false) := by
  intro t
  induction t with
  | zero =>
    intro i j h hij _
    rw [bs, if_neg (by omega)]
    exact ⟨Nat.le_refl _, hij, fun x a b => by omega, fun x a b => by omega⟩
  | succ t ih =>
    intro i j h hij hm
    rw [bs]
    by_cases g : i < j
    · rw [if_pos g]
      by_cases hp : p ((i + j) / 2) = true
      · rw [if_pos hp]
        obtain ⟨a1, a2, a3, a4⟩ := ih ((i + j) / 2 + 1) j (by omega) (by omega) (fun x y h1 h2 h3 => hm x y (by omega) h2 h3)
        refine ⟨by omega, a2, fun x h1 h2 => ?_, a4⟩
        by_cases hx : x ≤ (i + j) / 2
        · exact hm x _ h1 hx (by omega) hp
        · exact a3 x (by omega) h2
      · rw [if_neg hp]
        obtain ⟨a1, a2, a3, a4⟩ := ih i ((i + j) / 2) (by omega) (by omega) (fun x y h1 h2 h3 => hm x y h1 h2 (by omega))
        refine ⟨a1, by omega, a3, fun x h1 h2 => ?_⟩
        by_cases hx : x < (i + j) / 2
        · exact a4 x h1 hx
        · by_cases hpx : p x = true
          · exact absurd (hm _ x (by omega) (by omega) h2 hpx) hp
          · simpa using hpx
    · rw [if_neg g]
      exact ⟨Nat.le_refl _, hij, fun x a b => by omega, fun x a b => by omega⟩
theorem size_bubR (d : Array α) (k e : Nat) : (bubR d k e).size = d.size := by
  fun_induction bubR d k e with
  | case1 _ _ _ ih => rw [ih, size_swp]
  | case2 => rfl
theorem size_bubL (d : Array α) (i k : Nat) : (bubL d i k).size = d.size := by
  induction k generalizing d with
  | zero => rfl
  | succ k ih => rw [bubL]; split <;> simp [ih, size_swp]
theorem bubR_exch : ∀ (t k e : Nat) (d : Array α), e - k ≤ t → k ≤ e → e < d.size → Exch (k + 1) 1 (e - k) d (bubR d k e) := by
  intro t
  induction t with
  | zero =>
    intro k e d h hk _
    have : e = k := by omega
    subst this
    rw [bubR, if_neg (by omega), Nat.sub_self]
    exact Exch.refl_right _ _ _
  | succ t ih =>
    intro k e d h hk he
    rw [bubR]
    by_cases g : k < e
    · rw [if_pos g]
      have q := swp_get d (i := k) (j := k + 1) (by omega) (by omega)
      have E := ih (k + 1) e (swp d k (k + 1)) (by omega) (by omega) (by rw [size_swp]; exact he)
      refine ⟨E.size.trans (size_swp ..), fun x hx => ?_, fun x a b => ?_, fun x a b => ?_⟩
      · rw [E.out x (by omega), q, if_neg (by omega), if_neg (by omega)]
      · by_cases hx : x = k
        · subst hx; rw [E.out x (by omega), q, if_neg (by omega), if_pos rfl]
        · rw [E.fst x (by omega) (by omega), q, if_neg (by omega), if_neg (by omega)]
      · rw [E.snd x (by omega) (by omega), q, if_pos (by omega)]; congr 1; omega
    · rw [if_neg g]
      have : e = k := by omega
      subst this
      rw [Nat.sub_self]
      exact Exch.refl_right _ _ _
theorem bubL_exch (i : Nat) : ∀ (k : Nat) (d : Array α), i ≤ k → k < d.size → Exch k (k - i) 1 d (bubL d i k) := by
  intro k
  induction k with
  | zero => intro d _ _; rw [bubL]; rw [Nat.zero_sub]; exact Exch.refl_left _ _ _
  | succ k ih =>
    intro d hi hk
    rw [bubL]
    by_cases g : i < k + 1
    · rw [if_pos g]
      have q := swp_get d (i := k + 1) (j := k) (by omega) (by omega)
      have E := ih (swp d (k + 1) k) (by omega) (by rw [size_swp]; omega)
      refine ⟨E.size.trans (size_swp ..), fun x hx => ?_, fun x a b => ?_, fun x a b => ?_⟩
      · rw [E.out x (by omega), q, if_neg (by omega), if_neg (by omega)]
      · rw [E.fst x (by omega) (by omega), q, if_pos (by omega)]; congr 1; omega
      · by_cases hx : x = k + 1
        · subst hx; rw [E.out _ (by omega), q, if_neg (by omega), if_pos rfl]; rfl
        · rw [E.snd x (by omega) (by omega), q, if_neg (by omega), if_neg (by omega)]
    · rw [if_neg g]
      have : i = k + 1 := by omega
      subst this
      rw [Nat.sub_self]
      exact Exch.refl_left _ _ _

/-! ### Sorted parts -/
theorem srt_le {a b : Nat} {d : Array α} (h : SortedIn (ltk key) a b d) {x y : Nat} (h1 : a ≤ x) (h2 : x ≤ y) (h3 : y < b) : key d[x]! ≤ key d[y]! := by
  rcases Nat.lt_or_ge x y with g | g
  · have := h x y h1 g h3; simp [ltk] at this; exact this
  · have : x = y := by omega
    rw [this]; exact Nat.le_refl _
theorem srt_of {a b : Nat} {d : Array α} (h : ∀ x y, a ≤ x → x < y → y < b → key d[x]! ≤ key d[y]!) : SortedIn (ltk key) a b d := fun x y h1 h2 h3 => by
  have := h x y h1 h2 h3; simp [ltk]; exact this
theorem srt_cong {a b : Nat} {d d' : Array α} (h : SortedIn (ltk key) a b d) (he : ∀ x, a ≤ x → x < b → d'[x]! = d[x]!) : SortedIn (ltk key) a b d' := fun x y h1 h2 h3 => by
  rw [he x h1 (by omega), he y (by omega) h3]; exact h x y h1 h2 h3
theorem srt_join {a m b : Nat} {d : Array α} (h1 : SortedIn (ltk key) a m d) (h2 : SortedIn (ltk key) m b d) (h : ∀ x y, a ≤ x → x < m → m ≤ y → y < b → key d[x]! ≤ key d[y]!) : SortedIn (ltk key) a b d :=
  srt_of fun x y g1 g2 g3 => by
    by_cases p : y < m
    · exact srt_le h1 g1 (by omega) p
    · by_cases q : m ≤ x
      · exact srt_le h2 q (by omega) g3
      · exact h x y g1 (by omega) (by omega) g3
theorem srt_sub {a b a' b' : Nat} {d : Array α} (h : SortedIn (ltk key) a b d) (h1 : a ≤ a') (h2 : b' ≤ b) : SortedIn (ltk key) a' b' d := fun x y g1 g2 g3 => h x y (by omega) g2 (by omega)

/-! ### Insertion keeps the rows -/
theorem rows_swp {d : Array α} {j : Nat} (hj : j + 1 < d.size) (h : key d[j + 1]! < key d[j]!) : SameRows key d.toList (swp d (j + 1) j).toList := by
  have q := swp_get d (i := j + 1) (j := j) (by omega) (by omega)
  have E : Exch (j + 1) 1 1 d (swp d (j + 1) j) := ⟨size_swp .., fun x hx => by rw [q, if_neg (by omega), if_neg (by omega)], fun x a b => by rw [q, if_pos (by omega)]; congr 1; omega, fun x a b => by rw [q, if_neg (by omega), if_pos (by omega)]; congr 1; omega⟩
  refine (E.stb (by omega) (by omega) fun x y a b c e => ?_).2
  have e1 : x = j := by omega
  have e2 : y = j + 1 := by omega
  rw [e1, e2]; exact h
theorem rows_insInner (a : Nat) : ∀ (j : Nat) (d : Array α), j < d.size → SameRows key d.toList (insInner (ltk key) a j d).toList
  | 0, d, _ => SameRows.refl _ _
  | j + 1, d, hj => by
    unfold insInner
    split
    · rename_i hc
      simp only [Bool.and_eq_true, decide_eq_true_eq] at hc
      have h2 : key d[j + 1]! < key d[j]! := by have := hc.2; simpa [ltk] using this
      exact (rows_swp hj h2).trans (rows_insInner a j _ (by rw [size_swp]; omega))
    · exact SameRows.refl _ _
theorem size_insInner (lt : α → α → Bool) (a : Nat) : ∀ (j : Nat) (d : Array α), (insInner lt a j d).size = d.size
  | 0, _ => rfl
  | j + 1, d => by
    unfold insInner
    split
    · rw [size_insInner lt a j, size_swp]
    · rfl
theorem rows_insOuter (a b : Nat) : ∀ (t i : Nat) (d : Array α), b - i ≤ t → b ≤ d.size → SameRows key d.toList (insOuter (ltk key) a b i d).toList := by
  intro t
  induction t with
  | zero => intro i d h hb; rw [insOuter, if_neg (by omega)]; exact SameRows.refl _ _
  | succ t ih =>
    intro i d h hb
    rw [insOuter]
    by_cases g : i < b
    · rw [if_pos g]
      exact (rows_insInner a i d (by omega)).trans (ih (i + 1) _ (by omega) (by rw [size_insInner]; exact hb))
    · rw [if_neg g]; exact SameRows.refl _ _
theorem insertion_stb (d : Array α) (a b : Nat) (hab : a ≤ b) (hb : b ≤ d.size) : Stb key a b d (insertionSort (ltk key) d a b) ∧ SortedIn (ltk key) a b (insertionSort (ltk key) d a b) := by
  obtain ⟨h1, h2⟩ := insertionSort_holds (swo_ltk key) d a b hab hb
  exact ⟨⟨h1, rows_insOuter a b _ _ d (Nat.le_refl _) hb⟩, h2⟩
end Go.Proofs.Ytjfdlibceldanaa.Stab
