/- The stable sort, plain law: the merge by halves, and the whole. No program in sight. -/
import Derived.Test.YtjfdlibceldanaaStab2
namespace Go.Proofs.Ytjfdlibceldanaa.Stab
open Go.Sort
variable {α : Type} [Inhabited α] {key : α → Nat}

theorem mergeL_law {d : Array α} {a b : Nat} (ha : a + 1 < b) (hb : b ≤ d.size) (hv : SortedIn (ltk key) (a + 1) b d) :
    Stb key a b d (bubR d a (bs (fun h => ltk key d[h]! d[a]!) (a + 1) b - 1)) ∧ SortedIn (ltk key) a b (bubR d a (bs (fun h => ltk key d[h]! d[a]!) (a + 1) b - 1)) := by
  obtain ⟨h1, h2, h3, h4⟩ := bs_spec (fun h => ltk key d[h]! d[a]!) (b - (a + 1)) (a + 1) b (Nat.le_refl _) (by omega) (fun x y g1 g2 g3 g4 => by
    have := srt_le hv g1 g2 g3
    simp [ltk] at g4 ⊢; omega)
  generalize hi : bs (fun h => ltk key d[h]! d[a]!) (a + 1) b = i at *
  have h3' : ∀ x, a + 1 ≤ x → x < i → key d[x]! < key d[a]! := fun x g1 g2 => by have := h3 x g1 g2; simpa [ltk] using this
  have h4' : ∀ x, i ≤ x → x < b → key d[a]! ≤ key d[x]! := fun x g1 g2 => by have := h4 x g1 g2; simpa [ltk] using this
  have E := bubR_exch _ a (i - 1) d (Nat.le_refl _) (by omega) (by omega)
  refine ⟨(E.stb (by omega) (by omega) fun x y g1 g2 g3 g4 => ?_).mono (by omega) (by omega) hb, srt_of fun x y g1 g2 g3 => ?_⟩
  · have : x = a := by omega
    rw [this]; exact h3' y (by omega) (by omega)
  · by_cases p : y < i - 1
    · rw [E.fst x (by omega) (by omega), E.fst y (by omega) (by omega)]; exact srt_le hv (by omega) (by omega) (by omega)
    · by_cases q : y < i
      · rw [E.snd y (by omega) (by omega), E.fst x (by omega) (by omega)]
        have := h3' (x + 1) (by omega) (by omega)
        rw [show y - (i - 1 - a) = a from by omega]; omega
      · rw [E.out y (by omega)]
        by_cases r : x < i - 1
        · rw [E.fst x (by omega) (by omega)]
          have := h3' (x + 1) (by omega) (by omega)
          have := h4' y (by omega) g3
          omega
        · by_cases u : x < i
          · rw [E.snd x (by omega) (by omega), show x - (i - 1 - a) = a from by omega]; exact h4' y (by omega) g3
          · rw [E.out x (by omega)]; exact srt_le hv (by omega) (by omega) g3
theorem mergeR_law {d : Array α} {a m : Nat} (ha : a ≤ m) (hm : m < d.size) (hu : SortedIn (ltk key) a m d) :
    Stb key a (m + 1) d (bubL d (bs (fun h => !ltk key d[m]! d[h]!) a m) m) ∧ SortedIn (ltk key) a (m + 1) (bubL d (bs (fun h => !ltk key d[m]! d[h]!) a m) m) := by
  obtain ⟨h1, h2, h3, h4⟩ := bs_spec (fun h => !ltk key d[m]! d[h]!) (m - a) a m (Nat.le_refl _) (by omega) (fun x y g1 g2 g3 g4 => by
    have := srt_le hu g1 g2 g3
    simp [ltk] at g4 ⊢; omega)
  generalize hi : bs (fun h => !ltk key d[m]! d[h]!) a m = i at *
  have h3' : ∀ x, a ≤ x → x < i → key d[x]! ≤ key d[m]! := fun x g1 g2 => by have := h3 x g1 g2; simpa [ltk] using this
  have h4' : ∀ x, i ≤ x → x < m → key d[m]! < key d[x]! := fun x g1 g2 => by have := h4 x g1 g2; simpa [ltk] using this
  have E := bubL_exch i m d (by omega) hm
  refine ⟨(E.stb (by omega) (by omega) fun x y g1 g2 g3 g4 => ?_).mono (by omega) (by omega) (by omega), srt_of fun x y g1 g2 g3 => ?_⟩
  · have : y = m := by omega
    rw [this]; exact h4' x (by omega) (by omega)
  · by_cases p : y < i
    · rw [E.out x (by omega), E.out y (by omega)]; exact srt_le hu (by omega) (by omega) (by omega)
    · by_cases q : y = i
      · rw [E.fst y (by omega) (by omega), E.out x (by omega), show y + (m - i) = m from by omega]; exact h3' x g1 (by omega)
      · rw [E.snd y (by omega) (by omega)]
        have k1 := h4' (y - 1) (by omega) (by omega)
        by_cases r : x < i
        · rw [E.out x (by omega)]
          have := h3' x g1 r
          omega
        · by_cases u : x = i
          · rw [E.fst x (by omega) (by omega), show x + (m - i) = m from by omega]; omega
          · rw [E.snd x (by omega) (by omega)]; exact srt_le hu (by omega) (by omega) (by omega)

theorem symStart_law {d : Array α} {a m b : Nat} (ha : a < m) (hm : m < b) (hu : SortedIn (ltk key) a m d) (hv : SortedIn (ltk key) m b d) :
    a ≤ symStart (ltk key) d a m b ∧ symStart (ltk key) d a m b ≤ (a + b) / 2 ∧ symStart (ltk key) d a m b ≤ m ∧ m ≤ (a + b) / 2 + m - symStart (ltk key) d a m b ∧ (a + b) / 2 + m - symStart (ltk key) d a m b ≤ b ∧
      (∀ x y, a ≤ x → x < symStart (ltk key) d a m b → (a + b) / 2 + m - symStart (ltk key) d a m b ≤ y → y < b → key d[x]! ≤ key d[y]!) ∧
      (∀ x y, symStart (ltk key) d a m b ≤ x → x < m → m ≤ y → y < (a + b) / 2 + m - symStart (ltk key) d a m b → key d[y]! < key d[x]!) := by
  unfold symStart
  generalize hmid : (a + b) / 2 = mid
  have hab : a ≤ mid ∧ mid < b := by omega
  have key1 : ∀ lo hi, a ≤ lo → lo ≤ hi → hi ≤ m → hi ≤ mid → mid + m - lo ≤ b → (lo = a ∨ mid + m - lo = b) → (hi = m ∨ hi = mid) →
      ∀ s, bs (fun c => !ltk key d[mid + m - 1 - c]! d[c]!) lo hi = s → a ≤ s ∧ s ≤ mid ∧ s ≤ m ∧ m ≤ mid + m - s ∧ mid + m - s ≤ b ∧
      (∀ x y, a ≤ x → x < s → mid + m - s ≤ y → y < b → key d[x]! ≤ key d[y]!) ∧ (∀ x y, s ≤ x → x < m → m ≤ y → y < mid + m - s → key d[y]! < key d[x]!) := by
    intro lo hi g1 g2 g3 g4 g5 g6 g7 s hs
    obtain ⟨h1, h2, h3, h4⟩ := bs_spec (fun c => !ltk key d[mid + m - 1 - c]! d[c]!) (hi - lo) lo hi (Nat.le_refl _) g2 (fun x y k1 k2 k3 k4 => by
      have e1 := srt_le hu (x := x) (y := y) (by omega) k2 (by omega)
      have e2 := srt_le hv (x := mid + m - 1 - y) (y := mid + m - 1 - x) (by omega) (by omega) (by omega)
      simp [ltk] at k4 ⊢; omega)
    rw [hs] at h1 h2 h3 h4
    refine ⟨by omega, by omega, by omega, by omega, by omega, fun x y k1 k2 k3 k4 => ?_, fun x y k1 k2 k3 k4 => ?_⟩
    · by_cases c : lo < s
      · have e := h3 (s - 1) (by omega) (by omega)
        simp only [ltk, Bool.not_eq_true', decide_eq_false_iff_not, Nat.not_lt] at e
        rw [show mid + m - 1 - (s - 1) = mid + m - s from by omega] at e
        have e1 := srt_le hu (x := x) (y := s - 1) k1 (by omega) (by omega)
        have e2 := srt_le hv (x := mid + m - s) (y := y) (by omega) k3 k4
        omega
      · omega
    · by_cases c : s < hi
      · have e := h4 s (by omega) c
        simp only [ltk, Bool.not_eq_false', decide_eq_true_eq] at e
        have e1 := srt_le hu (x := s) (y := x) (by omega) k1 k2
        have e2 := srt_le hv (x := y) (y := mid + m - 1 - s) k3 (by omega) (by omega)
        omega
      · omega
  by_cases c : mid < m
  · rw [if_pos c, if_pos c]
    exact key1 _ _ (by omega) (by omega) (by omega) (by omega) (by omega) (.inr (by omega)) (.inr rfl) _ rfl
  · rw [if_neg c, if_neg c]
    exact key1 _ _ (by omega) (by omega) (by omega) (by omega) (by omega) (.inl rfl) (.inl rfl) _ rfl

theorem symM_law : ∀ (f : Nat) (d : Array α) (a m b : Nat), b - a ≤ f → a < m → m < b → b ≤ d.size → SortedIn (ltk key) a m d → SortedIn (ltk key) m b d →
    Stb key a b d (symM (ltk key) f d a m b) ∧ SortedIn (ltk key) a b (symM (ltk key) f d a m b) := by
  intro f
  induction f with
  | zero => intro d a m b h h1 h2; omega
  | succ f ih =>
    intro d a m b hf ham hmb hb hu hv
    rw [symM]
    by_cases c1 : m - a = 1
    · rw [if_pos c1]
      obtain rfl : m = a + 1 := by omega
      exact mergeL_law hmb hb hv
    · rw [if_neg c1]
      by_cases c2 : b - m = 1
      · rw [if_pos c2]
        obtain rfl : b = m + 1 := by omega
        exact mergeR_law (by omega) (by omega) hu
      · rw [if_neg c2]
        dsimp only
        obtain ⟨s1, s2, s3, s4, s5, hlow, hhigh⟩ := symStart_law ham hmb hu hv
        generalize symStart (ltk key) d a m b = s at *
        generalize hmid : (a + b) / 2 = mid at *
        generalize he : mid + m - s = e at *
        have E := rot_exch m _ (m - s) (e - m) d (Nat.le_refl _) (by omega) (by omega)
        have B1 : Stb key a b d (rot d m (m - s) (e - m)) := (E.stb (by omega) (by omega) fun x y g1 g2 g3 g4 => hhigh x y (by omega) g2 g3 (by omega)).mono (by omega) (by omega) hb
        generalize hd1 : rot d m (m - s) (e - m) = d1 at *
        have sz1 : d1.size = d.size := B1.size
        have u1 : SortedIn (ltk key) a s d1 := srt_cong (srt_sub hu (Nat.le_refl _) s3) fun x g1 g2 => E.out x (by omega)
        have v1 : SortedIn (ltk key) s mid d1 := srt_of fun x y g1 g2 g3 => by
          rw [E.fst x (by omega) (by omega), E.fst y (by omega) (by omega)]; exact srt_le hv (by omega) (by omega) (by omega)
        have u2 : SortedIn (ltk key) mid e d1 := srt_of fun x y g1 g2 g3 => by
          rw [E.snd x (by omega) (by omega), E.snd y (by omega) (by omega)]; exact srt_le hu (by omega) (by omega) (by omega)
        have v2 : SortedIn (ltk key) e b d1 := srt_cong (srt_sub hv s4 (Nat.le_refl _)) fun x g1 g2 => E.out x (by omega)
        have cross : ∀ x y, a ≤ x → x < mid → mid ≤ y → y < b → key d1[x]! ≤ key d1[y]! := fun x y g1 g2 g3 g4 => by
          by_cases p : x < s
          · rw [E.out x (by omega)]
            by_cases q : y < e
            · rw [E.snd y (by omega) (by omega)]; exact srt_le hu g1 (by omega) (by omega)
            · rw [E.out y (by omega)]; exact hlow x y g1 p (by omega) g4
          · rw [E.fst x (by omega) (by omega)]
            by_cases q : y < e
            · rw [E.snd y (by omega) (by omega)]; exact Nat.le_of_lt (hhigh _ _ (by omega) (by omega) (by omega) (by omega))
            · rw [E.out y (by omega)]; exact srt_le hv (by omega) (by omega) g4
        obtain ⟨d2, hd2⟩ : ∃ d2, (if a < s ∧ s < mid then symM (ltk key) f d1 a s mid else d1) = d2 := ⟨_, rfl⟩
        rw [hd2]
        have S2 : Stb key a mid d1 d2 ∧ SortedIn (ltk key) a mid d2 := by
          rw [← hd2]
          split
          · rename_i g
            exact ih d1 a s mid (by omega) g.1 g.2 (by omega) u1 v1
          · rename_i g
            refine ⟨Stb.refl _ _ _, ?_⟩
            by_cases p : a < s
            · have : s = mid := by omega
              rw [← this]; exact u1
            · have : s = a := by omega
              rw [← this]; exact v1
        have sz2 : d2.size = d.size := S2.1.size.trans sz1
        have o2 : ∀ x, mid ≤ x → d2[x]! = d1[x]! := fun x hx => S2.1.1.2.1 x (.inr hx)
        obtain ⟨d3, hd3⟩ : ∃ d3, (if mid < e ∧ e < b then symM (ltk key) f d2 mid e b else d2) = d3 := ⟨_, rfl⟩
        rw [hd3]
        have u2' := srt_cong u2 fun x g1 _ => o2 x g1
        have v2' := srt_cong v2 fun x g1 _ => o2 x (by omega)
        have S3 : Stb key mid b d2 d3 ∧ SortedIn (ltk key) mid b d3 := by
          rw [← hd3]
          split
          · rename_i g
            exact ih d2 mid e b (by omega) g.1 g.2 (by omega) u2' v2'
          · rename_i g
            refine ⟨Stb.refl _ _ _, ?_⟩
            by_cases p : mid < e
            · have : e = b := by omega
              rw [← this]; exact u2'
            · have : e = mid := by omega
              rw [← this]; exact v2'
        have o3 : ∀ x, x < mid → d3[x]! = d2[x]! := fun x hx => S3.1.1.2.1 x (.inl hx)
        refine ⟨B1.trans ((S2.1.mono (Nat.le_refl _) (by omega) (by omega)).trans (S3.1.mono (by omega) (Nat.le_refl _) (by omega))), srt_join (srt_cong S2.2 fun x _ g2 => o3 x g2) S3.2 fun x y g1 g2 g3 g4 => ?_⟩
        rw [o3 x g2]
        have A1 : ∀ i, mid ≤ i → i < b → ∀ z, a ≤ z → z < mid → key d1[z]! ≤ key d2[i]! := fun i k1 k2 z k3 k4 => by rw [o2 i k1]; exact cross z i k3 k4 k1 k2
        have A2 : ∀ i, mid ≤ i → i < b → ∀ z, a ≤ z → z < mid → key d1[z]! ≤ key d3[i]! := permIn_all d2 d3 mid b (fun v => ∀ z, a ≤ z → z < mid → key d1[z]! ≤ key v) (by omega) S3.1.1 A1
        exact permIn_all d1 d2 a mid (fun v => key v ≤ key d3[y]!) (by omega) S2.1.1 (fun z k3 k4 => A2 y g3 g4 z k3 k4) x g1 g2

/-! ### The whole -/
theorem size_symM (d : Array α) {a m b : Nat} (f : Nat) (hf : b - a ≤ f) (ham : a < m) (hmb : m < b) (hb : b ≤ d.size) (hu : SortedIn (ltk key) a m d) (hv : SortedIn (ltk key) m b d) : (symM (ltk key) f d a m b).size = d.size :=
  (symM_law f d a m b hf ham hmb hb hu hv).1.size
/-- From a on, run by run of z places, sorted. -/
def Runs (key : α → Nat) (z n a : Nat) (d : Array α) : Prop := ∀ t, SortedIn (ltk key) (a + t * z) (min (a + (t + 1) * z) n) d
theorem srt_nil {a b : Nat} {d : Array α} (h : b ≤ a) : SortedIn (ltk key) a b d := fun x y g1 g2 g3 => by omega
theorem Runs.cong {z n a : Nat} {d d' : Array α} (h : Runs key z n a d) (he : ∀ x, a ≤ x → d'[x]! = d[x]!) : Runs key z n a d' := fun t => srt_cong (h t) fun x g1 _ => he x (by omega)
theorem Runs.tail {z n a : Nat} {d : Array α} (h : Runs key z n a d) (k : Nat) : Runs key z n (a + k * z) d := fun t => by
  have := h (k + t)
  rw [Nat.add_mul, ← Nat.add_assoc] at this
  rwa [show a + k * z + (t + 1) * z = a + (k + t + 1) * z from by rw [Nat.add_assoc k t 1, Nat.add_mul k, Nat.add_assoc]]
theorem Runs.cons {z n a : Nat} {d : Array α} (h : SortedIn (ltk key) a (min (a + z) n) d) (g : Runs key z n (a + z) d) : Runs key z n a d := fun t => by
  cases t with
  | zero => simpa using h
  | succ t =>
    have := g t
    rwa [show a + z + t * z = a + (t + 1) * z from by rw [Nat.add_mul]; omega, show a + z + (t + 1) * z = a + (t + 1 + 1) * z from by rw [Nat.add_mul (t + 1) 1]; omega] at this
theorem blocks_law (n : Nat) : ∀ (t a : Nat) (d : Array α), n - a ≤ t → a ≤ n → n ≤ d.size → Stb key a n d (blocks (ltk key) n a d) ∧ Runs key 20 n a (blocks (ltk key) n a d) := by
  intro t
  induction t with
  | zero =>
    intro a d h ha hn
    rw [blocks, if_neg (by omega)]
    obtain ⟨h1, h2⟩ := insertion_stb (key := key) d a n ha hn
    exact ⟨h1, fun t => srt_nil (by omega)⟩
  | succ t ih =>
    intro a d h ha hn
    rw [blocks]
    by_cases c : a + 20 ≤ n
    · rw [if_pos c]
      obtain ⟨h1, h2⟩ := insertion_stb (key := key) d a (a + 20) (by omega) (by omega)
      obtain ⟨k1, k2⟩ := ih (a + 20) (insertionSort (ltk key) d a (a + 20)) (by omega) c (by rw [h1.size]; exact hn)
      refine ⟨(h1.mono (Nat.le_refl _) c hn).trans (k1.mono (by omega) (Nat.le_refl _) (by rw [h1.size]; exact hn)), Runs.cons ?_ k2⟩
      rw [Nat.min_eq_left c]
      exact srt_cong h2 fun x _ g => k1.1.2.1 x (.inl g)
    · rw [if_neg c]
      obtain ⟨h1, h2⟩ := insertion_stb (key := key) d a n ha hn
      refine ⟨h1, fun t => ?_⟩
      cases t with
      | zero => exact srt_sub h2 (by omega) (by omega)
      | succ t => exact srt_nil (by omega)
theorem pass_law (n z : Nat) (hz : 0 < z) : ∀ (f a : Nat) (d : Array α), n - a < f → a ≤ n → n ≤ d.size → Runs key z n a d → Stb key a n d (pass (ltk key) n z f a d) ∧ Runs key (2 * z) n a (pass (ltk key) n z f a d) := by
  intro f
  induction f with
  | zero => intro a d h; omega
  | succ f ih =>
    intro a d hf ha hn hr
    rw [pass]
    have r0 := hr 0
    have r1 := hr 1
    simp only [Nat.zero_mul, Nat.add_zero, Nat.zero_add, Nat.one_mul, Nat.reduceAdd] at r0 r1
    by_cases c : a + 2 * z ≤ n
    · rw [if_pos c]
      rw [Nat.min_eq_left (by omega)] at r0 r1
      obtain ⟨h1, h2⟩ := symM_law (2 * z) d a (a + z) (a + 2 * z) (by omega) (by omega) (by omega) (by omega) r0 r1
      have hr2 := (hr.tail 2).cong (fun x hx => h1.1.2.1 x (.inr hx))
      obtain ⟨k1, k2⟩ := ih (a + 2 * z) _ (by omega) c (by rw [h1.size]; exact hn) hr2
      refine ⟨(h1.mono (Nat.le_refl _) c hn).trans (k1.mono (by omega) (Nat.le_refl _) (by rw [h1.size]; exact hn)), Runs.cons ?_ k2⟩
      rw [Nat.min_eq_left c]
      exact srt_cong h2 fun x _ g => k1.1.2.1 x (.inl g)
    · rw [if_neg c]
      have last : ∀ d' : Array α, SortedIn (ltk key) a n d' → Runs key (2 * z) n a d' := fun d' hd t => by
        cases t with
        | zero => exact srt_sub hd (by omega) (by omega)
        | succ t =>
          have : 2 * z ≤ (t + 1) * (2 * z) := Nat.le_mul_of_pos_left _ (by omega)
          exact srt_nil (by omega)
      by_cases c2 : a + z < n
      · rw [if_pos c2]
        rw [Nat.min_eq_left (by omega)] at r0
        rw [Nat.min_eq_right (by omega)] at r1
        obtain ⟨h1, h2⟩ := symM_law (n - a) d a (a + z) n (by omega) (by omega) c2 hn r0 r1
        exact ⟨h1, last _ h2⟩
      · rw [if_neg c2]
        rw [Nat.min_eq_right (by omega)] at r0
        exact ⟨Stb.refl _ _ _, last _ r0⟩
theorem levels_law (n : Nat) : ∀ (f z : Nat) (d : Array α), 0 < z → n - z < f → n ≤ d.size → Runs key z n 0 d → Stb key 0 n d (levels (ltk key) n f z d) ∧ SortedIn (ltk key) 0 n (levels (ltk key) n f z d) := by
  intro f
  induction f with
  | zero => intro z d _ h; omega
  | succ f ih =>
    intro z d hz hf hn hr
    rw [levels]
    by_cases c : z < n
    · rw [if_pos c]
      obtain ⟨h1, h2⟩ := pass_law n z hz (n + 1) 0 d (by omega) (by omega) hn hr
      obtain ⟨k1, k2⟩ := ih (2 * z) _ (by omega) (by omega) (by rw [h1.size]; exact hn) h2
      exact ⟨h1.trans k1, k2⟩
    · rw [if_neg c]
      have := hr 0
      simp only [Nat.zero_mul, Nat.zero_add, Nat.one_mul] at this
      rw [Nat.min_eq_right (by omega)] at this
      exact ⟨Stb.refl _ _ _, this⟩
theorem stableS_law (d : Array α) : Stb key 0 d.size d (stableS (ltk key) d) ∧ SortedIn (ltk key) 0 d.size (stableS (ltk key) d) := by
  unfold stableS
  obtain ⟨h1, h2⟩ := blocks_law (key := key) d.size d.size 0 d (by omega) (by omega) (Nat.le_refl _)
  obtain ⟨k1, k2⟩ := levels_law d.size (d.size + 1) 20 _ (by omega) (by omega) (by rw [h1.size]; exact Nat.le_refl _) h2
  exact ⟨h1.trans k1, k2⟩
/-- The list: sorted by key, each key's numbers in their order. -/
theorem stable_list (P : Nat) (l : List α) (h : ∀ x ∈ l, key x < P) : (stableS (ltk key) l.toArray).toList = (List.range P).flatMap fun p => l.filter (fun x => key x == p) := by
  obtain ⟨h1, h2⟩ := stableS_law (key := key) l.toArray
  have hs : SortedBy key (stableS (ltk key) l.toArray).toList := by
    rw [toList_range]
    unfold SortedBy
    rw [List.pairwise_map]
    refine List.Pairwise.imp_of_mem ?_ (List.pairwise_lt_range' (s := 0) (n := (stableS (ltk key) l.toArray).size))
    intro x y hx hy hxy
    have := List.mem_range'_1.1 hy
    refine srt_le h2 (by omega) (Nat.le_of_lt hxy) ?_
    rw [h1.size] at this; omega
  exact sorted_rows key P l _ (fun x hx => h x (h1.2.mem (by simpa using hx))) hs (by simpa using h1.2)
end Go.Proofs.Ytjfdlibceldanaa.Stab
