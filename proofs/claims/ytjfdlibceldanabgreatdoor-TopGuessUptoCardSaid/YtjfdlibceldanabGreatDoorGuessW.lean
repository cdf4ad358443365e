/- All signs together are one, plain. No program in sight. -/
import Derived.Test.YtjfdlibceldanabGreatDoorPlainE
namespace Go.Proofs.YtjfdlibceldanabGreatDoor.Gu
open En Ri
/-- Worth the same as w of M. -/
def Val (p : Nat × Nat) (w M : Nat) : Prop := p.1 * M = w * p.2
theorem part_val {n d w M : Nat} (hd : 0 < d) (h : n * M = w * d) : Val (partF n d) w M := by
  have v := partF_val n d
  show (partF n d).1 * M = w * (partF n d).2
  generalize partF n d = p at *
  have : (p.1 * M) * d = (w * p.2) * d := by
    calc (p.1 * M) * d = (p.1 * d) * M := Nat.mul_right_comm ..
      _ = (n * M) * p.2 := by rw [v, Nat.mul_right_comm]
      _ = (w * p.2) * d := by rw [h, Nat.mul_right_comm]
  exact Nat.eq_of_mul_eq_mul_right hd this
theorem add_val {a b : Nat × Nat} {u v M : Nat} (ha : 0 < a.2) (hb : 0 < b.2) (h1 : Val a u M) (h2 : Val b v M) : Val (addF a b) (u + v) M := by
  unfold Val at h1 h2
  refine part_val (Nat.mul_pos ha hb) ?_
  calc (a.1 * b.2 + b.1 * a.2) * M = (a.1 * M) * b.2 + (b.1 * M) * a.2 := by rw [Nat.add_mul, Nat.mul_right_comm, Nat.mul_right_comm b.1]
    _ = (u + v) * (a.2 * b.2) := by rw [h1, h2, Nat.add_mul, Nat.mul_assoc, Nat.mul_assoc v, Nat.mul_comm b.2 a.2]
theorem times_val {a b : Nat × Nat} {u v M M' : Nat} (ha : 0 < a.2) (hb : 0 < b.2) (h1 : Val a u M) (h2 : Val b v M') : Val (timesF a b) (u * v) (M * M') := by
  unfold Val at h1 h2
  refine part_val (Nat.mul_pos ha hb) ?_
  calc (a.1 * b.1) * (M * M') = (a.1 * M) * (b.1 * M') := Nat.mul_mul_mul_comm ..
    _ = (u * v) * (a.2 * b.2) := by rw [h1, h2, Nat.mul_mul_mul_comm]
theorem val_scale {p : Nat × Nat} {w M : Nat} (c : Nat) (h : Val p w M) : Val p (w * c) (M * c) := by
  unfold Val at h ⊢
  rw [← Nat.mul_assoc, h, Nat.mul_right_comm]
/-- What a sign is worth, of a common whole. -/
def whole (l : List Int) (signs : Nat) : List Int → Bool → Nat
  | [], b => if allF l [] b = 0 then max 1 signs else 4 * allF l [] b * max 1 signs
  | x :: s, b => if allF l (x :: s) b = 0 then whole l signs s false else 4 * allF l (x :: s) b * whole l signs s false
def share (l : List Int) (signs : Nat) (sign : Int) : List Int → Bool → Nat
  | [], b => if allF l [] b = 0 then 1 else (4 * ownF l [] b sign - 3) * max 1 signs + 3 * (kn l []).length * 1
  | x :: s, b => if allF l (x :: s) b = 0 then share l signs sign s false else (4 * ownF l (x :: s) b sign - 3) * whole l signs s false + 3 * (kn l (x :: s)).length * share l signs sign s false
theorem step_val {l s : List Int} {b : Bool} {sign : Int} {p : Nat × Nat} {w M : Nat} (ha : 0 < allF l s b) (hp : 0 < p.2) (h : Val p w M) : Val (stepF l s b sign p) ((4 * ownF l s b sign - 3) * M + 3 * (kn l s).length * w) (4 * allF l s b * M) := by
  unfold stepF
  generalize allF l s b = A at *
  generalize ownF l s b sign = O at *
  generalize (kn l s).length = K at *
  have d1 := partF_pos (n := 4 * O - 3) (show 0 < 4 * A by omega)
  have d2 := partF_pos (n := 3 * K) (show 0 < 4 * A by omega)
  have v1 : Val (partF (4 * O - 3) (4 * A)) (4 * O - 3) (4 * A) := partF_val _ _
  have v2 : Val (partF (3 * K) (4 * A)) (3 * K) (4 * A) := partF_val _ _
  have d3 : 0 < (timesF (partF (3 * K) (4 * A)) p).2 := partF_pos (Nat.mul_pos d2 hp)
  exact add_val d1 d3 (val_scale M v1) (times_val d2 hp v2 h)
theorem like_d (l : List Int) (signs : Nat) (sign : Int) : ∀ (s : List Int) (b : Bool), 0 < (likeF l signs sign s b).2 := by
  have st : ∀ (s : List Int) (b : Bool) (p : Nat × Nat), 0 < allF l s b → 0 < p.2 → 0 < (stepF l s b sign p).2 := fun s b p ha hp => by
    unfold stepF
    have d1 := partF_pos (n := 4 * ownF l s b sign - 3) (show 0 < 4 * allF l s b by omega)
    have d2 := partF_pos (n := 3 * (kn l s).length) (show 0 < 4 * allF l s b by omega)
    exact partF_pos (Nat.mul_pos d1 (partF_pos (Nat.mul_pos d2 hp)))
  intro s
  induction s with
  | nil =>
    intro b
    rw [likeF]
    split
    · show 0 < max 1 signs; omega
    · exact st _ _ _ (by omega) (by show 0 < max 1 signs; omega)
  | cons x s ih =>
    intro b
    rw [likeF]
    split
    · exact ih false
    · exact st _ _ _ (by omega) (ih false)
theorem like_val (l : List Int) (signs : Nat) (sign : Int) : ∀ (s : List Int) (b : Bool), Val (likeF l signs sign s b) (share l signs sign s b) (whole l signs s b)
  | [], b => by
    rw [likeF, share, whole]
    split
    · show 1 * max 1 signs = 1 * max 1 signs; rfl
    · exact step_val (by omega) (by show 0 < max 1 signs; omega) (show 1 * max 1 signs = 1 * max 1 signs from rfl)
  | x :: s, b => by
    rw [likeF, share, whole]
    split
    · exact like_val l signs sign s false
    · exact step_val (by omega) (like_d l signs sign s false) (like_val l signs sign s false)
theorem whole_pos (l : List Int) (signs : Nat) : ∀ (s : List Int) (b : Bool), 0 < whole l signs s b
  | [], b => by
    rw [whole]
    split
    · omega
    · exact Nat.mul_pos (by omega) (by omega)
  | x :: s, b => by
    rw [whole]
    split
    · exact whole_pos l signs s false
    · exact Nat.mul_pos (by omega) (whole_pos l signs s false)
/-! ### All signs together -/
def sumS (f : Int → Nat) (n : Nat) : Nat := ((List.range n).map fun i => f (Int.ofNat (i + 1))).sum
theorem sumS_succ (f : Int → Nat) (n : Nat) : sumS f (n + 1) = sumS f n + f (Int.ofNat (n + 1)) := by
  unfold sumS
  rw [List.range_succ, List.map_append, List.sum_append]; simp
theorem sumS_add (f g : Int → Nat) : ∀ n, sumS (fun x => f x + g x) n = sumS f n + sumS g n
  | 0 => rfl
  | n + 1 => by rw [sumS_succ, sumS_succ, sumS_succ, sumS_add f g n]; omega
theorem sumS_mul (f : Int → Nat) (c : Nat) : ∀ n, sumS (fun x => f x * c) n = sumS f n * c
  | 0 => by simp [sumS]
  | n + 1 => by rw [sumS_succ, sumS_succ, sumS_mul f c n, Nat.add_mul]
theorem sumS_mul' (f : Int → Nat) (c : Nat) (n : Nat) : sumS (fun x => c * f x) n = c * sumS f n := by
  rw [Nat.mul_comm, ← sumS_mul]; congr 1; funext x; exact Nat.mul_comm ..
theorem sumS_one : ∀ n, sumS (fun _ => 1) n = n
  | 0 => rfl
  | n + 1 => by rw [sumS_succ, sumS_one n]
theorem sumS_zero : ∀ n, sumS (fun _ => 0) n = 0
  | 0 => rfl
  | n + 1 => by rw [sumS_succ, sumS_zero n]
theorem sumS_point (a : Int) (v : Nat) : ∀ n : Nat, sumS (fun x => if x = a then v else 0) n = if 1 ≤ a ∧ a ≤ n then v else 0
  | 0 => by rw [if_neg (by omega)]; rfl
  | n + 1 => by
    rw [sumS_succ, sumS_point a v n]
    by_cases g : Int.ofNat (n + 1) = a
    · have : a = (n : Int) + 1 := by rw [← g]; rfl
      rw [if_pos g, if_neg (by omega), if_pos (by omega)]; omega
    · have : ¬ a = (n : Int) + 1 := fun h => g (by rw [h]; rfl)
      rw [if_neg g]
      by_cases q : 1 ≤ a ∧ a ≤ n
      · rw [if_pos q, if_pos (by omega)]; rfl
      · rw [if_neg q, if_neg (by omega)]
/-- A sum over numbers each once, as one over all of them. -/
theorem sumS_list (f : Int → Nat) (n : Nat) : ∀ xs : List Int, xs.Nodup → (∀ x ∈ xs, 1 ≤ x ∧ x ≤ n) → sumS (fun x => if x ∈ xs then f x else 0) n = (xs.map f).sum
  | [], _, _ => by simp only [List.not_mem_nil, if_false]; exact sumS_zero n
  | a :: t, hn, hx => by
    have hn' := List.nodup_cons.1 hn
    have ih := sumS_list f n t hn'.2 fun x h => hx x (by simp [h])
    have e : (fun x => if x ∈ a :: t then f x else 0) = fun x => (if x = a then f a else 0) + (if x ∈ t then f x else 0) := by
      funext x
      by_cases g : x = a
      · subst g; rw [if_pos (by simp), if_pos rfl, if_neg hn'.1]; rfl
      · by_cases g2 : x ∈ t
        · rw [if_pos (by simp [g2]), if_neg g, if_pos g2]; omega
        · rw [if_neg (by simp [g, g2]), if_neg g, if_neg g2]
    have ha := hx a (by simp)
    rw [e, sumS_add, sumS_point, if_pos (by omega), ih, List.map_cons, List.sum_cons]
theorem sub_mul_sum (f : Int → Nat) : ∀ xs : List Int, (∀ x ∈ xs, 0 < f x) → (xs.map fun x => 4 * f x - 3).sum + 3 * xs.length = 4 * (xs.map f).sum
  | [], _ => rfl
  | a :: t, h => by
    have h1 := sub_mul_sum f t fun x hx => h x (by simp [hx])
    have h2 := h a (by simp)
    simp only [List.map_cons, List.sum_cons, List.length_cons]; omega
theorem own_sum {l s : List Int} {b : Bool} {signs : Nat} (hl : ∀ x ∈ l, 0 ≤ x ∧ x ≤ signs) : sumS (fun x => 4 * ownF l s b x - 3) signs + 3 * (kn l s).length = 4 * allF l s b := by
  have hn : (kn l s).Nodup := (up_nodup (rise_up _)).filter _
  have hk : ∀ x ∈ kn l s, 1 ≤ x ∧ x ≤ signs := fun x hx => by
    have h1 := kn_mem.1 hx
    obtain ⟨a, ha⟩ := behs_mem.1 h1.1
    have h' := places_mem.1 ha
    have h2 := (stB_snoc l s x a (by omega)).1 h'.2
    have h3 := hl x (by rw [← h2.2.2]; exact nth_mem h2.2.1)
    have h4 := h1.2
    omega
  have e : (fun x => 4 * ownF l s b x - 3) = fun x => if x ∈ kn l s then 4 * nn l s b x - 3 else 0 := by
    funext x
    unfold ownF
    split <;> rfl
  rw [e, sumS_list (fun x => 4 * nn l s b x - 3) signs _ hn hk]
  exact sub_mul_sum _ _ fun x hx => nn_pos (kn_mem.1 hx).1
theorem share_sum {l : List Int} {signs : Nat} (hs : 1 ≤ signs) (hl : ∀ x ∈ l, 0 ≤ x ∧ x ≤ signs) : ∀ (s : List Int) (b : Bool), sumS (fun x => share l signs x s b) signs = whole l signs s b
  | [], b => by
    simp only [share, whole]
    by_cases h : allF l [] b = 0
    · simp only [h, if_true]
      rw [sumS_one]; omega
    · simp only [h, if_false]
      rw [sumS_add, sumS_mul, sumS_mul', sumS_one]
      have := own_sum (s := []) (b := b) hl
      rw [← this, Nat.add_mul, Nat.max_eq_right hs]
  | x :: s, b => by
    have ih := share_sum hs hl s false
    simp only [share, whole]
    by_cases h : allF l (x :: s) b = 0
    · simp only [h, if_true]; exact ih
    · simp only [h, if_false]
      rw [sumS_add, sumS_mul, sumS_mul', ih]
      have := own_sum (s := x :: s) (b := b) hl
      rw [← this, Nat.add_mul]
/-- All together, part by part. -/
def sumP (l : List Int) (signs : Nat) (s : List Int) (b : Bool) : Nat → Nat × Nat
  | 0 => (0, 1)
  | n + 1 => addF (sumP l signs s b n) (likeF l signs (Int.ofNat (n + 1)) s b)
theorem sumP_d (l : List Int) (signs : Nat) (s : List Int) (b : Bool) : ∀ n, 0 < (sumP l signs s b n).2
  | 0 => by show 0 < 1; omega
  | n + 1 => partF_pos (Nat.mul_pos (sumP_d l signs s b n) (like_d l signs _ s b))
theorem sumP_val (l : List Int) (signs : Nat) (s : List Int) (b : Bool) : ∀ n, Val (sumP l signs s b n) (sumS (fun x => share l signs x s b) n) (whole l signs s b)
  | 0 => by show 0 * _ = 0 * _; omega
  | n + 1 => by
    rw [sumS_succ]
    exact add_val (sumP_d l signs s b n) (like_d l signs _ s b) (sumP_val l signs s b n) (like_val l signs _ s b)
theorem part_one {n d : Nat} (hd : 0 < d) (h : (partF n d).1 = (partF n d).2) : partF n d = (1, 1) := by
  have v := partF_val n d
  have hp := partF_pos (n := n) hd
  rw [h] at v
  have e : n = d := by
    rw [Nat.mul_comm] at v
    exact (Nat.eq_of_mul_eq_mul_right hp v).symm
  subst e
  unfold partF
  rw [Nat.gcd_self, Nat.div_self hd]
theorem sumP_one {l : List Int} {signs : Nat} (hs : 1 ≤ signs) (hl : ∀ x ∈ l, 0 ≤ x ∧ x ≤ signs) (s : List Int) (b : Bool) : sumP l signs s b signs = (1, 1) := by
  have v := sumP_val l signs s b signs
  rw [share_sum hs hl] at v
  unfold Val at v
  have hw := whole_pos l signs s b
  rw [Nat.mul_comm] at v
  have e := Nat.eq_of_mul_eq_mul_left hw v
  obtain ⟨n, rfl⟩ : ∃ n, signs = n + 1 := ⟨signs - 1, by omega⟩
  exact part_one (Nat.mul_pos (sumP_d l _ s b n) (like_d l _ _ s b)) e
end Go.Proofs.YtjfdlibceldanabGreatDoor.Gu
