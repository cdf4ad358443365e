/- Kinds, plain: the reference's kinds are the wave's. No program in sight. -/
import Derived.Test.YtjfdlibceldanaaWvL
namespace Go.Proofs.Ytjfdlibceldanaa.Wv

/-- A place, held between 0 and the length. -/
def cl (i : Int) (n : Nat) : Nat := min i.toNat n
def found (l : List Nat) (f0 t0 v : Int) (k : Nat) : Bool := (List.range k).any fun a => decide (((nth l a : Nat) : Int) = v) && (decide (f0 ≤ a) && decide ((a : Int) < t0))
def kindsRef (l : List Nat) (f0 t0 : Int) : List Nat := (List.range 2050).filter fun v => found l f0 t0 v l.length
theorem found_iff (l : List Nat) (f0 t0 : Int) (v : Nat) : found l f0 t0 v l.length = true ↔ ∃ a, a < l.length ∧ nth l a = v ∧ f0 ≤ a ∧ (a : Int) < t0 := by
  unfold found
  simp only [List.any_eq_true, List.mem_range, Bool.and_eq_true, decide_eq_true_eq]
  constructor
  · rintro ⟨a, h1, h2, h3, h4⟩; exact ⟨a, h1, by omega, h3, h4⟩
  · rintro ⟨a, h1, h2, h3, h4⟩; exact ⟨a, h1, by omega, h3, h4⟩
theorem count_iff (l : List Nat) (f t v : Nat) : (l.take f).count v < (l.take t).count v ↔ ∃ a, a < l.length ∧ nth l a = v ∧ f ≤ a ∧ a < t := by
  by_cases h : f ≤ t
  · have e : l.take t = l.take f ++ (l.drop f).take (t - f) := by rw [← List.take_add]; congr 1; omega
    rw [e, List.count_append]
    have : (l.take f).count v < (l.take f).count v + ((l.drop f).take (t - f)).count v ↔ v ∈ (l.drop f).take (t - f) := by
      rw [← List.count_pos_iff]; omega
    rw [this]
    constructor
    · intro hm
      obtain ⟨k, hk, hke⟩ := List.getElem_of_mem hm
      rw [List.length_take, List.length_drop] at hk
      refine ⟨f + k, by omega, ?_, by omega, by omega⟩
      rw [List.getElem_take, List.getElem_drop] at hke
      rw [nth_lt (by omega)]; exact hke
    · rintro ⟨a, h1, h2, h3, h4⟩
      have : ((l.drop f).take (t - f))[a - f]? = some v := by
        rw [List.getElem?_take_of_lt (by omega), List.getElem?_drop, show f + (a - f) = a from by omega, List.getElem?_eq_getElem h1, ← nth_lt h1, h2]
      exact List.mem_of_getElem? this
  · constructor
    · intro hc
      have := List.Sublist.count_le v (List.take_sublist_take_left (l := l) (show t ≤ f by omega))
      omega
    · rintro ⟨a, h1, h2, h3, h4⟩; omega
theorem kindsRef_eq {deep : Nat} {l : List Nat} (hl : ∀ x ∈ l, x < 2 ^ deep) (hd : deep ≤ 11) (f0 t0 : Int) : kindsRef l f0 t0 = kindsT deep l (cl f0 l.length) (cl t0 l.length) deep 0 := by
  rw [kinds_all]
  unfold kindsRef
  have e : ∀ v : Nat, found l f0 t0 v l.length = decide ((l.take (cl f0 l.length)).count v < (l.take (cl t0 l.length)).count v) := by
    intro v
    rw [Bool.eq_iff_iff, found_iff, decide_eq_true_iff, count_iff]
    unfold cl
    constructor
    · rintro ⟨a, h1, h2, h3, h4⟩; exact ⟨a, h1, h2, by omega, by omega⟩
    · rintro ⟨a, h1, h2, h3, h4⟩; exact ⟨a, h1, h2, by omega, by omega⟩
  simp only [e]
  have hp : 2 ^ deep ≤ 2048 := by
    have := Nat.pow_le_pow_right (show 0 < 2 by omega) hd
    simpa using this
  obtain ⟨r, hr⟩ : ∃ r, 2050 = 2 ^ deep + r := ⟨2050 - 2 ^ deep, by omega⟩
  rw [hr, List.range_add, List.filter_append]
  have : ((List.range r).map (2 ^ deep + ·)).filter (fun v => decide ((l.take (cl f0 l.length)).count v < (l.take (cl t0 l.length)).count v)) = [] := by
    rw [List.filter_eq_nil_iff]
    intro v hv
    obtain ⟨k, _, rfl⟩ := List.mem_map.1 hv
    simp only [decide_eq_true_eq, count_iff]
    rintro ⟨a, h1, h2, _⟩
    have := hl _ (nth_mem h1)
    omega
  rw [this, List.append_nil]
end Go.Proofs.Ytjfdlibceldanaa.Wv
