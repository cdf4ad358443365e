/- The wave's calls over lists of numbers. -/
import Derived.Test.YtjfdlibceldanabGreatDoorWvCount
import Derived.Test.YtjfdlibceldanabGreatDoorWvGood
namespace Go.Proofs.YtjfdlibceldanabGreatDoor
open Go.ChangeShapes Go.WideShapes Go.ChangeAt Go.RowKit Wv

theorem make_no (l : List Int) (deep : Int) (A : Option Addr) (c : Nat) (w : World) (hl : l.length ≤ 17592186044416) (hr : Rd w A l.length (fun k => .int .i64 (nth l k))) (h : ¬ fitsP l deep) :
    Calls Tryz.prog 51 #[.slice A l.length c, .int .i64 deep] w (NoWave w) := by
  by_cases hd : 1 ≤ deep ∧ deep ≤ 16
  · obtain ⟨d, rfl⟩ := Int.eq_ofNat_of_zero_le (show 0 ≤ deep by omega)
    refine wmake_num l d A c w ⟨by omega, by omega⟩ hl hr fun hk => h ⟨hd, fun x hx => ?_⟩
    obtain ⟨j, hj, rfl⟩ := List.getElem_of_mem hx
    rw [← nth_lt hj, Int.toNat_natCast]; exact hk j hj
  · exact wmake_deep l deep A c w hd
theorem fits_nat {l : List Int} {deep : Int} (h : fitsP l deep) : ∃ (ln : List Nat) (d : Nat), l = ln.map Int.ofNat ∧ deep = d ∧ (1 ≤ d ∧ d ≤ 16) ∧ ∀ x ∈ ln, x < 2 ^ d := by
  obtain ⟨⟨h1, h2⟩, h3⟩ := h
  obtain ⟨d, rfl⟩ := Int.eq_ofNat_of_zero_le (show 0 ≤ deep by omega)
  refine ⟨l.map Int.toNat, d, ?_, rfl, ⟨by omega, by omega⟩, fun x hx => ?_⟩
  · rw [List.map_map]
    have : l.map (Int.ofNat ∘ Int.toNat) = l.map id := List.map_congr_left fun x hx => Int.toNat_of_nonneg (h3 x hx).1
    rw [this, List.map_id]
  · obtain ⟨y, hy, rfl⟩ := List.mem_map.1 hx
    have := h3 y hy
    rw [Int.toNat_natCast] at this
    have h4 := this.1
    have h5 : ((y.toNat : Nat) : Int) < ((2 ^ d : Nat) : Int) := by
      rw [Int.toNat_of_nonneg h4]; exact_mod_cast this.2
    exact_mod_cast h5
theorem nth_cast (ln : List Nat) (k : Nat) : nth (ln.map Int.ofNat) k = ((nth ln k : Nat) : Int) := by
  unfold nth
  rw [List.getElem?_map]
  cases ln[k]? <;> rfl
theorem rd_cast {w : World} {A : Option Addr} {ln : List Nat} (h : Rd w A ln.length (fun k => .int .i64 (nth ln k : Nat))) : Rd w A (ln.map Int.ofNat).length (fun k => .int .i64 (nth (ln.map Int.ofNat) k)) := by
  rw [List.length_map]
  exact h.congr fun k _ => by rw [nth_cast]
theorem count_cast (ln : List Nat) (x : Nat) : (ln.map Int.ofNat).count (x : Int) = ln.count x := by
  induction ln with
  | nil => rfl
  | cons a t ih =>
    rw [List.map_cons, List.count_cons, List.count_cons, ih]
    by_cases h : a = x
    · subst h; simp
    · have e1 : (Int.ofNat a == (x : Int)) = false := by rw [beq_eq_false_iff_ne]; exact fun e => h (Int.ofNat.inj e)
      have e2 : (a == x) = false := by simpa using h
      rw [e1, e2]
theorem count_out {ln : List Nat} {d : Nat} (hf : ∀ x ∈ ln, x < 2 ^ d) {n : Int} (hn : ¬ (0 ≤ n ∧ n < 2 ^ d)) (k : Nat) : ((ln.map Int.ofNat).take k).count n = 0 := by
  rw [List.count_eq_zero]
  intro h
  obtain ⟨y, hy, rfl⟩ := List.mem_map.1 (List.mem_of_mem_take h)
  refine hn ⟨Int.natCast_nonneg _, ?_⟩
  have := hf y hy
  show ((y : Nat) : Int) < 2 ^ d
  exact_mod_cast this

theorem wcount_calls (l : List Nat) (d : Nat) (hd : 1 ≤ d ∧ d ≤ 16) (hl : l.length ≤ 17592186044416) (hf : ∀ x ∈ l, x < 2 ^ d) (A : Option Addr) (c : Nat) (n i : Int) (w : World) (hr : RdL w A (waveOf l d).L) :
    Calls Tryz.prog 125 #[.agg #[.int .i64 l.length, .int .i64 d, .slice A (waveOf l d).L.length c], .int .i64 n, .int .i64 i] w fun e w' => e = .returned (.int .i64 (((l.map Int.ofNat).take i.toNat).count n : Nat)) ∧ Ext w w' := by
  by_cases hn : 0 ≤ n ∧ n < 2 ^ d
  · obtain ⟨x, rfl⟩ := Int.eq_ofNat_of_zero_le hn.1
    have hx : x < 2 ^ d := by exact_mod_cast hn.2
    have h := wcount_yes l d hd hl hf A c x i hx w hr
    have e : (l.take (cl i l.length)).count x = ((l.map Int.ofNat).take i.toNat).count ((x : Nat) : Int) := by
      rw [← List.map_take, count_cast]
      congr 1
      unfold cl
      rcases Nat.le_total i.toNat l.length with g | g
      · rw [Nat.min_eq_left g]
      · rw [Nat.min_eq_right g, List.take_of_length_le (Nat.le_refl _), List.take_of_length_le g]
    rw [e] at h
    exact h
  · have h := wcount_no l d hd hl hf A c n i hn w hr
    rw [count_out hf hn]
    exact h
theorem rd_back {w : World} {A : Option Addr} {ln : List Nat} (h : Rd w A (ln.map Int.ofNat).length (fun k => .int .i64 (nth (ln.map Int.ofNat) k))) : Rd w A ln.length (fun k => .int .i64 (nth ln k : Nat)) := by
  rw [List.length_map] at h
  exact h.congr fun k _ => by rw [nth_cast]
end Go.Proofs.YtjfdlibceldanabGreatDoor
