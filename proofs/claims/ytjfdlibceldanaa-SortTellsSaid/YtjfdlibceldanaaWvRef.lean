/- The references Fits, CountIn and KindsIn: the walks. -/
import Derived.Test.YtjfdlibceldanaaRef2
import Derived.Test.YtjfdlibceldanaaKindL
namespace Go.Proofs.Ytjfdlibceldanaa
open Go.RowKit Wv

/-- Numbers that fit: below 2^deep, deep from 1 to 16. -/
def okNum (d : Nat) (x : Int) : Prop := 0 ≤ x ∧ x < 2 ^ d
instance (d : Nat) (x : Int) : Decidable (okNum d x) := by unfold okNum; infer_instance
def fitsP (l : List Int) (deep : Int) : Prop := (1 ≤ deep ∧ deep ≤ 16) ∧ ∀ x ∈ l, okNum deep.toNat x
instance (l : List Int) (deep : Int) : Decidable (fitsP l deep) := by unfold fitsP; infer_instance

set_option maxHeartbeats 1000000 in
theorem fits_calls (l : List Int) (deep : Int) (A : Option Addr) (c : Nat) (w : World) (hl : l.length ≤ 1125899906842624) (hr : Rd w A l.length (fun k => .int .i64 (nth l k))) :
    Calls Try.prog 26 #[.slice A l.length c, .int .i64 deep] w fun e w' => e = .returned (.bool (decide (fitsP l deep))) ∧ w = w' := by
  obtain ⟨R, hR⟩ : ∃ R, decide (fitsP l deep) = R := ⟨_, rfl⟩
  rw [hR]
  obtain ⟨m, hm⟩ : ∃ m, (if (40 : Int) < deep then (40 : Int) else deep) = m := ⟨_, rfl⟩
  obtain ⟨D, hD⟩ : ∃ D : Nat, (if 0 < m then m else 0) = (D : Int) := ⟨(if 0 < m then m else 0).toNat, by split <;> omega⟩
  have hD40 : D ≤ 40 := by
    have : m ≤ 40 := by rw [← hm]; split <;> omega
    split at hD <;> omega
  have hDd : 1 ≤ deep ∧ deep ≤ 16 → deep.toNat = D := fun h => by
    rw [if_neg (by omega)] at hm
    rw [if_pos (by omega)] at hD
    omega
  have HR := Lib.hid hR; have HDD := Lib.hid hDd
  have hp : IntKind.i64.wrap ((2 : Int) ^ D) = 2 ^ D := by
    have h1 : (2 : Nat) ^ D ≤ 2 ^ 40 := Nat.pow_le_pow_right (by omega) hD40
    have e : ((2 : Int) ^ D) = ((2 ^ D : Nat) : Int) := by simp
    rw [e]
    have h2 : (2 : Nat) ^ 40 = 1099511627776 := by decide
    generalize (2 : Nat) ^ D = y at *
    exact IntWalk.i64_in _ (by omega)
  clear hR hDd
  have HRD := Lib.hid hr; clear hr
  go_enter Try.func26, Try.ntmps26
  go_wp2_with fail
  go_loop [9] (fun x => ∃ k : Nat, k ≤ l.length ∧ x = .int .i64 k ∧ Hid (∀ j, j < k → okNum D (nth l j))) (fun x => l.length - (intOf x).toNat)
  case atStart => exact ⟨0, by omega, rfl, fun j hj => absurd hj (Nat.not_lt_zero _)⟩
  case round =>
    obtain ⟨k, hk, rfl, HP⟩ := hrel
    by_cases g1 : k < l.length
    · obtain ⟨b1, o1, rfl, hb1, hc1⟩ := HRD.out (by omega)
      have p1 := hc1 k g1
      dsimp only at p1
      clear hc1
      obtain ⟨x, hx⟩ : ∃ x, nth l k = x := ⟨_, rfl⟩
      rw [hx] at p1
      have HX := Lib.hid hx
      clear hx
      by_cases q1 : x < 0
      · have q1' : decide (x < 0) = true := by simpa using q1
        go_wp2_with fail
        go_ret
        refine ⟨?_, rfl⟩
        rw [← HR.out, decide_eq_false]
        · rfl
        · intro h
          have := (h.2 _ (nth_mem g1)).1
          rw [HX.out] at this
          omega
      · have q0 : 0 ≤ x := by omega
        have q1' : decide (x < 0) = false := by simpa using q1
        by_cases q2 : x < 2 ^ D
        · have q3 : decide ((2 : Int) ^ D ≤ x) = false := by simpa using q2
          have HP2 : Hid (∀ j, j < k + 1 → okNum D (nth l j)) := fun j hj => by
            by_cases e : j = k
            · subst e; rw [HX.out]; exact ⟨q0, q2⟩
            · exact HP.out j (by omega)
          clear q2
          go_wp2_with fail
          go_round
          case rel => exact ⟨k + 1, by omega, by go_num, HP2⟩
          case measure => simp [intOf]; omega
        · have q3 : decide ((2 : Int) ^ D ≤ x) = true := by simpa using q2
          go_wp2_with fail
          go_ret
          refine ⟨?_, rfl⟩
          rw [← HR.out, decide_eq_false]
          · rfl
          · intro h
            have := (h.2 _ (nth_mem g1)).2
            rw [HX.out, HDD.out h.1] at this
            exact absurd this (Int.not_lt.2 q2)
    · have hkl : k = l.length := by omega
      subst hkl
      have hall : ∀ x ∈ l, okNum D x := fun x hx => by
        obtain ⟨j, hj, rfl⟩ := List.getElem_of_mem hx
        rw [← nth_lt hj]; exact HP.out j hj
      by_cases h1 : 1 ≤ deep
      · have h1' : decide (1 ≤ deep) = true := by simpa using h1
        have hf : R = decide (deep ≤ 16) := by
          rw [← HR.out]
          by_cases h2 : deep ≤ 16
          · rw [decide_eq_true h2]
            refine decide_eq_true ⟨⟨h1, h2⟩, ?_⟩
            rw [HDD.out ⟨h1, h2⟩]; exact hall
          · rw [decide_eq_false h2]
            exact decide_eq_false fun h => h2 h.1.2
        have HF := Lib.hid hf
        clear hall hf
        go_wp2_with fail
        go_ret
        exact ⟨by rw [HF.out]; rfl, rfl⟩
      · have h1' : decide (1 ≤ deep) = false := by simpa using h1
        have hf : R = false := by rw [← HR.out]; exact decide_eq_false fun h => h1 h.1.1
        have HF := Lib.hid hf
        clear hall hf
        go_wp2_with fail
        go_ret
        exact ⟨by rw [HF.out]; rfl, rfl⟩

set_option maxHeartbeats 1000000 in
theorem countIn_calls (l : List Int) (A : Option Addr) (c : Nat) (n i : Int) (w : World) (hl : l.length ≤ 1125899906842624) (hr : Rd w A l.length (fun k => .int .i64 (nth l k))) :
    Calls Try.prog 35 #[.slice A l.length c, .int .i64 n, .int .i64 i] w fun e w' => e = .returned (.int .i64 ((l.take i.toNat).count n : Nat)) ∧ w = w' := by
  obtain ⟨f, hf⟩ : ∃ f : Nat → Nat, f = fun k => (l.take (min k i.toNat)).count n := ⟨_, rfl⟩
  have h0 : f 0 = 0 := by rw [hf]; simp
  have hle : ∀ k, f k ≤ k := fun k => by
    rw [hf]
    have := List.count_le_length (a := n) (l := l.take (min k i.toNat))
    rw [List.length_take] at this
    show (l.take (min k i.toNat)).count n ≤ k
    omega
  have hend : f l.length = (l.take i.toNat).count n := by
    rw [hf]
    show (l.take (min l.length i.toNat)).count n = _
    by_cases h : i.toNat ≤ l.length
    · rw [Nat.min_eq_right h]
    · rw [Nat.min_eq_left (by omega), List.take_of_length_le (Nat.le_refl _), List.take_of_length_le (by omega)]
  have hstep : ∀ k, k < l.length → f (k + 1) = f k + if (k : Int) < i ∧ nth l k = n then 1 else 0 := fun k hk => by
    rw [hf]
    show (l.take (min (k + 1) i.toNat)).count n = (l.take (min k i.toNat)).count n + _
    by_cases h : (k : Int) < i
    · rw [Nat.min_eq_left (by omega), Nat.min_eq_left (by omega), take_succ_nth l k hk, List.count_append]
      by_cases g : nth l k = n
      · simp [h, g]
      · simp [h, g]
    · rw [Nat.min_eq_right (by omega), Nat.min_eq_right (by omega)]
      simp [h]
  rw [← hend]
  have H0 := Lib.hid h0; have HL := Lib.hid hle; have HS := Lib.hid hstep
  clear hf h0 hle hend hstep
  have HR := Lib.hid hr; clear hr
  go_enter Try.func35, Try.ntmps35
  go_wp2_with fail
  go_loop [7, 12] (fun m x => ∃ k : Nat, k ≤ l.length ∧ x = .int .i64 k ∧ m = .int .i64 (f k : Nat)) (fun _ x => l.length - (intOf x).toNat)
  case atStart => exact ⟨0, by omega, rfl, by rw [H0.out]; rfl⟩
  case round =>
    obtain ⟨k, hk, rfl, rfl⟩ := hrel
    by_cases g1 : k < l.length
    · obtain ⟨b1, o1, rfl, hb1, hc1⟩ := HR.out (by omega)
      have p1 := hc1 k g1
      dsimp only at p1
      clear hc1
      have hfk := HL.out k
      obtain ⟨x, hx⟩ : ∃ x, nth l k = x := ⟨_, rfl⟩
      rw [hx] at p1
      by_cases g3 : (k : Int) < i
      · have g3' : decide ((k : Int) < i) = true := by simpa using g3
        by_cases g2 : x = n
        · have HS1 : Hid (f (k + 1) = f k + 1) := Lib.hid (by rw [HS.out k g1, if_pos ⟨g3, hx.trans g2⟩])
          have g2' : (x == n) = true := by simpa using g2
          clear g2 hx
          go_wp2_with fail
          go_round
          case rel => exact ⟨k + 1, by omega, by go_num, by rw [HS1.out]; go_num⟩
          case measure => simp [intOf]; omega
        · have HS1 : Hid (f (k + 1) = f k) := Lib.hid (by rw [HS.out k g1, if_neg (fun h => g2 (hx.symm.trans h.2))]; rfl)
          have g2' : (x == n) = false := by simpa using g2
          clear g2 hx
          go_wp2_with fail
          go_round
          case rel => exact ⟨k + 1, by omega, by go_num, by rw [HS1.out]⟩
          case measure => simp [intOf]; omega
      · have HS1 : Hid (f (k + 1) = f k) := Lib.hid (by rw [HS.out k g1, if_neg (fun h => g3 h.1)]; rfl)
        have g3' : decide ((k : Int) < i) = false := by simpa using g3
        clear hx
        go_wp2_with fail
        go_round
        case rel => exact ⟨k + 1, by omega, by go_num, by rw [HS1.out]⟩
        case measure => simp [intOf]; omega
    · have hkl : k = l.length := by omega
      subst hkl
      go_wp2_with fail
      go_ret
      exact ⟨rfl, rfl⟩
end Go.Proofs.Ytjfdlibceldanaa
