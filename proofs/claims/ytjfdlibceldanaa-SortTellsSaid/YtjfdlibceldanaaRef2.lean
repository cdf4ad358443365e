/- The references OnesOf and PlaceOf: the walks. -/
import Derived.Test.YtjfdlibceldanaaRef1
namespace Go.Proofs.Ytjfdlibceldanaa
open Go.RowKit

theorem cnt_take_succ (l : List Bool) (k : Nat) (h : k < l.length) : cnt (l.take (k + 1)) = cnt (l.take k) + if nth l k then 1 else 0 := by
  rw [take_succ_nth l k h, cnt_append]
  simp [cnt]

set_option maxHeartbeats 1000000 in
theorem onesOf_calls (l : List Bool) (A : Option Addr) (c : Nat) (i : Int) (w : World) (hl : l.length ≤ 1125899906842624) (hr : Rd w A l.length (fun k => .bool (nth l k))) :
    Calls Try.prog 22 #[.slice A l.length c, .int .i64 i] w fun e w' => e = .returned (.int .i64 (cnt (l.take i.toNat) : Nat)) ∧ w = w' := by
  obtain ⟨f, hf⟩ : ∃ f : Nat → Nat, f = fun k => cnt (l.take (min k i.toNat)) := ⟨_, rfl⟩
  have HF := Lib.hid hf
  have h0 : f 0 = 0 := by rw [hf]; simp [cnt]
  have hle : ∀ k, f k ≤ k := fun k => by
    rw [hf]
    have := cnt_le (l.take (min k i.toNat))
    rw [List.length_take] at this
    show cnt (l.take (min k i.toNat)) ≤ k
    omega
  have hend : f l.length = cnt (l.take i.toNat) := by
    rw [hf]
    show cnt (l.take (min l.length i.toNat)) = _
    by_cases h : i.toNat ≤ l.length
    · rw [Nat.min_eq_right h]
    · rw [Nat.min_eq_left (by omega), List.take_of_length_le (Nat.le_refl _), List.take_of_length_le (by omega)]
  have hstep : ∀ k, k < l.length → f (k + 1) = f k + if nth l k = true ∧ (k : Int) < i then 1 else 0 := fun k hk => by
    rw [hf]
    show cnt (l.take (min (k + 1) i.toNat)) = cnt (l.take (min k i.toNat)) + _
    by_cases h : (k : Int) < i
    · rw [Nat.min_eq_left (by omega), Nat.min_eq_left (by omega), cnt_take_succ l k hk]
      simp [h]
    · rw [Nat.min_eq_right (by omega), Nat.min_eq_right (by omega)]
      simp [h]
  rw [← hend]
  have H0 := Lib.hid h0; have HL := Lib.hid hle; have HS := Lib.hid hstep
  clear hf h0 hle hend hstep
  have HR := Lib.hid hr; clear hr
  go_enter Try.func22, Try.ntmps22
  go_wp2_with fail
  go_loop [5, 10] (fun n x => ∃ k : Nat, k ≤ l.length ∧ x = .int .i64 k ∧ n = .int .i64 (f k : Nat)) (fun _ x => l.length - (intOf x).toNat)
  case atStart => exact ⟨0, by omega, rfl, by rw [H0.out]; rfl⟩
  case round =>
    obtain ⟨k, hk, rfl, rfl⟩ := hrel
    by_cases g1 : k < l.length
    · obtain ⟨b1, o1, rfl, hb1, hc1⟩ := HR.out (by omega)
      have p1 := hc1 k g1
      dsimp only at p1
      clear hc1
      have hfk := HL.out k
      by_cases g2 : nth l k = true
      · rw [g2] at p1
        by_cases g3 : (k : Int) < i
        · have HS1 : Hid (f (k + 1) = f k + 1) := Lib.hid (by rw [HS.out k g1, if_pos ⟨g2, g3⟩])
          clear g2
          go_wp2_with fail
          go_round
          case rel => exact ⟨k + 1, by omega, by go_num, by rw [HS1.out]; go_num⟩
          case measure => simp [intOf]; omega
        · have HS1 : Hid (f (k + 1) = f k) := Lib.hid (by rw [HS.out k g1, if_neg (fun h => g3 h.2)]; rfl)
          have g3' : decide ((k : Int) < i) = false := by simpa using g3
          clear g2
          go_wp2_with fail
          go_round
          case rel => exact ⟨k + 1, by omega, by go_num, by rw [HS1.out]⟩
          case measure => simp [intOf]; omega
      · have g2' : nth l k = false := by simpa using g2
        rw [g2'] at p1
        have HS1 : Hid (f (k + 1) = f k) := Lib.hid (by rw [HS.out k g1, if_neg (fun h => g2 h.1)]; rfl)
        clear g2 g2'
        go_wp2_with fail
        go_round
        case rel => exact ⟨k + 1, by omega, by go_num, by rw [HS1.out]⟩
        case measure => simp [intOf]; omega
    · have hkl : k = l.length := by omega
      subst hkl
      go_wp2_with fail
      go_ret
      exact ⟨rfl, rfl⟩

/-- The place of the k-th true, from i on. -/
def placeGo : List Bool → Nat → Nat → Int
  | [], _, _ => -1
  | b :: t, k, i => if b then (if k = 0 then i else placeGo t (k - 1) (i + 1)) else placeGo t k (i + 1)
theorem drop_nth {α : Type} [Inhabited α] (l : List α) (i : Nat) (h : i < l.length) : l.drop i = nth l i :: l.drop (i + 1) := by
  rw [nth_lt h]; exact List.drop_eq_getElem_cons h

set_option maxHeartbeats 1000000 in
theorem placeOf_calls (l : List Bool) (A : Option Addr) (c : Nat) (k : Nat) (w : World) (hl : l.length ≤ 1125899906842624) (hk : k ≤ 9223372036854775807) (hr : Rd w A l.length (fun k => .bool (nth l k))) :
    Calls Try.prog 17 #[.slice A l.length c, .int .i64 k] w fun e w' => e = .returned (.int .i64 (placeGo l k 0)) ∧ w = w' := by
  obtain ⟨R, hR⟩ : ∃ R, placeGo l k 0 = R := ⟨_, rfl⟩
  rw [hR]
  have hR0 : placeGo (l.drop 0) k 0 = R := hR
  have HR0 := Lib.hid hR0; clear hR hR0
  have HR := Lib.hid hr; clear hr
  go_enter Try.func17, Try.ntmps17
  go_wp2_with fail
  go_loop [1, 9] (fun m x => ∃ k i : Nat, i ≤ l.length ∧ k ≤ 9223372036854775807 ∧ x = .int .i64 i ∧ m = .int .i64 k ∧ Hid (placeGo (l.drop i) k i = R)) (fun _ x => l.length - (intOf x).toNat)
  case atStart => exact ⟨k, 0, by omega, hk, rfl, rfl, HR0⟩
  case round =>
    obtain ⟨k, i, hi, hk, rfl, rfl, HP⟩ := hrel
    by_cases g1 : i < l.length
    · obtain ⟨b1, o1, rfl, hb1, hc1⟩ := HR.out (by omega)
      have p1 := hc1 i g1
      dsimp only at p1
      clear hc1
      have hd := drop_nth l i g1
      have hp := HP.out
      rw [hd, placeGo] at hp
      clear hd
      by_cases g2 : nth l i = true
      · rw [g2] at p1 hp
        rw [if_pos rfl] at hp
        clear g2
        by_cases g3 : k = 0
        · subst g3
          rw [if_pos rfl] at hp
          have HP2 := Lib.hid hp; clear hp HP
          go_wp2_with fail
          go_ret
          refine ⟨?_, rfl⟩
          rw [← HP2.out]; rfl
        · rw [if_neg g3] at hp
          have HP2 := Lib.hid hp; clear hp HP
          have g3' : ((k : Int) == 0) = false := by rw [beq_eq_false_iff_ne]; omega
          have hk1 : 1 ≤ k := by omega
          clear g3
          go_wp2_with fail
          go_round
          case rel => exact ⟨k - 1, i + 1, by omega, by omega, by go_num, by rw [show ((k - 1 : Nat) : Int) = (k : Int) - 1 from by omega], HP2⟩
          case measure => simp [intOf]; omega
      · have g2' : nth l i = false := by simpa using g2
        rw [g2'] at p1 hp
        rw [if_neg (by simp)] at hp
        have HP2 := Lib.hid hp; clear hp HP g2 g2'
        go_wp2_with fail
        go_round
        case rel => exact ⟨k, i + 1, by omega, hk, by go_num, rfl, HP2⟩
        case measure => simp [intOf]; omega
    · have hkl : i = l.length := by omega
      have hp := HP.out
      rw [hkl, List.drop_length, placeGo] at hp
      have HP2 := Lib.hid hp; clear hp HP hkl
      go_wp2_with fail
      go_ret
      exact ⟨by rw [← HP2.out]; rfl, rfl⟩
end Go.Proofs.Ytjfdlibceldanaa
