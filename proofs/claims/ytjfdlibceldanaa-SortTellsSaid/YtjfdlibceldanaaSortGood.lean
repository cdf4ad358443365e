/- sort.Good and the reference IsList: the walks. -/
import Derived.Test.YtjfdlibceldanaaSortAlike
namespace Go.Proofs.Ytjfdlibceldanaa
open Go.RowKit Go.Sort En

/-- Is one of the first n not above nought? -/
def hasLow (l : List Int) (n : Nat) : Bool := (List.range n).any fun i => decide (nth l i ≤ 0)
theorem hasLow_succ (l : List Int) (n : Nat) : hasLow l (n + 1) = (hasLow l n || decide (nth l n ≤ 0)) := by unfold hasLow; rw [List.range_succ, List.any_append]; simp
def isLB (l : List Int) : Bool := decide (0 < l.length) && (nth l (l.length - 1) == 0) && !hasLow l (l.length - 1)
def okAt (l : List Int) (i : Nat) : Prop := ((i + 1 = l.length) ↔ nth l i = 0) ∧ 0 ≤ nth l i
theorem isLB_iff (l : List Int) : isLB l = true ↔ (0 < l.length ∧ ∀ i, i < l.length → okAt l i) := by
  unfold isLB hasLow okAt
  simp only [Bool.and_eq_true, decide_eq_true_eq, beq_iff_eq, Bool.not_eq_true', List.any_eq_false, List.mem_range]
  constructor
  · rintro ⟨⟨h1, h2⟩, h3⟩
    refine ⟨h1, fun i hi => ?_⟩
    by_cases g : i + 1 = l.length
    · have : i = l.length - 1 := by omega
      rw [← this] at h2
      exact ⟨⟨fun _ => h2, fun _ => g⟩, by omega⟩
    · have := h3 i (by omega)
      exact ⟨⟨fun q => absurd q g, fun q => by omega⟩, by omega⟩
  · rintro ⟨h1, h2⟩
    have hl := h2 (l.length - 1) (by omega)
    refine ⟨⟨h1, hl.1.1 (by omega)⟩, fun i hi => ?_⟩
    have := h2 i (by omega)
    have h3 : nth l i ≠ 0 := fun q => by have := this.1.2 q; omega
    omega
set_option maxHeartbeats 1000000 in
theorem good1_calls (k : Int) (w : World) : Calls Try.prog 73 #[.int .i64 k] w fun e w' => e = .returned (.bool (decide (k ≤ 0))) ∧ w' = w := by
  go_enter Try.func73, Try.ntmps73
  go_wp2_with fail
  go_ret
  exact ⟨rfl, rfl⟩

set_option maxHeartbeats 2000000 in
set_option maxRecDepth 100000 in
theorem index_calls (l : List Int) (n : Nat) (A : Option Addr) (c : Nat) (w : World) (hn : n ≤ 1125899906842624) (hr : Rd w A n (fun k => .int .i64 (nth l k))) :
    Calls Try.prog 85 #[.slice A n c, .func (.func 73) #[] #[]] w fun e w' => ∃ r : Int, e = .returned (.int .i64 r) ∧ decide (0 ≤ r) = hasLow l n ∧ w' = w := by
  have HR := Lib.hid hr
  clear hr
  go_enter Try.func85, Try.ntmps85
  go_wp2_with fail
  go_loop [8] (fun v => ∃ k : Nat, v = .int .i64 k ∧ k ≤ n ∧ Hid (hasLow l k = false)) (fun v => n - (intOf v).toNat)
  case atStart => exact ⟨0, rfl, by omega, rfl⟩
  case round =>
    obtain ⟨k, rfl, hk, HL⟩ := hrel
    by_cases g1 : k < n
    · obtain ⟨b1, o1, rfl, hb1, hc1⟩ := HR.out (by omega)
      have p1 := hc1 k g1
      dsimp only at p1
      have hs := hasLow_succ l k
      rw [HL.out, Bool.false_or] at hs
      obtain ⟨x, hx⟩ : ∃ x, nth l k = x := ⟨_, rfl⟩
      rw [hx] at p1 hs
      have HX := Lib.hid hx
      clear hc1 hx HL
      go_wp2_with fail
      refine (good1_calls x w).mono ?_
      rintro e w' ⟨rfl, rfl⟩
      by_cases g2 : x ≤ 0
      · have g2' : decide (x ≤ 0) = true := by simpa using g2
        rw [g2'] at hs ⊢
        have HS := Lib.hid hs
        clear hs
        go_wp2_with fail
        go_ret
        refine ⟨k, rfl, ?_, rfl⟩
        rw [decide_eq_true (by omega)]
        symm
        unfold hasLow
        rw [List.any_eq_true]
        exact ⟨k, by simpa using g1, by rw [HX.out]; exact g2'⟩
      · have g2' : decide (x ≤ 0) = false := by simpa using g2
        rw [g2'] at hs ⊢
        have HS := Lib.hid hs
        clear hs
        go_wp2_with fail
        go_round
        case rel => exact ⟨k + 1, by go_num, by omega, HS⟩
        case measure => simp [intOf]; omega
    · obtain rfl : k = n := by omega
      go_wp2_with fail
      go_ret
      exact ⟨-1, rfl, by rw [HL.out]; rfl, rfl⟩
set_option maxHeartbeats 2000000 in
set_option maxRecDepth 100000 in
theorem contains_calls (l : List Int) (n : Nat) (A : Option Addr) (c : Nat) (w : World) (hn : n ≤ 1125899906842624) (hr : Rd w A n (fun k => .int .i64 (nth l k))) :
    Calls Try.prog 72 #[.slice A n c, .func (.func 73) #[] #[]] w fun e w' => e = .returned (.bool (hasLow l n)) ∧ w' = w := by
  have hc := index_calls l n A c w hn hr
  go_enter Try.func72, Try.ntmps72
  go_wp2_with fail
  refine hc.mono ?_
  rintro e w' ⟨r, rfl, hr', rfl⟩
  go_wp2_with fail
  go_ret
  exact ⟨by rw [← hr']; rfl, rfl⟩

set_option maxHeartbeats 2000000 in
set_option maxRecDepth 100000 in
theorem sgood_calls (l : List Int) (A : Option Addr) (c : Nat) (w : World) (hl : l.length ≤ 1125899906842624) (hc : l.length ≤ c) (hr : Rd w A l.length (fun k => .int .i64 (nth l k))) :
    Calls Try.prog 45 #[.slice A l.length c] w fun e w' => e = .returned (.bool (isLB l)) ∧ w' = w := by
  obtain ⟨R, hR⟩ : ∃ R, isLB l = R := ⟨_, rfl⟩
  rw [hR]
  have HR := Lib.hid hR
  by_cases g1 : 0 < l.length
  · have g1' : decide (0 < l.length) = true := by simpa using g1
    obtain ⟨n1, hn1⟩ : ∃ n1, l.length - 1 = n1 := ⟨_, rfl⟩
    have hn2 : (l.length : Int) - 1 = (n1 : Int) := by omega
    have hcc := contains_calls l n1 A c w (by omega) (fun hn => by
      obtain ⟨b, o, h1, h2, h3⟩ := hr g1
      exact ⟨b, o, h1, h2, fun k hk => h3 k (by omega)⟩)
    obtain ⟨b1, o1, rfl, hb1, hc1⟩ := hr g1
    have p1 := hc1 n1 (by omega)
    dsimp only at p1
    unfold isLB at hR
    rw [hn1, g1', Bool.true_and] at hR
    obtain ⟨x, hx⟩ : ∃ x, nth l n1 = x := ⟨_, rfl⟩
    rw [hx] at p1 hR
    have HV := Lib.hid hR
    have HC := Lib.hid hcc
    have hn3 : n1 ≤ l.length := by omega
    clear hc1 hx hR hcc hr
    by_cases g2 : x = 0
    · have g2' : (x == 0) = true := by simpa using g2
      subst g2
      go_enter Try.func45, Try.ntmps45
      go_wp2_with fail
      refine HC.out.mono ?_
      rintro e w' ⟨rfl, rfl⟩
      go_wp2_with fail
      go_ret
      exact ⟨by rw [← HV.out]; rfl, rfl⟩
    · have g2' : (x == 0) = false := by simpa using g2
      have hf : R = false := by rw [← HV.out, g2']; rfl
      have HF := Lib.hid hf
      clear g2 hf
      go_enter Try.func45, Try.ntmps45
      go_wp2_with fail
      go_ret
      exact ⟨by rw [HF.out]; rfl, rfl⟩
  · have g1' : decide (0 < l.length) = false := by simpa using g1
    have hf : R = false := by rw [← HR.out]; unfold isLB; rw [g1']; rfl
    have HF := Lib.hid hf
    clear hf hR
    go_enter Try.func45, Try.ntmps45
    go_wp2_with fail
    go_ret
    exact ⟨by rw [HF.out]; rfl, rfl⟩

set_option maxHeartbeats 2000000 in
set_option maxRecDepth 100000 in
theorem isList_calls (l : List Int) (A : Option Addr) (c : Nat) (w : World) (hl : l.length ≤ 1125899906842624) (hr : Rd w A l.length (fun k => .int .i64 (nth l k))) :
    Calls Try.prog 46 #[.slice A l.length c] w fun e w' => e = .returned (.bool (isLB l)) ∧ w = w' := by
  obtain ⟨R, hR⟩ : ∃ R, isLB l = R := ⟨_, rfl⟩
  rw [hR]
  have HR := Lib.hid hR
  have HRD := Lib.hid hr
  clear hR hr
  go_enter Try.func46, Try.ntmps46
  go_wp2_with fail
  go_loop [7] (fun v => ∃ k : Nat, v = .int .i64 k ∧ k ≤ l.length ∧ Hid (∀ j, j < k → okAt l j)) (fun v => l.length - (intOf v).toNat)
  case atStart => exact ⟨0, rfl, by omega, fun j hj => absurd hj (Nat.not_lt_zero _)⟩
  case round =>
    obtain ⟨k, rfl, hk, HP⟩ := hrel
    by_cases g1 : k < l.length
    · obtain ⟨b1, o1, rfl, hb1, hc1⟩ := HRD.out (by omega)
      have p1 := hc1 k g1
      dsimp only at p1
      obtain ⟨x, hx⟩ : ∃ x, nth l k = x := ⟨_, rfl⟩
      rw [hx] at p1
      have HX := Lib.hid hx
      obtain ⟨n1, hn1⟩ : ∃ n1, l.length - 1 = n1 := ⟨_, rfl⟩
      have hn2 : (l.length : Int) - 1 = (n1 : Int) := by omega
      obtain ⟨b, hb⟩ : ∃ b, ((k : Int) == (n1 : Int)) = b := ⟨_, rfl⟩
      obtain ⟨z, hz⟩ : ∃ z, (x == 0) = z := ⟨_, rfl⟩
      have HB : Hid (b = decide (k + 1 = l.length)) := by
        show _ = _
        rw [← hb, Bool.eq_iff_iff, beq_iff_eq, decide_eq_true_iff]; omega
      have HZ : Hid (z = decide (x = 0)) := by
        show _ = _
        rw [← hz, Bool.eq_iff_iff, beq_iff_eq, decide_eq_true_iff]
      have bad : ¬ okAt l k → R = false := fun h => by
        rw [← HR.out, Bool.eq_false_iff]
        intro q
        exact h (((isLB_iff l).1 q).2 k g1)
      have BAD := Lib.hid bad
      clear hc1 hx bad
      cases b with
      | true =>
        cases z with
        | true =>
          by_cases g3 : x < 0
          · have g3' : decide (x < 0) = true := by simpa using g3
            have hf : R = false := BAD.out fun h => by have := h.2; rw [HX.out] at this; omega
            have HF := Lib.hid hf
            clear hf
            go_wp2_with fail
            go_ret
            exact ⟨by rw [HF.out]; rfl, rfl⟩
          · have g3' : decide (x < 0) = false := by simpa using g3
            have HP2 : Hid (∀ j, j < k + 1 → okAt l j) := fun j hj => by
              by_cases ej : j = k
              · subst ej
                refine ⟨?_, by rw [HX.out]; omega⟩
                rw [HX.out]
                exact decide_eq_decide.1 (HB.out.symm.trans HZ.out)
              · exact HP.out j (by omega)
            go_wp2_with fail
            go_round
            case rel => exact ⟨k + 1, by go_num, by omega, HP2⟩
            case measure => simp [intOf]; omega
        | false =>
          have hf : R = false := BAD.out fun h => by
            have := h.1
            rw [HX.out] at this
            have h2 := HB.out.trans ((decide_eq_decide.2 this).trans HZ.out.symm)
            cases h2
          have HF := Lib.hid hf
          clear hf
          go_wp2_with fail
          go_ret
          exact ⟨by rw [HF.out]; rfl, rfl⟩
      | false =>
        cases z with
        | true =>
          have hf : R = false := BAD.out fun h => by
            have := h.1
            rw [HX.out] at this
            have h2 := HB.out.trans ((decide_eq_decide.2 this).trans HZ.out.symm)
            cases h2
          have HF := Lib.hid hf
          clear hf
          go_wp2_with fail
          go_ret
          exact ⟨by rw [HF.out]; rfl, rfl⟩
        | false =>
          by_cases g3 : x < 0
          · have g3' : decide (x < 0) = true := by simpa using g3
            have hf : R = false := BAD.out fun h => by have := h.2; rw [HX.out] at this; omega
            have HF := Lib.hid hf
            clear hf
            go_wp2_with fail
            go_ret
            exact ⟨by rw [HF.out]; rfl, rfl⟩
          · have g3' : decide (x < 0) = false := by simpa using g3
            have HP2 : Hid (∀ j, j < k + 1 → okAt l j) := fun j hj => by
              by_cases ej : j = k
              · subst ej
                refine ⟨?_, by rw [HX.out]; omega⟩
                rw [HX.out]
                exact decide_eq_decide.1 (HB.out.symm.trans HZ.out)
              · exact HP.out j (by omega)
            go_wp2_with fail
            go_round
            case rel => exact ⟨k + 1, by go_num, by omega, HP2⟩
            case measure => simp [intOf]; omega
    · obtain rfl : k = l.length := by omega
      have hf : R = decide (0 < l.length) := by
        rw [← HR.out, Bool.eq_iff_iff, isLB_iff, decide_eq_true_iff]
        exact ⟨fun h => h.1, fun h => ⟨h, HP.out⟩⟩
      have HF := Lib.hid hf
      clear hf
      go_wp2_with fail
      go_ret
      exact ⟨by rw [HF.out]; simp, rfl⟩
end Go.Proofs.Ytjfdlibceldanaa
