/- guess.Likely: the walk. -/
import Derived.Test.YtjfdlibceldanabGreatDoorGuG
namespace Go.Proofs.YtjfdlibceldanabGreatDoor
open Go.RowKit Go.Sort En Wv Gu Ri

set_option maxHeartbeats 4000000 in
set_option maxRecDepth 100000 in
theorem likely_out (n m2 : Nat) (E B D : Option Addr) (ec bc dc : Nat) (hm : 2 ≤ m2) (hm2 : m2 ≤ 4096) (L : Nat) (A : Option Addr) (c : Nat) (sign : Int) (w : World) (h : sign < 1 ∨ (m2 : Int) - 2 < sign) :
    Calls Tryz.prog 36 #[combV n m2 E B D ec bc dc, .slice A L c, .int .i64 sign] w (RetPart (0, 1) w) := by
  have cS := fun w => gsigns_calls n m2 E B D ec bc dc hm hm2 w
  have e1 : ((m2 - 2 : Nat) : Int) = (m2 : Int) - 2 := by omega
  rw [e1] at cS
  have CS := Lib.hid cS
  unfold combV at CS ⊢
  clear cS e1
  by_cases h1 : sign < 1
  · have h1' : decide (sign < 1) = true := by simpa using h1
    go_enter Tryz.func36, Tryz.ntmps36
    go_wp2_with fail
    generalize hW1 : World.alloc w _ = W1
    have hs1 : W1.heap.size = w.heap.size + 1 := by rw [← hW1]; simp
    generalize hW : World.alloc W1 _ = W
    have bl := bk_of hW
    rw [hs1] at bl
    have hx : Ext w W := (ext_of_alloc hW1).trans (ext_of_alloc hW)
    clear hW hW1 hs1
    have z0 := bl.cell 0
    have z1 := bl.cell 1
    exact bodyPost_ret (v := .agg #[.int .i64 0, .int .i64 1]) (by simp [results, Tryz.results36, go_sem, z0, z1]) rfl ⟨rfl, hx⟩
  · have h1' : decide (sign < 1) = false := by simpa using h1
    have h2 : (m2 : Int) - 2 < sign := by omega
    have h2' : decide ((m2 : Int) - 2 < sign) = true := by simpa using h2
    go_enter Tryz.func36, Tryz.ntmps36
    go_upto_region 1 with fail
    generalize hW1 : World.alloc w _ = W1
    have hs1 : W1.heap.size = w.heap.size + 1 := by rw [← hW1]; simp
    have bq := bk_of hW1
    generalize hW : World.alloc W1 _ = W
    have bl := bk_of hW
    rw [hs1] at bl
    have hx : Ext w W := (ext_of_alloc hW1).trans (ext_of_alloc hW)
    have hB : w.heap.size ≤ w.heap.size + 1 := by omega
    have bqW := bq.ext (ext_of_alloc hW)
    clear hW hW1 hs1 bq
    have x0 := bqW.cell 0
    have x1 := bqW.cell 1
    have x2 := bqW.cell 2
    have x3 := bqW.cell 3
    have x4 := bqW.cell 4
    go_wp2_with fail
    with_reducible refine (CS.out W).mono ?_
    rintro e w2 ⟨rfl, hx2⟩
    have br := bl.ext hx2
    have z0 := br.cell 0
    have z1 := br.cell 1
    have f0 := br.frozen 0
    have f1 := br.frozen 1
    have BF := Lib.hid (bk2G (v0 := .int .i64 0) (v1 := .int .i64 1) br)
    have HXF := Lib.hid (ext2G (B := w.heap.size + 1) (hx.trans hx2) hB (.int .i64 0) (.int .i64 1))
    clear x0 x1 x2 x3 x4 br bl bqW
    go_wp2_with fail
    clear z0 z1 f0 f1
    have bF := BF.out
    have hxF := HXF.out
    generalize (w2.setCell _ _).setCell _ _ = wF at *
    have z0 := bF.cell 0
    have z1 := bF.cell 1
    exact bodyPost_ret (v := .agg #[.int .i64 0, .int .i64 1]) (by simp [results, Tryz.results36, go_sem, z0, z1]) rfl ⟨rfl, hxF⟩

theorem rd_drop {w : World} {a : Addr} {L d : Nat} {f : Nat → Value} (h : Rd w (some a) L f) (_hd : d ≤ L) : Rd w (some (a.add d)) (L - d) (fun j => f (d + j)) := fun hn => by
  obtain ⟨b, o, hA, hb, hc⟩ := h (by omega)
  injection hA with hA
  subst hA
  refine ⟨b, o + d, by rw [Go.WideShapes.add_plain], hb, fun k hk => ?_⟩
  rw [Nat.add_assoc]
  exact hc (d + k) (by omega)

set_option maxHeartbeats 16000000 in
set_option maxRecDepth 100000 in
theorem likely_walk (n m2 : Nat) (E B D : Option Addr) (ec bc dc : Nat) (hm : 2 ≤ m2) (hm2 : m2 ≤ 4096) (sf : Nat → Int) (A : Option Addr) (L c L2 d : Nat) (hL : L ≤ 100000000) (hc : L ≤ c) (hA : A = none → c = 0) (hd : L - 2 = d) (hL2 : L - d = L2) (sign : Int) (w : World) (R : World → Prop) (hR : ∀ w w', Ext w w' → R w → R w') (hr : R w) (hs : Rd w A L (fun k => .int .i64 (sf k)))
    (h1 : 1 ≤ sign) (h2 : sign ≤ (m2 : Int) - 2) (sg : Nat) (hsg : max (1 : Int) ((m2 : Int) - 2) = (sg : Int))
    (V : Nat → Nat × Nat) (hV0 : V (L2 + 1) = (1, sg)) (oN aN kN : Nat → Nat) (hle : ∀ k, k ≤ L2 → oN k ≤ 101 ∧ aN k ≤ 101 ∧ kN k ≤ 101) (hvp : ∀ k, k ≤ L2 → 0 < (V (k + 1)).2 ∧ (V (k + 1)).1 ≤ (V (k + 1)).2 ∧ (V (k + 1)).2 ≤ 2700000000000)
    (hbrk : ∀ k, k ≤ L2 → aN k = 0 → V 0 = V (k + 1)) (hstep : ∀ k, k ≤ L2 → aN k ≠ 0 → V k = addF (partF (4 * oN k - 3) (4 * aN k)) (timesF (partF (3 * kN k) (4 * aN k)) (V (k + 1))))
    (cw : ∀ k A3 c3 w, k ≤ L2 → R w → (A3 = none → c3 = 0) → Rd w A3 (L2 - k) (fun j => .int .i64 (sf (d + k + j))) → Calls Tryz.prog 59 #[combV n m2 E B D ec bc dc, .slice A3 (L2 - k) c3, .int .i64 sign, .bool (decide (k = 0 ∧ L2 = 2))] w fun e w' => e = .returned (.tuple #[.int .i64 (oN k : Nat), .int .i64 (aN k : Nat), .int .i64 (kN k : Nat)]) ∧ Ext w w') :
    Calls Tryz.prog 36 #[combV n m2 E B D ec bc dc, .slice A L c, .int .i64 sign] w (RetPart (V 0) w) := by
  have cS := fun w => gsigns_calls n m2 E B D ec bc dc hm hm2 w
  have e1 : ((m2 - 2 : Nat) : Int) = (m2 : Int) - 2 := by omega
  rw [e1] at cS
  have CS := Lib.hid cS; have CW := Lib.hid cw; have HR := Lib.hid hR; have HV0 := Lib.hid hV0; have HLE := Lib.hid hle; have HVP := Lib.hid hvp; have HBRK := Lib.hid hbrk; have HST := Lib.hid hstep; have HS := Lib.hid hs
  unfold combV at CS CW ⊢
  clear cS e1 cw hR hV0 hle hvp hbrk hstep hs
  have h1' : decide (sign < 1) = false := by simp; omega
  have h2' : decide ((m2 : Int) - 2 < sign) = false := by simp; omega
  have hd0 : max (0 : Int) ((L : Int) - 3 + 1) = (d : Int) := by omega
  have hw3 : IntKind.i64.wrap ((L : Int) - 3) = (L : Int) - 3 := IntWalk.i64_in _ (by omega)
  have hw4 : IntKind.i64.wrap ((L : Int) - 3 + 1) = (L : Int) - 3 + 1 := IntWalk.i64_in _ (by omega)
  have hdl : d ≤ L := by omega
  have HDD := Lib.hid hL2; have HD := Lib.hid hd
  go_enter Tryz.func36, Tryz.ntmps36
  go_upto_region 1 with fail
  generalize hW1 : World.alloc w _ = W1
  have hs1 : W1.heap.size = w.heap.size + 1 := by rw [← hW1]; simp
  have bq := bk_of hW1
  generalize hW : World.alloc W1 _ = W
  have bl := bk_of hW
  rw [hs1] at bl
  have hx : Ext w W := (ext_of_alloc hW1).trans (ext_of_alloc hW)
  have hB : w.heap.size ≤ w.heap.size + 1 := by omega
  have bqW := bq.ext (ext_of_alloc hW)
  have hrW := HR.out _ _ hx hr
  have hRW : w.heap.size + 1 < W.heap.size := bl.lt
  have BL := Lib.hid bl
  have BQ := Lib.hid bqW
  clear hW hW1 hs1 bq hr bl
  have x0 := bqW.cell 0
  have x1 := bqW.cell 1
  have x2 := bqW.cell 2
  have x3 := bqW.cell 3
  have x4 := bqW.cell 4
  clear bqW
  go_upto_region 3 with (go_at_call 58; with_reducible refine (CS.out W).mono ?_; rintro e w2 ⟨rfl, hx2⟩)
  clear x0 x1 x2 x3 x4
  go_cut [1] (fun v1 w' => ∃ A2 c2, v1 = .slice A2 L2 c2 ∧ (A2 = none → c2 = 0) ∧ Hid (Rd w' A2 L2 (fun j => .int .i64 (sf (d + j)))) ∧ L2 ≤ c2 ∧ w' = w2)
  case first => as_aux_lemma =>
    cases A with
    | none =>
      have hc0 := hA rfl
      subst hc0
      obtain rfl : L = 0 := by omega
      obtain rfl : d = 0 := by have := HD.out; omega
      obtain rfl : L2 = 0 := by have := HDD.out; omega
      go_wp2_with fail
      go_meet
      exact ⟨none, 0, rfl, fun _ => rfl, Rd.zero, by omega, rfl⟩
    | some a =>
      go_wp2_with fail
      · go_meet
        obtain rfl : L2 = 0 := by have := HDD.out; omega
        exact ⟨_, _, rfl, (fun q => by cases q), Rd.zero, by omega, rfl⟩
      · go_meet
        refine ⟨_, _, rfl, (fun q => by cases q), ?_, by have := HDD.out; omega, rfl⟩
        have h := rd_drop (HS.out.ext (hx.trans hx2)) hdl
        rw [HDD.out] at h
        exact h
  case rest => as_aux_lemma =>
    obtain ⟨A2, c2, rfl, hA2, HS2, hc2, rfl⟩ := hcut
    have bq2 := BQ.out.ext hx2
    have x0 := bq2.cell 0
    have x1 := bq2.cell 1
    have x2 := bq2.cell 2
    have x3 := bq2.cell 3
    have x4 := bq2.cell 4
    clear bq2 hA hd0 hw3 hw4 HS
    go_wp2_with fail
    with_reducible refine (CS.out wc).mono ?_
    rintro e w3 ⟨rfl, hx3⟩
    go_wp2_with fail
    generalize hW4 : World.alloc w3 _ = w4
    have bp := bk_of hW4
    have hx4 := ext_of_alloc hW4
    have hPg : w3.heap.size ≤ w3.heap.size := Nat.le_refl _
    have hWb := hx2.trans hx3
    have hRb : w.heap.size + 1 < w3.heap.size := Nat.lt_of_lt_of_le hRW hWb.size
    have HBP : Hid (Bk w4 w3.heap.size 45 #[.int .i64 (V (L2 + 1)).1, .int .i64 (V (L2 + 1)).2]) := by
      show Bk _ _ _ _
      rw [HV0.out]; exact bp
    have HS3 := Lib.hid (HS2.out.ext hx3)
    have BQ3 := Lib.hid (BQ.out.ext hWb); have BL3 := Lib.hid (BL.out.ext hWb)
    have hr3 := HR.out _ _ hWb hrW
    have hxw3 := hx.trans hWb
    clear hW4 bp x0 x1 x2 x3 x4 hx2 hx3 HS2 BQ BL hrW hx hWb CS
    go_wp2_with fail
    go_loopw [8] (fun v8 wr => ∃ j : Nat, v8 = .int .i64 ((j : Int) - 1) ∧ j ≤ L2 + 1 ∧ Hid (Bk wr w3.heap.size 45 #[.int .i64 (V j).1, .int .i64 (V j).2]) ∧ Ext w3 wr) (fun v8 _ => (intOf v8 + 1).toNat)
    case atStart => exact ⟨L2 + 1, by congr 1; omega, Nat.le_refl _, HBP, hx4⟩
    case round => as_aux_lemma =>
      clear HBP hx4
      obtain ⟨j, rfl, hj', HBP, hxr⟩ := hrel
      obtain ⟨wo, rfl⟩ : ∃ wo, wo = wr := ⟨_, rfl⟩
      cases j with
      | zero =>
        have bp := HBP.out
        have br := BL3.out.ext hxr
        have p0 := bp.cell 0
        have p1 := bp.cell 1
        have z0 := br.cell 0
        have z1 := br.cell 1
        have f0 := br.frozen 0
        have f1 := br.frozen 1
        have BF := Lib.hid (bk2G (v0 := .int .i64 (V 0).1) (v1 := .int .i64 (V 0).2) br)
        have HXF := Lib.hid (ext2G (B := w.heap.size + 1) (hxw3.trans hxr) hB (.int .i64 (V 0).1) (.int .i64 (V 0).2))
        clear bp br
        rw [show (((0 : Nat) : Int) - 1) = -1 from rfl]
        go_wp2_with fail
        clear z0 z1 f0 f1 p0 p1
        have bF := BF.out
        have hxF := HXF.out
        generalize (wo.setCell _ _).setCell _ _ = wF at *
        have z0 := bF.cell 0
        have z1 := bF.cell 1
        exact bodyPost_ret (v := .agg #[.int .i64 (V 0).1, .int .i64 (V 0).2]) (by simp [results, Tryz.results36, go_sem, z0, z1]) rfl ⟨rfl, hxF⟩
      | succ k =>
        have ek : ((k + 1 : Nat) : Int) - 1 = (k : Int) := by omega
        rw [ek]
        have hk : k ≤ L2 := by omega
        have gk : decide ((0 : Int) ≤ k) = true := by simp
        go_upto_region 8 with fail
        go_cut [9] (fun v9 w' => ∃ A3 c3, v9 = .slice A3 (L2 - k) c3 ∧ (A3 = none → c3 = 0) ∧ Hid (Rd w' A3 (L2 - k) (fun i => .int .i64 (sf (d + k + i)))) ∧ w' = wo)
        case first => as_aux_lemma =>
          cases A2 with
          | none =>
            have hc0 := hA2 rfl
            subst hc0
            obtain rfl : L2 = 0 := by omega
            obtain rfl : k = 0 := by omega
            go_wp2_with fail
            go_meet
            exact ⟨none, 0, rfl, fun _ => rfl, Rd.zero, rfl⟩
          | some a =>
            go_wp2_with fail
            · obtain rfl : k = c2 := by omega
              go_meet
              have hz : L2 - k = 0 := by omega
              refine ⟨_, _, rfl, (fun q => by cases q), ?_, rfl⟩
              show Rd _ _ _ _
              rw [hz]; exact Rd.zero
            · go_meet
              refine ⟨_, _, rfl, (fun q => by cases q), ?_, rfl⟩
              have h := rd_drop (HS3.out.ext hxr) hk
              exact h.congr fun j hj => by rw [Nat.add_assoc]
        case rest => as_aux_lemma =>
          obtain ⟨A3, c3, rfl, hA3, HS4, rfl⟩ := hcut
          have bq := BQ3.out.ext hxr
          have x0 := bq.cell 0
          have x1 := bq.cell 1
          have x2 := bq.cell 2
          have x3 := bq.cell 3
          have x4 := bq.cell 4
          have cw := CW.out k A3 c3 wc hk (HR.out _ _ hxr hr3) hA3 HS4.out
          obtain ⟨ho, ha, hkn⟩ := HLE.out k hk
          clear bq
          go_upto_region 9 with fail
          go_cut [10, 11, 12] (fun v10 v11 v12 w' => v10 = .int .i64 (oN k : Nat) ∧ v11 = .int .i64 (aN k : Nat) ∧ v12 = .int .i64 (kN k : Nat) ∧ Ext wc w')
          case first => as_aux_lemma =>
            clear HBP
            by_cases g0 : k = 0
            · by_cases g2 : L2 = 2
              · rw [decide_eq_true (⟨g0, g2⟩ : k = 0 ∧ L2 = 2)] at cw
                have g0' : (((k : Nat) : Int) == 0) = true := by simp; omega
                have g2' : (((L2 : Nat) : Int) == 2) = true := by simp; omega
                clear g0 g2
                go_wp2_with fail
                with_reducible refine cw.mono ?_
                rintro e w5 ⟨rfl, hx5⟩
                go_wp2_with fail
                go_meet
                exact ⟨rfl, rfl, rfl, hx5⟩
              · rw [decide_eq_false (fun q => g2 q.2)] at cw
                have g0' : (((k : Nat) : Int) == 0) = true := by simp; omega
                have g2' : (((L2 : Nat) : Int) == 2) = false := by simp; omega
                clear g0 g2
                go_wp2_with fail
                with_reducible refine cw.mono ?_
                rintro e w5 ⟨rfl, hx5⟩
                go_wp2_with fail
                go_meet
                exact ⟨rfl, rfl, rfl, hx5⟩
            · rw [decide_eq_false (fun q => g0 q.1)] at cw
              have g0' : (((k : Nat) : Int) == 0) = false := by simp; omega
              go_wp2_with fail
              with_reducible refine cw.mono ?_
              rintro e w5 ⟨rfl, hx5⟩
              go_wp2_with fail
              go_meet
              exact ⟨rfl, rfl, rfl, hx5⟩
          case rest => as_aux_lemma =>
            obtain ⟨rfl, rfl, rfl, hx5⟩ := hcut
            obtain ⟨we, rfl⟩ : ∃ we, we = wc := ⟨_, rfl⟩
            have hxe := hxr.trans hx5
            have bp := HBP.out.ext hx5
            clear x0 x1 x2 x3 x4 cw HS4
            by_cases ga : aN k = 0
            · have ga' : (((aN k : Nat) : Int) == 0) = true := by simp; omega
              have hv := HBRK.out k hk ga
              have br := BL3.out.ext hxe
              have p0 := bp.cell 0
              have p1 := bp.cell 1
              have z0 := br.cell 0
              have z1 := br.cell 1
              have f0 := br.frozen 0
              have f1 := br.frozen 1
              have BF := Lib.hid (bk2G (v0 := .int .i64 (V (k + 1)).1) (v1 := .int .i64 (V (k + 1)).2) br)
              have HXF := Lib.hid (ext2G (B := w.heap.size + 1) (hxw3.trans hxe) hB (.int .i64 (V (k + 1)).1) (.int .i64 (V (k + 1)).2))
              have HVK := Lib.hid hv
              clear bp br hv
              go_wp2_with fail
              clear z0 z1 f0 f1 p0 p1
              have bF := BF.out
              have hxF := HXF.out
              generalize (we.setCell _ _).setCell _ _ = wF at *
              have z0 := bF.cell 0
              have z1 := bF.cell 1
              exact bodyPost_ret (v := .agg #[.int .i64 (V (k + 1)).1, .int .i64 (V (k + 1)).2]) (by simp [results, Tryz.results36, go_sem, z0, z1]) rfl ⟨by rw [HVK.out], hxF⟩
            · have ga' : (((aN k : Nat) : Int) == 0) = false := by simp; omega
              have hst := HST.out k hk ga
              obtain ⟨v1, v2, v3⟩ := HVP.out k hk
              have ct1 := fun w => tidy_calls (4 * oN k - 3) (4 * aN k) (by omega) (by omega) (by omega) w
              have ct2 := fun w => tidy_calls (3 * kN k) (4 * aN k) (by omega) (by omega) (by omega) w
              have hpa1 := partF_le (4 * oN k - 3) (4 * aN k)
              have hpa2 := partF_le (3 * kN k) (4 * aN k)
              have hpp1 := partF_pos (n := 4 * oN k - 3) (d := 4 * aN k) (by omega)
              have hpp2 := partF_pos (n := 3 * kN k) (d := 4 * aN k) (by omega)
              obtain ⟨SE, hSE⟩ : ∃ SE, partF (4 * oN k - 3) (4 * aN k) = SE := ⟨_, rfl⟩
              obtain ⟨TI, hTI⟩ : ∃ TI, partF (3 * kN k) (4 * aN k) = TI := ⟨_, rfl⟩
              rw [hSE] at ct1 hpa1 hpp1 hst
              rw [hTI] at ct2 hpa2 hpp2 hst
              have m1 : TI.1 * (V (k + 1)).1 ≤ 404 * (V (k + 1)).2 := Nat.mul_le_mul (by omega) v2
              have m2' : TI.2 * (V (k + 1)).2 ≤ 404 * (V (k + 1)).2 := Nat.mul_le_mul (by omega) (Nat.le_refl _)
              have m3 : 0 < TI.2 * (V (k + 1)).2 := Nat.mul_pos hpp2 v1
              have cti := fun w => gtimes_calls TI (V (k + 1)) (by omega) (by omega) m3 w
              have hpt : timesF TI (V (k + 1)) = partF (TI.1 * (V (k + 1)).1) (TI.2 * (V (k + 1)).2) := rfl
              have hpa3 := partF_le (TI.1 * (V (k + 1)).1) (TI.2 * (V (k + 1)).2)
              have hpp3 := partF_pos (n := TI.1 * (V (k + 1)).1) (d := TI.2 * (V (k + 1)).2) m3
              rw [← hpt] at hpa3 hpp3
              obtain ⟨TM, hTM⟩ : ∃ TM, timesF TI (V (k + 1)) = TM := ⟨_, rfl⟩
              rw [hTM] at cti hpa3 hpp3 hst
              have hb1 : TM.2 ≤ 404 * (V (k + 1)).2 := by omega
              have hb2 : TM.1 ≤ 404 * (V (k + 1)).2 := by omega
              have hS1 : SE.1 ≤ 404 := by omega
              have hS2 : SE.2 ≤ 404 := by omega
              have n1 : SE.1 * TM.2 ≤ 404 * (404 * (V (k + 1)).2) := Nat.mul_le_mul hS1 hb1
              have n2 : TM.1 * SE.2 ≤ (404 * (V (k + 1)).2) * 404 := Nat.mul_le_mul hb2 hS2
              have n3 : SE.2 * TM.2 ≤ 404 * (404 * (V (k + 1)).2) := Nat.mul_le_mul hS2 hb1
              have n4 : 0 < SE.2 * TM.2 := Nat.mul_pos hpp1 hpp3
              have cad := fun w => gadd_calls SE TM (by omega) (by omega) n4 w
              rw [← hst] at cad
              obtain ⟨k3, hk3⟩ : ∃ k3, 3 * kN k = k3 := ⟨_, rfl⟩
              obtain ⟨a4, ha4⟩ : ∃ a4, 4 * aN k = a4 := ⟨_, rfl⟩
              obtain ⟨o4, ho4⟩ : ∃ o4, 4 * oN k - 3 = o4 := ⟨_, rfl⟩
              rw [ho4, ha4] at ct1
              rw [hk3, ha4] at ct2
              have w1 : IntKind.i64.wrap (3 * ((kN k : Nat) : Int)) = (k3 : Int) := by rw [IntWalk.i64_in _ (by omega)]; omega
              have w2 : IntKind.i64.wrap (4 * ((aN k : Nat) : Int)) = (a4 : Int) := by rw [IntWalk.i64_in _ (by omega)]; omega
              have w3' : IntKind.i64.wrap (4 * ((oN k : Nat) : Int)) = 4 * ((oN k : Nat) : Int) := IntWalk.i64_in _ (by omega)
              have w4' : IntKind.i64.wrap (4 * ((oN k : Nat) : Int) - 3) = 4 * ((oN k : Nat) : Int) - 3 := IntWalk.i64_in _ (by omega)
              have w5' : max (0 : Int) (4 * ((oN k : Nat) : Int) - 3) = (o4 : Int) := by omega
              unfold RetPart at ct1 ct2 cti cad
              have CT1 := Lib.hid ct1; have CT2 := Lib.hid ct2; have CTI := Lib.hid cti; have CAD := Lib.hid cad
              clear ct1 ct2 cti cad hst hSE hTI hTM hpt hpa1 hpa2 hpa3 hpp1 hpp2 hpp3 hk3 ha4 ho4 m1 m2' m3 n1 n2 n3 n4 hb1 hb2 hS1 hS2 v1 v2 v3 ho ha hkn
              have HBPe := Lib.hid bp
              clear bp HBP
              go_upto_region 12 with (go_at_call 41; with_reducible refine (CT1.out we).mono ?_; rintro e w6 ⟨rfl, hx6⟩)
              generalize hW7 : World.alloc w6 _ = w7
              have bs := bk_of hW7
              have hx7 := hx6.trans (ext_of_alloc hW7)
              have bp := HBPe.out.ext hx7
              have hx37 := hxe.trans hx7
              generalize w6.heap.size = SB at *
              have s0 := bs.cell 0
              have s1 := bs.cell 1
              have q0 := bp.cell 0
              have q1 := bp.cell 1
              have HBP7 := Lib.hid bp
              clear hW7 bs bp hx6 hx7 HBPe CT1 hxe hxr
              refine wp_region_N (fun w' => w'.cell? ⟨SB, 0, none⟩ = some (.int .i64 SE.1) ∧ w'.cell? ⟨SB, 1, none⟩ = some (.int .i64 SE.2) ∧ w'.cell? ⟨w3.heap.size, 0, none⟩ = some (.int .i64 (V (k + 1)).1) ∧ w'.cell? ⟨w3.heap.size, 1, none⟩ = some (.int .i64 (V (k + 1)).2)) 9 (by kernel_rfl) ?_
              simp only [List.length_cons, List.length_nil, Nat.zero_add, Nat.reduceAdd]
              have hcur : Ext w7 w7.drew := (Ext.refl w7).drew
              generalize w7.drew = w0 at *
              have hSS : w0.cell? ⟨SB, 0, none⟩ = some (.int .i64 SE.1) ∧ w0.cell? ⟨SB, 1, none⟩ = some (.int .i64 SE.2) ∧ w0.cell? ⟨w3.heap.size, 0, none⟩ = some (.int .i64 (V (k + 1)).1) ∧ w0.cell? ⟨w3.heap.size, 1, none⟩ = some (.int .i64 (V (k + 1)).2) := ⟨ecell s0 hcur, ecell s1 hcur, ecell q0 hcur, ecell q1 hcur⟩
              refine take_N (i := 0) (.agg #[.int .i64 SE.1, .int .i64 SE.2]) rfl (by kernel_rfl) (fun _ _ _ h => h) rfl hSS (fun w' hw' => by obtain ⟨k0, k1, k2, k3⟩ := hw'; go_simp) #[true, false, false, false, false, false, false, false, false, false] (by rfl) ?_
              try simp only [Act.put, List.setIfInBounds_toArray, List.set_cons_zero, List.set_cons_succ]
              refine pure_N (i := 1) (.int .i64 (kN k : Nat)) rfl (by kernel_rfl) (fun _ _ _ h => h) rfl hSS (fun w' => by go_simp) #[true, true, false, false, false, false, false, false, false, false] (by rfl) ?_
              try simp only [Act.put, List.setIfInBounds_toArray, List.set_cons_zero, List.set_cons_succ]
              refine pure_N (i := 2) (.int .i64 (k3 : Nat)) rfl (by kernel_rfl) (fun _ _ _ h => h) rfl hSS (fun w' => by go_simp) #[true, true, true, false, false, false, false, false, false, false] (by rfl) ?_
              try simp only [Act.put, List.setIfInBounds_toArray, List.set_cons_zero, List.set_cons_succ]
              refine pure_N (i := 3) (.int .i64 (aN k : Nat)) rfl (by kernel_rfl) (fun _ _ _ h => h) rfl hSS (fun w' => by go_simp) #[true, true, true, true, false, false, false, false, false, false] (by rfl) ?_
              try simp only [Act.put, List.setIfInBounds_toArray, List.set_cons_zero, List.set_cons_succ]
              refine pure_N (i := 4) (.int .i64 (a4 : Nat)) rfl (by kernel_rfl) (fun _ _ _ h => h) rfl hSS (fun w' => by go_simp) #[true, true, true, true, true, false, false, false, false, false] (by rfl) ?_
              try simp only [Act.put, List.setIfInBounds_toArray, List.set_cons_zero, List.set_cons_succ]
              refine take_N (i := 6) (.agg #[.int .i64 (V (k + 1)).1, .int .i64 (V (k + 1)).2]) rfl (by kernel_rfl) (fun _ _ _ h => h) rfl hSS (fun w' hw' => by obtain ⟨k0, k1, k2, k3⟩ := hw'; go_simp) #[true, true, true, true, true, false, true, false, false, false] (by rfl) ?_
              try simp only [Act.put, List.setIfInBounds_toArray, List.set_cons_zero, List.set_cons_succ]
              refine all_N [5] (by kernel_rfl) (by simp) ?_
              rintro i5 hi5
              obtain rfl := List.mem_singleton.1 hi5
              refine step_N (i := 5) #[true, true, true, true, true, true, true, false, false, false] rfl rfl (by rfl) (fun K' hK' => ?_)
              go_simp
              refine (CT2.out w0).mono ?_
              rintro e wa ⟨rfl, hn5⟩
              have hxa := hcur.trans hn5
              refine hK' _ _ ⟨ecell s0 hxa, ecell s1 hxa, ecell q0 hxa, ecell q1 hxa⟩ ?_
              clear K' hK'
              try simp only [Act.put, List.setIfInBounds_toArray, List.set_cons_zero, List.set_cons_succ]
              refine all_N [7] (by kernel_rfl) (by simp) ?_
              rintro i7 hi7
              obtain rfl := List.mem_singleton.1 hi7
              refine step_N (i := 7) #[true, true, true, true, true, true, true, true, false, false] rfl rfl (by rfl) (fun K' hK' => ?_)
              go_simp
              refine (CTI.out wa).mono ?_
              rintro e wb ⟨rfl, hn7⟩
              have hxb := hxa.trans hn7
              refine hK' _ _ ⟨ecell s0 hxb, ecell s1 hxb, ecell q0 hxb, ecell q1 hxb⟩ ?_
              clear K' hK'
              try simp only [Act.put, List.setIfInBounds_toArray, List.set_cons_zero, List.set_cons_succ]
              refine all_N [8] (by kernel_rfl) (by simp) ?_
              rintro i8 hi8
              obtain rfl := List.mem_singleton.1 hi8
              refine step_N (i := 8) #[true, true, true, true, true, true, true, true, true, false] rfl rfl (by rfl) (fun K' hK' => ?_)
              go_simp
              refine (CAD.out wb).mono ?_
              rintro e wd ⟨rfl, hn8⟩
              have hxd := hxb.trans hn8
              refine hK' _ _ ⟨ecell s0 hxd, ecell s1 hxd, ecell q0 hxd, ecell q1 hxd⟩ ?_
              clear K' hK'
              try simp only [Act.put, List.setIfInBounds_toArray, List.set_cons_zero, List.set_cons_succ]
              refine wpAnyN_tail 9 _ rfl rfl (by kernel_rfl) (by kernel_rfl) ?_
              have bpd := HBP7.out.ext hxd
              have y0 := bpd.cell 0
              have y1 := bpd.cell 1
              have f0 := bpd.frozen 0
              have f1 := bpd.frozen 1
              have BF := Lib.hid (bk2G (v0 := .int .i64 (V k).1) (v1 := .int .i64 (V k).2) bpd)
              have HXF := Lib.hid (ext2G (B := w3.heap.size) (hx37.trans hxd) (Nat.le_refl _) (.int .i64 (V k).1) (.int .i64 (V k).2))
              clear bpd s0 s1 q0 q1 hSS
              have ek2 : IntKind.i64.wrap ((k : Int) - 1) = (k : Int) - 1 := IntWalk.i64_in _ (by omega)
              go_wp2_with fail
              refine ⟨⟨k, rfl, by omega, BF.out, HXF.out⟩, by simp [intOf]⟩
end Go.Proofs.YtjfdlibceldanabGreatDoor
