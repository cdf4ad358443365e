/- guess.Likely over an index of whatever numbers: the walk. guess.Likely and All over an index of whatever numbers: what they answer. guess.All and the shelf's calls over whatever numbers: walks. -/
import Derived.Test.YtjfdlibceldanacGreatDoorRawB1
import Derived.Test.YtjfdlibceldanacGreatDoorShA
/-! guess.Likely over an index of whatever numbers: the walk. -/
namespace Go.Proofs.YtjfdlibceldanacGreatDoor.Raw
open Go.Proofs.YtjfdlibceldanacGreatDoor Go.RowKit Go.Sort En Wv Gu Ri

set_option maxHeartbeats 4000000 in
set_option maxRecDepth 100000 in
theorem likely_out (wN wD : Int) (nl n m2 : Nat) (E B D : Option Addr) (ec bc dc : Nat) (hm2 : m2 ≤ 1048576) (L : Nat) (A : Option Addr) (c : Nat) (sign : Int) (w : World) (h : sign < 1 ∨ (m2 : Int) - 2 < sign) :
    Calls Tryz.prog 12 #[combV wN wD nl n m2 E B D ec bc dc, .slice A L c, .int .i64 sign] w (RetPI (0, 1) w) := by
  have cS := fun w => gsigns_calls wN wD nl n m2 E B D ec bc dc hm2 w
  have CS := Lib.hid cS
  unfold combV at CS ⊢
  clear cS
  by_cases h1 : sign < 1
  · have h1' : decide (sign < 1) = true := by simpa using h1
    go_enter Tryz.func12, Tryz.ntmps12
    go_wp2_with fail
    generalize hW1 : World.alloc w _ = W1
    have hs1 : W1.heap.size = w.heap.size + 1 := by rw [← hW1]; simp
    generalize hW : World.alloc W1 _ = W
    have bl := bk_of hW
    rw [hs1] at bl
    have hx : Ext w W := (ext_of_alloc hW1).trans (ext_of_alloc hW)
    clear hW hW1 hs1
    have z0 := bl.cell 0
    have z1 := bl.cell 1
    exact bodyPost_ret (v := .agg #[.int .i64 0, .int .i64 1]) (by simp [results, Tryz.results12, go_sem, z0, z1]) rfl ⟨rfl, hx⟩
  · have h1' : decide (sign < 1) = false := by simpa using h1
    have h2 : (m2 : Int) - 2 < sign := by omega
    have h2' : decide ((m2 : Int) - 2 < sign) = true := by simpa using h2
    go_enter Tryz.func12, Tryz.ntmps12
    go_upto_region 1 with fail
    generalize hW1 : World.alloc w _ = W1
    have hs1 : W1.heap.size = w.heap.size + 1 := by rw [← hW1]; simp
    have bq := bk_of hW1
    generalize hW : World.alloc W1 _ = W
    have bl := bk_of hW
    rw [hs1] at bl
    have hx : Ext w W := (ext_of_alloc hW1).trans (ext_of_alloc hW)
    have hB : w.heap.size ≤ w.heap.size + 1 := by omega
    have bqW := bq.ext (ext_of_alloc hW)
    clear hW hW1 hs1 bq
    have x0 := bqW.cell 0
    have x1 := bqW.cell 1
    have x2 := bqW.cell 2
    have x3 := bqW.cell 3
    have x4 := bqW.cell 4
    go_wp2_with fail
    with_reducible refine (CS.out W).mono ?_
    rintro e w2 ⟨rfl, hx2⟩
    have br := bl.ext hx2
    have z0 := br.cell 0
    have z1 := br.cell 1
    have f0 := br.frozen 0
    have f1 := br.frozen 1
    have BF := Lib.hid (bk2G (v0 := .int .i64 0) (v1 := .int .i64 1) br)
    have HXF := Lib.hid (ext2G (B := w.heap.size + 1) (hx.trans hx2) hB (.int .i64 0) (.int .i64 1))
    clear x0 x1 x2 x3 x4 br bl bqW
    go_wp2_with fail
    clear z0 z1 f0 f1
    have bF := BF.out
    have hxF := HXF.out
    generalize (w2.setCell _ _).setCell _ _ = wF at *
    have z0 := bF.cell 0
    have z1 := bF.cell 1
    exact bodyPost_ret (v := .agg #[.int .i64 0, .int .i64 1]) (by simp [results, Tryz.results12, go_sem, z0, z1]) rfl ⟨rfl, hxF⟩
set_option maxHeartbeats 16000000 in
set_option maxRecDepth 100000 in
theorem likely_walk (wN wD : Int) (nl n m2 : Nat) (E B D : Option Addr) (ec bc dc : Nat) (hm : 2 ≤ m2) (hm2 : m2 ≤ 1048576) (sf : Nat → Int) (A : Option Addr) (L c L2 d : Nat) (hL : L ≤ 100000000) (hc : L ≤ c) (hA : A = none → c = 0) (hd : L - 2 = d) (hL2 : L - d = L2) (sign : Int) (w : World) (R : World → Prop) (hR : ∀ w w', Ext w w' → R w → R w') (hr : R w) (hs : Rd w A L (fun k => .int .i64 (sf k)))
    (h1 : 1 ≤ sign) (h2 : sign ≤ (m2 : Int) - 2) (sg : Nat) (hsg : max (1 : Int) ((m2 : Int) - 2) = (sg : Int))
    (oN aN kN : Nat → Nat) (hle : ∀ k, k ≤ L2 → oN k ≤ 1048576 ∧ aN k ≤ 1099511627776 ∧ kN k ≤ 1048576) (ST : Nat → Int × Int → Int × Int) (hST : ∀ k p, ST k p = addI (tidyI (max 0 (4 * (oN k : Int) - 3)) (4 * (aN k : Int))) (timesI (tidyI (3 * (kN k : Int)) (4 * (aN k : Int))) p)) (F : Int × Int) (hF : resR aN ST (L2 + 1) (1, (sg : Int)) = F)
    (cw : ∀ k A3 c3 w, k ≤ L2 → R w → (A3 = none → c3 = 0) → Rd w A3 (L2 - k) (fun j => .int .i64 (sf (d + k + j))) → Calls Tryz.prog 23 #[combV wN wD nl n m2 E B D ec bc dc, .slice A3 (L2 - k) c3, .int .i64 sign, .bool (decide (k = 0 ∧ L2 = 2))] w fun e w' => e = .returned (.tuple #[.int .i64 (oN k : Nat), .int .i64 (aN k : Nat), .int .i64 (kN k : Nat)]) ∧ Ext w w') :
    Calls Tryz.prog 12 #[combV wN wD nl n m2 E B D ec bc dc, .slice A L c, .int .i64 sign] w (RetPI F w) := by
  have cS := fun w => gsigns_calls wN wD nl n m2 E B D ec bc dc hm2 w
  have CS := Lib.hid cS; have CW := Lib.hid cw; have HR := Lib.hid hR; have HF := Lib.hid hF; have HLE := Lib.hid hle; have HST := Lib.hid hST; have HS := Lib.hid hs
  unfold combV at CS CW ⊢
  clear cS cw hR hF hle hST hs
  have h1' : decide (sign < 1) = false := by simp; omega
  have h2' : decide ((m2 : Int) - 2 < sign) = false := by simp; omega
  have hd0 : max (0 : Int) ((L : Int) - 3 + 1) = (d : Int) := by omega
  have hw3 : IntKind.i64.wrap ((L : Int) - 3) = (L : Int) - 3 := IntWalk.i64_in _ (by omega)
  have hw4 : IntKind.i64.wrap ((L : Int) - 3 + 1) = (L : Int) - 3 + 1 := IntWalk.i64_in _ (by omega)
  have hdl : d ≤ L := by omega
  have HDD := Lib.hid hL2; have HD := Lib.hid hd
  go_enter Tryz.func12, Tryz.ntmps12
  go_upto_region 1 with fail
  generalize hW1 : World.alloc w _ = W1
  have hs1 : W1.heap.size = w.heap.size + 1 := by rw [← hW1]; simp
  have bq := bk_of hW1
  generalize hW : World.alloc W1 _ = W
  have bl := bk_of hW
  rw [hs1] at bl
  have hx : Ext w W := (ext_of_alloc hW1).trans (ext_of_alloc hW)
  have hB : w.heap.size ≤ w.heap.size + 1 := by omega
  have bqW := bq.ext (ext_of_alloc hW)
  have hrW := HR.out _ _ hx hr
  have hRW : w.heap.size + 1 < W.heap.size := bl.lt
  have BL := Lib.hid bl
  have BQ := Lib.hid bqW
  clear hW hW1 hs1 bq hr bl
  have x0 := bqW.cell 0
  have x1 := bqW.cell 1
  have x2 := bqW.cell 2
  have x3 := bqW.cell 3
  have x4 := bqW.cell 4
  clear bqW
  go_upto_region 3 with (go_at_call 22; with_reducible refine (CS.out W).mono ?_; rintro e w2 ⟨rfl, hx2⟩)
  clear x0 x1 x2 x3 x4
  go_cut [1] (fun v1 w' => ∃ A2 c2, v1 = .slice A2 L2 c2 ∧ (A2 = none → c2 = 0) ∧ Hid (Rd w' A2 L2 (fun j => .int .i64 (sf (d + j)))) ∧ L2 ≤ c2 ∧ w' = w2)
  case first => as_aux_lemma =>
    cases A with
    | none =>
      have hc0 := hA rfl
      subst hc0
      obtain rfl : L = 0 := by omega
      obtain rfl : d = 0 := by have := HD.out; omega
      obtain rfl : L2 = 0 := by have := HDD.out; omega
      go_wp2_with fail
      go_meet
      exact ⟨none, 0, rfl, fun _ => rfl, Rd.zero, by omega, rfl⟩
    | some a =>
      go_wp2_with fail
      · go_meet
        obtain rfl : L2 = 0 := by have := HDD.out; omega
        exact ⟨_, _, rfl, (fun q => by cases q), Rd.zero, by omega, rfl⟩
      · go_meet
        refine ⟨_, _, rfl, (fun q => by cases q), ?_, by have := HDD.out; omega, rfl⟩
        have h := rd_drop (HS.out.ext (hx.trans hx2)) hdl
        rw [HDD.out] at h
        exact h
  case rest => as_aux_lemma =>
    obtain ⟨A2, c2, rfl, hA2, HS2, hc2, rfl⟩ := hcut
    have bq2 := BQ.out.ext hx2
    have x0 := bq2.cell 0
    have x1 := bq2.cell 1
    have x2 := bq2.cell 2
    have x3 := bq2.cell 3
    have x4 := bq2.cell 4
    clear bq2 hA hd0 hw3 hw4 HS
    go_wp2_with fail
    with_reducible refine (CS.out wc).mono ?_
    rintro e w3 ⟨rfl, hx3⟩
    go_wp2_with fail
    generalize hW4 : World.alloc w3 _ = w4
    have bp := bk_of hW4
    have hx4 := ext_of_alloc hW4
    have hPg : w3.heap.size ≤ w3.heap.size := Nat.le_refl _
    have hWb := hx2.trans hx3
    have hRb : w.heap.size + 1 < w3.heap.size := Nat.lt_of_lt_of_le hRW hWb.size
    have HBP : Hid (Bk w4 w3.heap.size 36 #[.int .i64 ((1, (sg : Int)) : Int × Int).1, .int .i64 ((1, (sg : Int)) : Int × Int).2]) := bp
    have HS3 := Lib.hid (HS2.out.ext hx3)
    have BQ3 := Lib.hid (BQ.out.ext hWb); have BL3 := Lib.hid (BL.out.ext hWb)
    have hr3 := HR.out _ _ hWb hrW
    have hxw3 := hx.trans hWb
    clear hW4 bp x0 x1 x2 x3 x4 hx2 hx3 HS2 BQ BL hrW hx hWb CS
    go_wp2_with fail
    go_loopw [8] (fun v8 wr => ∃ (j : Nat) (p : Int × Int), v8 = .int .i64 ((j : Int) - 1) ∧ j ≤ L2 + 1 ∧ Hid (resR aN ST j p = F) ∧ Hid (Bk wr w3.heap.size 36 #[.int .i64 p.1, .int .i64 p.2]) ∧ Ext w3 wr) (fun v8 _ => (intOf v8 + 1).toNat)
    case atStart => exact ⟨L2 + 1, (1, (sg : Int)), by congr 1; omega, Nat.le_refl _, HF, HBP, hx4⟩
    case round => as_aux_lemma =>
      clear HBP hx4
      obtain ⟨j, p, rfl, hj', HRS, HBP, hxr⟩ := hrel
      obtain ⟨wo, rfl⟩ : ∃ wo, wo = wr := ⟨_, rfl⟩
      cases j with
      | zero =>
        have bp := HBP.out
        have br := BL3.out.ext hxr
        have p0 := bp.cell 0
        have p1 := bp.cell 1
        have z0 := br.cell 0
        have z1 := br.cell 1
        have f0 := br.frozen 0
        have f1 := br.frozen 1
        have BF := Lib.hid (bk2G (v0 := .int .i64 p.1) (v1 := .int .i64 p.2) br)
        have HXF := Lib.hid (ext2G (B := w.heap.size + 1) (hxw3.trans hxr) hB (.int .i64 p.1) (.int .i64 p.2))
        clear bp br
        rw [show (((0 : Nat) : Int) - 1) = -1 from rfl]
        go_wp2_with fail
        clear z0 z1 f0 f1 p0 p1
        have bF := BF.out
        have hxF := HXF.out
        generalize (wo.setCell _ _).setCell _ _ = wF at *
        have z0 := bF.cell 0
        have z1 := bF.cell 1
        exact bodyPost_ret (v := .agg #[.int .i64 p.1, .int .i64 p.2]) (by simp [results, Tryz.results12, go_sem, z0, z1]) rfl ⟨by rw [show p = F from HRS.out], hxF⟩
      | succ k =>
        have ek : ((k + 1 : Nat) : Int) - 1 = (k : Int) := by omega
        rw [ek]
        have hk : k ≤ L2 := by omega
        have gk : decide ((0 : Int) ≤ k) = true := by simp
        go_upto_region 8 with fail
        go_cut [9] (fun v9 w' => ∃ A3 c3, v9 = .slice A3 (L2 - k) c3 ∧ (A3 = none → c3 = 0) ∧ Hid (Rd w' A3 (L2 - k) (fun i => .int .i64 (sf (d + k + i)))) ∧ w' = wo)
        case first => as_aux_lemma =>
          cases A2 with
          | none =>
            have hc0 := hA2 rfl
            subst hc0
            obtain rfl : L2 = 0 := by omega
            obtain rfl : k = 0 := by omega
            go_wp2_with fail
            go_meet
            exact ⟨none, 0, rfl, fun _ => rfl, Rd.zero, rfl⟩
          | some a =>
            go_wp2_with fail
            · obtain rfl : k = c2 := by omega
              go_meet
              have hz : L2 - k = 0 := by omega
              refine ⟨_, _, rfl, (fun q => by cases q), ?_, rfl⟩
              show Rd _ _ _ _
              rw [hz]; exact Rd.zero
            · go_meet
              refine ⟨_, _, rfl, (fun q => by cases q), ?_, rfl⟩
              have h := rd_drop (HS3.out.ext hxr) hk
              exact h.congr fun j hj => by rw [Nat.add_assoc]
        case rest => as_aux_lemma =>
          obtain ⟨A3, c3, rfl, hA3, HS4, rfl⟩ := hcut
          have bq := BQ3.out.ext hxr
          have x0 := bq.cell 0
          have x1 := bq.cell 1
          have x2 := bq.cell 2
          have x3 := bq.cell 3
          have x4 := bq.cell 4
          have cw := CW.out k A3 c3 wc hk (HR.out _ _ hxr hr3) hA3 HS4.out
          obtain ⟨ho, ha, hkn⟩ := HLE.out k hk
          clear bq
          go_upto_region 9 with fail
          go_cut [10, 11, 12] (fun v10 v11 v12 w' => v10 = .int .i64 (oN k : Nat) ∧ v11 = .int .i64 (aN k : Nat) ∧ v12 = .int .i64 (kN k : Nat) ∧ Ext wc w')
          case first => as_aux_lemma =>
            clear HBP
            by_cases g0 : k = 0
            · by_cases g2 : L2 = 2
              · rw [decide_eq_true (⟨g0, g2⟩ : k = 0 ∧ L2 = 2)] at cw
                have g0' : (((k : Nat) : Int) == 0) = true := by simp; omega
                have g2' : (((L2 : Nat) : Int) == 2) = true := by simp; omega
                clear g0 g2
                go_wp2_with fail
                with_reducible refine cw.mono ?_
                rintro e w5 ⟨rfl, hx5⟩
                go_wp2_with fail
                go_meet
                exact ⟨rfl, rfl, rfl, hx5⟩
              · rw [decide_eq_false (fun q => g2 q.2)] at cw
                have g0' : (((k : Nat) : Int) == 0) = true := by simp; omega
                have g2' : (((L2 : Nat) : Int) == 2) = false := by simp; omega
                clear g0 g2
                go_wp2_with fail
                with_reducible refine cw.mono ?_
                rintro e w5 ⟨rfl, hx5⟩
                go_wp2_with fail
                go_meet
                exact ⟨rfl, rfl, rfl, hx5⟩
            · rw [decide_eq_false (fun q => g0 q.1)] at cw
              have g0' : (((k : Nat) : Int) == 0) = false := by simp; omega
              go_wp2_with fail
              with_reducible refine cw.mono ?_
              rintro e w5 ⟨rfl, hx5⟩
              go_wp2_with fail
              go_meet
              exact ⟨rfl, rfl, rfl, hx5⟩
          case rest => as_aux_lemma =>
            obtain ⟨rfl, rfl, rfl, hx5⟩ := hcut
            obtain ⟨we, rfl⟩ : ∃ we, we = wc := ⟨_, rfl⟩
            have hxe := hxr.trans hx5
            have bp := HBP.out.ext hx5
            clear x0 x1 x2 x3 x4 cw HS4
            by_cases ga : aN k = 0
            · have ga' : (((aN k : Nat) : Int) == 0) = true := by simp; omega
              have hv : p = F := by have := HRS.out; rwa [resR, if_pos ga] at this
              have br := BL3.out.ext hxe
              have p0 := bp.cell 0
              have p1 := bp.cell 1
              have z0 := br.cell 0
              have z1 := br.cell 1
              have f0 := br.frozen 0
              have f1 := br.frozen 1
              have BF := Lib.hid (bk2G (v0 := .int .i64 p.1) (v1 := .int .i64 p.2) br)
              have HXF := Lib.hid (ext2G (B := w.heap.size + 1) (hxw3.trans hxe) hB (.int .i64 p.1) (.int .i64 p.2))
              have HVK := Lib.hid hv
              clear bp br hv
              go_wp2_with fail
              clear z0 z1 f0 f1 p0 p1
              have bF := BF.out
              have hxF := HXF.out
              generalize (we.setCell _ _).setCell _ _ = wF at *
              have z0 := bF.cell 0
              have z1 := bF.cell 1
              exact bodyPost_ret (v := .agg #[.int .i64 p.1, .int .i64 p.2]) (by simp [results, Tryz.results12, go_sem, z0, z1]) rfl ⟨by rw [← HVK.out], hxF⟩
            · have ga' : (((aN k : Nat) : Int) == 0) = false := by simp; omega
              have hrs : resR aN ST k (ST k p) = F := by have := HRS.out; rwa [resR, if_neg ga] at this
              have hst := HST.out k p
              obtain ⟨k3, hk3⟩ : ∃ k3, 3 * kN k = k3 := ⟨_, rfl⟩
              obtain ⟨a4, ha4⟩ : ∃ a4, 4 * aN k = a4 := ⟨_, rfl⟩
              obtain ⟨o4, ho4⟩ : ∃ o4, 4 * oN k - 3 = o4 := ⟨_, rfl⟩
              have w5' : max (0 : Int) (4 * ((oN k : Nat) : Int) - 3) = (o4 : Int) := by omega
              have w6' : 4 * ((aN k : Nat) : Int) = (a4 : Int) := by omega
              have w7' : 3 * ((kN k : Nat) : Int) = (k3 : Int) := by omega
              rw [w5', w6', w7'] at hst
              have ct1 := fun w => tidy_calls (o4 : Int) (a4 : Int) ⟨by omega, by omega⟩ ⟨by omega, by omega⟩ w
              have ct2 := fun w => tidy_calls (k3 : Int) (a4 : Int) ⟨by omega, by omega⟩ ⟨by omega, by omega⟩ w
              obtain ⟨SE, hSE⟩ : ∃ SE, tidyI (o4 : Int) (a4 : Int) = SE := ⟨_, rfl⟩
              obtain ⟨TI, hTI⟩ : ∃ TI, tidyI (k3 : Int) (a4 : Int) = TI := ⟨_, rfl⟩
              rw [hSE] at ct1 hst
              rw [hTI] at ct2 hst
              have cti := fun w => gtimes_calls TI p w
              obtain ⟨TM, hTM⟩ : ∃ TM, timesI TI p = TM := ⟨_, rfl⟩
              rw [hTM] at cti hst
              have cad := fun w => gadd_calls SE TM w
              obtain ⟨q, hq⟩ : ∃ q, addI SE TM = q := ⟨_, rfl⟩
              rw [hq] at cad hst
              rw [hst] at hrs
              have w1 : IntKind.i64.wrap (3 * ((kN k : Nat) : Int)) = (k3 : Int) := by rw [IntWalk.i64_in _ (by omega)]; omega
              have w2 : IntKind.i64.wrap (4 * ((aN k : Nat) : Int)) = (a4 : Int) := by rw [IntWalk.i64_in _ (by omega)]; omega
              have w3' : IntKind.i64.wrap (4 * ((oN k : Nat) : Int)) = 4 * ((oN k : Nat) : Int) := IntWalk.i64_in _ (by omega)
              have w4' : IntKind.i64.wrap (4 * ((oN k : Nat) : Int) - 3) = 4 * ((oN k : Nat) : Int) - 3 := IntWalk.i64_in _ (by omega)
              unfold RetPI at ct1 ct2 cti cad
              have CT1 := Lib.hid ct1; have CT2 := Lib.hid ct2; have CTI := Lib.hid cti; have CAD := Lib.hid cad; have HRS2 := Lib.hid hrs
              clear ct1 ct2 cti cad hst hSE hTI hTM hk3 ha4 ho4 ho ha hkn hq hrs w6' w7' HRS
              have HBPe := Lib.hid bp
              clear bp HBP
              go_upto_region 12 with (go_at_call 24; with_reducible refine (CT1.out we).mono ?_; rintro e w6 ⟨rfl, hx6⟩)
              generalize hW7 : World.alloc w6 _ = w7
              have bs := bk_of hW7
              have hx7 := hx6.trans (ext_of_alloc hW7)
              have bp := HBPe.out.ext hx7
              have hx37 := hxe.trans hx7
              generalize w6.heap.size = SB at *
              have s0 := bs.cell 0
              have s1 := bs.cell 1
              have q0 := bp.cell 0
              have q1 := bp.cell 1
              have HBP7 := Lib.hid bp
              clear hW7 bs bp hx6 hx7 HBPe CT1 hxe hxr
              refine wp_region_N (fun w' => w'.cell? ⟨SB, 0, none⟩ = some (.int .i64 SE.1) ∧ w'.cell? ⟨SB, 1, none⟩ = some (.int .i64 SE.2) ∧ w'.cell? ⟨w3.heap.size, 0, none⟩ = some (.int .i64 p.1) ∧ w'.cell? ⟨w3.heap.size, 1, none⟩ = some (.int .i64 p.2)) 9 (by kernel_rfl) ?_
              simp only [List.length_cons, List.length_nil, Nat.zero_add, Nat.reduceAdd]
              have hcur : Ext w7 w7.drew := (Ext.refl w7).drew
              generalize w7.drew = w0 at *
              have hSS : w0.cell? ⟨SB, 0, none⟩ = some (.int .i64 SE.1) ∧ w0.cell? ⟨SB, 1, none⟩ = some (.int .i64 SE.2) ∧ w0.cell? ⟨w3.heap.size, 0, none⟩ = some (.int .i64 p.1) ∧ w0.cell? ⟨w3.heap.size, 1, none⟩ = some (.int .i64 p.2) := ⟨ecell s0 hcur, ecell s1 hcur, ecell q0 hcur, ecell q1 hcur⟩
              refine take_N (i := 0) (.agg #[.int .i64 SE.1, .int .i64 SE.2]) rfl (by kernel_rfl) (fun _ _ _ h => h) rfl hSS (fun w' hw' => by obtain ⟨k0, k1, k2, k3⟩ := hw'; go_simp) #[true, false, false, false, false, false, false, false, false, false] (by rfl) ?_
              try simp only [Act.put, List.setIfInBounds_toArray, List.set_cons_zero, List.set_cons_succ]
              refine pure_N (i := 1) (.int .i64 (kN k : Nat)) rfl (by kernel_rfl) (fun _ _ _ h => h) rfl hSS (fun w' => by go_simp) #[true, true, false, false, false, false, false, false, false, false] (by rfl) ?_
              try simp only [Act.put, List.setIfInBounds_toArray, List.set_cons_zero, List.set_cons_succ]
              refine pure_N (i := 2) (.int .i64 (k3 : Nat)) rfl (by kernel_rfl) (fun _ _ _ h => h) rfl hSS (fun w' => by go_simp) #[true, true, true, false, false, false, false, false, false, false] (by rfl) ?_
              try simp only [Act.put, List.setIfInBounds_toArray, List.set_cons_zero, List.set_cons_succ]
              refine pure_N (i := 3) (.int .i64 (aN k : Nat)) rfl (by kernel_rfl) (fun _ _ _ h => h) rfl hSS (fun w' => by go_simp) #[true, true, true, true, false, false, false, false, false, false] (by rfl) ?_
              try simp only [Act.put, List.setIfInBounds_toArray, List.set_cons_zero, List.set_cons_succ]
              refine pure_N (i := 4) (.int .i64 (a4 : Nat)) rfl (by kernel_rfl) (fun _ _ _ h => h) rfl hSS (fun w' => by go_simp) #[true, true, true, true, true, false, false, false, false, false] (by rfl) ?_
              try simp only [Act.put, List.setIfInBounds_toArray, List.set_cons_zero, List.set_cons_succ]
              refine take_N (i := 6) (.agg #[.int .i64 p.1, .int .i64 p.2]) rfl (by kernel_rfl) (fun _ _ _ h => h) rfl hSS (fun w' hw' => by obtain ⟨k0, k1, k2, k3⟩ := hw'; go_simp) #[true, true, true, true, true, false, true, false, false, false] (by rfl) ?_
              try simp only [Act.put, List.setIfInBounds_toArray, List.set_cons_zero, List.set_cons_succ]
              refine all_N [5] (by kernel_rfl) (by simp) ?_
              rintro i5 hi5
              obtain rfl := List.mem_singleton.1 hi5
              refine step_N (i := 5) #[true, true, true, true, true, true, true, false, false, false] rfl rfl (by rfl) (fun K' hK' => ?_)
              go_simp
              refine (CT2.out w0).mono ?_
              rintro e wa ⟨rfl, hn5⟩
              have hxa := hcur.trans hn5
              refine hK' _ _ ⟨ecell s0 hxa, ecell s1 hxa, ecell q0 hxa, ecell q1 hxa⟩ ?_
              clear K' hK'
              try simp only [Act.put, List.setIfInBounds_toArray, List.set_cons_zero, List.set_cons_succ]
              refine all_N [7] (by kernel_rfl) (by simp) ?_
              rintro i7 hi7
              obtain rfl := List.mem_singleton.1 hi7
              refine step_N (i := 7) #[true, true, true, true, true, true, true, true, false, false] rfl rfl (by rfl) (fun K' hK' => ?_)
              go_simp
              refine (CTI.out wa).mono ?_
              rintro e wb ⟨rfl, hn7⟩
              have hxb := hxa.trans hn7
              refine hK' _ _ ⟨ecell s0 hxb, ecell s1 hxb, ecell q0 hxb, ecell q1 hxb⟩ ?_
              clear K' hK'
              try simp only [Act.put, List.setIfInBounds_toArray, List.set_cons_zero, List.set_cons_succ]
              refine all_N [8] (by kernel_rfl) (by simp) ?_
              rintro i8 hi8
              obtain rfl := List.mem_singleton.1 hi8
              refine step_N (i := 8) #[true, true, true, true, true, true, true, true, true, false] rfl rfl (by rfl) (fun K' hK' => ?_)
              go_simp
              refine (CAD.out wb).mono ?_
              rintro e wd ⟨rfl, hn8⟩
              have hxd := hxb.trans hn8
              refine hK' _ _ ⟨ecell s0 hxd, ecell s1 hxd, ecell q0 hxd, ecell q1 hxd⟩ ?_
              clear K' hK'
              try simp only [Act.put, List.setIfInBounds_toArray, List.set_cons_zero, List.set_cons_succ]
              refine wpAnyN_tail 9 _ rfl rfl (by kernel_rfl) (by kernel_rfl) ?_
              have bpd := HBP7.out.ext hxd
              have y0 := bpd.cell 0
              have y1 := bpd.cell 1
              have f0 := bpd.frozen 0
              have f1 := bpd.frozen 1
              have BF := Lib.hid (bk2G (v0 := .int .i64 q.1) (v1 := .int .i64 q.2) bpd)
              have HXF := Lib.hid (ext2G (B := w3.heap.size) (hx37.trans hxd) (Nat.le_refl _) (.int .i64 q.1) (.int .i64 q.2))
              clear bpd s0 s1 q0 q1 hSS
              have ek2 : IntKind.i64.wrap ((k : Int) - 1) = (k : Int) - 1 := IntWalk.i64_in _ (by omega)
              go_wp2_with fail
              refine ⟨⟨k, q, rfl, by omega, HRS2, BF.out, HXF.out⟩, by simp [intOf]⟩
end Go.Proofs.YtjfdlibceldanacGreatDoor.Raw

/-! guess.Likely and All over an index of whatever numbers: what they answer. -/
namespace Go.Proofs.YtjfdlibceldanacGreatDoor.Raw
open Go.Proofs.YtjfdlibceldanacGreatDoor Go.RowKit Go.Sort En Wv Gu Ri

/-- One round of Likely. -/
def stR (cf kf : Int → Int → Nat) (n m2 : Nat) (ls b : List Int) (sign : Int) (k : Nat) (p : Int × Int) : Int × Int :=
  addI (tidyI (max 0 (4 * ((weighR cf kf n m2 ls (b.drop k) (decide (k = 0 ∧ b.length = 2)) sign).1 : Int) - 3)) (4 * ((weighR cf kf n m2 ls (b.drop k) (decide (k = 0 ∧ b.length = 2)) sign).2.1 : Int)))
    (timesI (tidyI (3 * ((weighR cf kf n m2 ls (b.drop k) (decide (k = 0 ∧ b.length = 2)) sign).2.2 : Int)) (4 * ((weighR cf kf n m2 ls (b.drop k) (decide (k = 0 ∧ b.length = 2)) sign).2.1 : Int))) p)
/-- How likely a sign is behind others. -/
def likR (cf kf : Int → Int → Nat) (n m2 : Nat) (ls s : List Int) (sign : Int) : Int × Int :=
  if sign < 1 ∨ (m2 : Int) - 2 < sign then (0, 1) else
    resR (fun k => (weighR cf kf n m2 ls ((s.drop (s.length - 2)).drop k) (decide (k = 0 ∧ (s.drop (s.length - 2)).length = 2)) sign).2.1) (stR cf kf n m2 ls (s.drop (s.length - 2)) sign) ((s.drop (s.length - 2)).length + 1) (1, max (1 : Int) ((m2 : Int) - 2))
section
variable {wN wD : Int} {nl n m2 : Nat} {ls es : List Int} {cf kf : Int → Int → Nat} {E B D : Option Addr} {ec bc dc : Nat} {R : World → Prop} (h : Ix wN wD nl n m2 ls es cf kf E B D ec bc dc R)
include h
theorem xlikely_calls (s : List Int) (hs : signOk s) (hsl : s.length ≤ 100000000) (A : Option Addr) (c : Nat) (hc : s.length ≤ c) (hA0 : A = none → c = 0) (sign : Int) (w : World) (hr : R w) (hA : Rd w A s.length (fun k => .int .i64 (nth s k))) :
    Calls Tryz.prog 12 #[combV wN wD nl n m2 E B D ec bc dc, .slice A s.length c, .int .i64 sign] w (RetPI (likR cf kf n m2 ls s sign) w) := by
  have h4 := h.m4
  unfold likR
  by_cases h1 : sign < 1 ∨ (m2 : Int) - 2 < sign
  · rw [if_pos h1]
    exact likely_out wN wD nl n m2 E B D ec bc dc h4 s.length A c sign w (by omega)
  · rw [if_neg h1]
    have hbl : (s.drop (s.length - 2)).length = s.length - (s.length - 2) := List.length_drop
    have hb2 : (s.drop (s.length - 2)).length ≤ 2 := by omega
    obtain ⟨b, hb⟩ : ∃ b, s.drop (s.length - 2) = b := ⟨_, rfl⟩
    rw [hb] at hbl hb2 ⊢
    have hsb : signOk b := fun x hx => hs x (List.mem_of_mem_drop (by rw [← hb] at hx; exact hx))
    have hnb : ∀ j, nth b j = nth s (s.length - 2 + j) := fun j => by rw [← hb]; unfold nth; rw [List.getElem?_drop]
    obtain ⟨sg, hsg⟩ : ∃ sg : Nat, max (1 : Int) ((m2 : Int) - 2) = (sg : Int) := ⟨(max (1 : Int) ((m2 : Int) - 2)).toNat, by omega⟩
    rw [hsg]
    refine likely_walk wN wD nl n m2 E B D ec bc dc (by omega) h4 (nth s) A s.length c b.length (s.length - 2) hsl hc hA0 rfl (by omega) sign w R h.ext hr hA (by omega) (by omega) sg hsg
      (fun k => (weighR cf kf n m2 ls (b.drop k) (decide (k = 0 ∧ b.length = 2)) sign).1) (fun k => (weighR cf kf n m2 ls (b.drop k) (decide (k = 0 ∧ b.length = 2)) sign).2.1) (fun k => (weighR cf kf n m2 ls (b.drop k) (decide (k = 0 ∧ b.length = 2)) sign).2.2)
      (fun k _ => weighR_le h _ _ _) (stR cf kf n m2 ls b sign) (fun k p => rfl) _ rfl ?_
    intro k A3 c3 w' hk r hA3 hr3
    have e : (b.drop k).length = b.length - k := List.length_drop
    have hw := xweigh_calls h (b.drop k) (fun x hx => hsb x (List.mem_of_mem_drop hx)) (by omega) A3 c3 hA3 sign (decide (k = 0 ∧ b.length = 2)) w' r (by
      rw [e]
      exact hr3.congr fun j hj => by
        have : nth (b.drop k) j = nth b (k + j) := by unfold nth; rw [List.getElem?_drop]
        rw [this, hnb, Nat.add_assoc])
    rw [e] at hw
    exact hw
end
end Go.Proofs.YtjfdlibceldanacGreatDoor.Raw

/-! guess.All and the shelf's calls over whatever numbers: walks. -/
namespace Go.Proofs.YtjfdlibceldanacGreatDoor.Raw
open Go.Proofs.YtjfdlibceldanacGreatDoor Go.RowKit Go.Sort Tx En Wv Gu Ri

/-- Parts as cells. -/
def pcF (f : Nat → Int × Int) (i : Nat) : List Value := (List.range i).flatMap fun k => [Value.int .i64 (f k).1, Value.int .i64 (f k).2]
theorem pcF_succ (f : Nat → Int × Int) (i : Nat) : pcF f (i + 1) = pcF f i ++ [Value.int .i64 (f i).1, Value.int .i64 (f i).2] := by
  unfold pcF
  rw [List.range_succ, List.flatMap_append]
  simp
theorem pcF_len (f : Nat → Int × Int) : ∀ i, (pcF f i).length = i * 2
  | 0 => rfl
  | i + 1 => by rw [pcF_succ, List.length_append, pcF_len f i]; simp; omega
theorem pcF_at (f : Nat → Int × Int) : ∀ i k, k < i → (pcF f i)[k * 2]? = some (Value.int .i64 (f k).1) ∧ (pcF f i)[k * 2 + 1]? = some (Value.int .i64 (f k).2)
  | 0, k, h => by omega
  | i + 1, k, h => by
    rw [pcF_succ]
    by_cases g : k < i
    · have h1 := pcF_at f i k g
      rw [List.getElem?_append_left (by rw [pcF_len]; omega), List.getElem?_append_left (by rw [pcF_len]; omega)]
      exact h1
    · obtain rfl : k = i := by omega
      rw [List.getElem?_append_right (by rw [pcF_len]; exact Nat.le_refl _), List.getElem?_append_right (by rw [pcF_len]; omega), pcF_len]
      have e1 : k * 2 - k * 2 = 0 := by omega
      have e2 : k * 2 + 1 - k * 2 = 1 := by omega
      rw [e1, e2]
      exact ⟨rfl, rfl⟩
/-- A list of parts in memory. -/
def RdP (w : World) (A : Option Addr) (n : Nat) (f : Nat → Int × Int) : Prop := 0 < n → ∃ b o, A = some ⟨b, o, none⟩ ∧ b < w.heap.size ∧ ∀ k, k < n → w.cell? ⟨b, o + k * 2, none⟩ = some (.int .i64 (f k).1) ∧ w.cell? ⟨b, o + k * 2 + 1, none⟩ = some (.int .i64 (f k).2)
theorem RdP.ext {w w' : World} {A : Option Addr} {n : Nat} {f : Nat → Int × Int} (h : RdP w A n f) (hx : Ext w w') : RdP w' A n f := fun hn => by
  obtain ⟨b, o, hA, hb, hc⟩ := h hn
  exact ⟨b, o, hA, Nat.lt_of_lt_of_le hb hx.size, fun k hk => ⟨ecell (hc k hk).1 hx, ecell (hc k hk).2 hx⟩⟩
theorem rdP_own {w : World} {base : Nat} {e : TypeId} {P : Option Addr} {n p : Nat} {f : Nat → Int × Int} (h : w.ownsRow base e 2 (.slice P n p) n (pcF f n)) : RdP w P n f := fun hn => by
  rcases h.2 with ⟨_, h0⟩ | ⟨g, cap, cur, hv, _, hg, hnc, _, hcs, htake⟩
  · omega
  · injection hv with h1 _ _
    have hbk : Bk w g e cur := hg
    have hat : ∀ j, j < n * 2 → w.cell? ⟨g, j, none⟩ = (pcF f n)[j]? := fun j hj => by
      rw [hbk.cell, ← htake, List.getElem?_take_of_lt hj, Array.getElem?_toList]
    refine ⟨g, 0, h1, hbk.lt, fun k hk => ?_⟩
    obtain ⟨q1, q2⟩ := pcF_at f n k hk
    rw [Nat.zero_add]
    exact ⟨(hat _ (by omega)).trans q1, (hat _ (by omega)).trans q2⟩
set_option maxHeartbeats 8000000 in
set_option maxRecDepth 100000 in
theorem all_walk (wN wD : Int) (nl n m2 : Nat) (E B D : Option Addr) (ec bc dc : Nat) (hm : 2 ≤ m2) (hm2 : m2 ≤ 1048576) (A : Option Addr) (L c : Nat) (w : World) (R : World → Prop) (hR : ∀ w w', Ext w w' → R w → R w') (hr : R w) (f : Nat → Int × Int)
    (cl : ∀ i w, i + 2 < m2 → R w → Calls Tryz.prog 12 #[combV wN wD nl n m2 E B D ec bc dc, .slice A L c, .int .i64 ((i : Int) + 1)] w (RetPI (f i) w)) :
    Calls Tryz.prog 13 #[combV wN wD nl n m2 E B D ec bc dc, .slice A L c] w fun e w' => ∃ P p, e = .returned (.slice P (m2 - 2) p) ∧ RdP w' P (m2 - 2) f ∧ Ext w w' ∧ (∀ b o, P = some ⟨b, o, none⟩ → w.heap.size ≤ b) := by
  obtain ⟨ip, hp, hp0, hp1, hp2⟩ := info_parts info_part
  have e0 : ((m2 - 2 : Nat) : Int) = (m2 : Int) - 2 := by omega
  have cS := fun w => gsigns_calls wN wD nl n m2 E B D ec bc dc hm2 w
  rw [← e0] at cS
  obtain ⟨m0, hm0⟩ : ∃ m0, m2 - 2 = m0 := ⟨_, rfl⟩
  rw [hm0] at cS ⊢
  unfold RetPI at cl
  have CS := Lib.hid cS; have CL := Lib.hid cl; have HR := Lib.hid hR; have HPS := Lib.hid (pcF_succ f); have HM0 := Lib.hid hm0
  have hm04 : m0 ≤ 1048576 := by omega
  unfold combV at CS CL ⊢
  clear cS cl hR hm0 e0
  go_enter Tryz.func13, Tryz.ntmps13
  go_wp2_with fail
  generalize hW : World.alloc w _ = W
  have bq := bk_of hW
  have hx := ext_of_alloc hW
  have hrW := HR.out _ _ hx hr
  have BQ := Lib.hid bq
  generalize w.heap.size = Q at *
  clear hW hr bq
  go_wp2_with fail
  go_loopw [6, 5] (fun vi v5 wr => ∃ i : Nat, vi = .int .i64 ((i : Int) + 1) ∧ i ≤ m0 ∧ Hid (wr.ownsRow W.heap.size 36 2 v5 i (pcF f i)) ∧ Ext W wr) (fun vi _ _ => m0 + 1 - (intOf vi).toNat)
  case atStart => exact ⟨0, rfl, Nat.zero_le _, own_nil _ _ _ _, Ext.refl _⟩
  case round => as_aux_lemma =>
    obtain ⟨i, rfl, hi', HO, hxr⟩ := hrel
    have bx := BQ.out.ext hxr
    have x0 := bx.cell 0
    have x1 := bx.cell 1
    have x2 := bx.cell 2
    have x3 := bx.cell 3
    have x4 := bx.cell 4
    clear bx
    go_wp2_with fail
    with_reducible refine (CS.out wr).mono ?_
    rintro e w2 ⟨rfl, hx2⟩
    have hx02 := hxr.trans hx2
    have bx := BQ.out.ext hx02
    clear x0 x1 x2 x3 x4
    have x0 := bx.cell 0
    have x1 := bx.cell 1
    have x2 := bx.cell 2
    have x3 := bx.cell 3
    have x4 := bx.cell 4
    clear bx
    by_cases g : i < m0
    · have gt : decide (((i : Nat) : Int) + 1 ≤ m0) = true := by simp; omega
      have cl := CL.out i w2 (by have := HM0.out; omega) (HR.out _ _ hx02 hrW)
      go_wp2_with fail
      with_reducible refine cl.mono ?_
      rintro e w4 ⟨rfl, hx4⟩
      have hx04 := hx02.trans hx4
      have ho4 : w4.ownsRow W.heap.size 36 2 u5 i (pcF f i) := own_ext HO.out (hx2.trans hx4)
      have hsz := hx04.size
      clear HO x0 x1 x2 x3 x4 cl hx2 hx02 hx4
      have ew : IntKind.i64.wrap ((i : Int) + 1 + 1) = (i : Int) + 1 + 1 := IntWalk.i64_in _ (by omega)
      go_wp2_with (at_builtin; refine wpList_append_lies (w4.alloc (.cells #[.int .i64 (f i).1, .int .i64 (f i).2] 36)) (by rfl) _ _ 49 rfl W.heap.size 36 ip (.agg #[.int .i64 0, .int .i64 0]) 2 16 Tryz.underlying49 hp hp0 hp1 hp2 rfl (by omega) u5 i (pcF f i) rfl (own_ext ho4 ((Ext.refl _).alloc _)) ⟨w4.heap.size, 0, none⟩ 1 1 [.int .i64 (f i).1, .int .i64 (f i).2] rfl rfl (fun j u' hu' => World.news_of_block (heap_alloc_new w4 (.cells #[.int .i64 (f i).1, .int .i64 (f i).2] 36)) j u' hu') (fun u' hu' => by rcases List.mem_cons.1 hu' with q | q; rw [q]; rfl; rw [List.mem_singleton.1 q]; rfl) (by omega) (by unfold maxLen; omega) (by omega) (by simp; omega) _ rfl ?_)
      intro gb cap w5 own5 hg5 _ _
      have hx5 : Ext W w5 := (hx04.alloc _).grown hg5 (fun k hk => (own_row_ge ho4 k hk).1)
      have HO5 : Hid (w5.ownsRow W.heap.size 36 2 (.slice (some ⟨gb, 0, none⟩) (i + 1) cap) (i + 1) (pcF f (i + 1))) := by
        show World.ownsRow _ _ _ _ _ _ _
        rw [HPS.out]; exact own5
      clear own5 hg5 ho4
      go_wp2_with fail
      refine ⟨⟨i + 1, rfl, by omega, HO5, hx5⟩, by simp [intOf]; omega⟩
    · have gt : decide (((i : Nat) : Int) + 1 ≤ m0) = false := by simp; omega
      obtain rfl : i = m0 := by omega
      obtain ⟨P, p, rfl⟩ := own_form2 HO.out
      have hrd := rdP_own (own_ext HO.out hx2)
      have hge := own_ge2 HO.out
      go_wp2_with fail
      go_ret
      exact ⟨P, p, rfl, hrd, hx.trans hx02, fun b o h => Nat.le_trans hx.size (hge b o h)⟩
set_option maxHeartbeats 2000000 in
set_option maxRecDepth 100000 in
theorem all_none (wN wD : Int) (nl n m2 : Nat) (E B D : Option Addr) (ec bc dc : Nat) (hm : m2 < 2) (A : Option Addr) (L c : Nat) (w : World) (f : Nat → Int × Int) :
    Calls Tryz.prog 13 #[combV wN wD nl n m2 E B D ec bc dc, .slice A L c] w fun e w' => ∃ P p, e = .returned (.slice P (m2 - 2) p) ∧ RdP w' P (m2 - 2) f ∧ Ext w w' ∧ (∀ b o, P = some ⟨b, o, none⟩ → w.heap.size ≤ b) := by
  have e0 : m2 - 2 = 0 := by omega
  have cS := fun w => gsigns_calls wN wD nl n m2 E B D ec bc dc (by omega) w
  rw [e0]
  have CS := Lib.hid cS
  have gt : decide ((1 : Int) ≤ (m2 : Int) - 2) = false := by simp; omega
  unfold combV at CS ⊢
  clear cS e0 hm
  go_enter Tryz.func13, Tryz.ntmps13
  go_wp2_with fail
  generalize hW : World.alloc w _ = W
  have bq := bk_of hW
  have hx := ext_of_alloc hW
  generalize w.heap.size = Q at *
  clear hW
  go_wp2_with fail
  go_loopw [6, 5] (fun vi v5 wr => vi = .int .i64 1 ∧ v5 = .slice none 0 0 ∧ wr = W) (fun _ _ _ => 0)
  case atStart => exact ⟨rfl, rfl, rfl⟩
  case round => as_aux_lemma =>
    obtain ⟨rfl, rfl, rfl⟩ := hrel
    have x0 := bq.cell 0
    have x1 := bq.cell 1
    have x2 := bq.cell 2
    have x3 := bq.cell 3
    have x4 := bq.cell 4
    go_wp2_with fail
    with_reducible refine (CS.out wr).mono ?_
    rintro e w2 ⟨rfl, hx2⟩
    go_wp2_with fail
    go_ret
    exact ⟨none, 0, rfl, fun h => absurd h (Nat.lt_irrefl _), hx.trans hx2, fun b o h => by cases h⟩
/-- A shelf as a value: its text and its index are letters of their own. -/
abbrev shV (wN wD : Int) (nl tn : Nat) (WA TA : Option Addr) (N wc n1 tc : Nat) (E B D : Option Addr) (m2 ec bc dc : Nat) : Value :=
  .agg #[.slice WA N wc, .slice TA tn tc, .slice E n1 ec, .int .i64 wN, .int .i64 wD, .slice B nl bc, .slice D m2 dc]
set_option maxHeartbeats 4000000 in
set_option maxRecDepth 100000 in
theorem scount_walk (b : Bool) (wN wD : Int) (ws : List UInt8) (N n1 m2 nl tn L r : Nat) (WA TA E B D : Option Addr) (wc tc ec bc dc : Nat) (w : World) (R : World → Prop) (RP : World → Option Addr → Nat → Prop)
    (hR : ∀ w w', Ext w w' → R w → R w') (h0 : R w)
    (cs : ∀ w, R w → Calls Tryz.prog 9 #[bookV WA TA N wc tn tc, str ws] w (SgRet b L RP w))
    (cc : b = true → ∀ P p w, RP w P p → R w → Calls Tryz.prog 10 #[.agg #[.slice E n1 ec, .int .i64 wN, .int .i64 wD, .slice B nl bc, .slice D m2 dc], .slice P L p] w fun e w' => e = .returned (.int .i64 r) ∧ Ext w w') (hb : b = false → r = 0) :
    Calls Tryz.prog 4 #[shV wN wD nl tn WA TA N wc n1 tc E B D m2 ec bc dc, str ws] w fun e w' => e = .returned (.int .i64 r) ∧ Ext w w' := by
  have CS := Lib.hid cs; have CC := Lib.hid cc; have HR := Lib.hid hR; have HB := Lib.hid hb
  clear cs cc hR hb
  go_enter Tryz.func4, Tryz.ntmps4
  go_upto_region 1 with fail
  generalize hW : World.alloc w _ = W
  have bx := bk_of hW
  have hx := ext_of_alloc hW
  have hr := HR.out _ _ hx h0
  generalize w.heap.size = g at *
  clear hW h0
  have z0 := bx.cell 0
  have z1 := bx.cell 1
  have cs := CS.out W hr
  go_wp2_with fail
  with_reducible refine cs.mono ?_
  rintro e w1 (⟨rfl, P, p, rfl, hP, hx1⟩ | ⟨rfl, rfl, hx1⟩)
  · have cc := CC.out rfl P p w1 hP (HR.out _ _ hx1 hr)
    have hb1 := bx.ext hx1
    clear z0 z1
    have z2 := hb1.cell 2
    have z3 := hb1.cell 3
    have z4 := hb1.cell 4
    have z5 := hb1.cell 5
    have z6 := hb1.cell 6
    go_wp2_with fail
    with_reducible refine cc.mono ?_
    rintro e w2 ⟨rfl, hx2⟩
    go_wp2_with fail
    go_ret
    exact ⟨rfl, (hx.trans hx1).trans hx2⟩
  · have hr0 := HB.out rfl
    subst hr0
    go_wp2_with fail
    go_ret
    exact ⟨rfl, hx.trans hx1⟩
set_option maxHeartbeats 4000000 in
set_option maxRecDepth 100000 in
theorem splaces_walk (b : Bool) (wN wD : Int) (ws : List UInt8) (N n1 m2 nl tn L K : Nat) (WA TA E B D : Option Addr) (wc tc ec bc dc : Nat) (w : World) (R : World → Prop) (RP : World → Option Addr → Nat → Prop)
    (hR : ∀ w w', Ext w w' → R w → R w') (h0 : R w)
    (cs : ∀ w, R w → Calls Tryz.prog 9 #[bookV WA TA N wc tn tc, str ws] w (SgRet b L RP w))
    (cc : b = true → ∀ P p w, RP w P p → R w → Calls Tryz.prog 11 #[.agg #[.slice E n1 ec, .int .i64 wN, .int .i64 wD, .slice B nl bc, .slice D m2 dc], .slice P L p] w fun e w' => ∃ A c, e = .returned (.slice A K c) ∧ Ext w w') :
    Calls Tryz.prog 5 #[shV wN wD nl tn WA TA N wc n1 tc E B D m2 ec bc dc, str ws] w fun e w' => ∃ A k c, e = .returned (.slice A k c) ∧ Ext w w' := by
  have CS := Lib.hid cs; have CC := Lib.hid cc; have HR := Lib.hid hR
  clear cs cc hR
  go_enter Tryz.func5, Tryz.ntmps5
  go_upto_region 1 with fail
  generalize hW : World.alloc w _ = W
  have bx := bk_of hW
  have hx := ext_of_alloc hW
  have hr := HR.out _ _ hx h0
  generalize w.heap.size = g at *
  clear hW h0
  have z0 := bx.cell 0
  have z1 := bx.cell 1
  have cs := CS.out W hr
  go_wp2_with fail
  with_reducible refine cs.mono ?_
  rintro e w1 (⟨rfl, P, p, rfl, hP, hx1⟩ | ⟨rfl, rfl, hx1⟩)
  · have cc := CC.out rfl P p w1 hP (HR.out _ _ hx1 hr)
    have hb1 := bx.ext hx1
    clear z0 z1
    have z2 := hb1.cell 2
    have z3 := hb1.cell 3
    have z4 := hb1.cell 4
    have z5 := hb1.cell 5
    have z6 := hb1.cell 6
    go_wp2_with fail
    with_reducible refine cc.mono ?_
    rintro e w2 ⟨A, c, rfl, hx2⟩
    go_wp2_with fail
    go_ret
    exact ⟨A, K, c, rfl, (hx.trans hx1).trans hx2⟩
  · go_wp2_with fail
    go_ret
    exact ⟨none, 0, 0, rfl, hx.trans hx1⟩
set_option maxHeartbeats 8000000 in
set_option maxRecDepth 100000 in
theorem slikely_walk (b1 b2 : Bool) (wN wD : Int) (ws wd : List UInt8) (N n1 m2 nl tn L1 L2 : Nat) (WA TA E B D : Option Addr) (wc tc ec bc dc : Nat) (w : World) (R : World → Prop) (RP1 RP2 : World → Option Addr → Nat → Prop) (x : Int) (q pr : Int × Int) (er : Nat)
    (hR : ∀ w w', Ext w w' → R w → R w') (h1 : ∀ w w' P p, Ext w w' → RP1 w P p → RP1 w' P p) (h0 : R w)
    (cs1 : ∀ w, R w → Calls Tryz.prog 9 #[bookV WA TA N wc tn tc, str ws] w (SgRet b1 L1 RP1 w))
    (cs2 : ∀ w, R w → Calls Tryz.prog 9 #[bookV WA TA N wc tn tc, str wd] w (SgRet b2 L2 RP2 w))
    (hx : ∀ w P p, RP2 w P p → L2 = 1 → ∃ b o, P = some ⟨b, o, none⟩ ∧ w.cell? ⟨b, o, none⟩ = some (.int .i64 x))
    (cl : b1 = true → b2 = true → L2 = 1 → ∀ P p w, RP1 w P p → R w → Calls Tryz.prog 12 #[.agg #[.slice E n1 ec, .int .i64 wN, .int .i64 wD, .slice B nl bc, .slice D m2 dc], .slice P L1 p, .int .i64 x] w (RetPI q w))
    (hyes : b1 = true → b2 = true → L2 = 1 → pr = q ∧ er = 0) (hno : ¬ (b1 = true ∧ b2 = true ∧ L2 = 1) → pr = (0, 0) ∧ er = 3) :
    Calls Tryz.prog 6 #[shV wN wD nl tn WA TA N wc n1 tc E B D m2 ec bc dc, str ws, str wd] w fun e w' => e = .returned (.tuple #[.agg #[.int .i64 pr.1, .int .i64 pr.2], .int .i64 (er : Nat)]) ∧ Ext w w' := by
  unfold RetPI at cl
  have CS1 := Lib.hid cs1; have CS2 := Lib.hid cs2; have CL := Lib.hid cl; have HR := Lib.hid hR; have H1 := Lib.hid h1; have HX := Lib.hid hx; have HY := Lib.hid hyes; have HN := Lib.hid hno
  clear cs1 cs2 cl hR h1 hx hyes hno
  go_enter Tryz.func6, Tryz.ntmps6
  go_upto_region 1 with fail
  generalize hW1 : World.alloc w _ = W1
  have hs1 : W1.heap.size = w.heap.size + 1 := by rw [← hW1]; simp
  have bq := bk_of hW1
  generalize hW : World.alloc W1 _ = W
  have bl := bk_of hW
  rw [hs1] at bl
  have hx : Ext w W := (ext_of_alloc hW1).trans (ext_of_alloc hW)
  have hB : w.heap.size ≤ w.heap.size + 1 := by omega
  have bqW := bq.ext (ext_of_alloc hW)
  have hr := HR.out _ _ hx h0
  clear hW hW1 bq h0
  obtain ⟨PB, hPB⟩ : ∃ PB, w.heap.size + 1 = PB := ⟨_, rfl⟩
  rw [hPB] at bl hB hs1
  simp only [hPB]
  have z0 := bqW.cell 0
  have z1 := bqW.cell 1
  have cs1 := CS1.out W hr
  clear hs1
  go_wp2_with fail
  with_reducible refine cs1.mono ?_
  rintro e w1 h1
  obtain ⟨v8, v9, P, p, rfl, hb9, hP, hx1⟩ : ∃ (v8 v9 : Value) (P : Option Addr) (p : Nat), e = .returned (.tuple #[v8, v9]) ∧ v9 = .bool b1 ∧ (b1 = true → v8 = .slice P L1 p ∧ RP1 w1 P p) ∧ Ext W w1 := by
    rcases h1 with ⟨h, P, p, rfl, hP, hx1⟩ | ⟨h, rfl, hx1⟩
    · exact ⟨_, _, P, p, rfl, by rw [h], fun _ => ⟨rfl, hP⟩, hx1⟩
    · exact ⟨_, _, none, 0, rfl, by rw [h], (fun q => by rw [h] at q; cases q), hx1⟩
  subst hb9
  have bq1 := bqW.ext hx1
  have hr1 := HR.out _ _ hx1 hr
  have cs2 := CS2.out w1 hr1
  clear z0 z1 bqW cs1 h1
  have z0 := bq1.cell 0
  have z1 := bq1.cell 1
  go_wp2_with fail
  with_reducible refine cs2.mono ?_
  rintro e w2 h2
  obtain ⟨L3, P2, p2, rfl, hP2, hx2⟩ : ∃ (L3 : Nat) (P2 : Option Addr) (p2 : Nat), e = .returned (.tuple #[.slice P2 L3 p2, .bool b2]) ∧ (b2 = true → L3 = L2 ∧ RP2 w2 P2 p2) ∧ Ext w1 w2 := by
    rcases h2 with ⟨h, P, p, rfl, hP, hx1⟩ | ⟨h, rfl, hx1⟩
    · exact ⟨_, P, p, by rw [h], fun _ => ⟨rfl, hP⟩, hx1⟩
    · exact ⟨_, none, 0, by rw [h], (fun q => by rw [h] at q; cases q), hx1⟩
  have bq2 := bq1.ext hx2
  have hx12 := hx1.trans hx2
  have bl2 := bl.ext hx12
  have hxx := hx.trans hx12
  have hr2 := HR.out _ _ hx12 hr
  clear z0 z1 bq1 cs2 h2 bl hx hr
  by_cases hyes : b1 = true ∧ b2 = true ∧ L2 = 1
  · obtain ⟨rfl, rfl, rfl⟩ := hyes
    obtain ⟨rfl, hp1⟩ := hP rfl
    obtain ⟨rfl, hp2⟩ := hP2 rfl
    obtain ⟨b, o, rfl, hc⟩ := HX.out _ _ _ hp2 rfl
    obtain ⟨rfl, rfl⟩ := HY.out rfl rfl rfl
    have cl := CL.out rfl rfl rfl
    go_upto_region 5 with fail
    have hr1 := HR.out _ _ hx2 hr1
    have hp1' := H1.out _ _ _ _ hx2 hp1
    have c2 := bq2.cell 2
    have c3 := bq2.cell 3
    have c4 := bq2.cell 4
    have c5 := bq2.cell 5
    have c6 := bq2.cell 6
    obtain ⟨Q, hQ⟩ : ∃ Q, w.heap.size = Q := ⟨_, rfl⟩
    rw [hQ] at c2 c3 c4 c5 c6 bq2 hB
    simp only [hQ]
    refine wp_region_N (fun w' => w'.cell? ⟨Q, 2, none⟩ = some (.slice E n1 ec) ∧ w'.cell? ⟨Q, 3, none⟩ = some (.int .i64 wN) ∧ w'.cell? ⟨Q, 4, none⟩ = some (.int .i64 wD) ∧ w'.cell? ⟨Q, 5, none⟩ = some (.slice B nl bc) ∧ w'.cell? ⟨Q, 6, none⟩ = some (.slice D m2 dc) ∧ w'.cell? ⟨b, o, none⟩ = some (.int .i64 x)) 7 (by kernel_rfl) ?_
    simp only [List.length_cons, List.length_nil, Nat.zero_add, Nat.reduceAdd]
    have hcur : Ext w2 w2.drew := (Ext.refl w2).drew
    have hSS : w2.drew.cell? ⟨Q, 2, none⟩ = some (.slice E n1 ec) ∧ w2.drew.cell? ⟨Q, 3, none⟩ = some (.int .i64 wN) ∧ w2.drew.cell? ⟨Q, 4, none⟩ = some (.int .i64 wD) ∧ w2.drew.cell? ⟨Q, 5, none⟩ = some (.slice B nl bc) ∧ w2.drew.cell? ⟨Q, 6, none⟩ = some (.slice D m2 dc) ∧ w2.drew.cell? ⟨b, o, none⟩ = some (.int .i64 x) := ⟨ecell c2 hcur, ecell c3 hcur, ecell c4 hcur, ecell c5 hcur, ecell c6 hcur, ecell hc hcur⟩
    have hR2 := HR.out _ _ hcur hr2
    have hP3 := H1.out _ _ _ _ hcur hp1'
    have bl3 := bl2.ext hcur
    have hx3 := hxx.trans hcur
    clear c2 c3 c4 c5 c6 hc hp1 hp1' bl2 hxx
    generalize w2.drew = w0 at *
    refine pure_N (i := 0) (.pointer (some ⟨Q, 2, none⟩)) rfl (by kernel_rfl) (fun _ _ _ h => h) rfl hSS (fun w' => by go_simp) #[true, false, false, false, false, false, false, false, false] (by rfl) ?_
    try simp only [Act.put, List.setIfInBounds_toArray, List.set_cons_zero, List.set_cons_succ]
    refine take_N (i := 1) (.agg #[.slice E n1 ec, .int .i64 wN, .int .i64 wD, .slice B nl bc, .slice D m2 dc]) rfl (by kernel_rfl) (fun _ _ _ h => h) rfl hSS (fun w' hw' => by obtain ⟨k0, k1, k2, k3, k4, k5⟩ := hw'; go_simp) #[true, true, false, false, false, false, false, false, false] (by rfl) ?_
    try simp only [Act.put, List.setIfInBounds_toArray, List.set_cons_zero, List.set_cons_succ]
    refine pure_N (i := 2) (.slice P L1 p) rfl (by kernel_rfl) (fun _ _ _ h => h) rfl hSS (fun w' => by go_simp) #[true, true, true, false, false, false, false, false, false] (by rfl) ?_
    try simp only [Act.put, List.setIfInBounds_toArray, List.set_cons_zero, List.set_cons_succ]
    refine pure_N (i := 3) (.slice (some ⟨b, o, none⟩) 1 p2) rfl (by kernel_rfl) (fun _ _ _ h => h) rfl hSS (fun w' => by go_simp) #[true, true, true, true, false, false, false, false, false] (by rfl) ?_
    try simp only [Act.put, List.setIfInBounds_toArray, List.set_cons_zero, List.set_cons_succ]
    refine pure_N (i := 4) (.pointer (some ⟨b, o, none⟩)) rfl (by kernel_rfl) (fun _ _ _ h => h) rfl hSS (fun w' => by go_simp) #[true, true, true, true, true, false, false, false, false] (by rfl) ?_
    try simp only [Act.put, List.setIfInBounds_toArray, List.set_cons_zero, List.set_cons_succ]
    refine take_N (i := 5) (.int .i64 x) rfl (by kernel_rfl) (fun _ _ _ h => h) rfl hSS (fun w' hw' => by obtain ⟨k0, k1, k2, k3, k4, k5⟩ := hw'; go_simp) #[true, true, true, true, true, true, false, false, false] (by rfl) ?_
    try simp only [Act.put, List.setIfInBounds_toArray, List.set_cons_zero, List.set_cons_succ]
    refine all_N [6] (by kernel_rfl) (by simp) ?_
    rintro i hi'
    obtain rfl := List.mem_singleton.1 hi'
    refine step_N (i := 6) #[true, true, true, true, true, true, true, false, false] rfl rfl (by rfl) (fun K' hK' => ?_)
    go_simp
    refine (cl P p w0 hP3 hR2).mono ?_
    rintro e wn ⟨rfl, hxn⟩
    refine hK' _ _ ⟨ecell hSS.1 hxn, ecell hSS.2.1 hxn, ecell hSS.2.2.1 hxn, ecell hSS.2.2.2.1 hxn, ecell hSS.2.2.2.2.1 hxn, ecell hSS.2.2.2.2.2 hxn⟩ ?_
    have bl4 := bl3.ext hxn
    have hx4 := hx3.trans hxn
    clear K' hK' hi' hSS hR2 hxn hx3 bl3 cl hP3
    have z0 := bl4.cell 0
    have z1 := bl4.cell 1
    have f0 := bl4.frozen 0
    have f1 := bl4.frozen 1
    have BF := Lib.hid (bk2G (v0 := .int .i64 pr.1) (v1 := .int .i64 pr.2) bl4)
    have HXF := Lib.hid (ext2G (B := PB) hx4 (by rw [hQ]; exact hB) (.int .i64 pr.1) (.int .i64 pr.2))
    clear bl4
    try simp only [Act.put, List.setIfInBounds_toArray, List.set_cons_zero, List.set_cons_succ]
    refine wpAnyN_tail 7 _ rfl rfl (by kernel_rfl) (by kernel_rfl) ?_
    go_wp2_with fail
    clear z0 z1 f0 f1
    have bF := BF.out
    have hxF := HXF.out
    generalize (wn.setCell _ _).setCell _ _ = wF at *
    have z0 := bF.cell 0
    have z1 := bF.cell 1
    exact bodyPost_ret (v := .tuple #[.agg #[.int .i64 pr.1, .int .i64 pr.2], .int .i64 0]) (by simp [results, Tryz.results6, go_sem, z0, z1]) rfl ⟨rfl, hxF⟩
  · obtain ⟨rfl, rfl⟩ := HN.out hyes
    have z0 := bl2.cell 0
    have z1 := bl2.cell 1
    have f0 := bl2.frozen 0
    have f1 := bl2.frozen 1
    have BF := Lib.hid (bk2G (v0 := .int .i64 0) (v1 := .int .i64 0) bl2)
    have HXF := Lib.hid (ext2G (B := PB) hxx hB (.int .i64 0) (.int .i64 0))
    clear bl2 bq2
    cases b1 with
    | false =>
      go_wp2_with fail
      clear z0 z1 f0 f1
      have bF := BF.out
      have hxF := HXF.out
      generalize (w2.setCell _ _).setCell _ _ = wF at *
      have z0 := bF.cell 0
      have z1 := bF.cell 1
      exact bodyPost_ret (v := .tuple #[.agg #[.int .i64 0, .int .i64 0], .int .i64 3]) (by simp [results, Tryz.results6, go_sem, z0, z1]) rfl ⟨rfl, hxF⟩
    | true =>
      cases b2 with
      | false =>
        go_wp2_with fail
        clear z0 z1 f0 f1
        have bF := BF.out
        have hxF := HXF.out
        generalize (w2.setCell _ _).setCell _ _ = wF at *
        have z0 := bF.cell 0
        have z1 := bF.cell 1
        exact bodyPost_ret (v := .tuple #[.agg #[.int .i64 0, .int .i64 0], .int .i64 3]) (by simp [results, Tryz.results6, go_sem, z0, z1]) rfl ⟨rfl, hxF⟩
      | true =>
        obtain ⟨rfl, hp2⟩ := hP2 rfl
        have hL : (((L3 : Nat) : Int) != 1) = true := by
          rw [bne_iff_ne]; intro q; exact hyes ⟨rfl, rfl, by omega⟩
        go_wp2_with fail
        clear z0 z1 f0 f1
        have bF := BF.out
        have hxF := HXF.out
        generalize (w2.setCell _ _).setCell _ _ = wF at *
        have z0 := bF.cell 0
        have z1 := bF.cell 1
        exact bodyPost_ret (v := .tuple #[.agg #[.int .i64 0, .int .i64 0], .int .i64 3]) (by simp [results, Tryz.results6, go_sem, z0, z1]) rfl ⟨rfl, hxF⟩
/-- The best of the first i parts, and where it is. -/
def gF (f : Nat → Int × Int) : Nat → Nat × (Int × Int)
  | 0 => (0, (0, 1))
  | i + 1 => if IntKind.i64.wrap ((gF f i).2.1 * (f i).2) < IntKind.i64.wrap ((f i).1 * (gF f i).2.2) then (i, f i) else gF f i
theorem gF_le (f : Nat → Int × Int) : ∀ i, (gF f i).1 ≤ i
  | 0 => Nat.le_refl _
  | i + 1 => by
    have := gF_le f i
    rw [gF]
    split
    · exact Nat.le_succ _
    · omega

theorem rdP_sto {w : World} {b o n g : Nat} {f : Nat → Int × Int} (h : RdP w (some ⟨b, o, none⟩) n f) (hb : b ≠ g) (u v : Value) : RdP ((w.setCell ⟨g, 0, none⟩ u).setCell ⟨g, 1, none⟩ v) (some ⟨b, o, none⟩) n f := fun hn => by
  obtain ⟨b', o', hA, hlt, hc⟩ := h hn
  injection hA with hA
  injection hA with e1 e2
  subst e1; subst e2
  refine ⟨b, o, rfl, by simpa [World.size_setCell] using hlt, fun k hk => ?_⟩
  have hne : ∀ j x, (⟨b, x, none⟩ : Addr) ≠ ⟨g, j, none⟩ := fun j x q => hb (by injection q)
  rw [World.cell?_setCell_other _ _ _ _ (hne 1 _).symm, World.cell?_setCell_other _ _ _ _ (hne 0 _).symm, World.cell?_setCell_other _ _ _ _ (hne 1 _).symm, World.cell?_setCell_other _ _ _ _ (hne 0 _).symm]
  exact hc k hk

set_option maxHeartbeats 8000000 in
set_option maxRecDepth 100000 in
theorem sguess_walk (b : Bool) (wN wD : Int) (ws : List UInt8) (N n1 m2 nl tn L S : Nat) (WA TA E B D : Option Addr) (wc tc ec bc dc : Nat) (w : World) (R : World → Prop) (RP : World → Option Addr → Nat → Prop) (f : Nat → Int × Int) (W : List (List UInt8)) (hN : W.length = N) (hn1 : 0 < tn) (hS : S ≤ 1048576) (hN4 : N ≤ 1048576)
    (hR : ∀ w w', Ext w w' → R w → R w') (hRP : ∀ w w' P p, Ext w w' → RP w P p → RP w' P p) (h0 : R w) (hW : ∀ w, R w → RdS w WA W)
    (cs : ∀ w, R w → Calls Tryz.prog 9 #[bookV WA TA N wc tn tc, str ws] w (SgRet b L RP w))
    (cl : b = true → ∀ P p w, RP w P p → R w → Calls Tryz.prog 13 #[.agg #[.slice E n1 ec, .int .i64 wN, .int .i64 wD, .slice B nl bc, .slice D m2 dc], .slice P L p] w fun e w' => ∃ P p, e = .returned (.slice P S p) ∧ RdP w' P S f ∧ Ext w w' ∧ (∀ b o, P = some ⟨b, o, none⟩ → w.heap.size ≤ b))
    (out : List UInt8) (er : Nat) (hno : b = false → out = [] ∧ er = 3) (hyes : b = true → er = 0 ∧ out = if (gF f S).1 = 0 ∨ N < (gF f S).1 then [10] else nth W ((gF f S).1 - 1)) :
    Calls Tryz.prog 7 #[shV wN wD nl tn WA TA N wc n1 tc E B D m2 ec bc dc, str ws] w fun e w' => e = .returned (.tuple #[str out, .int .i64 (er : Nat)]) ∧ Ext w w' := by
  have CS := Lib.hid cs; have CL := Lib.hid cl; have HR := Lib.hid hR; have HRP := Lib.hid hRP; have HW := Lib.hid hW; have HNO := Lib.hid hno; have HY := Lib.hid hyes; have HNW := Lib.hid hN
  clear cs cl hR hRP hW hno hyes hN
  go_enter Tryz.func7, Tryz.ntmps7
  go_upto_region 1 with fail
  generalize hW : World.alloc w _ = W1
  have bx := bk_of hW
  have hx := ext_of_alloc hW
  have hr := HR.out _ _ hx h0
  have HWR := Lib.hid (HW.out _ hr)
  generalize w.heap.size = g at *
  clear hW h0
  have z0 := bx.cell 0
  have z1 := bx.cell 1
  have cs := CS.out W1 hr
  go_wp2_with fail
  with_reducible refine cs.mono ?_
  rintro e w1 (⟨rfl, P, p, rfl, hP, hx1⟩ | ⟨rfl, rfl, hx1⟩)
  · obtain ⟨rfl, hout⟩ := HY.out rfl
    have hr1 := HR.out _ _ hx1 hr
    have bx1 := bx.ext hx1
    have hx01 := hx.trans hx1
    have HX0 := Lib.hid hx
    have BX := Lib.hid bx
    have hx11 := hx1
    have t1 := bx1.cell 1
    have hlen : (((tn : Nat) : Int) == 0) = false := by simp; omega
    have HO := Lib.hid hout
    clear z0 z1 bx hx hx1 hr cs hout
    go_upto_region 5 with fail
    generalize hW2 : World.alloc w1 _ = W2
    have bp := bk_of hW2
    have hr2 := HR.out _ _ (ext_of_alloc hW2) hr1
    have bx2 := bx1.ext (ext_of_alloc hW2)
    have hx12 := hx11.trans (ext_of_alloc hW2)
    have hpg : W1.heap.size ≤ w1.heap.size := hx11.size
    have cl := CL.out (by trivial) P p W2 (HRP.out _ _ _ _ (ext_of_alloc hW2) hP) hr2
    generalize w1.heap.size = pB at *
    have x2 := bx2.cell 2
    have x3 := bx2.cell 3
    have x4 := bx2.cell 4
    have x5 := bx2.cell 5
    have x6 := bx2.cell 6
    clear hW2 bx1 hr1 hx01 hx11 t1 CL CS HNO hP
    go_wp2_with fail
    with_reducible refine cl.mono ?_
    rintro e w3 ⟨A, c, rfl, hA, hx3, hge⟩
    have bx3 := bx2.ext hx3
    have bp3 := bp.ext hx3
    have hx13 := hx12.trans hx3
    have hpl := bp.lt
    have HA := Lib.hid hA
    have BP : Hid (Bk w3 pB 36 #[.int .i64 (gF f 0).2.1, .int .i64 (gF f 0).2.2]) := Lib.hid bp3
    have HGE : Hid (∀ b o, A = some ⟨b, o, none⟩ → b ≠ pB) := fun b o h q => by have := hge b o h; omega
    clear x2 x3 x4 x5 x6 bx2 bp bp3 bx3 hx3 hx12 hr2 cl hA HR HRP HW hge hpl
    go_wp2_with fail
    go_loopw [34, 8] (fun vi v8 wr => ∃ i : Nat, vi = .int .i64 i ∧ v8 = .int .i64 (gF f i).1 ∧ i ≤ S ∧ Hid (Bk wr pB 36 #[.int .i64 (gF f i).2.1, .int .i64 (gF f i).2.2]) ∧ Hid (RdP wr A S f) ∧ Ext W1 wr) (fun vi _ _ => S - (intOf vi).toNat)
    case atStart => exact ⟨0, rfl, rfl, Nat.zero_le _, BP, HA, hx13⟩
    case round => as_aux_lemma =>
      clear BP HA hx13
      obtain ⟨i, rfl, rfl, hi, BP, HA, hxr⟩ := hrel
      have bp := BP.out
      have q0 := bp.cell 0
      have q1 := bp.cell 1
      by_cases gi : i < S
      · obtain ⟨b, o, hAA, hb, hc⟩ := HA.out (by omega)
        have hne := HGE.out b o hAA
        obtain ⟨p1, p2⟩ := hc i gi
        have hstep : gF f (i + 1) = if IntKind.i64.wrap ((gF f i).2.1 * (f i).2) < IntKind.i64.wrap ((f i).1 * (gF f i).2.2) then (i, f i) else gF f i := rfl
        have hk := gF_le f i
        obtain ⟨G, hG⟩ : ∃ G, gF f i = G := ⟨_, rfl⟩
        obtain ⟨F, hF⟩ : ∃ F, f i = F := ⟨_, rfl⟩
        rw [hG, hF] at hstep
        rw [hG] at hk q0 q1 BP ⊢
        rw [hF] at p1 p2
        have HST := Lib.hid hstep
        subst hAA
        clear hc hstep hG hF bp
        go_upto_region 8 with fail
        generalize hW4 : World.alloc wr _ = W4
        have hx4 := hxr.trans (ext_of_alloc hW4)
        have bz := bk_of hW4
        have bp4 := BP.out.ext (ext_of_alloc hW4)
        have HA4 := Lib.hid (HA.out.ext (ext_of_alloc hW4))
        have hzp := BP.out.lt
        generalize wr.heap.size = zB at *
        clear hW4 q0 q1 p1 p2 BP HA hb hxr
        have q0 := bp4.cell 0
        have q1 := bp4.cell 1
        have q2 := bp4.frozen 0
        have q3 := bp4.frozen 1
        have z0 := bz.cell 0
        have z1 := bz.cell 1
        obtain ⟨xa, hxa⟩ : ∃ xa, IntKind.i64.wrap (G.2.1 * F.2) = xa := ⟨_, rfl⟩
        obtain ⟨xb, hxb⟩ : ∃ xb, IntKind.i64.wrap (F.1 * G.2.2) = xb := ⟨_, rfl⟩
        have HST' : Hid (gF f (i + 1) = if xa < xb then (i, F) else G) := by
          show _ = _
          rw [HST.out, hxa, hxb]
        clear HST
        by_cases gl : xa < xb
        · have gl' : decide (xa < xb) = true := decide_eq_true gl
          have HS1 : Hid (gF f (i + 1) = (i, F)) := by
            show _ = _
            rw [HST'.out, if_pos gl]
          clear gl
          go_upto_region 9 with fail
          go_region
          go_wp2_with fail
          refine ⟨⟨i + 1, by go_num, by rw [HS1.out], by omega, ?_, ?_, ?_⟩, by simp [intOf]; omega⟩
          · show Bk _ _ _ _
            rw [HS1.out]
            exact (bk2G bp4).ext ((Ext.refl _).drew)
          · exact (rdP_sto HA4.out hne _ _).ext ((Ext.refl _).drew)
          · exact (ext2G hx4 hpg _ _).drew
        · have gl' : decide (xa < xb) = false := decide_eq_false gl
          have HS1 : Hid (gF f (i + 1) = G) := by
            show _ = _
            rw [HST'.out, if_neg gl]
          clear gl
          go_wp2_with fail
          refine ⟨⟨i + 1, by go_num, by rw [HS1.out], by omega, ?_, HA4, hx4⟩, by simp [intOf]; omega⟩
          show Bk _ _ _ _
          rw [HS1.out]
          exact bp4
      · obtain rfl : i = S := by omega
        obtain ⟨k, hk⟩ : ∃ k, (gF f i).1 = k := ⟨_, rfl⟩
        have hle := gF_le f i
        have ho := HO.out
        rw [hk] at hle ho ⊢
        have bx := BX.out.ext hxr
        have x0 := bx.cell 0
        have hxx := HX0.out.trans hxr
        clear bp q0 q1 BP HA HO HY BX
        by_cases k0 : k = 0
        · subst k0
          rw [if_pos (Or.inl rfl)] at ho
          subst ho
          go_wp2_with fail
          go_ret2
          exact ⟨rfl, hxx⟩
        · have k0' : (((k : Nat) : Int) == 0) = false := by simp; omega
          by_cases k1 : N < k
          · have k1' : decide ((N : Int) < (k : Nat)) = true := by simp; omega
            rw [if_pos (Or.inr k1)] at ho
            subst ho
            go_wp2_with fail
            go_ret2
            exact ⟨rfl, hxx⟩
          · have k1' : decide ((N : Int) < (k : Nat)) = false := by simp; omega
            rw [if_neg (by omega)] at ho
            subst ho
            obtain ⟨k2, rfl⟩ : ∃ k2, k = k2 + 1 := ⟨k - 1, by omega⟩
            have e1 : IntKind.i64.wrap (((k2 + 1 : Nat) : Int) - 1) = (k2 : Int) := by rw [IntWalk.i64_in _ (by omega)]; omega
            have k1'' : decide ((N : Int) < (k2 : Int) + 1) = false := decide_eq_false (by omega)
            have k0'' : ((k2 : Int) + 1 == 0) = false := by rw [beq_eq_false_iff_ne]; omega
            have k2N : k2 < N := by omega
            clear k1' k0' k0 k1
            have hr := HWR.out.ext hxr
            obtain ⟨bW, oW, rfl, hbW, hcW⟩ := hr (by rw [HNW.out]; exact Nat.lt_of_le_of_lt (Nat.zero_le _) k2N)
            have p1 := hcW k2 (by rw [HNW.out]; exact k2N)
            dsimp only at p1
            clear hr hcW
            go_wp2_with fail
            go_simp
            go_wp2_with fail
            go_ret2
            exact ⟨rfl, hxx⟩
  · obtain ⟨rfl, rfl⟩ := HNO.out rfl
    have hlen : (((tn : Nat) : Int) == 0) = false := by simp; omega
    clear z0 z1
    have t1 := (bx.ext hx1).cell 1
    go_wp2_with fail
    go_ret2
    exact ⟨rfl, hx.trans hx1⟩
set_option maxHeartbeats 4000000 in
set_option maxRecDepth 100000 in
theorem sguess_none (b : Bool) (wN wD : Int) (ws : List UInt8) (N n1 m2 nl L : Nat) (WA TA E B D : Option Addr) (wc tc ec bc dc : Nat) (w : World) (R : World → Prop) (RP : World → Option Addr → Nat → Prop)
    (hR : ∀ w w', Ext w w' → R w → R w') (h0 : R w)
    (cs : ∀ w, R w → Calls Tryz.prog 9 #[bookV WA TA N wc 0 tc, str ws] w (SgRet b L RP w)) :
    Calls Tryz.prog 7 #[shV wN wD nl 0 WA TA N wc n1 tc E B D m2 ec bc dc, str ws] w fun e w' => e = .returned (.tuple #[str [], .int .i64 3]) ∧ Ext w w' := by
  have CS := Lib.hid cs; have HR := Lib.hid hR
  clear cs hR
  go_enter Tryz.func7, Tryz.ntmps7
  go_upto_region 1 with fail
  generalize hW : World.alloc w _ = W1
  have bx := bk_of hW
  have hx := ext_of_alloc hW
  have hr := HR.out _ _ hx h0
  generalize w.heap.size = g at *
  clear hW h0
  have z0 := bx.cell 0
  have z1 := bx.cell 1
  have cs := CS.out W1 hr
  go_wp2_with fail
  with_reducible refine cs.mono ?_
  rintro e w1 (⟨rfl, P, p, rfl, hP, hx1⟩ | ⟨rfl, rfl, hx1⟩)
  · clear z0 z1
    have t1 := (bx.ext hx1).cell 1
    go_wp2_with fail
    go_ret2
    exact ⟨rfl, hx.trans hx1⟩
  · clear z0 z1
    have t1 := (bx.ext hx1).cell 1
    go_wp2_with fail
    go_ret2
    exact ⟨rfl, hx.trans hx1⟩
end Go.Proofs.YtjfdlibceldanacGreatDoor.Raw
