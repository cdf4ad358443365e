/- text.Good: the walk. -/
import Derived.Test.YtjfdlibceldanabDoorTxtR
import Derived.Test.YtjfdlibceldanabDoorTxtPl
namespace Go.Proofs.YtjfdlibceldanabDoor
open Go.RowKit Go.Sort Tx

theorem contains_calls (T : List Int) (x : Int) (A : Option Addr) (c : Nat) (w : World) (hT : T.length ≤ 9223372036854775807) (hr : Rd w A T.length (fun k => .int .i64 (nth T k))) :
    Calls Tryd.prog 30 #[.slice A T.length c, .int .i64 x] w fun e w' => e = .returned (.bool (T.contains x)) ∧ w' = w := by
  by_cases h0 : T.length = 0
  · obtain rfl : T = [] := List.length_eq_zero_iff.1 h0
    exact Tryd.slices_Contains_int_empty A c x w
  · obtain ⟨b, o, rfl, hb, hc⟩ := hr (by omega)
    have h := Tryd.slices_Contains_int b o T.length c T x w (Nat.le_refl _) hT (fun j hj => by rw [hc j hj, List.getD_eq_getElem?_getD]; rfl)
    rwa [List.take_length] at h
/-- The closure of Good: is a sign none of the book? -/
def badK (n : Nat) (k : Int) : Bool := decide (k < 1) || decide ((n : Int) + 2 ≤ k)
theorem good_bad (w : World) (B : Nat) (WA TA : Option Addr) (wn wc tn tc : Nat) (hn : wn ≤ 1000000000000) (hB : B < w.heap.size) (hb : Bk w B 25 #[.slice WA wn wc, .slice TA tn tc]) :
    PredAt Tryd.prog 32 #[.pointer (some ⟨B, 0, none⟩)] (Value.int .i64) (badK wn) w := fun W r hx => by
  have c0 : W.cell? ⟨B, 0, none⟩ = some (.slice WA wn wc) := (hx.cell (p := ⟨B, 0, none⟩) hB).trans (hb.cell 0)
  unfold FnGives badK
  have hw : IntKind.i64.wrap ((wn : Int) + 2) = (wn : Int) + 2 := IntWalk.i64_in _ (by omega)
  by_cases h1 : r < 1
  · have h1' : decide (r < 1) = true := by simpa using h1
    rw [h1']
    go_enter Tryd.func32, Tryd.ntmps32
    go_wp2
    go_ret
    exact ⟨rfl, 0, rfl⟩
  · have h1' : decide (r < 1) = false := by simpa using h1
    rw [h1']
    go_enter Tryd.func32, Tryd.ntmps32
    go_wp2
    go_ret
    exact ⟨by simp, 0, rfl⟩
theorem containsF_calls (T : List Int) (n : Nat) (hn : n ≤ T.length) (A : Option Addr) (c : Nat) (w : World) (hT : T.length ≤ 9223372036854775807) (hr : Rd w A T.length (fun k => .int .i64 (nth T k)))
    (B : Nat) (WA TA : Option Addr) (wn wc tn tc : Nat) (hwn : wn ≤ 1000000000000) (hB : B < w.heap.size) (hb : Bk w B 25 #[.slice WA wn wc, .slice TA tn tc]) :
    Calls Tryd.prog 31 #[.slice A n c, .func (.func 32) #[] #[.pointer (some ⟨B, 0, none⟩)]] w fun e w' => e = .returned (.bool ((T.take n).any (badK wn))) ∧ Ext w w' := by
  by_cases h0 : n = 0
  · subst h0
    refine (Tryd.slices_ContainsFunc_empty (α := Int) A c _ w).mono ?_
    rintro e w' ⟨rfl, rfl⟩
    exact ⟨by simp, Ext.refl _⟩
  · obtain ⟨b, o, rfl, _, hc⟩ := hr (by omega)
    refine (Tryd.slices_ContainsFunc (Value.int .i64) (badK wn) 32 #[.pointer (some ⟨B, 0, none⟩)] (enters_of Tryd.func32 (by kernel_rfl) rfl) b o n c T w (good_bad w B WA TA wn wc tn tc hwn hB hb) hn (by omega) (fun j hj => by rw [hc j hj]; simp [nth, hj])).mono ?_
    rintro e w' ⟨rfl, q, rfl⟩
    exact ⟨rfl, (Ext.refl w).drewN q⟩

set_option maxHeartbeats 4000000 in
set_option maxRecDepth 100000 in
theorem good_ends (W : List (List UInt8)) (T : List Int) (WA TA : Option Addr) (wc tc : Nat) (w : World) (hT : T.length ≤ 17592186044416) (ht : Rd w TA T.length (fun k => .int .i64 (nth T k)))
    (h : ¬ (2 ≤ T.length ∧ T.length ≤ 101 ∧ nth T (T.length - 1) = 0 ∧ nth T (T.length - 2) = 1)) :
    Calls Tryd.prog 11 #[bookV WA TA W.length wc T.length tc] w fun e w' => e = .returned (.bool false) ∧ Ext w w' := by
  by_cases h1 : T.length < 2
  · have h1' : decide ((T.length : Int) < 2) = true := by simp; omega
    go_enter Tryd.func11, Tryd.ntmps11
    go_wp2_with fail
    go_ret
    exact ⟨rfl, (Ext.refl w).alloc _⟩
  · have h1' : decide ((T.length : Int) < 2) = false := by simp; omega
    by_cases h2 : 101 < T.length
    · have h2' : decide ((101 : Int) < T.length) = true := by simp; omega
      go_enter Tryd.func11, Tryd.ntmps11
      go_wp2_with fail
      go_ret
      exact ⟨rfl, (Ext.refl w).alloc _⟩
    · have h2' : decide ((101 : Int) < T.length) = false := by simp; omega
      obtain ⟨b, o, rfl, hb, hc⟩ := ht (by omega)
      have p1 := ecell (hc (T.length - 1) (by omega)) ((Ext.refl w).alloc (.cells #[.slice WA W.length wc, .slice (some ⟨b, o, none⟩) T.length tc] 25))
      have p2 := ecell (hc (T.length - 2) (by omega)) ((Ext.refl w).alloc (.cells #[.slice WA W.length wc, .slice (some ⟨b, o, none⟩) T.length tc] 25))
      obtain ⟨n, hn⟩ : ∃ n, T.length = n := ⟨_, rfl⟩
      have e1 : ((n - 1 : Nat) : Int) = (n : Int) - 1 := by omega
      have e2 : ((n - 2 : Nat) : Int) = (n : Int) - 2 := by omega
      rw [hn] at p1 p2 h h1' h2' ⊢
      dsimp only at p1 p2
      clear hc ht
      by_cases h3 : nth T (n - 1) = 0
      · have h4 : ¬ nth T (n - 2) = 1 := fun q => h ⟨by omega, by omega, h3, q⟩
        have h4' : (nth T (n - 2) != 1) = true := by simpa using h4
        rw [h3] at p1
        go_enter Tryd.func11, Tryd.ntmps11
        go_wp2_with fail
        go_ret
        exact ⟨rfl, (Ext.refl w).alloc _⟩
      · have h3' : (nth T (n - 1) != 0) = true := by simpa using h3
        go_enter Tryd.func11, Tryd.ntmps11
        go_wp2_with fail
        go_ret
        exact ⟨rfl, (Ext.refl w).alloc _⟩

set_option maxHeartbeats 8000000 in
set_option maxRecDepth 100000 in
theorem good_in (W : List (List UInt8)) (T : List Int) (WA : Option Addr) (wc tc b o : Nat) (w : World) (hWl : W.length ≤ 1000000000000) (hwl : ∀ k, k < W.length → (nth W k).length ≤ 9223372036854775807) (hr : RdS w WA W) (htc : T.length ≤ tc)
    (ht : Rd w (some ⟨b, o, none⟩) T.length (fun k => .int .i64 (nth T k)))
    (h : 2 ≤ T.length ∧ T.length ≤ 101 ∧ nth T (T.length - 1) = 0 ∧ nth T (T.length - 2) = 1) :
    Calls Tryd.prog 11 #[bookV WA (some ⟨b, o, none⟩) W.length wc T.length tc] w fun e w' => e = .returned (.bool ((List.range W.length).all (gw W T) && (T.take (T.length - 1)).all fun k => decide (1 ≤ k ∧ k < W.length + 2))) ∧ Ext w w' := by
  have hbad : ((T.take (T.length - 1)).any (badK W.length)) = !((T.take (T.length - 1)).all fun k => decide (1 ≤ k ∧ k < W.length + 2)) := by
    rw [List.any_eq_not_all_not]
    congr 2
    funext k
    unfold badK
    by_cases g1 : k < 1
    · simp [g1]; omega
    · by_cases g2 : (W.length : Int) + 2 ≤ k
      · simp [g1, g2]
      · simp [g1, g2]; omega
  have cF := fun B w' hB hb' (ht' : Rd w' (some ⟨b, o, none⟩) T.length (fun k => .int .i64 (nth T k))) => containsF_calls T (T.length - 1) (by omega) (some ⟨b, o, none⟩) tc w' (by omega) ht' B WA (some ⟨b, o, none⟩) W.length wc T.length tc hWl hB hb'
  rw [hbad] at cF
  have cC := fun x w' (ht' : Rd w' (some ⟨b, o, none⟩) T.length (fun k => .int .i64 (nth T k))) => contains_calls T x (some ⟨b, o, none⟩) tc w' (by omega) ht'
  have hgw : ∀ i, gw W T i = (decide (1 ≤ (nth W i).length ∧ (nth W i).length ≤ 8) && (nth W i).all letter && (decide (i = 0) || decide (nth W (i - 1) < nth W i)) && T.contains ((i : Int) + 2)) := fun i => rfl
  have hr' : Rd w WA W.length (fun k => str (nth W k)) := hr
  obtain ⟨G, hG⟩ : ∃ G, gw W T = G := ⟨_, rfl⟩
  obtain ⟨R2, hR2⟩ : ∃ R2, ((T.take (T.length - 1)).all fun k => decide (1 ≤ k ∧ k < W.length + 2)) = R2 := ⟨_, rfl⟩
  rw [hR2] at cF ⊢
  rw [hG] at hgw ⊢
  obtain ⟨n, hn⟩ : ∃ n, T.length = n := ⟨_, rfl⟩
  obtain ⟨N, hN⟩ : ∃ N, W.length = N := ⟨_, rfl⟩
  rw [hn, hN] at cF
  rw [hn] at cC ht htc h
  rw [hN] at hwl hr' hWl
  rw [hn, hN]
  obtain ⟨RR, hRR⟩ : ∃ RR, ((List.range N).all G && R2) = RR := ⟨_, rfl⟩
  rw [hRR]
  have HRR := Lib.hid hRR
  have h1' : decide ((n : Int) < 2) = false := by simp; omega
  have h2' : decide ((101 : Int) < n) = false := by simp; omega
  have e1 : ((n - 1 : Nat) : Int) = (n : Int) - 1 := by omega
  have e2 : ((n - 2 : Nat) : Int) = (n : Int) - 2 := by omega
  have CF := Lib.hid cF; have CC := Lib.hid cC; have HWL := Lib.hid hwl; have HT := Lib.hid ht; have HR := Lib.hid hr'; have HG := Lib.hid hgw
  clear cF cC hwl hr ht hbad hR2 hr' hgw hG hn hN hRR
  obtain ⟨h3, h4, h5, h6⟩ := h
  go_enter Tryd.func11, Tryd.ntmps11
  go_upto_region 2 with fail
  generalize hW1 : World.alloc w _ = W1
  have bx := bk_of hW1
  have hx0 := ext_of_alloc hW1
  obtain ⟨b', o', hA, hb, hc⟩ := (HT.out.ext hx0) (by omega)
  injection hA with hA
  injection hA with q1 q2 q3
  subst q1; subst q2
  have p1 := hc (n - 1) (by omega)
  have p2 := hc (n - 2) (by omega)
  dsimp only at p1 p2
  rw [h5] at p1
  rw [h6] at p2
  have b0 := bx.cell 0
  have b1 := bx.cell 1
  have BX := Lib.hid bx
  generalize w.heap.size = B at *
  clear hc q3 hW1 bx
  go_wp2_with fail
  clear p1 p2 b0 b1
  go_loopw [36] (fun vi wr => ∃ i : Nat, vi = .int .i64 i ∧ i ≤ N ∧ Ext W1 wr ∧ Hid (∀ j, j < i → G j = true)) (fun vi _ => N - (intOf vi).toNat)
  case atStart => exact ⟨0, rfl, Nat.zero_le _, Ext.refl _, fun j hj => absurd hj (Nat.not_lt_zero _)⟩
  case round => as_aux_lemma =>
    obtain ⟨i, rfl, hi', hxr, HJ⟩ := hrel
    have b0 := (BX.out.ext hxr).cell 0
    have b1 := (BX.out.ext hxr).cell 1
    by_cases g : i < N
    · obtain ⟨bW, oW, rfl, hbW, hcW⟩ := (HR.out.ext (hx0.trans hxr)) (by omega)
      have p1 := hcW i g
      have p0 := hcW (i - 1) (by omega)
      dsimp only at p1 p0
      have hwi := HWL.out i g
      have hgi := HG.out i
      obtain ⟨x, hx⟩ : ∃ x, nth W i = x := ⟨_, rfl⟩
      obtain ⟨y, hy⟩ : ∃ y, nth W (i - 1) = y := ⟨_, rfl⟩
      rw [hx] at p1 hwi hgi
      rw [hy] at p0 hgi
      have HGI := Lib.hid hgi
      have HX := Lib.hid hx; have HY := Lib.hid hy
      clear hcW hx hy hgi
      have bad : G i = false → RR = false := fun hb => by
        rw [← HRR.out]
        have : (List.range N).all G = false := by
          rw [Bool.eq_false_iff]
          intro q
          have := List.all_eq_true.1 q i (List.mem_range.2 g)
          rw [hb] at this; cases this
        rw [this]; rfl
      by_cases g1 : x.length < 1
      · have g1' : decide ((x.length : Int) < 1) = true := by simp; omega
        have hbd := bad (by rw [HGI.out, decide_eq_false (by omega)]; rfl)
        clear p0
        go_wp2_with fail
        go_ret
        exact ⟨by rw [hbd]; rfl, hx0.trans hxr⟩
      · have g1' : decide ((x.length : Int) < 1) = false := by simp; omega
        by_cases g2 : 8 < x.length
        · have g2' : decide ((8 : Int) < x.length) = true := by simp; omega
          have hbd := bad (by rw [HGI.out, decide_eq_false (by omega)]; rfl)
          clear p0
          go_wp2_with fail
          go_ret
          exact ⟨by rw [hbd]; rfl, hx0.trans hxr⟩
        · have g2' : decide ((8 : Int) < x.length) = false := by simp; omega
          have ct := trim_calls x wr (by omega)
          go_wp2_with fail
          with_reducible refine ct.mono ?_
          rintro e w2 ⟨tt, rfl, htt, hx2⟩
          have hx02 := (hx0.trans hxr).trans hx2
          clear ct b0 b1 p0 p1
          by_cases g3 : x.all letter = true
          · have g3' : (tt == []) = true := by rw [htt.2 g3]; rfl
            have b0 := (BX.out.ext (hxr.trans hx2)).cell 0
            have b1 := (BX.out.ext (hxr.trans hx2)).cell 1
            obtain ⟨bW', oW', hWW, hbW', hcW⟩ := (HR.out.ext hx02) (by omega)
            injection hWW with hWW
            injection hWW with q1 q2 q3
            subst q1; subst q2
            have p0 := hcW (i - 1) (by omega)
            dsimp only at p0
            rw [HY.out] at p0
            clear hcW q3
            have cc := CC.out ((i : Int) + 2) w2 (HT.out.ext hx02)
            have hw : IntKind.i64.wrap ((i : Int) + 2) = (i : Int) + 2 := IntWalk.i64_in _ (by omega)
            have hp1 : IntKind.i64.wrap ((i : Int) - 1) = (i : Int) - 1 := IntWalk.i64_in _ (by omega)
            by_cases g4 : i = 0
            · subst g4
              have g4' : decide ((0 : Int) < ((0 : Nat) : Int)) = false := by decide
              clear p0 cc
              have cc := CC.out 2 w2 (HT.out.ext hx02)
              have hgi : G 0 = T.contains 2 := by rw [HGI.out, decide_eq_true (show _ ∧ _ from ⟨by omega, by omega⟩), g3]; simp
              by_cases g5 : T.contains 2 = true
              · rw [g5] at cc hgi
                go_wp2_with fail
                with_reducible refine cc.mono ?_
                rintro e w3 ⟨rfl, rfl⟩
                go_wp2_with fail
                refine ⟨⟨1, by go_num, by omega, hxr.trans hx2, fun k hk => ?_⟩, by simp [intOf]; omega⟩
                obtain rfl : k = 0 := by omega
                exact hgi
              · have g5' : T.contains 2 = false := by simpa using g5
                rw [g5'] at cc hgi
                have hbd := bad hgi
                go_wp2_with fail
                with_reducible refine cc.mono ?_
                rintro e w3 ⟨rfl, rfl⟩
                go_wp2_with fail
                go_ret
                exact ⟨by rw [hbd]; rfl, hx02⟩
            · have g4' : decide ((0 : Int) < i) = true := by simp; omega
              have e3 : ((i - 1 : Nat) : Int) = (i : Int) - 1 := by omega
              by_cases g6 : y < x
              · have g6' : Op.bytesLess y x = true := by rw [bytesLess_eq]; exact decide_eq_true g6
                have hgi : G i = T.contains ((i : Int) + 2) := by rw [HGI.out, decide_eq_true (show _ ∧ _ from ⟨by omega, by omega⟩), g3, decide_eq_true g6]; simp
                by_cases g5 : T.contains ((i : Int) + 2) = true
                · rw [g5] at cc hgi
                  go_wp2_with fail
                  with_reducible refine cc.mono ?_
                  rintro e w3 ⟨rfl, rfl⟩
                  go_wp2_with fail
                  refine ⟨⟨i + 1, by go_num, by omega, hxr.trans hx2, fun k hk => ?_⟩, by simp [intOf]; omega⟩
                  by_cases e : k = i
                  · subst e; exact hgi
                  · exact HJ.out k (by omega)
                · have g5' : T.contains ((i : Int) + 2) = false := by simpa using g5
                  rw [g5'] at cc hgi
                  have hbd := bad hgi
                  go_wp2_with fail
                  with_reducible refine cc.mono ?_
                  rintro e w3 ⟨rfl, rfl⟩
                  go_wp2_with fail
                  go_ret
                  exact ⟨by rw [hbd]; rfl, hx02⟩
              · have g6' : Op.bytesLess y x = false := by rw [bytesLess_eq]; exact decide_eq_false g6
                have hbd := bad (by rw [HGI.out, decide_eq_false g6, decide_eq_false g4, Bool.or_false, Bool.and_false]; rfl)
                clear cc
                go_wp2_with fail
                go_ret
                exact ⟨by rw [hbd]; rfl, hx02⟩
          · have g3' : (tt == []) = false := by
              rw [beq_eq_false_iff_ne]; exact fun q => g3 (htt.1 q)
            have hf : x.all letter = false := by simpa using g3
            have hbd := bad (by rw [HGI.out, hf, Bool.and_false]; rfl)
            go_wp2_with fail
            go_ret
            exact ⟨by rw [hbd]; rfl, hx02⟩
    · obtain rfl : i = N := by omega
      have hall : (List.range i).all G = true := List.all_eq_true.2 fun j hj => HJ.out j (List.mem_range.1 hj)
      have hrr : RR = R2 := by rw [← HRR.out, hall, Bool.true_and]
      have cf := CF.out B wr (BX.out.ext hxr).lt (BX.out.ext hxr) (HT.out.ext (hx0.trans hxr))
      go_wp2_with fail
      with_reducible refine cf.mono ?_
      rintro e w2 ⟨rfl, hx2⟩
      go_wp2_with fail
      go_ret
      exact ⟨by rw [hrr]; simp, (hx0.trans hxr).trans hx2⟩
theorem tgood_calls (W : List (List UInt8)) (T : List Int) (WA TA : Option Addr) (wc tc : Nat) (w : World) (hWl : W.length ≤ 1000000000000) (hwl : ∀ k, k < W.length → (nth W k).length ≤ 9223372036854775807) (hT : T.length ≤ 17592186044416) (hr : RdS w WA W) (htc : T.length ≤ tc)
    (ht : Rd w TA T.length (fun k => .int .i64 (nth T k))) :
    Calls Tryd.prog 11 #[bookV WA TA W.length wc T.length tc] w fun e w' => e = .returned (.bool (goodB W T)) ∧ Ext w w' := by
  by_cases h : 2 ≤ T.length ∧ T.length ≤ 101 ∧ nth T (T.length - 1) = 0 ∧ nth T (T.length - 2) = 1
  · obtain ⟨b, o, rfl, _, _⟩ := ht (by omega)
    have e : goodB W T = ((List.range W.length).all (gw W T) && (T.take (T.length - 1)).all fun k => decide (1 ≤ k ∧ k < W.length + 2)) := by
      unfold goodB; rw [decide_eq_true h, Bool.true_and]
    rw [e]
    exact good_in W T WA wc tc b o w hWl hwl hr htc ht h
  · have e : goodB W T = false := by unfold goodB; rw [decide_eq_false h]; rfl
    rw [e]
    exact good_ends W T WA TA wc tc w hT ht h
end Go.Proofs.YtjfdlibceldanabDoor
