/- The document's own IsBook: the walk. -/
import Derived.Test.YtjfdlibceldanabDoorRdW
import Derived.Test.YtjfdlibceldanabDoorMapB
import Derived.Maps.OwnOps
namespace Go.Proofs.YtjfdlibceldanabDoor
open Go.RowKit Go.Sort Go.Maps Tx

set_option maxHeartbeats 4000000 in
set_option maxRecDepth 100000 in
theorem risbook_ends (W : List (List UInt8)) (T : List Int) (WA TA : Option Addr) (wc tc : Nat) (w : World) (hT : T.length ≤ 17592186044416) (ht : Rd w TA T.length (fun k => .int .i64 (nth T k)))
    (h : ¬ (2 ≤ T.length ∧ T.length ≤ 101 ∧ nth T (T.length - 1) = 0 ∧ nth T (T.length - 2) = 1)) :
    Calls Tryd.prog 12 #[bookV WA TA W.length wc T.length tc] w fun e w' => e = .returned (.bool false) ∧ Ext w w' := by
  by_cases h1 : T.length < 2
  · have h1' : decide ((T.length : Int) < 2) = true := by simp; omega
    go_enter Tryd.func12, Tryd.ntmps12
    go_wp2_with fail
    go_ret
    exact ⟨rfl, (Ext.refl w).alloc _⟩
  · have h1' : decide ((T.length : Int) < 2) = false := by simp; omega
    by_cases h2 : 101 < T.length
    · have h2' : decide ((101 : Int) < T.length) = true := by simp; omega
      go_enter Tryd.func12, Tryd.ntmps12
      go_wp2_with fail
      go_ret
      exact ⟨rfl, (Ext.refl w).alloc _⟩
    · have h2' : decide ((101 : Int) < T.length) = false := by simp; omega
      obtain ⟨b, o, rfl, hb, hc⟩ := ht (by omega)
      have p1 := ecell (hc (T.length - 1) (by omega)) ((Ext.refl w).alloc (.cells #[.slice WA W.length wc, .slice (some ⟨b, o, none⟩) T.length tc] 25))
      have p2 := ecell (hc (T.length - 2) (by omega)) ((Ext.refl w).alloc (.cells #[.slice WA W.length wc, .slice (some ⟨b, o, none⟩) T.length tc] 25))
      obtain ⟨n, hn⟩ : ∃ n, T.length = n := ⟨_, rfl⟩
      have e1 : ((n - 1 : Nat) : Int) = (n : Int) - 1 := by omega
      have e2 : ((n - 2 : Nat) : Int) = (n : Int) - 2 := by omega
      rw [hn] at p1 p2 h h1' h2' ⊢
      dsimp only at p1 p2
      clear hc ht
      by_cases h3 : nth T (n - 1) = 0
      · have h4 : ¬ nth T (n - 2) = 1 := fun q => h ⟨by omega, by omega, h3, q⟩
        have h4' : (nth T (n - 2) != 1) = true := by simpa using h4
        rw [h3] at p1
        go_enter Tryd.func12, Tryd.ntmps12
        go_wp2_with fail
        go_ret
        exact ⟨rfl, (Ext.refl w).alloc _⟩
      · have h3' : (nth T (n - 1) != 0) = true := by simpa using h3
        go_enter Tryd.func12, Tryd.ntmps12
        go_wp2_with fail
        go_ret
        exact ⟨rfl, (Ext.refl w).alloc _⟩

theorem intKey : Keyed Tryd.prog 3 := int_keyed Tryd.underlying3
theorem zeroB (w : World) : (zeroValue 4).run Tryd.prog w = .ok (.bool false) w := by kernel_rfl
theorem OwnsU.ext {P : Program} {w w' : World} {k e : TypeId} {b n : Nat} {U : Int → Bool} (h : OwnsU P w k e b n U) (hx : Ext w w') : OwnsU P w' k e b n U := by
  obtain ⟨D, h1, h2, h3⟩ := h
  have hb := h1.lt
  obtain ⟨es, clock, g1, g2⟩ := h1
  exact ⟨D, ⟨es, clock, (Below.block hx b hb).trans g1, g2⟩, h2, h3⟩
theorem take_has {T : List Int} {i : Nat} (hi : i < T.length) (x : Int) : (T.take (i + 1)).contains x = if x = nth T i then true else (T.take i).contains x := by
  rw [List.take_add_one, List.getElem?_eq_getElem hi, Option.toList_some, ← nth_lt hi, Bool.eq_iff_iff]
  by_cases h : x = nth T i
  · rw [if_pos h]; simp [h]
  · rw [if_neg h]; simp [h]
set_option maxHeartbeats 8000000 in
set_option maxRecDepth 100000 in
theorem risbook_in (W : List (List UInt8)) (T : List Int) (WA : Option Addr) (wc tc b o : Nat) (w : World) (hWl : W.length ≤ 1048576) (hwl : ∀ k, k < W.length → (nth W k).length ≤ 9223372036854775807) (hr : RdS w WA W) (htc : T.length ≤ tc) (hI : ∀ x ∈ T, I64 x)
    (ht : Rd w (some ⟨b, o, none⟩) T.length (fun k => .int .i64 (nth T k)))
    (h : 2 ≤ T.length ∧ T.length ≤ 101 ∧ nth T (T.length - 1) = 0 ∧ nth T (T.length - 2) = 1) :
    Calls Tryd.prog 12 #[bookV WA (some ⟨b, o, none⟩) W.length wc T.length tc] w fun e w' => e = .returned (.bool (((T.take (T.length - 1)).all fun k => decide (1 ≤ k ∧ k < W.length + 2)) && (List.range W.length).all (giB W T))) ∧ Ext w w' := by
  have hmm := @run_makeMap Tryd.prog
  have hr' : Rd w WA W.length (fun k => str (nth W k)) := hr
  have hgw : ∀ i, giB W T i = (wrdB (nth W i) && (T.take (T.length - 1)).contains ((i : Int) + 2) && (decide (i = 0) || decide (nth W (i - 1) < nth W i))) := fun i => rfl
  obtain ⟨G, hG⟩ : ∃ G, giB W T = G := ⟨_, rfl⟩
  rw [hG] at hgw ⊢
  obtain ⟨n, hn⟩ : ∃ n, T.length = n := ⟨_, rfl⟩
  obtain ⟨N, hN⟩ : ∃ N, W.length = N := ⟨_, rfl⟩
  have hts := fun i (hi : i < n) x => take_has (T := T) (i := i) (by rw [hn]; exact hi) x
  have hin := fun i (hi : i < n) => hI _ (nth_mem (l := T) (k := i) (by rw [hn]; exact hi))
  rw [hn] at ht htc h hgw ⊢
  rw [hN] at hwl hr' hWl ⊢
  have h5 := h.2.2.1
  have h6 := h.2.2.2
  obtain ⟨n1, hn1⟩ : ∃ n1, n - 1 = n1 := ⟨_, rfl⟩
  have hn2 : n1 + 1 = n := by omega
  rw [hn1] at hgw ⊢
  have hset := fun i (hi : i < n1) (hb : ¬ (1 ≤ nth T i ∧ nth T i < (N : Int) + 2)) => show ((T.take n1).all fun k => decide (1 ≤ k ∧ k < (N : Int) + 2)) = false from by
    rw [List.all_eq_false]
    refine ⟨nth T i, ?_, by simpa using hb⟩
    have e : nth T i = nth (T.take n1) i := by unfold nth; rw [List.getElem?_take_of_lt hi]
    rw [e]
    exact nth_mem (by rw [List.length_take, hn]; omega)
  have hall := fun (hb : ∀ i, i < n1 → (1 ≤ nth T i ∧ nth T i < (N : Int) + 2)) => show ((T.take n1).all fun k => decide (1 ≤ k ∧ k < (N : Int) + 2)) = true from by
    rw [List.all_eq_true]
    intro x hx
    obtain ⟨i, hi, rfl⟩ := List.getElem_of_mem hx
    rw [List.length_take, hn] at hi
    rw [List.getElem_take, ← nth_lt (by rw [hn]; omega)]
    exact decide_eq_true (hb i (by omega))
  obtain ⟨R1, hR1⟩ : ∃ R1, ((T.take n1).all fun k => decide (1 ≤ k ∧ k < (N : Int) + 2)) = R1 := ⟨_, rfl⟩
  rw [hR1] at hset hall ⊢
  obtain ⟨RR, hRR⟩ : ∃ RR, (R1 && (List.range N).all G) = RR := ⟨_, rfl⟩
  rw [hRR]
  have hR0 : R1 = false → RR = false := fun q => by rw [← hRR, q]; rfl
  have hRG : ∀ i, i < N → G i = false → RR = false := fun i hi q => by
    rw [← hRR]
    have : (List.range N).all G = false := List.all_eq_false.2 ⟨i, List.mem_range.2 hi, by simp [q]⟩
    rw [this, Bool.and_false]
  have hRT : R1 = true → (∀ i, i < N → G i = true) → RR = true := fun q1 q2 => by
    rw [← hRR, q1, List.all_eq_true.2 fun i hi => q2 i (List.mem_range.1 hi)]; rfl
  have h1' : decide ((n : Int) < 2) = false := by simp; omega
  have h2' : decide ((101 : Int) < (n : Int)) = false := by simp; omega
  have e1 : ((n - 1 : Nat) : Int) = (n : Int) - 1 := by omega
  have e2 : ((n - 2 : Nat) : Int) = (n : Int) - 2 := by omega
  have HWL := Lib.hid hwl; have HT := Lib.hid ht; have HR := Lib.hid hr'; have HG := Lib.hid hgw; have HTS := Lib.hid hts; have HIN := Lib.hid hin; have HSET := Lib.hid hset; have HALL := Lib.hid hall; have H0 := Lib.hid hR0; have HRG := Lib.hid hRG; have HRT := Lib.hid hRT
  clear hwl hr ht hr' hgw hG hn hN hRR hR1 hts hin hset hall hR0 hRG hRT hI
  obtain ⟨h3, h4, _, _⟩ := h
  have HN1 := Lib.hid hn1; have HN2 := Lib.hid hn2
  clear hn1 hn2
  go_enter Tryd.func12, Tryd.ntmps12
  go_upto_region 2 with fail
  generalize hW1 : World.alloc w _ = W1
  have bx := bk_of hW1
  have hx0 := ext_of_alloc hW1
  obtain ⟨b', o', hA, hb, hc⟩ := (HT.out.ext hx0) (by omega)
  injection hA with hA
  injection hA with q1 q2 q3
  subst q1; subst q2
  have p1 := hc (n - 1) (by omega)
  have p2 := hc (n - 2) (by omega)
  dsimp only at p1 p2
  rw [h5] at p1
  rw [h6] at p2
  have b0 := bx.cell 0
  have b1 := bx.cell 1
  have BX := Lib.hid bx
  generalize w.heap.size = B at *
  clear hc q3 hW1 bx h5 h6
  go_upto_region 5 with fail
  clear p1 p2 b0 b1
  generalize hWm : World.alloc W1 _ = Wm
  have hxm := ext_of_alloc hWm
  have HOM : Hid (OwnsU Tryd.prog Wm 3 4 W1.heap.size 0 fun x => (T.take 0).contains x) := Lib.hid (by rw [← hWm]; exact (OwnsU.made _ _ _ _).eq fun x => by simp)
  obtain ⟨MB, hMB⟩ : ∃ MB, W1.heap.size = MB := ⟨_, rfl⟩
  have hmB : W1.heap.size ≤ MB := by omega
  rw [hMB] at HOM
  simp only [hMB]
  clear hWm hMB
  have b1 := (BX.out.ext hxm).cell 1
  go_wp2_with fail
  clear b1
  have e0 := HN1.out
  simp only [e0]
  clear e0
  have HXM := Lib.hid hxm
  go_loopw [43] (fun vi wr => ∃ i : Nat, vi = .int .i64 i ∧ i ≤ n1 ∧ Hid (OwnsU Tryd.prog wr 3 4 MB i fun x => (T.take i).contains x) ∧ Ext W1 wr ∧ Hid (∀ j, j < i → 1 ≤ nth T j ∧ nth T j < (N : Int) + 2)) (fun vi _ => n1 - (intOf vi).toNat)
  case atStart => exact ⟨0, rfl, Nat.zero_le _, HOM, hxm, fun j hj => absurd hj (Nat.not_lt_zero _)⟩
  case round => as_aux_lemma =>
    obtain ⟨i, rfl, hi', HO, hxr, HJ⟩ := hrel
    by_cases g : i < n1
    · have hn2 := HN2.out
      have gt : decide ((i : Int) < (n : Int) - 1) = true := by simp; omega
      have hi3 : i ≤ 101 := by omega
      obtain ⟨b2, o2, hA, hb2, hc2⟩ := (HT.out.ext (hx0.trans hxr)) (by omega)
      injection hA with hA
      injection hA with q1 q2 q3
      subst q1; subst q2
      have p1 := hc2 i (by omega)
      dsimp only at p1
      have hts := HTS.out i (by omega)
      have hin := HIN.out i (by omega)
      have hset := HSET.out i g
      obtain ⟨x, hx⟩ : ∃ x, nth T i = x := ⟨_, rfl⟩
      rw [hx] at p1 hts hin hset
      have HX := Lib.hid hx; have HTSi := Lib.hid hts; have HI := Lib.hid hin; have HSi := Lib.hid hset
      clear hc2 q3 hx hts hin hset hn2
      have b0 := (BX.out.ext hxr).cell 0
      by_cases g1 : x < 1
      · have g1' : decide (x < 1) = true := decide_eq_true g1
        have hrr := H0.out (HSi.out (fun q => by omega))
        go_wp2_with fail
        go_ret
        exact ⟨by first | rfl | (rw [hrr]; rfl), hx0.trans hxr⟩
      · have g1' : decide (x < 1) = false := decide_eq_false g1
        by_cases g2 : (N : Int) + 1 < x
        · have g2' : decide ((N : Int) + 1 < x) = true := decide_eq_true g2
          have hrr := H0.out (HSi.out (fun q => by omega))
          go_wp2_with fail
          go_ret
          exact ⟨by first | rfl | (rw [hrr]; rfl), hx0.trans hxr⟩
        · have g2' : decide ((N : Int) + 1 < x) = false := decide_eq_false g2
          have HJ2 : Hid (∀ j, j < i + 1 → 1 ≤ nth T j ∧ nth T j < (N : Int) + 2) := fun j hj => by
            by_cases e : j = i
            · subst e; rw [HX.out]; omega
            · exact HJ.out j (by omega)
          have wf : (Lit.int .i64 x).wf = true := WalkArith.wf_i64 HI.out
          clear g1 g2 HJ
          go_wp2_with (first | (at_mapUpdate; refine wpList_putU _ rfl _ _ _ 55 rfl 3 4 intKey Tryd.underlying55 Tryd.underlying3 Tryd.underlying4 MB i _ rfl HO.out (by unfold maxLen; omega) x true rfl rfl wf ?_) | fail)
          intro w5 ho5 hg5
          have hx5 : Ext W1 w5 := hxr.grown hg5 (fun k hk => by injection hk with hk; omega)
          have HO5 : Hid (OwnsU Tryd.prog w5 3 4 MB (i + 1) fun y => (T.take (i + 1)).contains y) := Lib.hid (ho5.eq fun y => by rw [HTSi.out]; by_cases e : y = x <;> simp [e])
          clear HO hxr ho5 hg5
          go_wp2_with fail
          refine ⟨⟨i + 1, by go_num, by omega, HO5, hx5, HJ2⟩, by simp [intOf]; omega⟩
    · obtain rfl : i = n1 := by omega
      have gt : decide ((i : Int) < (n : Int) - 1) = false := by have := HN2.out; simp; omega
      have HRT2 := Lib.hid (HRT.out (HALL.out HJ.out))
      clear HRT
      have b0 := (BX.out.ext hxr).cell 0
      clear HJ HSET HALL H0 HTS HIN HXM
      go_wp2_with fail
      clear b0 gt
      obtain ⟨wq, rfl⟩ : ∃ wq, wq = wr := ⟨_, rfl⟩
      have hx1 := hx0.trans hxr
      have BXq := Lib.hid (BX.out.ext hxr)
      clear BX hxr hxm HOM
      go_loopw [63] (fun vi wr => ∃ j : Nat, vi = .int .i64 j ∧ j ≤ N ∧ Hid (OwnsU Tryd.prog wr 3 4 MB i fun x => (T.take i).contains x) ∧ Ext wq wr ∧ Hid (∀ k, k < j → G k = true)) (fun vi _ => N - (intOf vi).toNat)
      case atStart => exact ⟨0, rfl, Nat.zero_le _, HO, Ext.refl _, fun j hj => absurd hj (Nat.not_lt_zero _)⟩
      case round => as_aux_lemma =>
        clear HO
        obtain ⟨j, rfl, hj', HO, hxr, HJ⟩ := hrel
        by_cases g : j < N
        · obtain ⟨bW, oW, rfl, hbW, hcW⟩ := (HR.out.ext (hx1.trans hxr)) (by omega)
          have p1 := hcW j g
          have p0 := hcW (j - 1) (by omega)
          dsimp only at p1 p0
          have hwj := HWL.out j g
          have hgj := HG.out j
          have hrg := HRG.out j g
          obtain ⟨x, hx⟩ : ∃ x, nth W j = x := ⟨_, rfl⟩
          obtain ⟨y, hy⟩ : ∃ y, nth W (j - 1) = y := ⟨_, rfl⟩
          rw [hx] at p1 hwj hgj
          rw [hy] at p0 hgj
          obtain ⟨q1, hq1⟩ : ∃ q1, wrdB x = q1 := ⟨_, rfl⟩
          obtain ⟨q2, hq2⟩ : ∃ q2, (T.take i).contains ((j : Int) + 2) = q2 := ⟨_, rfl⟩
          have cw := rword_calls x wr hwj
          rw [hq1] at cw hgj
          rw [hq2] at hgj
          have HGJ := Lib.hid hgj; have HRJ := Lib.hid hrg; have CW := Lib.hid cw; have HQ2 := Lib.hid hq2
          clear hcW hgj hrg hx hy hq1 cw hwj hq2
          go_wp2_with fail
          with_reducible refine CW.out.mono ?_
          rintro e w5 ⟨rfl, hx5⟩
          have hx15 := (hx1.trans hxr).trans hx5
          have hwj : IntKind.i64.wrap ((j : Int) + 2) = (j : Int) + 2 := IntWalk.i64_in _ (by omega)
          have wf2 : (Lit.int .i64 ((j : Int) + 2)).wf = true := WalkArith.wf_i64 ⟨by omega, by omega⟩
          have hrun := (HO.out.ext hx5).look intKey Tryd.underlying55 Tryd.underlying3 Tryd.underlying4 (zeroB _) ((j : Int) + 2) wf2
          have hq2 := HQ2.out
          rw [hq2] at hrun
          have b0 := (BXq.out.ext (hxr.trans hx5)).cell 0
          replace p0 := ecell p0 hx5
          have hge := HGJ.out
          have hrb := HRJ.out
          have HO5 := Lib.hid (HO.out.ext hx5)
          clear hq2 p1 wf2 CW HO
          cases q1 with
          | false =>
            have hrr := hrb (by rw [hge]; rfl)
            clear hge hrb hrun p0
            go_wp2_with fail
            go_ret
            exact ⟨by first | rfl | (rw [hrr]; rfl), hx15⟩
          | true =>
            cases q2 with
            | false =>
              have hrr := hrb (by rw [hge]; rfl)
              clear hge hrb p0
              go_wp2_with fail
              go_ret
              exact ⟨by first | rfl | (rw [hrr]; rfl), hx15⟩
            | true =>
              by_cases gj : j = 0
              · subst gj
                have hgj : G 0 = true := by rw [hge]; rfl
                have hrun2 : (Instr.lookup 55 (.map (some MB)) (.int .i64 2) false).run Tryd.prog w5 = .ok (.bool true) w5 := hrun
                clear hge hrb p0 hrun
                have HJ2 : Hid (∀ k, k < 1 → G k = true) := fun k hk => by
                  obtain rfl : k = 0 := by omega
                  exact hgj
                clear hgj HJ
                go_wp2_with fail
                refine ⟨⟨1, by go_num, by omega, HO5, hxr.trans hx5, HJ2⟩, by simp [intOf]; omega⟩
              · have gj' : decide ((0 : Int) < (j : Int)) = true := by simp; omega
                have wj : IntKind.i64.wrap ((j : Int) - 1) = ((j - 1 : Nat) : Int) := by rw [IntWalk.i64_in _ (by omega)]; omega
                obtain ⟨j1, hj1⟩ : ∃ j1, j - 1 = j1 := ⟨_, rfl⟩
                rw [hj1] at p0 wj
                have hjj : j1 < j := by omega
                clear hj1
                by_cases gy : y < x
                · have f5 : Op.bytesLess x y = false := by rw [bytesLess_eq]; exact decide_eq_false (List.lt_asymm gy)
                  have f6 : (x == y) = false := by rw [beq_eq_false_iff_ne]; rintro rfl; exact List.lt_irrefl _ gy
                  have hgj : G j = true := by rw [hge]; simp [gy]
                  have HJ2 : Hid (∀ k, k < j + 1 → G k = true) := fun k hk => by
                    by_cases e : k = j
                    · subst e; exact hgj
                    · exact HJ.out k (by omega)
                  clear hge hrb gy gj hgj HJ
                  go_wp2_with fail
                  refine ⟨⟨j + 1, by go_num, by omega, HO5, hxr.trans hx5, HJ2⟩, by simp [intOf]; omega⟩
                · have hrr := hrb (by rw [hge]; simp [gy, gj])
                  by_cases ge : x = y
                  · have f5 : Op.bytesLess x y = false := by rw [bytesLess_eq, ge]; exact decide_eq_false (List.lt_irrefl _)
                    have f6 : (x == y) = true := by rw [beq_iff_eq]; exact ge
                    clear hge hrb gy gj ge
                    go_wp2_with fail
                    go_ret
                    exact ⟨by first | rfl | (rw [hrr]; rfl), hx15⟩
                  · have f5 : Op.bytesLess x y = true := by rw [bytesLess_eq]; exact decide_eq_true (lt_of_le_ne (List.not_lt.1 gy) ge)
                    have f6 : (x == y) = false := by rw [beq_eq_false_iff_ne]; exact ge
                    clear hge hrb gy gj ge
                    go_wp2_with fail
                    go_ret
                    exact ⟨by first | rfl | (rw [hrr]; rfl), hx15⟩
        · obtain rfl : j = N := by omega
          have hrr := HRT2.out HJ.out
          go_wp2_with fail
          go_ret
          exact ⟨by first | rfl | (rw [hrr]; rfl), hx1.trans hxr⟩
/-- IsBook answers just what Good does. -/
theorem risbook_calls (W : List (List UInt8)) (T : List Int) (WA TA : Option Addr) (wc tc : Nat) (w : World) (hWl : W.length ≤ 1048576) (hwl : ∀ k, k < W.length → (nth W k).length ≤ 9223372036854775807) (hT : T.length ≤ 17592186044416) (hr : RdS w WA W) (htc : T.length ≤ tc) (hI : ∀ x ∈ T, I64 x)
    (ht : Rd w TA T.length (fun k => .int .i64 (nth T k))) :
    Calls Tryd.prog 12 #[bookV WA TA W.length wc T.length tc] w fun e w' => e = .returned (.bool (goodB W T)) ∧ Ext w w' := by
  rw [← is_good]
  by_cases h : 2 ≤ T.length ∧ T.length ≤ 101 ∧ nth T (T.length - 1) = 0 ∧ nth T (T.length - 2) = 1
  · obtain ⟨b, o, rfl, _, _⟩ := ht (by omega)
    have e : isB W T = (((T.take (T.length - 1)).all fun k => decide (1 ≤ k ∧ k < W.length + 2)) && (List.range W.length).all (giB W T)) := by
      unfold isB; rw [decide_eq_true h, Bool.true_and]
    rw [e]
    exact risbook_in W T WA wc tc b o w hWl hwl hr htc hI ht h
  · have e : isB W T = false := by unfold isB; rw [decide_eq_false h]; rfl
    rw [e]
    exact risbook_ends W T WA TA wc tc w hT ht h
end Go.Proofs.YtjfdlibceldanabDoor
