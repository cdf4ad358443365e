/- wave.At: the walk, on a wave that is made. -/
import Derived.Test.YtjfdlibceldanabWvGood
import Derived.Test.YtjfdlibceldanabWvDown
namespace Go.Proofs.Ytjfdlibceldanab
open Go.RowKit Wv

theorem nx_pre {d L : Nat} (hL : L < d) (x : Nat) : nx (pre d L x) (bitL d L x) = pre d (L + 1) x := by
  unfold nx
  rw [bit_step, pre_step hL]
  generalize pre d (L + 1) x = q
  by_cases h : q % 2 = 1
  · simp [h]; omega
  · simp [h]; omega
theorem pre_le (d L x : Nat) : pre d L x ≤ x := Nat.div_le_self _ _

set_option maxHeartbeats 2000000 in
set_option maxRecDepth 100000 in
theorem wat_no (l : List Nat) (d : Nat) (hd : 1 ≤ d ∧ d ≤ 16) (hl : l.length ≤ 17592186044416) (hf : ∀ x ∈ l, x < 2 ^ d) (A : Option Addr) (c : Nat) (i : Int) (hi : ¬ (0 ≤ i ∧ i < l.length)) (w : World) (hr : RdL w A (waveOf l d).L) :
    Calls Try.prog 38 #[.agg #[.int .i64 l.length, .int .i64 d, .slice A (waveOf l d).L.length c], .int .i64 i] w fun e w' => e = .returned (.int .i64 (-1)) ∧ Ext w w' := by
  have hg := fun w hr => wgood_calls (waveOf l d) (waveOf_ok l d hd.2 hl hf) A c w hr
  rw [goodW_made l d hd hf] at hg
  obtain ⟨X, hX⟩ : ∃ X, waveOf l d = X := ⟨_, rfl⟩
  have hN : X.N = l.length := by rw [← hX]; rfl
  have hD : X.Deep = d := by rw [← hX]; rfl
  rw [hX] at hg hr ⊢
  rw [hN, hD] at hg
  have HG := Lib.hid hg
  clear hX hN hD hg hf hd
  go_enter Try.func38, Try.ntmps38
  go_wp2_with fail
  generalize hW : World.alloc w _ = W
  have bx := bx3_of hW
  have hxW := ext_of_alloc hW
  clear hW
  refine (HG.out W (hr.ext hxW)).mono ?_
  rintro e w1 ⟨rfl, hx1⟩
  obtain ⟨x0, x1, x2⟩ := bx.ext hx1
  by_cases g1 : i < 0
  · have g1' : decide (i < 0) = true := by simpa using g1
    go_wp2_with fail
    go_ret
    exact ⟨rfl, hxW.trans hx1⟩
  · have g1' : decide (i < 0) = false := by simpa using g1
    have g2 : (l.length : Int) ≤ i := by omega
    have g2' : decide ((l.length : Int) ≤ i) = true := by simpa using g2
    go_wp2_with fail
    go_ret
    exact ⟨rfl, hxW.trans hx1⟩

/-- What At has ahead of a level. -/
structure AtRel (l : List Nat) (d : Nat) (w : World) (B6 L x i : Nat) (wr : World) : Prop where
  b : Bk wr B6 78 #[.int .i64 (F d l L (pre d L x) : Nat), .int .i64 (F d l L (pre d L x + 1) : Nat)]
  x : Ext w wr
  h : w.heap.size ≤ B6

set_option maxHeartbeats 4000000 in
set_option maxRecDepth 100000 in
theorem wat_yes (l : List Nat) (d : Nat) (hd : 1 ≤ d ∧ d ≤ 16) (hl : l.length ≤ 17592186044416) (hf : ∀ x ∈ l, x < 2 ^ d) (A : Option Addr) (c : Nat) (i : Nat) (hi : i < l.length) (w : World) (hr : RdL w A (waveOf l d).L) :
    Calls Try.prog 38 #[.agg #[.int .i64 l.length, .int .i64 d, .slice A (waveOf l d).L.length c], .int .i64 i] w fun e w' => e = .returned (.int .i64 (nth l i : Nat)) ∧ Ext w w' := by
  have hg := fun w hr => wgood_calls (waveOf l d) (waveOf_ok l d hd.2 hl hf) A c w hr
  rw [goodW_made l d hd hf] at hg
  have hlen : (waveOf l d).L.length = d := levelsOf_length l d d
  have hat := fun L hL => waveOf_at l d (L := L) hL
  obtain ⟨x, hx⟩ : ∃ x, nth l i = x := ⟨_, rfl⟩
  have hx2 : x < 65536 := by rw [← hx]; exact Nat.lt_of_lt_of_le (hf _ (nth_mem hi)) (pow16 hd.2)
  have hx3 : x < 2 ^ d := by rw [← hx]; exact hf _ (nth_mem hi)
  rw [hx]
  have st0 : F d l 0 (pre d 0 x) = 0 ∧ F d l 0 (pre d 0 x + 1) = l.length ∧ C d l 0 (pre d 0 x) i = i := by
    rw [pre_zero hx3]
    refine ⟨F_zero 0, F_all fun y hy => by rw [pre_zero (hf y hy)]; omega, by rw [C_zero hf]; omega⟩
  obtain ⟨X, hX⟩ : ∃ X, waveOf l d = X := ⟨_, rfl⟩
  have hN : X.N = l.length := by rw [← hX]; rfl
  have hD : X.Deep = d := by rw [← hX]; rfl
  rw [hX] at hg hr hlen hat ⊢
  rw [hN, hD] at hg
  have HG := Lib.hid hg; have HL := Lib.hid hlen; have HAT := Lib.hid hat; have HF := Lib.hid hf; have HX := Lib.hid hx; have ST := Lib.hid st0
  obtain ⟨hd1, hd2⟩ := hd
  rw [hlen]
  rw [hlen] at hg
  have HG := Lib.hid hg
  clear hX hN hD hg hf hlen hat hx st0
  go_enter Try.func38, Try.ntmps38
  go_wp2_with fail
  generalize hW : World.alloc w _ = W
  have bx := bx3_of hW
  have hxW := ext_of_alloc hW
  clear hW
  refine (HG.out W (hr.ext hxW)).mono ?_
  rintro e w1 ⟨rfl, hx1⟩
  obtain ⟨x0, x1, x2⟩ := bx.ext hx1
  have g1 : decide ((i : Int) < 0) = false := by simp
  have g2 : decide (l.length ≤ i) = false := by simp; omega
  have hlt : w.heap.size < w1.heap.size := cell_lt x0
  have hw1 := hxW.trans hx1
  go_wp2_with fail
  generalize hW6 : World.alloc w1 _ = W6
  have b6 := bk_of hW6
  have hx6 := hw1.trans (ext_of_alloc hW6)
  have hB6 : w.heap.size ≤ w1.heap.size := hw1.size
  generalize w1.heap.size = B6 at *
  have rel0 : Hid (AtRel l d w B6 0 x i W6) := by
    obtain ⟨s1, s2, s3⟩ := ST.out
    refine ⟨?_, hx6, hB6⟩
    rw [s1, s2]; exact b6
  clear hW6 b6 hx6 hw1 hx1 hxW bx x0 x1 x2
  go_loopw [1, 5, 29] (fun vi vn vL wr => ∃ L : Nat, vL = .int .i64 L ∧ L ≤ d ∧ vn = .int .i64 (pre d L x : Nat) ∧ vi = .int .i64 (C d l L (pre d L x) i : Nat) ∧ Hid (AtRel l d w B6 L x i wr)) (fun _ _ vL _ => d - (intOf vL).toNat)
  case atStart =>
    obtain ⟨s1, s2, s3⟩ := ST.out
    exact ⟨0, rfl, by omega, by rw [pre_zero hx3]; rfl, by rw [s3], rel0⟩
  case round => as_aux_lemma =>
    clear rel0
    obtain ⟨L, rfl, hL, rfl, rfl, REL⟩ := hrel
    by_cases g1 : L < d
    · obtain ⟨b1, o1, hA, hb1, hc1⟩ := (hr.ext REL.out.x) (by rw [HL.out]; omega)
      subst hA
      obtain ⟨A1, A2, c1, c2, p1, p2, p3, hrb⟩ := hc1 L (by rw [HL.out]; exact g1)
      rw [HAT.out L g1] at p1 p2 p3 hrb
      have hbl := bitsAt_length HF.out (Nat.le_of_lt g1)
      have y0 := REL.out.b.cell 0
      have y1 := REL.out.b.cell 1
      have f0 := REL.out.b.frozen 0
      have f1 := REL.out.b.frozen 1
      have hxp := nx_pre g1 x
      have hpl := pre_lt (deep := d) (Nat.le_of_lt g1) hx3
      have hba := bit_at HF.out g1 hi
      rw [HX.out] at hba
      have hFC := FC_le (deep := d) (l := l) L (pre d L x) i
      have hFC1 : F d l L (pre d L x) + C d l L (pre d L x) i < l.length := by
        have a1 := F_succ (deep := d) (l := l) L (pre d L x)
        have a2 := F_le (deep := d) (l := l) L (pre d L x + 1)
        have a3 : C d l L (pre d L x) i < C d l L (pre d L x) l.length := by
          have : C d l L (pre d L x) (i + 1) = C d l L (pre d L x) i + 1 := by
            unfold C; rw [take_succ_nth l i hi, List.countP_append, HX.out]; simp
          have := C_le (deep := d) (l := l) L (pre d L x) (i + 1)
          omega
        omega
      have dn := fun w hr => wdown_calls d l hl HF.out L (pre d L x) g1 hpl i (bitL d L x) A1 A2 c1 c2 w hr
      rw [hxp] at dn
      have hp6 : pre d L x ≤ x := pre_le d L x
      have hp7 := pre_step g1 x
      have hb7 := bit_step (deep := d) (L := L) x
      obtain ⟨p, hp⟩ : ∃ p, pre d L x = p := ⟨_, rfl⟩
      rw [hp] at hba hFC1 dn hp6 hp7 y0 y1
      obtain ⟨f, hf⟩ : ∃ f, F d l L p = f := ⟨_, rfl⟩
      obtain ⟨t, ht⟩ : ∃ t, F d l L (p + 1) = t := ⟨_, rfl⟩
      obtain ⟨j, hj⟩ : ∃ j, C d l L p i = j := ⟨_, rfl⟩
      obtain ⟨p', hp'⟩ : ∃ p, pre d (L + 1) x = p := ⟨_, rfl⟩
      obtain ⟨β, hβ⟩ : ∃ β, bitL d L x = β := ⟨_, rfl⟩
      obtain ⟨bb, hbb⟩ : ∃ b, bitsAt d l L = b := ⟨_, rfl⟩
      have hxr := REL.out.x
      have hB6 := REL.out.h
      have b6 := Lib.hid REL.out.b
      have hlt6 := REL.out.b.lt
      have hF0 := HF.out
      rw [hf, hj, hbb, hβ] at hba
      rw [hf] at y0
      rw [ht] at y1
      rw [hf, hj] at hFC1
      rw [hf, ht, hj, hβ, hp', hbb] at dn
      rw [hbb] at p1 p2 p3 hrb hbl
      rw [hp'] at hp7
      rw [hp', hβ] at hb7
      have hatB := fun w hr => at_calls (bitsOf bb) (bitsOf_ok bb (by omega)) A1 A2 c1 c2 ((f + j : Nat) : Int) ⟨by omega, by omega⟩ w hr
      rw [atF_made, show (decide ((0 : Int) ≤ ((f + j : Nat) : Int) ∧ ((f + j : Nat) : Int) < (bb.length : Int)) = true) from by rw [decide_eq_true_iff]; omega, Int.toNat_natCast, hba, Bool.true_and] at hatB
      obtain ⟨fj, hfj⟩ : ∃ q, f + j = q := ⟨_, rfl⟩
      rw [hfj] at hatB
      have hfj' : (f : Int) + (j : Int) = (fj : Int) := by omega
      have hfj2 : fj < l.length := by omega
      have hj2 : j ≤ fj := by omega
      have DN := Lib.hid dn; have HATB := Lib.hid hatB
      have e1 := Lib.hid hp; have e2 := Lib.hid hp'; have e3 := Lib.hid hf; have e4 := Lib.hid ht
      have e7 := Lib.hid hp7; have e8 := Lib.hid hb7
      rw [hp, hj]
      clear hxp hpl hba hFC hFC1 dn hatB hf ht hj hp hp' hβ hbb hF0 hfj hp7 hb7 REL
      go_wp2_with fail
      generalize hW8 : World.alloc wr _ = W8
      have b8 := bx3_of hW8
      have hx8 := ext_of_alloc hW8
      clear hW8 p1 p2 p3 y0 y1 f0 f1
      generalize wr.heap.size = B8 at *
      with_reducible refine (HATB.out W8 (hrb.ext hx8)).mono ?_
      rintro e w9 ⟨rfl, hx9⟩
      have hx89 := hx8.trans hx9
      obtain ⟨z0, z1, z2⟩ := b8.ext hx9
      have b69 := Lib.hid (b6.out.ext hx89)
      have y0 := b69.out.cell 0
      have y1 := b69.out.cell 1
      rw [e1.out, e3.out] at y0
      rw [e1.out, e4.out] at y1
      have hrb9 := hrb.ext hx89
      have hxr9 := hxr.trans hx89
      have fin : ∀ (w10 : World), Ext w9 w10 → Hid (AtRel l d w B6 (L + 1) x i ((w10.setCell ⟨B6, 0, none⟩ (.int .i64 (F d l (L + 1) p' : Nat))).setCell ⟨B6, 1, none⟩ (.int .i64 (F d l (L + 1) (p' + 1) : Nat)))) := fun w10 hx10 => by
        refine ⟨?_, ((hxr9.trans hx10).setCell (p := ⟨B6, 0, none⟩) hB6 _).setCell (p := ⟨B6, 1, none⟩) hB6 _, hB6⟩
        rw [e2.out]
        exact ((b69.out.ext hx10).set 0 _).set 1 _
      have FIN := Lib.hid fin
      clear fin hxr hrb b6 hxr9
      cases β with
      | true =>
        have hp2 : Hid ((p' : Int) = (p : Int) * 2 + 1) := by
          have a := e7.out; have b := e8.out
          show _ = _
          have : p' % 2 = 1 := by simpa using b.symm
          omega
        go_wp2_with fail
        with_reducible refine (DN.out w9 hrb9).mono ?_
        rintro e w10 ⟨rfl, hx10⟩
        clear y0 y1 z0 z1 z2
        have y0 := (b69.out.ext hx10).cell 0
        have y1 := (b69.out.ext hx10).cell 1
        have f0 := (b69.out.ext hx10).frozen 0
        have f1 := (b69.out.ext hx10).frozen 1
        have FN := FIN.out w10 hx10
        clear FIN b69
        go_wp2_with fail
        refine ⟨⟨L + 1, by go_num, by omega, by rw [e2.out, hp2.out], by rw [e2.out], FN⟩, by simp [intOf]; omega⟩
      | false =>
        have hp2 : Hid ((p' : Int) = (p : Int) * 2) := by
          have a := e7.out; have b := e8.out
          show _ = _
          have : ¬ p' % 2 = 1 := by simpa using b.symm
          omega
        go_wp2_with fail
        with_reducible refine (DN.out w9 hrb9).mono ?_
        rintro e w10 ⟨rfl, hx10⟩
        clear y0 y1 z0 z1 z2
        have y0 := (b69.out.ext hx10).cell 0
        have y1 := (b69.out.ext hx10).cell 1
        have f0 := (b69.out.ext hx10).frozen 0
        have f1 := (b69.out.ext hx10).frozen 1
        have FN := FIN.out w10 hx10
        clear FIN b69
        go_wp2_with fail
        refine ⟨⟨L + 1, by go_num, by omega, by rw [e2.out, hp2.out], by rw [e2.out], FN⟩, by simp [intOf]; omega⟩
    · obtain rfl : L = d := by omega
      go_wp2_with fail
      go_ret
      refine ⟨?_, REL.out.x⟩
      show Ending.returned (Value.int .i64 ((pre L L x : Nat) : Int)) = _
      rw [pre_deep]
end Go.Proofs.Ytjfdlibceldanab
