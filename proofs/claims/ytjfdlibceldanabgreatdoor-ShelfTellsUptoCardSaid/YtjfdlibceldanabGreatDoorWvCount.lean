/- wave.Count: the walk, on a wave that is made. -/
import Derived.Test.YtjfdlibceldanabGreatDoorWvAt
import Derived.Test.YtjfdlibceldanabGreatDoorWvPl
namespace Go.Proofs.YtjfdlibceldanabGreatDoor
open Go.RowKit Wv

theorem cl_max (i : Int) (n : Nat) : max 0 (min i (n : Int)) = ((cl i n : Nat) : Int) := by unfold cl; omega

set_option maxHeartbeats 2000000 in
set_option maxRecDepth 100000 in
theorem wcount_no (l : List Nat) (d : Nat) (hd : 1 ≤ d ∧ d ≤ 16) (hl : l.length ≤ 17592186044416) (hf : ∀ x ∈ l, x < 2 ^ d) (A : Option Addr) (c : Nat) (n i : Int) (hn : ¬ (0 ≤ n ∧ n < 2 ^ d)) (w : World) (hr : RdL w A (waveOf l d).L) :
    Calls Tryz.prog 125 #[.agg #[.int .i64 l.length, .int .i64 d, .slice A (waveOf l d).L.length c], .int .i64 n, .int .i64 i] w fun e w' => e = .returned (.int .i64 0) ∧ Ext w w' := by
  have hg := fun w hr => wgood_calls (waveOf l d) (waveOf_ok l d hd.2 hl hf) A c w hr
  rw [goodW_made l d hd hf] at hg
  obtain ⟨X, hX⟩ : ∃ X, waveOf l d = X := ⟨_, rfl⟩
  have hN : X.N = l.length := by rw [← hX]; rfl
  have hD : X.Deep = d := by rw [← hX]; rfl
  rw [hX] at hg hr ⊢
  rw [hN, hD] at hg
  have HG := Lib.hid hg
  obtain ⟨hd1, hd2⟩ := hd
  clear hX hN hD hg hf
  go_enter Tryz.func125, Tryz.ntmps125
  go_wp2_with fail
  generalize hW : World.alloc w _ = W
  have bx := bx3_of hW
  have hxW := ext_of_alloc hW
  clear hW
  with_reducible refine (HG.out W (hr.ext hxW)).mono ?_
  rintro e w1 ⟨rfl, hx1⟩
  obtain ⟨x0, x1, x2⟩ := bx.ext hx1
  by_cases g1 : n < 0
  · have g1' : decide (n < 0) = true := by simpa using g1
    go_wp2_with fail
    go_ret
    exact ⟨rfl, hxW.trans hx1⟩
  · have g1' : decide (n < 0) = false := by simpa using g1
    have g0 : 0 ≤ n := by omega
    have g2 : ¬ n < 2 ^ d := fun h => hn ⟨g0, h⟩
    have q3 : (n / 2 ^ d == 0) = false := by rw [beq_eq_false_iff_ne]; exact shr_pos g2
    have q4 : (n / 2 ^ d != 0) = true := by rw [bne_iff_ne]; exact shr_pos g2
    clear hn g2
    go_wp2_with fail
    go_ret
    exact ⟨rfl, hxW.trans hx1⟩

set_option maxHeartbeats 4000000 in
set_option maxRecDepth 100000 in
theorem wcount_yes (l : List Nat) (d : Nat) (hd : 1 ≤ d ∧ d ≤ 16) (hl : l.length ≤ 17592186044416) (hf : ∀ x ∈ l, x < 2 ^ d) (A : Option Addr) (c : Nat) (x : Nat) (i : Int) (hx3 : x < 2 ^ d) (w : World) (hr : RdL w A (waveOf l d).L) :
    Calls Tryz.prog 125 #[.agg #[.int .i64 l.length, .int .i64 d, .slice A (waveOf l d).L.length c], .int .i64 x, .int .i64 i] w fun e w' => e = .returned (.int .i64 ((l.take (cl i l.length)).count x : Nat)) ∧ Ext w w' := by
  have hg := fun w hr => wgood_calls (waveOf l d) (waveOf_ok l d hd.2 hl hf) A c w hr
  rw [goodW_made l d hd hf] at hg
  have hlen : (waveOf l d).L.length = d := levelsOf_length l d d
  have hat := fun L hL => waveOf_at l d (L := L) hL
  have hx2 : x < 65536 := Nat.lt_of_lt_of_le hx3 (pow16 hd.2)
  have q3 : ((x : Int) / 2 ^ d == 0) = true := by rw [shr_zero (by omega) (by exact_mod_cast hx3)]; rfl
  have q4 : ((x : Int) / 2 ^ d != 0) = false := by rw [shr_zero (by omega) (by exact_mod_cast hx3)]; rfl
  rw [← C_deep (deep := d)]
  have hcl := cl_max i l.length
  have hJ2 : cl i l.length ≤ l.length := Nat.min_le_right _ _
  obtain ⟨J, hJ⟩ : ∃ J, cl i l.length = J := ⟨_, rfl⟩
  rw [hJ] at hcl hJ2 ⊢
  have HCL := Lib.hid hcl
  have st0 : F d l 0 (pre d 0 x) = 0 ∧ F d l 0 (pre d 0 x + 1) = l.length ∧ C d l 0 (pre d 0 x) J = J := by
    rw [pre_zero hx3]
    refine ⟨F_zero 0, F_all fun y hy => by rw [pre_zero (hf y hy)]; omega, by rw [C_zero hf]; omega⟩
  obtain ⟨X, hX⟩ : ∃ X, waveOf l d = X := ⟨_, rfl⟩
  have hN : X.N = l.length := by rw [← hX]; rfl
  have hD : X.Deep = d := by rw [← hX]; rfl
  rw [hX] at hg hr hlen hat ⊢
  rw [hN, hD] at hg
  have HL := Lib.hid hlen; have HAT := Lib.hid hat; have HF := Lib.hid hf; have ST := Lib.hid st0
  obtain ⟨hd1, hd2⟩ := hd
  rw [hlen]
  rw [hlen] at hg
  have HG := Lib.hid hg
  clear hX hN hD hg hf hlen hat st0 hJ hcl
  go_enter Tryz.func125, Tryz.ntmps125
  go_wp2_with fail
  generalize hW : World.alloc w _ = W
  have bx := bx3_of hW
  have hxW := ext_of_alloc hW
  clear hW
  with_reducible refine (HG.out W (hr.ext hxW)).mono ?_
  rintro e w1 ⟨rfl, hx1⟩
  obtain ⟨x0, x1, x2⟩ := bx.ext hx1
  have bx1 := bx.ext hx1
  have hlt : w.heap.size < w1.heap.size := cell_lt x0
  have hw1 := hxW.trans hx1
  go_wp2_with fail
  generalize hW6 : World.alloc w1 _ = W6
  have b6 := bk_of hW6
  have bx6 := bx1.ext (ext_of_alloc hW6)
  have hx6 := hw1.trans (ext_of_alloc hW6)
  have hB6 : w.heap.size ≤ w1.heap.size := hw1.size
  generalize w1.heap.size = B6 at *
  have rel0 : Hid (AtRel l d w B6 0 x J W6) := by
    obtain ⟨s1, s2, s3⟩ := ST.out
    refine ⟨?_, hx6, hB6⟩
    rw [s1, s2]; exact b6
  have BX0 := Lib.hid bx6
  clear hW6 b6 hx6 hw1 hx1 hxW bx x0 x1 x2 bx1 bx6
  go_loopw [2, 36] (fun vi vL wr => ∃ L : Nat, vL = .int .i64 L ∧ L ≤ d ∧ vi = .int .i64 (C d l L (pre d L x) J : Nat) ∧ Hid (BX3 wr w.heap.size (.int .i64 l.length) (.int .i64 d) (.slice A d c)) ∧ Hid (AtRel l d w B6 L x J wr)) (fun _ vL _ => d - (intOf vL).toNat)
  case atStart =>
    obtain ⟨s1, s2, s3⟩ := ST.out
    exact ⟨0, rfl, by omega, by rw [s3, HCL.out], BX0, rel0⟩
  case round => as_aux_lemma =>
    clear rel0 BX0
    obtain ⟨L, rfl, hL, rfl, BX, REL⟩ := hrel
    by_cases g1 : L < d
    · obtain ⟨b1, o1, hA, hb1, hc1⟩ := (hr.ext REL.out.x) (by rw [HL.out]; omega)
      subst hA
      obtain ⟨A1, A2, c1, c2, p1, p2, p3, hrb⟩ := hc1 L (by rw [HL.out]; exact g1)
      rw [HAT.out L g1] at p1 p2 p3 hrb
      have hbl := bitsAt_length HF.out (Nat.le_of_lt g1)
      have y0 := REL.out.b.cell 0
      have y1 := REL.out.b.cell 1
      obtain ⟨s, hs⟩ : ∃ s, d - 1 - L = s := ⟨_, rfl⟩
      have hs' : (d : Int) - 1 - (L : Int) = (s : Int) := by omega
      have ea := i64_and1 ((x : Int) / 2 ^ s)
      have eb := bit_test d L x s hs
      have hxp := nx_pre g1 x
      have hpl := pre_lt (deep := d) (Nat.le_of_lt g1) hx3
      have hCl := C_le' (deep := d) (l := l) L (pre d L x) J
      have dn := fun w hr => wdown_calls d l hl HF.out L (pre d L x) g1 hpl J (bitL d L x) A1 A2 c1 c2 w hr
      rw [hxp] at dn
      obtain ⟨p, hp⟩ : ∃ p, pre d L x = p := ⟨_, rfl⟩
      rw [hp] at dn y0 y1 hCl
      obtain ⟨f, hf⟩ : ∃ f, F d l L p = f := ⟨_, rfl⟩
      obtain ⟨t, ht⟩ : ∃ t, F d l L (p + 1) = t := ⟨_, rfl⟩
      obtain ⟨j, hj⟩ : ∃ j, C d l L p J = j := ⟨_, rfl⟩
      obtain ⟨p', hp'⟩ : ∃ p, pre d (L + 1) x = p := ⟨_, rfl⟩
      obtain ⟨β, hβ⟩ : ∃ β, bitL d L x = β := ⟨_, rfl⟩
      obtain ⟨bb, hbb⟩ : ∃ b, bitsAt d l L = b := ⟨_, rfl⟩
      have hxr := REL.out.x
      have hB6 := REL.out.h
      have b6 := Lib.hid REL.out.b
      have hlt6 := REL.out.b.lt
      rw [hβ] at eb
      rw [hf] at y0
      rw [ht] at y1
      rw [hj] at hCl
      rw [hf, ht, hj, hβ, hp', hbb] at dn
      rw [hbb] at p1 p2 p3 hrb hbl
      have DN := Lib.hid dn
      have e1 := Lib.hid hp; have e2 := Lib.hid hp'; have e3 := Lib.hid hf; have e4 := Lib.hid ht
      rw [hp, hj]
      obtain ⟨v0, v1, v2⟩ := BX.out
      have hlt0 := cell_lt v0
      have hne0 : w.heap.size ≠ B6 := by omega
      clear hxp hpl dn hf ht hj hp hp' hβ hbb hs REL
      go_wp2_with fail
      generalize hW8 : World.alloc wr _ = W8
      have hx8 := ext_of_alloc hW8
      clear hW8 p1 p2 p3 y0 y1
      generalize wr.heap.size = B8 at *
      have fin : ∀ (w10 : World), Ext W8 w10 → Hid (AtRel l d w B6 (L + 1) x J ((w10.setCell ⟨B6, 0, none⟩ (.int .i64 (F d l (L + 1) p' : Nat))).setCell ⟨B6, 1, none⟩ (.int .i64 (F d l (L + 1) (p' + 1) : Nat)))) := fun w10 hx10 => by
        refine ⟨?_, (((hxr.trans hx8).trans hx10).setCell (p := ⟨B6, 0, none⟩) hB6 _).setCell (p := ⟨B6, 1, none⟩) hB6 _, hB6⟩
        rw [e2.out]
        exact ((b6.out.ext (hx8.trans hx10)).set 0 _).set 1 _
      have FIN := Lib.hid fin
      clear fin
      with_reducible refine (DN.out W8 (hrb.ext hx8)).mono ?_
      rintro e w10 ⟨rfl, hx10⟩
      have y0 := (b6.out.ext (hx8.trans hx10)).cell 0
      have y1 := (b6.out.ext (hx8.trans hx10)).cell 1
      have f0 := (b6.out.ext (hx8.trans hx10)).frozen 0
      have f1 := (b6.out.ext (hx8.trans hx10)).frozen 1
      have FN := FIN.out w10 hx10
      have BXN : Hid (BX3 ((w10.setCell ⟨B6, 0, none⟩ (.int .i64 (F d l (L + 1) p' : Nat))).setCell ⟨B6, 1, none⟩ (.int .i64 (F d l (L + 1) (p' + 1) : Nat))) w.heap.size (.int .i64 l.length) (.int .i64 d) (.slice (some ⟨b1, o1, none⟩) d c)) := by
        obtain ⟨a0, a1, a2⟩ := BX.out.ext (hx8.trans hx10)
        exact ⟨far2 a0 hne0, far2 a1 hne0, far2 a2 hne0⟩
      clear FIN b6 v0 v1 v2 hxr hrb BX
      go_wp2_with fail
      refine ⟨⟨L + 1, by go_num, by omega, by rw [e2.out], BXN, FN⟩, by simp [intOf]; omega⟩
    · obtain rfl : L = d := by omega
      go_wp2_with fail
      go_ret
      refine ⟨?_, REL.out.x⟩
      show Ending.returned (Value.int .i64 ((C L l L (pre L L x) J : Nat) : Int)) = _
      rw [pre_deep]
end Go.Proofs.YtjfdlibceldanabGreatDoor
