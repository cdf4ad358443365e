/- The reference SameWave, and the law's spoilt: the walks. -/
import Derived.Test.YtjfdlibceldanaaWvKinds
namespace Go.Proofs.Ytjfdlibceldanaa
open Go.RowKit Wv

set_option maxHeartbeats 4000000 in
set_option maxRecDepth 100000 in
theorem sameWave_calls (x : PW) (hx : x.Ok) (A B : Option Addr) (ca cb : Nat) (w : World) (h1 : RdL w A x.L) (h2 : RdL w B x.L) :
    Calls Try.prog 30 #[.agg #[.int .i64 x.N, .int .i64 x.Deep, .slice A x.L.length ca], .agg #[.int .i64 x.N, .int .i64 x.Deep, .slice B x.L.length cb]] w fun e w' => e = .returned (.bool true) ∧ Ext w w' := by
  obtain ⟨N, D, L⟩ := x
  have hl := hx.len
  have hok := Lib.hid hx.l
  dsimp only at hl hok h1 h2 ⊢
  clear hx
  go_enter Try.func30, Try.ntmps30
  go_wp2_with fail
  generalize hW1 : World.alloc w _ = W1
  generalize hW : World.alloc W1 _ = W
  have hs1 : W1.heap.size = w.heap.size + 1 := by rw [← hW1]; simp
  have bx := (bx3_of hW1).ext (ext_of_alloc hW)
  have by3 := bx3_of hW
  rw [hs1] at by3
  have hxW := (ext_of_alloc hW1).trans (ext_of_alloc hW)
  have H1 := Lib.hid (h1.ext hxW); have H2 := Lib.hid (h2.ext hxW)
  have HX := Lib.hid bx; have HY := Lib.hid by3
  clear hW hW1 hs1 bx by3 h1 h2
  generalize w.heap.size + 1 = BY at *
  go_loopw [30] (fun v wr => ∃ k : Nat, k ≤ L.length ∧ v = .int .i64 k ∧ Ext W wr) (fun v _ => L.length - (intOf v).toNat)
  case atStart => exact ⟨0, by omega, rfl, Ext.refl _⟩
  case round =>
    obtain ⟨k, hk, rfl, hxr⟩ := hrel
    by_cases g1 : k < L.length
    · obtain ⟨b1, o1, hA, hb1, hc1⟩ := (H1.out.ext hxr) (by omega)
      subst hA
      obtain ⟨A1, A2, c1, c2, p1, p2, p3, hrb⟩ := hc1 k g1
      obtain ⟨b2, o2, hB, hb2, hc2⟩ := (H2.out.ext hxr) (by omega)
      subst hB
      obtain ⟨B1, B2, d1, d2, q1, q2, q3, hrc⟩ := hc2 k g1
      have okb := hok.out _ (nth_mem g1)
      obtain ⟨b, hb⟩ : ∃ b, nth L k = b := ⟨_, rfl⟩
      rw [hb] at p1 p2 p3 hrb q1 q2 q3 hrc okb
      obtain ⟨x0, x1, x2⟩ := HX.out.ext hxr
      obtain ⟨y0, y1, y2⟩ := HY.out.ext hxr
      have hsame : sameB b b = true := (sameB_iff b b).2 rfl
      have HS := Lib.hid hsame; have OK := Lib.hid okb
      clear hb hc1 hc2 hsame okb
      have hcur : Ext wr wr.drew := (Ext.refl wr).drew
      go_upto_region 6 with fail
      go_region_held3 (fun w' => (w'.cell? ⟨w.heap.size, 2, none⟩ = some (.slice (some ⟨b1, o1, none⟩) L.length ca) ∧ w'.cell? ⟨BY, 2, none⟩ = some (.slice (some ⟨b2, o2, none⟩) L.length cb)) ∧ (w'.cell? ⟨b1, o1 + k * 3, none⟩ = some (.int .i64 b.N) ∧ w'.cell? ⟨b1, o1 + k * 3 + 1, none⟩ = some (.slice A1 b.P.length c1) ∧ w'.cell? ⟨b1, o1 + k * 3 + 2, none⟩ = some (.slice A2 b.A.length c2)) ∧ (w'.cell? ⟨b2, o2 + k * 3, none⟩ = some (.int .i64 b.N) ∧ w'.cell? ⟨b2, o2 + k * 3 + 1, none⟩ = some (.slice B1 b.P.length d1) ∧ w'.cell? ⟨b2, o2 + k * 3 + 2, none⟩ = some (.slice B2 b.A.length d2)))
        (first | (exact ⟨⟨ecell x2 hcur, ecell y2 hcur⟩, ⟨ecell p1 hcur, ecell p2 hcur, ecell p3 hcur⟩, ⟨ecell q1 hcur, ecell q2 hcur, ecell q3 hcur⟩⟩) | go_keep)
        (first | (go_at_call 18; refine (sameBits_calls b b OK.out OK.out A1 A2 B1 B2 c1 c2 d1 d2 _ (hrb.ext hcur) (hrc.ext hcur)).mono ?_; rintro e wn ⟨rfl, hxn⟩; replace hcur := hcur.trans hxn; rw [HS.out]))
      go_wp2_with fail
      exact ⟨⟨k + 1, by omega, by go_num, hxr.trans hcur⟩, by simp [intOf]; omega⟩
    · go_wp2_with fail
      go_ret
      exact ⟨rfl, hxW.trans hxr⟩

theorem RdL.take {w : World} {A : Option Addr} {ls : List PB} (h : RdL w A ls) (n : Nat) : RdL w A (ls.take n) := fun hn => by
  rw [List.length_take] at hn
  obtain ⟨b, o, hA, hb, hc⟩ := h (by omega)
  refine ⟨b, o, hA, hb, fun k hk => ?_⟩
  rw [List.length_take] at hk
  have e : nth (ls.take n) k = nth ls k := by unfold nth; rw [List.getElem?_take_of_lt (by omega)]
  rw [e]; exact hc k (by omega)

set_option maxHeartbeats 4000000 in
set_option maxRecDepth 100000 in
theorem spoilt_calls (x : PW) (hx : x.Ok) (hg : goodW x = true) (hN : x.N ≤ 1125899906842624) (A : Option Addr) (c : Nat) (hc : x.L.length ≤ c) (w : World) (hr : RdL w A x.L) :
    Calls Try.prog 29 #[.agg #[.int .i64 x.N, .int .i64 x.Deep, .slice A x.L.length c]] w fun e w' => e = .returned (.bool true) ∧ Ext w w' := by
  obtain ⟨N, D, L⟩ := x
  unfold goodW goodHead at hg
  simp only [Bool.and_eq_true, decide_eq_true_eq] at hg
  obtain ⟨⟨⟨h1, h2⟩, h3, h4⟩, h5⟩ := hg
  have ol := hx.l
  have oln := hx.len
  dsimp only at hN hc hr ol oln ⊢
  have h6 : 0 < L.length := by omega
  have b1 : goodW ⟨N + 1, D, L⟩ = false := by
    unfold goodW
    rw [Bool.and_eq_false_iff]
    right
    have := (List.all_eq_true.1 h5) (nth L 0) (nth_mem h6)
    unfold goodPart at this
    simp only [Bool.and_eq_true, decide_eq_true_eq] at this
    refine all_take _ L 0 h6 ?_
    unfold goodPart
    have e : (nth L 0).N ≠ N + 1 := by omega
    show (goodF (nth L 0) && decide ((nth L 0).N = N + 1)) = false
    simp [e]
  have b2 : goodW ⟨N, D, L.take (L.length - 1)⟩ = false := by
    unfold goodW goodHead
    rw [Bool.and_eq_false_iff]
    left
    simp only [decide_eq_false_iff_not, List.length_take]
    omega
  have b3 : goodW ⟨N, D + 1, L⟩ = false := by
    unfold goodW goodHead
    rw [Bool.and_eq_false_iff]
    left
    simp only [decide_eq_false_iff_not]
    omega
  have k1 := wgood_calls ⟨N + 1, D, L⟩ ⟨⟨by show _ ≤ N + 1; omega, by show N + 1 ≤ _; omega⟩, ⟨by show _ ≤ D; omega, by show D ≤ _; omega⟩, ol, oln⟩ A c
  have k2 := wgood_calls ⟨N, D, L.take (L.length - 1)⟩ ⟨⟨by show _ ≤ N; omega, by show N ≤ _; omega⟩, ⟨by show _ ≤ D; omega, by show D ≤ _; omega⟩, fun b hb => ol b (List.mem_of_mem_take hb), by show (L.take (L.length - 1)).length ≤ _; rw [List.length_take]; omega⟩ A c
  have k3 := wgood_calls ⟨N, D + 1, L⟩ ⟨⟨by show _ ≤ N; omega, by show N ≤ _; omega⟩, ⟨by show _ ≤ D + 1; omega, by show D + 1 ≤ _; omega⟩, ol, oln⟩ A c
  rw [b1] at k1; rw [b2] at k2; rw [b3] at k3
  dsimp only at k1 k2 k3
  have et : (L.take (L.length - 1)).length = L.length - 1 := by rw [List.length_take]; omega
  rw [et] at k2
  have em : max 0 ((L.length : Int) - 1) = ((L.length - 1 : Nat) : Int) := by omega
  have K1 := Lib.hid k1; have K2 := Lib.hid k2; have K3 := Lib.hid k3
  clear k1 k2 k3 b1 b2 b3 et ol h3 h5
  obtain ⟨n, hn⟩ : ∃ n, L.length = n := ⟨_, rfl⟩
  have hr' : RdL w A L := hr
  rw [hn] at K1 K2 K3 hc oln h6 em ⊢
  obtain ⟨n1, hn1⟩ : ∃ m, n - 1 = m := ⟨_, rfl⟩
  have HN1 := Lib.hid hn1
  rw [hn1] at K2 em
  have HR := Lib.hid hr'
  clear hn hr hr' hx
  go_enter Try.func29, Try.ntmps29
  go_upto_region 1 with fail
  generalize hW : World.alloc w _ = W
  have bx := bk_of hW
  have hxW := ext_of_alloc hW
  clear hW
  go_cut [3, 4, 5] (fun v3 v4 v5 w' => ∃ B3 B4 B5 : Nat, v3 = .pointer (some ⟨B3, 0, none⟩) ∧ v4 = .pointer (some ⟨B4, 0, none⟩) ∧ v5 = .pointer (some ⟨B5, 0, none⟩) ∧ Hid (Bk w' B3 41 #[.int .i64 N, .int .i64 D, .slice A n c]) ∧ Hid (Bk w' B4 41 #[.int .i64 N, .int .i64 D, .slice A n c]) ∧ Hid (Bk w' B5 41 #[.int .i64 N, .int .i64 D, .slice A n c]) ∧ (B3 ≠ B4 ∧ B3 ≠ B5 ∧ B4 ≠ B5 ∧ W.heap.size ≤ B3 ∧ W.heap.size ≤ B4 ∧ W.heap.size ≤ B5) ∧ Ext W w')
  case first => as_aux_lemma =>
    obtain ⟨x0, x1, x2⟩ := bx3_bk bx
    have a0 : Bk (((W.alloc (.cells #[.int .i64 N, .int .i64 D, .slice A n c] 41)).alloc (.cells #[.int .i64 N, .int .i64 D, .slice A n c] 41)).alloc (.cells #[.int .i64 N, .int .i64 D, .slice A n c] 41)).drew W.heap.size 41 #[.int .i64 N, .int .i64 D, .slice A n c] := ((Bk.new W ..).alloc _).alloc _
    have a1 : Bk (((W.alloc (.cells #[.int .i64 N, .int .i64 D, .slice A n c] 41)).alloc (.cells #[.int .i64 N, .int .i64 D, .slice A n c] 41)).alloc (.cells #[.int .i64 N, .int .i64 D, .slice A n c] 41)).drew (W.heap.size + 1) 41 #[.int .i64 N, .int .i64 D, .slice A n c] := by
      have := (Bk.new (W.alloc (.cells #[.int .i64 N, .int .i64 D, .slice A n c] 41)) 41 #[.int .i64 N, .int .i64 D, .slice A n c]).alloc (.cells #[.int .i64 N, .int .i64 D, .slice A n c] 41)
      simp only [World.size_alloc] at this
      exact this
    have a2 : Bk (((W.alloc (.cells #[.int .i64 N, .int .i64 D, .slice A n c] 41)).alloc (.cells #[.int .i64 N, .int .i64 D, .slice A n c] 41)).alloc (.cells #[.int .i64 N, .int .i64 D, .slice A n c] 41)).drew (W.heap.size + 1 + 1) 41 #[.int .i64 N, .int .i64 D, .slice A n c] := by
      have := (Bk.new ((W.alloc (.cells #[.int .i64 N, .int .i64 D, .slice A n c] 41)).alloc (.cells #[.int .i64 N, .int .i64 D, .slice A n c] 41)) 41 #[.int .i64 N, .int .i64 D, .slice A n c])
      simp only [World.size_alloc] at this
      exact this
    have hE : Ext W (((W.alloc (.cells #[.int .i64 N, .int .i64 D, .slice A n c] 41)).alloc (.cells #[.int .i64 N, .int .i64 D, .slice A n c] 41)).alloc (.cells #[.int .i64 N, .int .i64 D, .slice A n c] 41)).drew := ((((Ext.refl W).alloc _).alloc _).alloc _).drew
    have A0 := Lib.hid a0; have A1 := Lib.hid a1; have A2 := Lib.hid a2
    have HE := Lib.hid hE
    clear a0 a1 a2 hE
    have e0 := World.new_ne W _ x0
    have hlt := cell_lt x0
    dsimp only at e0
    go_region_held3 (fun w' => w'.cell? ⟨w.heap.size, 0, none⟩ = some (.int .i64 N) ∧ w'.cell? ⟨w.heap.size, 1, none⟩ = some (.int .i64 D) ∧ w'.cell? ⟨w.heap.size, 2, none⟩ = some (.slice A n c))
      (first | (refine ⟨ecell x0 ?_, ecell x1 ?_, ecell x2 ?_⟩ <;> (repeat (first | exact Ext.refl _ | refine Ext.drew ?_ | refine Ext.alloc ?_ _ | refine Ext.setCell ?_ (by simp; try omega) _)); done) | go_keep)
      (first | fail)
    all_goals
      go_wp2_with fail
      go_meet
      first
        | exact ⟨_, _, _, rfl, rfl, rfl, A0, A1, A2, by omega, HE.out⟩
        | exact ⟨_, _, _, rfl, rfl, rfl, A0, A2, A1, by omega, HE.out⟩
        | exact ⟨_, _, _, rfl, rfl, rfl, A1, A0, A2, by omega, HE.out⟩
        | exact ⟨_, _, _, rfl, rfl, rfl, A1, A2, A0, by omega, HE.out⟩
        | exact ⟨_, _, _, rfl, rfl, rfl, A2, A0, A1, by omega, HE.out⟩
        | exact ⟨_, _, _, rfl, rfl, rfl, A2, A1, A0, by omega, HE.out⟩
  case rest => as_aux_lemma =>
    obtain ⟨B3, B4, B5, rfl, rfl, rfl, H3, H4, H5, ⟨q1, q2, q3, q4, q5, q6⟩, hxc⟩ := hcut
    have hlt := bx.lt
    have m3 : w.heap.size ≠ B3 := by omega
    have m4 : w.heap.size ≠ B4 := by omega
    have m5 : w.heap.size ≠ B5 := by omega
    have y0 := H3.out.cell 0
    have f0 := H3.out.frozen 0
    have hwN : IntKind.i64.wrap (N + 1) = N + 1 := IntWalk.i64_in _ (by omega)
    have hwD : IntKind.i64.wrap (D + 1) = D + 1 := IntWalk.i64_in _ (by omega)
    go_upto_region 3 with fail
    have c3 := Lib.hid (H3.out.set 0 (.int .i64 (N + 1)))
    have c4 := Lib.hid (H4.out.far (p := ⟨B3, 0, none⟩) q1.symm (.int .i64 (N + 1)))
    have c5 := Lib.hid (H5.out.far (p := ⟨B3, 0, none⟩) q2.symm (.int .i64 (N + 1)))
    have cx := (bx.ext hxc).far (p := ⟨B3, 0, none⟩) m3 (.int .i64 (N + 1))
    have hx1 := hxc.setCell (p := ⟨B3, 0, none⟩) q4 (.int .i64 (N + 1))
    clear y0 f0 H3 H4 H5 hxc
    generalize wc.setCell _ _ = w1 at *
    have y2 := cx.cell 2
    have z2 := c4.out.cell 2
    have f2 := c4.out.frozen 2
    go_upto_region 4 with fail
    have d3 := Lib.hid (c3.out.far (p := ⟨B4, 2, none⟩) q1 (.slice A n1 c))
    have d4 := Lib.hid (c4.out.set 2 (.slice A n1 c))
    have d5 := Lib.hid (c5.out.far (p := ⟨B4, 2, none⟩) q3.symm (.slice A n1 c))
    have hx2 := hx1.setCell (p := ⟨B4, 2, none⟩) q5 (.slice A n1 c)
    clear y2 z2 f2 c3 c4 c5 cx hx1
    generalize w1.setCell _ _ = w2 at *
    have y1 := d5.out.cell 1
    have f1 := d5.out.frozen 1
    go_upto_region 5 with fail
    have e3 := Lib.hid (d3.out.far (p := ⟨B5, 1, none⟩) q2 (.int .i64 (D + 1)))
    have e4 := Lib.hid (d4.out.far (p := ⟨B5, 1, none⟩) q3 (.int .i64 (D + 1)))
    have e5 := Lib.hid (d5.out.set 1 (.int .i64 (D + 1)))
    have hx3 := hx2.setCell (p := ⟨B5, 1, none⟩) q6 (.int .i64 (D + 1))
    clear y1 f1 d3 d4 d5 hx2
    generalize w2.setCell _ _ = w3 at *
    have hrl := HR.out.ext (hxW.trans hx3)
    have e3' : Bk w3 B3 41 #[.int .i64 (N + 1), .int .i64 D, .slice A n c] := e3.out
    have e4' : Bk w3 B4 41 #[.int .i64 N, .int .i64 D, .slice A n1 c] := e4.out
    have e5' : Bk w3 B5 41 #[.int .i64 N, .int .i64 (D + 1), .slice A n c] := e5.out
    have E4 := Lib.hid e4'; have E5 := Lib.hid e5'
    obtain ⟨y0, y1, y2⟩ := bx3_bk e3'
    clear e3' e4' e5' e3 e4 e5
    go_wp2_with fail
    refine (K1.out w3 hrl).mono ?_
    rintro e w4 ⟨rfl, hx4⟩
    obtain ⟨y0, y1, y2⟩ := bx3_bk (E4.out.ext hx4)
    go_wp2_with fail
    refine (K2.out w4 ((HR.out.take n1).ext ((hxW.trans hx3).trans hx4))).mono ?_
    rintro e w5 ⟨rfl, hx5⟩
    obtain ⟨y0, y1, y2⟩ := bx3_bk (E5.out.ext (hx4.trans hx5))
    go_wp2_with fail
    refine (K3.out w5 (((hrl.ext hx4).ext hx5))).mono ?_
    rintro e w6 ⟨rfl, hx6⟩
    go_wp2_with fail
    go_ret
    exact ⟨rfl, ((((hxW.trans hx3).trans hx4).trans hx5).trans hx6)⟩
end Go.Proofs.Ytjfdlibceldanaa
