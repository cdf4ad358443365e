/- TopGuess: nothing is likelier than what is guessed; the law's walk. -/
import Derived.Test.YtjfdlibceldanabGreatDoorTSum
import Derived.Test.YtjfdlibceldanabGreatDoorTGesP
namespace Go.Proofs.YtjfdlibceldanabGreatDoor
open Go.RowKit Go.Sort Tx En Wv Gu

set_option maxHeartbeats 4000000 in
set_option maxRecDepth 100000 in
theorem sguess_no (ws : List UInt8) (hws : ws.length ≤ 16777216) (m : Int) (w : World) (hm : w.cell? ⟨0, 0, none⟩ = some (.int .i64 m)) :
    Calls Tryz.prog 18 #[noShelf, str ws] w fun e w' => e = .returned (.tuple #[.string ⟨#[]⟩, .int .i64 3]) ∧ Ext w w' := by
  have CS := Lib.hid (fun w hm => signs_no ws hws m w hm); have HM := Lib.hid hm
  clear hm hws
  go_enter Tryz.func18, Tryz.ntmps18
  go_upto_region 1 with fail
  generalize hW : World.alloc w _ = W
  have bx := bk_of hW
  have hx := ext_of_alloc hW
  generalize w.heap.size = g at *
  clear hW
  have z0 := bx.cell 0
  have z1 := bx.cell 1
  have cs := CS.out W (ecell HM.out hx)
  go_wp2_with fail
  with_reducible refine cs.mono ?_
  rintro e w1 ⟨b, P, L, p, rfl, hL, y1, y2, y3, y4, hx1⟩
  clear y1 y2 y3 y4
  have hb1 := bx.ext hx1
  clear z0 z1
  have z1 := hb1.cell 1
  cases b with
  | true =>
    go_wp2_with fail
    go_ret2
    exact ⟨rfl, hx.trans hx1⟩
  | false =>
    go_wp2_with fail
    go_ret2
    exact ⟨rfl, hx.trans hx1⟩
set_option maxHeartbeats 8000000 in
set_option maxRecDepth 100000 in
theorem tges_walk (s ws gs : List UInt8) (W : List (List UInt8)) (er ge : Nat) (m : Int) (w : World) (hm : w.cell? ⟨0, 0, none⟩ = some (.int .i64 m)) (N n1 m2 : Nat) (hN : W.length = N) (hN4 : N ≤ 4096) (lk : Nat → Nat × Nat) (P : Nat × Nat)
    (R : World → Option Addr → Option Addr → Option Addr → Option Addr → Option Addr → Nat → Nat → Nat → Nat → Nat → Prop)
    (hR : ∀ w w' a b c d e f g h i j, Ext w w' → R w a b c d e f g h i j → R w' a b c d e f g h i j)
    (hRW : ∀ w a b c d e f g h i j, R w a b c d e f g h i j → RdS w a W ∧ (a = none → f = 0))
    (co : Calls Tryz.prog 9 #[str s] w (RetO er N n1 m2 R w))
    (cno : ∀ w, w.cell? ⟨0, 0, none⟩ = some (.int .i64 m) → Calls Tryz.prog 18 #[noShelf, str ws] w fun e w' => e = .returned (.tuple #[.string ⟨#[]⟩, .int .i64 3]) ∧ Ext w w')
    (cg : er = 0 → ∀ WA TA E B D wc tc ec bc dc w, R w WA TA E B D wc tc ec bc dc → Calls Tryz.prog 18 #[shV WA TA N wc n1 tc E B D m2 ec bc dc, str ws] w fun e w' => e = .returned (.tuple #[str gs, .int .i64 (ge : Nat)]) ∧ Ext w w')
    (hgs : er = 0 → ge ≠ 0 → gs = [])
    (cb : er = 0 → ge = 0 → ∀ WA TA E B D wc tc ec bc dc w, R w WA TA E B D wc tc ec bc dc → Calls Tryz.prog 17 #[shV WA TA N wc n1 tc E B D m2 ec bc dc, str ws, str gs] w fun e w' => e = .returned (.tuple #[.agg #[.int .i64 P.1, .int .i64 P.2], .int .i64 0]) ∧ Ext w w')
    (cl : er = 0 → ge = 0 → ∀ i, i ≤ N → ∀ WA TA E B D wc tc ec bc dc w, R w WA TA E B D wc tc ec bc dc → Calls Tryz.prog 17 #[shV WA TA N wc n1 tc E B D m2 ec bc dc, str ws, str (nth ([10] :: W) i)] w fun e w' => e = .returned (.tuple #[.agg #[.int .i64 (lk i).1, .int .i64 (lk i).2], .int .i64 0]) ∧ Ext w w')
    (hP : er = 0 → ge = 0 → P.1 ≤ P.2) (hlk : er = 0 → ge = 0 → ∀ i, i ≤ N → (lk i).1 ≤ (lk i).2 ∧ (lk i).1 * P.2 ≤ P.1 * (lk i).2) :
    Calls Tryz.prog 6 #[str s, str ws] w fun e w' => e = .returned (.bool true) ∧ Ext w w' := by
  have CO := Lib.hid co; have CNO := Lib.hid cno; have CG := Lib.hid cg; have HGS := Lib.hid hgs; have CB := Lib.hid cb; have CL := Lib.hid cl; have HP := Lib.hid hP; have HLK := Lib.hid hlk; have HM := Lib.hid hm; have HR := Lib.hid hR; have HRW := Lib.hid hRW; have HN := Lib.hid hN
  have CAL := Lib.hid (fun w hm => alive_calls m w hm)
  clear co cno cg hgs cb cl hP hlk hm hR hRW hN
  go_enter Tryz.func6, Tryz.ntmps6
  go_wp2_with fail
  with_reducible refine CO.out.mono ?_
  clear CO
  rintro e w1 (⟨her, rfl, hx1⟩ | ⟨rfl, WA, TA, E, B, D, wc, tc, ec, bc, dc, rfl, hr1, hx1⟩)
  · go_upto_region 2 with fail
    generalize hW : World.alloc w1 _ = W1
    have bx := bk_of hW
    have hx := hx1.trans (ext_of_alloc hW)
    generalize w1.heap.size = g at *
    clear hW hx1
    have h' : (((er : Nat) : Int) != 0) = true := by simp; omega
    have cno := CNO.out W1 (ecell HM.out hx)
    have z0 := bx.cell 0
    have z1 := bx.cell 1
    have z2 := bx.cell 2
    have z3 := bx.cell 3
    have z4 := bx.cell 4
    have z5 := bx.cell 5
    have z6 := bx.cell 6
    go_wp2_with fail
    with_reducible refine cno.mono ?_
    rintro e w2 ⟨rfl, hx2⟩
    have cal := CAL.out w2 (ecell HM.out (hx.trans hx2))
    clear z0 z1 z2 z3 z4 z5 z6 bx cno
    go_wp2_with fail
    with_reducible refine cal.mono ?_
    rintro e w3 ⟨rfl, hx3⟩
    go_wp2_with fail
    go_ret
    exact ⟨rfl, (hx.trans hx2).trans hx3⟩
  · go_upto_region 2 with fail
    generalize hW : World.alloc w1 _ = W1
    have bx := bk_of hW
    have hx := hx1.trans (ext_of_alloc hW)
    have hr := HR.out _ _ _ _ _ _ _ _ _ _ _ _ (ext_of_alloc hW) hr1
    generalize w1.heap.size = g at *
    clear hW hx1 hr1
    have cg := CG.out (by trivial) _ _ _ _ _ _ _ _ _ _ W1 hr
    have z0 := bx.cell 0
    have z1 := bx.cell 1
    have z2 := bx.cell 2
    have z3 := bx.cell 3
    have z4 := bx.cell 4
    have z5 := bx.cell 5
    have z6 := bx.cell 6
    go_wp2_with fail
    with_reducible refine cg.mono ?_
    rintro e w2 ⟨rfl, hx2⟩
    have hr2 := HR.out _ _ _ _ _ _ _ _ _ _ _ _ hx2 hr
    have bx2 := bx.ext hx2
    have hx02 := hx.trans hx2
    clear z0 z1 z2 z3 z4 z5 z6 bx hx hx2 hr cg
    by_cases k0 : ge = 0
    · subst k0
      have cb := CB.out (by trivial) (by trivial) _ _ _ _ _ _ _ _ _ _ w2 hr2
      have z0 := bx2.cell 0
      have z1 := bx2.cell 1
      have z2 := bx2.cell 2
      have z3 := bx2.cell 3
      have z4 := bx2.cell 4
      have z5 := bx2.cell 5
      have z6 := bx2.cell 6
      go_wp2_with fail
      with_reducible refine cb.mono ?_
      rintro e w3 ⟨rfl, hx3⟩
      have hr3 := HR.out _ _ _ _ _ _ _ _ _ _ _ _ hx3 hr2
      have bx3 := bx2.ext hx3
      have hx03 := hx02.trans hx3
      clear z0 z1 z2 z3 z4 z5 z6 bx2 hx02 hx3 hr2 cb
      go_upto_region 6 with fail
      generalize hW4 : World.alloc w3 _ = W4
      have bp := bk_of hW4
      have hx34 := ext_of_alloc hW4
      have hr4 := HR.out _ _ _ _ _ _ _ _ _ _ _ _ hx34 hr3
      have bx4 := bx3.ext hx34
      have hx04 := hx03.trans hx34
      obtain ⟨hw4, hn4⟩ := HRW.out _ _ _ _ _ _ _ _ _ _ _ hr4
      have cw := words_calls W WA TA wc n1 tc W4 (by rw [HN.out]; omega) hn4 hw4
      rw [HN.out] at cw
      generalize w3.heap.size = pB at *
      have z0 := bx4.cell 0
      have z1 := bx4.cell 1
      clear hW4 hw4 hn4 bx3 hr3 hx03 hx34
      go_wp2_with fail
      with_reducible refine cw.mono ?_
      rintro e w5 ⟨A, c, rfl, hA, hx5, hge⟩
      clear hge
      have hr5 := HR.out _ _ _ _ _ _ _ _ _ _ _ _ hx5 hr4
      have HR5 := Lib.hid hr5
      have BX5 := Lib.hid (bx4.ext hx5)
      have BP5 := Lib.hid (bp.ext hx5)
      have hx05 := hx04.trans hx5
      have HA : Hid (Rd w5 A (N + 1) (fun k => str (nth ([10] :: W) k))) := by
        show Rd _ _ _ _
        rw [← HN.out]; exact hA
      have hPP := HP.out (by trivial) (by trivial)
      obtain ⟨P1, P2⟩ := P
      dsimp only at *
      clear z0 z1 cw bp bx4 hA hx5 hr4 hr5 hx04 HN CG CB HGS
      go_wp2_with fail
      go_loopw [50] (fun vi wr => ∃ i : Nat, vi = .int .i64 i ∧ i ≤ N + 1 ∧ Ext w5 wr) (fun vi _ => N + 1 - (intOf vi).toNat)
      case atStart => exact ⟨0, rfl, Nat.zero_le _, Ext.refl _⟩
      case round => as_aux_lemma =>
        obtain ⟨i, rfl, hi, hxr⟩ := hrel
        by_cases gi : i < N + 1
        · obtain ⟨bA, oA, rfl, hbA, hcA⟩ := (HA.out.ext hxr) (by omega)
          have p1 := hcA i gi
          dsimp only at p1
          have hrr := HR.out _ _ _ _ _ _ _ _ _ _ _ _ hxr HR5.out
          have cl := CL.out (by trivial) (by trivial) i (by omega) _ _ _ _ _ _ _ _ _ _ wr hrr
          obtain ⟨hf, hfp⟩ := HLK.out (by trivial) (by trivial) i (by omega)
          have bxr := BX5.out.ext hxr
          obtain ⟨⟨F1, F2⟩, hF⟩ : ∃ F, lk i = F := ⟨_, rfl⟩
          obtain ⟨y, hy⟩ : ∃ y, nth ([10] :: W) i = y := ⟨_, rfl⟩
          rw [hy, hF] at cl
          rw [hF] at hf hfp
          dsimp only at hf hfp cl
          rw [hy] at p1
          have gi' : decide ((i : Int) < (N : Int) + 1) = true := decide_eq_true (by omega)
          have hi2 : decide ((i : Int) < 0) = false := by simp
          clear hF hy hcA
          have x0 := bxr.cell 0
          have x1 := bxr.cell 1
          have x2 := bxr.cell 2
          have x3 := bxr.cell 3
          have x4 := bxr.cell 4
          have x5 := bxr.cell 5
          have x6 := bxr.cell 6
          have HFP := Lib.hid hfp
          clear hfp
          go_wp2_with fail
          with_reducible refine cl.mono ?_
          rintro e w6 ⟨rfl, hx6⟩
          have hxr6 := hxr.trans hx6
          clear x0 x1 x2 x3 x4 x5 x6 bxr cl hrr p1 hxr hx6 hbA
          go_upto_region 12 with fail
          generalize hW7 : World.alloc w6 _ = W7
          have bq := bk_of hW7
          have hxr7 := hxr6.trans (ext_of_alloc hW7)
          have bp7 := BP5.out.ext hxr7
          generalize w6.heap.size = qB at *
          clear hW7 hxr6
          have q0 := bq.cell 0
          have q1 := bq.cell 1
          have p0 := bp7.cell 0
          have p1 := bp7.cell 1
          by_cases k1 : P2 < 1073741824
          · have k1' : decide ((P2 : Int) < (1073741824 : Int)) = true := decide_eq_true (by omega)
            by_cases k2 : F2 < 1073741824
            · have k2' : decide ((F2 : Int) < (1073741824 : Int)) = true := decide_eq_true (by omega)
              have hfp := HFP.out
              have b1 : F1 * P2 ≤ 1073741824 * 1073741824 := Nat.mul_le_mul (by omega) (by omega)
              have b2 : P1 * F2 ≤ 1073741824 * 1073741824 := Nat.mul_le_mul (by omega) (by omega)
              have e1 : IntKind.i64.wrap ((F1 : Int) * (P2 : Int)) = ((F1 * P2 : Nat) : Int) := mul_wrap rfl (by omega)
              have e2 : IntKind.i64.wrap ((P1 : Int) * (F2 : Int)) = ((P1 * F2 : Nat) : Int) := mul_wrap rfl (by omega)
              have e3 : ¬ IntKind.i64.wrap ((P1 : Int) * (F2 : Int)) < IntKind.i64.wrap ((F1 : Int) * (P2 : Int)) := by rw [e1, e2]; omega
              obtain ⟨xa, hxa⟩ : ∃ xa, IntKind.i64.wrap ((F1 : Int) * (P2 : Int)) = xa := ⟨_, rfl⟩
              obtain ⟨xb, hxb⟩ : ∃ xb, IntKind.i64.wrap ((P1 : Int) * (F2 : Int)) = xb := ⟨_, rfl⟩
              rw [hxa, hxb] at e3
              have w3' : decide (xb < xa) = false := decide_eq_false e3
              clear hfp b1 b2 e1 e2 e3 k1 k2 hf hPP
              go_wp2_with fail
              refine ⟨⟨i + 1, by go_num, by omega, hxr7⟩, by simp [intOf]; omega⟩
            · have k2' : decide ((F2 : Int) < (1073741824 : Int)) = false := decide_eq_false (by omega)
              clear k1 k2 hf hPP
              go_wp2_with fail
              refine ⟨⟨i + 1, by go_num, by omega, hxr7⟩, by simp [intOf]; omega⟩
          · have k1' : decide ((P2 : Int) < (1073741824 : Int)) = false := decide_eq_false (by omega)
            clear k1 hf hPP
            go_wp2_with fail
            refine ⟨⟨i + 1, by go_num, by omega, hxr7⟩, by simp [intOf]; omega⟩
        · obtain rfl : i = N + 1 := by omega
          have gi' : decide ((((N + 1 : Nat) : Int)) < (N : Int) + 1) = false := decide_eq_false (by omega)
          have cal := CAL.out wr (ecell HM.out (hx05.trans hxr))
          go_wp2_with fail
          with_reducible refine cal.mono ?_
          rintro e w6 ⟨rfl, hx6⟩
          go_wp2_with fail
          go_ret
          exact ⟨rfl, (hx05.trans hxr).trans hx6⟩
    · obtain rfl := HGS.out (by trivial) k0
      have h' : (((ge : Nat) : Int) != 0) = true := by simp; omega
      have cal := CAL.out w2 (ecell HM.out hx02)
      go_wp2_with fail
      with_reducible refine cal.mono ?_
      rintro e w3 ⟨rfl, hx3⟩
      go_wp2_with fail
      go_ret
      exact ⟨rfl, hx02.trans hx3⟩
theorem tges_calls (s ws : List UInt8) (hs : s.length + ws.length ≤ 1048576) (m : Int) (w : World) (hm : w.cell? ⟨0, 0, none⟩ = some (.int .i64 m)) :
    Calls Tryz.prog 6 #[str s, str ws] w fun e w' => e = .returned (.bool true) ∧ Ext w w' := by
  have hws : ws.length ≤ 16777216 := by omega
  by_cases h : errF s = 0
  · have hN4 : (wordsF s).length ≤ 4096 := by have := swords_le h; omega
    have hin : gsE s ws = 0 → inB s ws := fun q => by
      unfold gsE at q
      split at q
      · assumption
      · cases q
    obtain ⟨hbN, hbest⟩ := best_pick h ws
    have likc : ∀ i, i ≤ (wordsF s).length → inB s ws → ∀ WA TA E B D wc tc ec bc dc w, ShQ m s w WA TA E B D wc tc ec bc dc → Calls Tryz.prog 17 #[shOf s WA TA E B D wc tc ec bc dc, str ws, str (wrdF s i)] w fun e w' => e = .returned (.tuple #[.agg #[.int .i64 (lkA s ws i).1, .int .i64 (lkA s ws i).2], .int .i64 0]) ∧ Ext w w' := fun i hi hb WA TA E B D wc tc ec bc dc w r => by
      have h1 := slikely_calls h ws hws m (wrdF s i) (by have := wrd_len h hi; omega) w r
      obtain ⟨e1, e2⟩ := wrd_lk hb hi
      rw [e1, e2] at h1
      exact h1
    refine tges_walk s ws (gsF s ws) (wordsF s) (errF s) (gsE s ws) m w hm (wordsF s).length (bT s).length ((wordsF s).length + 3) rfl hN4 (lkA s ws) (lkA s ws (bestF s ws)) (ShQ m s) ShQ.ext (fun _ _ _ _ _ _ _ _ _ _ _ r => ⟨r.2.wd, r.2.wnone⟩) (open_O s (by omega) m w hm) (fun w hm => sguess_no ws hws m w hm) ?_ ?_ ?_ ?_ ?_ ?_
    · intro h WA TA E B D wc tc ec bc dc w r
      exact sguess_calls h ws hws m w r
    · intro _ hg
      unfold gsE at hg
      unfold gsF
      rw [if_neg fun q => hg (if_pos q)]
    · intro _ hg WA TA E B D wc tc ec bc dc w r
      rw [gs_wrd h ws (hin hg)]
      exact likc _ hbN (hin hg) WA TA E B D wc tc ec bc dc w r
    · intro _ hg i hi WA TA E B D wc tc ec bc dc w r
      rw [wrd_nth]
      exact likc i hi (hin hg) WA TA E B D wc tc ec bc dc w r
    · intro _ _
      exact (lkA_ok ws hbN).2
    · intro _ _ i hi
      exact ⟨(lkA_ok ws hi).2, hbest i hi⟩
  · refine tges_walk s ws [] [] (errF s) 0 m w hm 0 (bT s).length ((wordsF s).length + 3) rfl (by omega) (fun _ => (0, 1)) (0, 1) (fun _ _ _ _ _ _ _ _ _ _ _ => False) (fun _ _ _ _ _ _ _ _ _ _ _ _ _ r => r) (fun _ _ _ _ _ _ _ _ _ _ _ r => r.elim) ?_ (fun w hm => sguess_no ws hws m w hm) (fun h' => absurd h' h) (fun _ _ => rfl) (fun h' => absurd h' h) (fun h' => absurd h' h) (fun h' => absurd h' h) (fun h' => absurd h' h)
    refine (open_O s (by omega) m w hm).mono ?_
    rintro e w' (⟨h1, h2, h3⟩ | ⟨h1, _⟩)
    · exact Or.inl ⟨h1, h2, h3⟩
    · exact absurd h1 h

section
open Go.ChangeShapes Go.WideShapes Go.ChangeAt Go.ChangeMaps
variable {H : Type} {enc : TypeId × Value → H} {W : World}
set_option maxRecDepth 100000 in
theorem topGuess_calls {r : Reach} {base : Nat} {v0 v1 : Value} {d0 d1 : DataW H} {p0 p1 : List MemPlace} (hsh : W.ShapedOpen Tryz.prog) (hk : Rows.uptoSmall H ([d0, d1] ++ []) = true)
    (_hsz : (DataW.weightsEach Tryz.prog [9, 9] [d0, d1]).all (· ≤ reachBytes) = true)
    (hv0 : Value.okWide Tryz.prog W r base 9 v0) (h0 : DataW.Trod enc Tryz.prog W 0 (fun _ => true) true 9 v0 d0 p0)
    (hv1 : Value.okWide Tryz.prog W r base 9 v1) (h1 : DataW.Trod enc Tryz.prog W 0 (fun _ => true) true 9 v1 d1 p1) :
    Calls Tryz.prog 6 #[v0, v1] W fun e w' => e = .returned (.bool true) ∧ Ext W w' := by
  obtain ⟨a, b, rfl, rfl, hl⟩ := open_two hk hv0 h0 hv1 h1
  obtain ⟨m, hm⟩ := Tryz.laysM146.s1_3 W hsh
  exact tges_calls a b hl m W hm
end
end Go.Proofs.YtjfdlibceldanabGreatDoor
