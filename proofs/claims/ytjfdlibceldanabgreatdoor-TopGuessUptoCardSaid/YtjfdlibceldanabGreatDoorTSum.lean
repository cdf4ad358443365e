/- TopSums: behind whatever words all words and a line's end together are just one; the law's walk. -/
import Derived.Test.YtjfdlibceldanabGreatDoorTSumP
import Derived.Test.YtjfdlibceldanabGreatDoorUpB
namespace Go.Proofs.YtjfdlibceldanabGreatDoor
open Go.RowKit Go.Sort Tx En Wv Gu

theorem own_lit (w : World) (e : TypeId) (u : Value) : (w.alloc (.cells #[u] e)).ownsRow w.heap.size e 1 (.slice (some ⟨w.heap.size, 0, none⟩) 1 1) 1 [u] :=
  ⟨rfl, .inr ⟨w.heap.size, 1, #[u], rfl, Nat.le_refl _, heap_alloc_new w _, Nat.le_refl _, by decide, by simp, by simp⟩⟩
set_option maxHeartbeats 4000000 in
set_option maxRecDepth 100000 in
theorem words_calls (W : List (List UInt8)) (WA TA : Option Addr) (wc n1 tc : Nat) (w : World) (hW : W.length ≤ 1000000) (hnone : WA = none → wc = 0) (hr : RdS w WA W) :
    Calls Tryz.prog 23 #[bookV WA TA W.length wc n1 tc] w fun e w' => ∃ A c, e = .returned (.slice A (W.length + 1) c) ∧ RdS w' A ([10] :: W) ∧ Ext w w' ∧ ∀ b o, A = some ⟨b, o, none⟩ → w.heap.size ≤ b := by
  obtain ⟨ii, hi, hj0, hj1, hj2⟩ := info_parts info_str
  have HR := Lib.hid hr
  obtain ⟨N, hN⟩ : ∃ N, W.length = N := ⟨_, rfl⟩
  have HN := Lib.hid hN
  rw [hN] at hW ⊢
  clear hr hN
  go_enter Tryz.func23, Tryz.ntmps23
  go_upto_region 1 with fail
  generalize hW1 : World.alloc w _ = W1
  have bx := bk_of hW1
  have hx := ext_of_alloc hW1
  have hr1 : Rd W1 WA N (fun k => str (nth W k)) := by rw [← HN.out]; exact HR.out.ext hx
  have HX := Lib.hid hx
  generalize w.heap.size = g at *
  clear hW1 hx
  have z0 := (bx.ext ((Ext.refl W1).alloc (.cells #[str [10]] 9))).cell 0
  clear bx
  go_wp2_with (at_builtin; refine wpList_appAll rfl _ _ 23 rfl W1.heap.size 9 ii (.string ⟨#[]⟩) 16 Tryz.underlying23 hi hj0 hj1 hj2 rfl _ 1 [str [10]] rfl (own_lit W1 9 (str [10])) WA N wc (fun k => str (nth W k)) rfl hnone (hr1.ext ((Ext.refl _).alloc _)) (fun _ _ => rfl) (by omega) (by omega) (by omega) (by simp) ?_; intro v' w2 ho2 hg2)
  have hx2 : Ext W1 w2 := ((Ext.refl W1).alloc _).grown hg2 fun k hk => (own_row_ge (own_lit W1 9 (str [10])) k hk).1
  obtain ⟨A, c, rfl⟩ := own_form ho2
  have e1 : 1 + N = N + 1 := Nat.add_comm _ _
  rw [e1] at ho2 ⊢
  have e2 : [str [10]] ++ (List.range N).map (fun k => str (nth W k)) = ([10] :: W).map str := by
    rw [← HN.out, map_nth_str]; rfl
  rw [e2] at ho2
  have hge := own_row_ge ho2
  have hrd : RdS w2 A ([10] :: W) := by
    have h1 : w2.ownsRow W1.heap.size 9 1 (.slice A ([10] :: W).length c) ([10] :: W).length (([10] :: W).map str) := by
      rw [List.length_cons, HN.out]; exact ho2
    exact RdS.own h1
  clear e2
  go_wp2_with fail
  go_ret
  refine ⟨A, c, rfl, hrd, HX.out.trans hx2, fun b o h => ?_⟩
  subst h
  exact Nat.le_trans HX.out.size (hge b rfl).1
theorem wrd_nth (s : List UInt8) (i : Nat) : nth ([10] :: wordsF s) i = wrdF s i := by
  unfold wrdF
  cases i with
  | zero => rfl
  | succ i => rw [if_neg (by omega)]; rfl

set_option maxHeartbeats 8000000 in
set_option maxRecDepth 100000 in
theorem tsum_walk (s ws : List UInt8) (W : List (List UInt8)) (b : Bool) (er : Nat) (m : Int) (w : World) (hm : w.cell? ⟨0, 0, none⟩ = some (.int .i64 m)) (N n1 m2 L : Nat) (hN : W.length = N) (hN4 : N ≤ 4096) (lk sm : Nat → Nat × Nat)
    (R : World → Option Addr → Option Addr → Option Addr → Option Addr → Option Addr → Nat → Nat → Nat → Nat → Nat → Prop) (RP : World → Option Addr → Nat → Prop)
    (hR : ∀ w w' a b c d e f g h i j, Ext w w' → R w a b c d e f g h i j → R w' a b c d e f g h i j)
    (hRW : ∀ w a b c d e f g h i j, R w a b c d e f g h i j → RdS w a W ∧ (a = none → f = 0))
    (co : Calls Tryz.prog 9 #[str s] w (RetO er N n1 m2 R w))
    (cs : er = 0 → ∀ WA TA E B D wc tc ec bc dc w, R w WA TA E B D wc tc ec bc dc → Calls Tryz.prog 10 #[bookV WA TA N wc n1 tc, str ws] w (SgRet b L RP w))
    (cl : er = 0 → b = true → ∀ i, i ≤ N → ∀ WA TA E B D wc tc ec bc dc w, R w WA TA E B D wc tc ec bc dc → Calls Tryz.prog 17 #[shV WA TA N wc n1 tc E B D m2 ec bc dc, str ws, str (nth ([10] :: W) i)] w fun e w' => e = .returned (.tuple #[.agg #[.int .i64 (lk i).1, .int .i64 (lk i).2], .int .i64 0]) ∧ Ext w w')
    (hlk : er = 0 → b = true → ∀ i, i ≤ N → 1 ≤ (lk i).1 ∧ (lk i).1 ≤ (lk i).2)
    (ca : er = 0 → b = true → ∀ i, i ≤ N → (sm i).2 ≤ 1073741824 → (lk i).2 ≤ 1073741824 → ∀ w, Calls Tryz.prog 24 #[.agg #[.int .i64 (sm i).1, .int .i64 (sm i).2], .agg #[.int .i64 (lk i).1, .int .i64 (lk i).2]] w (RetPart (sm (i + 1)) w))
    (s0 : sm 0 = (0, 1)) (sN : er = 0 → b = true → sm (N + 1) = (1, 1)) :
    Calls Tryz.prog 5 #[str s, str ws] w fun e w' => e = .returned (.bool true) ∧ Ext w w' := by
  have CO := Lib.hid co; have CS := Lib.hid cs; have CL := Lib.hid cl; have HLK := Lib.hid hlk; have CA := Lib.hid ca; have S0 := Lib.hid s0; have SN := Lib.hid sN; have HM := Lib.hid hm; have HR := Lib.hid hR; have HRW := Lib.hid hRW; have HN := Lib.hid hN
  have CAL := Lib.hid (fun w hm => alive_calls m w hm)
  clear co cs cl hlk ca s0 sN hm hR hRW hN
  go_enter Tryz.func5, Tryz.ntmps5
  go_wp2_with fail
  with_reducible refine CO.out.mono ?_
  clear CO
  rintro e w1 (⟨her, rfl, hx1⟩ | ⟨rfl, WA, TA, E, B, D, wc, tc, ec, bc, dc, rfl, hr1, hx1⟩)
  · go_upto_region 2 with fail
    generalize hW : World.alloc w1 _ = W1
    have hx := hx1.trans (ext_of_alloc hW)
    generalize w1.heap.size = g at *
    clear hW hx1
    have h' : (((er : Nat) : Int) != 0) = true := by simp; omega
    have cal := CAL.out W1 (ecell HM.out hx)
    go_wp2_with fail
    with_reducible refine cal.mono ?_
    rintro e w2 ⟨rfl, hx2⟩
    go_wp2_with fail
    go_ret
    exact ⟨rfl, hx.trans hx2⟩
  · go_upto_region 2 with fail
    generalize hW : World.alloc w1 _ = W1
    have bx := bk_of hW
    have hx := hx1.trans (ext_of_alloc hW)
    have hr := HR.out _ _ _ _ _ _ _ _ _ _ _ _ (ext_of_alloc hW) hr1
    generalize w1.heap.size = g at *
    clear hW hx1 hr1
    have cal := CAL.out W1 (ecell HM.out hx)
    go_wp2_with fail
    with_reducible refine cal.mono ?_
    rintro e w2 ⟨rfl, hx2⟩
    have hr2 := HR.out _ _ _ _ _ _ _ _ _ _ _ _ hx2 hr
    have bx2 := bx.ext hx2
    have hx02 := hx.trans hx2
    have cs := CS.out (by trivial) _ _ _ _ _ _ _ _ _ _ w2 hr2
    clear cal bx hx hx2 hr CAL
    have z0 := bx2.cell 0
    have z1 := bx2.cell 1
    go_wp2_with fail
    with_reducible refine cs.mono ?_
    rintro e w3 (⟨rfl, P, p, rfl, hP, hx3⟩ | ⟨rfl, rfl, hx3⟩)
    · have hr3 := HR.out _ _ _ _ _ _ _ _ _ _ _ _ hx3 hr2
      have bx3 := bx2.ext hx3
      have hx03 := hx02.trans hx3
      clear z0 z1 cs bx2 hr2 hx3 hP hx02
      go_upto_region 8 with fail
      generalize hW4 : World.alloc w3 _ = W4
      have bp := bk_of hW4
      have hx34 := ext_of_alloc hW4
      have hr4 := HR.out _ _ _ _ _ _ _ _ _ _ _ _ hx34 hr3
      have bx4 := bx3.ext hx34
      obtain ⟨hw4, hn4⟩ := HRW.out _ _ _ _ _ _ _ _ _ _ _ hr4
      have cw := words_calls W WA TA wc n1 tc W4 (by rw [HN.out]; omega) hn4 hw4
      rw [HN.out] at cw
      have hpl := bp.lt
      have hpg : w3.heap.size ≤ w3.heap.size := Nat.le_refl _
      obtain ⟨pB, hpB⟩ : ∃ pB, w3.heap.size = pB := ⟨_, rfl⟩
      rw [hpB] at bp hpl
      have hpg : w3.heap.size ≤ pB := by omega
      have z0 := bx4.cell 0
      have z1 := bx4.cell 1
      simp only [hpB]
      clear hW4 hw4 hn4 hr4 hpB
      go_wp2_with fail
      with_reducible refine cw.mono ?_
      rintro e w5 ⟨A, c, rfl, hA, hx5, hge⟩
      have bp5 := bp.ext hx5
      have hx35 := hx34.trans hx5
      have HNE : Hid (∀ b o, A = some ⟨b, o, none⟩ → b ≠ pB) := fun b o h q => by have := hge b o h; omega
      have BP : Hid (Bk w5 pB 45 #[.int .i64 (sm 0).1, .int .i64 (sm 0).2]) := by
        show Bk _ _ _ _
        rw [S0.out]; exact bp5
      have HA : Hid (Rd w5 A (N + 1) (fun k => str (nth ([10] :: W) k))) := by
        show Rd _ _ _ _
        rw [← HN.out]; exact hA
      have HR3 := Lib.hid hr3
      have BX3 := Lib.hid bx3
      clear z0 z1 cw bp bx4 hx34 hA hge hpl bp5 hx5 hr3 bx3 HN S0
      go_wp2_with fail
      go_loopw [40] (fun vi wr => ∃ i : Nat, vi = .int .i64 i ∧ i ≤ N + 1 ∧ Hid (Bk wr pB 45 #[.int .i64 (sm i).1, .int .i64 (sm i).2]) ∧ Hid (Rd wr A (N + 1) (fun k => str (nth ([10] :: W) k))) ∧ Ext w3 wr) (fun vi _ => N + 1 - (intOf vi).toNat)
      case atStart => exact ⟨0, rfl, Nat.zero_le _, BP, HA, hx35⟩
      case round => as_aux_lemma =>
        clear BP HA hx35
        obtain ⟨i, rfl, hi, BP, HA, hxr⟩ := hrel
        by_cases gi : i < N + 1
        · obtain ⟨bA, oA, rfl, hbA, hcA⟩ := HA.out (by omega)
          have hne := HNE.out bA oA rfl
          have p1 := hcA i gi
          dsimp only at p1
          have hrr := HR.out _ _ _ _ _ _ _ _ _ _ _ _ hxr HR3.out
          have cl := CL.out (by trivial) (by trivial) i (by omega) _ _ _ _ _ _ _ _ _ _ wr hrr
          have hok := HLK.out (by trivial) (by trivial) i (by omega)
          have ca := CA.out (by trivial) (by trivial) i (by omega)
          have bxr := BX3.out.ext hxr
          obtain ⟨S, hS⟩ : ∃ S, sm i = S := ⟨_, rfl⟩
          obtain ⟨F, hF⟩ : ∃ F, lk i = F := ⟨_, rfl⟩
          obtain ⟨y, hy⟩ : ∃ y, nth ([10] :: W) i = y := ⟨_, rfl⟩
          rw [hy, hF] at cl
          rw [hF] at hok
          rw [hS, hF] at ca
          rw [hS] at BP
          rw [hy] at p1
          have gi' : decide ((i : Int) < (N : Int) + 1) = true := decide_eq_true (by omega)
          have hi2 : decide ((i : Int) < 0) = false := by simp
          clear hS hF hy hcA
          have x0 := bxr.cell 0
          have x1 := bxr.cell 1
          have x2 := bxr.cell 2
          have x3 := bxr.cell 3
          have x4 := bxr.cell 4
          have x5 := bxr.cell 5
          have x6 := bxr.cell 6
          go_wp2_with fail
          with_reducible refine cl.mono ?_
          rintro e w6 ⟨rfl, hx6⟩
          have hxr6 := hxr.trans hx6
          have bp6 := BP.out.ext hx6
          have HA6 := Lib.hid (HA.out.ext hx6)
          clear x0 x1 x2 x3 x4 x5 x6 bxr cl hrr BP HA p1 hxr hx6 hbA
          go_upto_region 12 with fail
          generalize hW7 : World.alloc w6 _ = W7
          have bq := bk_of hW7
          have bp7 := bp6.ext (ext_of_alloc hW7)
          have HA7 := Lib.hid (HA6.out.ext (ext_of_alloc hW7))
          have hxr7 := hxr6.trans (ext_of_alloc hW7)
          generalize w6.heap.size = qB at *
          clear hW7 bp6 HA6 hxr6
          have q0 := bq.cell 0
          have q1 := bq.cell 1
          have p0 := bp7.cell 0
          have p1 := bp7.cell 1
          have g0 : ¬ F.1 = 0 := by omega
          have g1 : decide ((F.1 : Int) < 1) = false := decide_eq_false (by omega)
          have g2 : decide ((F.2 : Int) < (F.1 : Int)) = false := decide_eq_false (by omega)
          have g3 : ¬ F.2 < F.1 := by omega
          by_cases k1 : 1073741824 < S.2
          · have k1' : decide ((1073741824 : Int) < (S.2 : Int)) = true := decide_eq_true (by omega)
            clear ca k1 hok
            go_wp2_with fail
            go_ret
            exact ⟨rfl, hx03.trans hxr7⟩
          · have k1' : decide ((1073741824 : Int) < (S.2 : Int)) = false := decide_eq_false (by omega)
            by_cases k2 : 1073741824 < F.2
            · have k2' : decide ((1073741824 : Int) < (F.2 : Int)) = true := decide_eq_true (by omega)
              clear ca k1 k2 hok
              go_wp2_with fail
              go_ret
              exact ⟨rfl, hx03.trans hxr7⟩
            · have k2' : decide ((1073741824 : Int) < (F.2 : Int)) = false := decide_eq_false (by omega)
              have ca := ca (by omega) (by omega) W7
              unfold RetPart at ca
              clear k1 k2 hok
              go_wp2_with fail
              with_reducible refine ca.mono ?_
              rintro e w8 ⟨rfl, hx8⟩
              have bp8 := bp7.ext hx8
              have HA8 := Lib.hid (HA7.out.ext hx8)
              have hxr8 := hxr7.trans hx8
              clear q0 q1 p0 p1 bq bp7 HA7 hxr7 ca
              have p0 := bp8.cell 0
              have p1 := bp8.cell 1
              have p2 := bp8.frozen 0
              have p3 := bp8.frozen 1
              go_wp2_with fail
              refine ⟨⟨i + 1, by go_num, by omega, ?_, ?_, ?_⟩, by simp [intOf]; omega⟩
              · exact bk2G bp8
              · exact rd_sto (rd_sto HA8.out (fun _ b o h => by injection h with h; injection h with h1 h2; subst h1; exact hne) _ _) (fun _ b o h => by injection h with h; injection h with h1 h2; subst h1; exact hne) _ _
              · exact ext2G hxr8 hpg _ _
        · obtain rfl : i = N + 1 := by omega
          have bp := BP.out
          rw [SN.out (by trivial) (by trivial)] at bp
          have p0 := bp.cell 0
          have p1 := bp.cell 1
          have gi' : decide ((((N + 1 : Nat) : Int)) < (N : Int) + 1) = false := decide_eq_false (by omega)
          clear BP HA
          go_wp2_with fail
          go_ret
          exact ⟨rfl, hx03.trans hxr⟩
    · clear z0 z1 cs
      go_wp2_with fail
      go_ret
      exact ⟨rfl, hx02.trans hx3⟩
theorem tsum_calls (s ws : List UInt8) (hs : s.length + ws.length ≤ 1048576) (m : Int) (w : World) (hm : w.cell? ⟨0, 0, none⟩ = some (.int .i64 m)) :
    Calls Tryz.prog 5 #[str s, str ws] w fun e w' => e = .returned (.bool true) ∧ Ext w w' := by
  have hws : ws.length ≤ 16777216 := by omega
  have hN4 : (errF s = 0) → (wordsF s).length ≤ 4096 := fun h => by have := swords_le h; omega
  by_cases h : errF s = 0
  · refine tsum_walk s ws (wordsF s) (decide (inB s ws)) (errF s) m w hm (wordsF s).length (bT s).length ((wordsF s).length + 3) (sgI s ws).length rfl (hN4 h) (lkA s ws) (smF s ws) (ShQ m s) (SgR s ws) ShQ.ext (fun _ _ _ _ _ _ _ _ _ _ _ r => ⟨r.2.wd, r.2.wnone⟩) (open_O s (by omega) m w hm) ?_ ?_ ?_ ?_ (smF_zero ws) ?_
    · intro h WA TA E B D wc tc ec bc dc w r
      exact ssigns_calls h ws hws m w r
    · intro h hb i hi WA TA E B D wc tc ec bc dc w r
      have h1 := slikely_calls h ws hws m (wrdF s i) (by have := wrd_len h hi; omega) w r
      obtain ⟨e1, e2⟩ := wrd_lk (of_decide_eq_true hb) hi
      rw [e1, e2] at h1
      rw [wrd_nth]
      exact h1
    · intro _ _ i hi
      exact lkA_ok ws hi
    · intro _ _ i hi h1 h2 w
      rw [smF_succ ws hi]
      obtain ⟨k1, k2⟩ := smF_ok ws (s := s) (i := i) (by omega)
      obtain ⟨k3, k4⟩ := lkA_ok ws hi
      refine gadd_calls _ _ ?_ ?_ ?_ w
      · have a1 : (smF s ws i).1 * (lkA s ws i).2 ≤ 1073741824 * 1073741824 := Nat.mul_le_mul (by omega) h2
        have a2 : (lkA s ws i).1 * (smF s ws i).2 ≤ 1073741824 * 1073741824 := Nat.mul_le_mul (by omega) h1
        omega
      · have a1 : (smF s ws i).2 * (lkA s ws i).2 ≤ 1073741824 * 1073741824 := Nat.mul_le_mul h1 h2
        omega
      · exact Nat.mul_pos k2 (by omega)
    · intro _ _
      exact smF_one ws
  · refine tsum_walk s ws [] (decide (inB s ws)) (errF s) m w hm 0 (bT s).length ((wordsF s).length + 3) (sgI s ws).length rfl (by omega) (lkA s ws) (fun _ => (0, 1)) (fun _ _ _ _ _ _ _ _ _ _ _ => False) (SgR s ws) (fun _ _ _ _ _ _ _ _ _ _ _ _ _ r => r) (fun _ _ _ _ _ _ _ _ _ _ _ r => r.elim) ?_ (fun h' => absurd h' h) (fun h' => absurd h' h) (fun h' => absurd h' h) (fun h' => absurd h' h) rfl (fun h' => absurd h' h)
    refine (open_O s (by omega) m w hm).mono ?_
    rintro e w' (⟨h1, h2, h3⟩ | ⟨h1, _⟩)
    · exact Or.inl ⟨h1, h2, h3⟩
    · exact absurd h1 h

section
open Go.ChangeShapes Go.WideShapes Go.ChangeAt Go.ChangeMaps
variable {H : Type} {enc : TypeId × Value → H} {W : World}
set_option maxRecDepth 100000 in
theorem topSums_calls {r : Reach} {base : Nat} {v0 v1 : Value} {d0 d1 : DataW H} {p0 p1 : List MemPlace} (hsh : W.ShapedOpen Tryz.prog) (hk : Rows.uptoSmall H ([d0, d1] ++ []) = true)
    (_hsz : (DataW.weightsEach Tryz.prog [9, 9] [d0, d1]).all (· ≤ reachBytes) = true)
    (hv0 : Value.okWide Tryz.prog W r base 9 v0) (h0 : DataW.Trod enc Tryz.prog W 0 (fun _ => true) true 9 v0 d0 p0)
    (hv1 : Value.okWide Tryz.prog W r base 9 v1) (h1 : DataW.Trod enc Tryz.prog W 0 (fun _ => true) true 9 v1 d1 p1) :
    Calls Tryz.prog 5 #[v0, v1] W fun e w' => e = .returned (.bool true) ∧ Ext W w' := by
  obtain ⟨a, b, rfl, rfl, hl⟩ := open_two hk hv0 h0 hv1 h1
  obtain ⟨m, hm⟩ := Tryz.laysM146.s1_3 W hsh
  exact tsum_calls a b hl m W hm
end
end Go.Proofs.YtjfdlibceldanabGreatDoor
