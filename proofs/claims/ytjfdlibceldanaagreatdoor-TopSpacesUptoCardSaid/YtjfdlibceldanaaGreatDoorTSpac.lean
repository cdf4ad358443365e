/- TopSpaces: more spaces change nothing; the law's walk. -/
import Derived.Test.YtjfdlibceldanaaGreatDoorShO
import Derived.Test.YtjfdlibceldanaaGreatDoorUpB
namespace Go.Proofs.YtjfdlibceldanaaGreatDoor
open Go.RowKit Go.Sort Tx En Wv Gu

/-! ### Plain -/
def dbl (b : UInt8) : List UInt8 := if b = 32 then [32, 32] else [b]
theorem spl_dbl : ∀ u : List UInt8, spl 10 (u.flatMap dbl) = (spl 10 u).map fun l => l.flatMap dbl
  | [] => rfl
  | b :: t => by
    have ih := spl_dbl t
    obtain ⟨p, r, h⟩ := spl_form 10 t
    rw [h, List.map_cons] at ih
    rw [List.flatMap_cons]
    by_cases g : b = 32
    · subst g
      rw [show dbl 32 = [32, 32] from rfl]
      simp only [List.cons_append, List.nil_append]
      rw [spl, if_neg (by decide), spl, if_neg (by decide), ih, spl, if_neg (by decide), h]
      simp [dbl]
    · have e : dbl b = [b] := by unfold dbl; rw [if_neg g]
      rw [e]
      simp only [List.cons_append, List.nil_append]
      by_cases g2 : b = 10
      · subst g2
        rw [spl, if_pos rfl, ih, spl, if_pos rfl, h]; rfl
      · rw [spl, if_neg g2, ih, spl, if_neg g2, h]
        simp [e]
theorem fl_dbl : ∀ (u cur : List UInt8), fl cur (u.flatMap dbl) = fl cur u
  | [], _ => rfl
  | b :: t, cur => by
    rw [List.flatMap_cons]
    by_cases g : b = 32
    · subst g
      rw [show dbl 32 = [32, 32] from rfl]
      simp only [List.cons_append, List.nil_append]
      rw [fl_sp, fl_sp, fl_sp, if_pos rfl, fl_dbl t []]
    · have e : dbl b = [b] := by unfold dbl; rw [if_neg g]
      rw [e]
      simp only [List.cons_append, List.nil_append]
      rw [fl, if_neg g, fl, if_neg g, fl_dbl t]
theorem suffix_no {s : List UInt8} (h : ∀ u, s ≠ u ++ [10]) : Lib.trimSuffix s [10] = s := by
  unfold Lib.trimSuffix
  rw [if_neg]
  unfold Lib.hasSuffix
  intro q
  obtain ⟨u, hu⟩ := List.isSuffixOf_iff_suffix.1 q
  exact h u hu.symm
theorem dbl_last (s : List UInt8) (h : ∀ u, s ≠ u ++ [10]) : ∀ u, s.flatMap dbl ≠ u ++ [10] := by
  intro u q
  rcases List.eq_nil_or_concat s with rfl | ⟨v, b, hvb⟩
  · simp at q
  · rw [List.concat_eq_append] at hvb
    subst hvb
    rw [List.flatMap_append, List.flatMap_singleton] at q
    by_cases g : b = 32
    · subst g
      rw [show dbl 32 = [32] ++ [32] from rfl, ← List.append_assoc] at q
      have := (List.append_inj' q rfl).2
      cases this
    · have e : dbl b = [b] := by unfold dbl; rw [if_neg g]
      rw [e] at q
      have := (List.append_inj' q rfl).2
      injection this with h1 _
      subst h1
      exact h v rfl
theorem suffix_dbl (s : List UInt8) : Lib.trimSuffix (s.flatMap dbl) [10] = (Lib.trimSuffix s [10]).flatMap dbl := by
  by_cases h : ∃ u, s = u ++ [10]
  · obtain ⟨u, rfl⟩ := h
    rw [List.flatMap_append, show ([10] : List UInt8).flatMap dbl = [10] from rfl, suffix_last, suffix_last]
  · have h' : ∀ u, s ≠ u ++ [10] := fun u q => h ⟨u, q⟩
    rw [suffix_no h', suffix_no (dbl_last s h')]
theorem lines_dbl (s : List UInt8) : linesF (s.flatMap dbl) = linesF s := by
  unfold linesF
  rw [suffix_dbl, spl_dbl, List.map_map]
  refine List.map_congr_left fun l _ => ?_
  exact fl_dbl l []
theorem dbl_len : ∀ s : List UInt8, (s.flatMap dbl).length ≤ 2 * s.length
  | [] => by simp
  | b :: t => by
    rw [List.flatMap_cons, List.length_append, List.length_cons]
    have := dbl_len t
    have : (dbl b).length ≤ 2 := by unfold dbl; split <;> simp
    omega
theorem same_words {s t : List UInt8} (h : linesF t = linesF s) : wordsF t = wordsF s := by unfold wordsF; rw [h]
theorem same_bT {s t : List UInt8} (h : linesF t = linesF s) : bT t = bT s := by unfold bT; rw [same_words h, h]
theorem same_in {s t ws wt : List UInt8} (h : linesF t = linesF s) (hw : toks wt = toks ws) : inB t wt ↔ inB s ws := by unfold inB; rw [same_words h, hw]
theorem same_sg {s t ws wt : List UInt8} (h : linesF t = linesF s) (hw : toks wt = toks ws) : sgI t wt = sgI s ws := by rw [sgI_def, sgI_def, same_words h, hw]
theorem same_cnt {s t ws wt : List UInt8} (h : linesF t = linesF s) (hw : toks wt = toks ws) : cntF t wt = cntF s ws := by
  unfold cntF
  rw [same_bT h, same_sg h hw]
  by_cases g : inB s ws
  · rw [if_pos g, if_pos ((same_in h hw).2 g)]
  · rw [if_neg g, if_neg fun q => g ((same_in h hw).1 q)]
theorem same_best {s t ws wt : List UInt8} (h : linesF t = linesF s) (hw : toks wt = toks ws) : bestF t wt = bestF s ws := by
  unfold bestF lkA
  rw [same_words h, same_bT h, same_sg h hw]
theorem same_gs {s t ws wt : List UInt8} (h : linesF t = linesF s) (hw : toks wt = toks ws) : gsF t wt = gsF s ws ∧ gsE t wt = gsE s ws := by
  unfold gsF gsE
  rw [same_best h hw, same_words h]
  by_cases g : inB s ws
  · have g' := (same_in h hw).2 g
    rw [if_pos g, if_pos g', if_pos g, if_pos g']; exact ⟨rfl, rfl⟩
  · have g' : ¬ inB t wt := fun q => g ((same_in h hw).1 q)
    rw [if_neg g, if_neg g', if_neg g, if_neg g']; exact ⟨rfl, rfl⟩
theorem replaceS_calls (s : List UInt8) (m : Int) (w : World) (hs : s.length ≤ 16777216) (hm : w.cell? ⟨0, 0, none⟩ = some (.int .i64 m)) :
    Calls Tryz.prog 8 #[str s, .string ⟨#[32]⟩, .string ⟨#[32, 32]⟩] w fun e w' => e = .returned (str (s.flatMap dbl)) ∧ Ext w w' := by
  have hc : Lib.countB ⟨s.toArray⟩ ⟨#[32]⟩ ≤ s.length := Lib.countB_le ⟨#[32]⟩ (by decide) _ ⟨s.toArray⟩ (Nat.le_refl _)
  have h := Tryz.strings_ReplaceAll ⟨s.toArray⟩ ⟨#[32]⟩ ⟨#[32, 32]⟩ m w (by show s.length < _; omega) hm (by decide) (by
    have : (ByteArray.mk #[32, 32]).size = 2 := rfl
    rw [this]
    show s.length + _ ≤ _
    omega)
  have e : Lib.replaceAll s [32] [32, 32] = s.flatMap dbl := replace_eq 32 [32, 32] (by decide) s
  refine h.mono ?_
  rintro e1 w' ⟨rfl, hb⟩
  refine ⟨?_, hb⟩
  show Ending.returned (str (Lib.replaceAll s [32] [32, 32])) = _
  rw [e]

/-! ### The walk -/
set_option maxHeartbeats 8000000 in
set_option maxRecDepth 100000 in
theorem tspac_walk (s t ws : List UInt8) (hl : ws.length ≤ 1048576) (er et : Nat) (m : Int) (w : World) (hm : w.cell? ⟨0, 0, none⟩ = some (.int .i64 m)) (N n1 m2 N' n1' m2' r ge : Nat) (gs : ByteArray)
    (R R' : World → Option Addr → Option Addr → Option Addr → Option Addr → Option Addr → Nat → Nat → Nat → Nat → Nat → Prop)
    (hR : ∀ w w' a b c d e f g h i j, Ext w w' → R w a b c d e f g h i j → R w' a b c d e f g h i j)
    (hR' : ∀ w w' a b c d e f g h i j, Ext w w' → R' w a b c d e f g h i j → R' w' a b c d e f g h i j)
    (co : Calls Tryz.prog 5 #[str s] w (RetO er N n1 m2 R w))
    (cr : ∀ w, w.cell? ⟨0, 0, none⟩ = some (.int .i64 m) → Calls Tryz.prog 8 #[str s, .string ⟨#[32]⟩, .string ⟨#[32, 32]⟩] w fun e w' => e = .returned (str t) ∧ Ext w w')
    (co' : ∀ w, w.cell? ⟨0, 0, none⟩ = some (.int .i64 m) → Calls Tryz.prog 5 #[str t] w (RetO et N' n1' m2' R' w))
    (cg : er = 0 → et = 0 → ∀ WA TA E B D wc tc ec bc dc w, R w WA TA E B D wc tc ec bc dc → Calls Tryz.prog 9 #[shV WA TA N wc n1 tc E B D m2 ec bc dc, str ws] w fun e w' => e = .returned (.tuple #[.string gs, .int .i64 (ge : Nat)]) ∧ Ext w w')
    (cg' : er = 0 → et = 0 → ∀ WA TA E B D wc tc ec bc dc w, R' w WA TA E B D wc tc ec bc dc → Calls Tryz.prog 9 #[shV WA TA N' wc n1' tc E B D m2' ec bc dc, .string ((ByteArray.mk #[32] ++ ByteArray.mk ws.toArray) ++ ByteArray.mk #[32])] w fun e w' => e = .returned (.tuple #[.string gs, .int .i64 (ge : Nat)]) ∧ Ext w w')
    (cc : er = 0 → et = 0 → ∀ WA TA E B D wc tc ec bc dc w, R w WA TA E B D wc tc ec bc dc → Calls Tryz.prog 7 #[shV WA TA N wc n1 tc E B D m2 ec bc dc, str ws] w fun e w' => e = .returned (.int .i64 r) ∧ Ext w w')
    (cc' : er = 0 → et = 0 → ∀ WA TA E B D wc tc ec bc dc w, R' w WA TA E B D wc tc ec bc dc → Calls Tryz.prog 7 #[shV WA TA N' wc n1' tc E B D m2' ec bc dc, .string ((ByteArray.mk #[32] ++ ByteArray.mk ws.toArray) ++ ByteArray.mk #[32])] w fun e w' => e = .returned (.int .i64 r) ∧ Ext w w') :
    Calls Tryz.prog 4 #[str s, str ws] w fun e w' => e = .returned (.bool true) ∧ Ext w w' := by
  have CO := Lib.hid co; have CR := Lib.hid cr; have CO' := Lib.hid co'; have CG := Lib.hid cg; have CG' := Lib.hid cg'; have CC := Lib.hid cc; have CC' := Lib.hid cc'; have HM := Lib.hid hm; have HR := Lib.hid hR; have HR' := Lib.hid hR'
  have CAL := Lib.hid (fun w hm => alive_calls m w hm)
  clear co cr co' cg cg' cc cc' hm hR hR'
  go_enter Tryz.func4, Tryz.ntmps4
  go_wp2_with fail
  with_reducible refine CO.out.mono ?_
  rintro e w1 (⟨her, rfl, hx1⟩ | ⟨rfl, WA, TA, E, B, D, wc, tc, ec, bc, dc, rfl, hr1, hx1⟩)
  · go_upto_region 2 with fail
    generalize hW : World.alloc w1 _ = W
    have hx := hx1.trans (ext_of_alloc hW)
    generalize w1.heap.size = g at *
    clear hW hx1
    have h' : (((er : Nat) : Int) != 0) = true := by simp; omega
    have cr := CR.out W (ecell HM.out hx)
    go_wp2_with fail
    with_reducible refine cr.mono ?_
    rintro e w2 ⟨rfl, hx2⟩
    have hx02 := hx.trans hx2
    have co' := CO'.out w2 (ecell HM.out hx02)
    clear cr hx2 hx
    go_wp2_with fail
    with_reducible refine co'.mono ?_
    rintro e w3 (⟨het, rfl, hx3⟩ | ⟨rfl, WA, TA, E, B, D, wc, tc, ec, bc, dc, rfl, hr1, hx3⟩)
    all_goals
      go_upto_region 3 with fail
      generalize hW3 : World.alloc w3 _ = W3
      have hx03 := (hx02.trans hx3).trans (ext_of_alloc hW3)
      clear hW3 co'
      have cal := CAL.out W3 (ecell HM.out hx03)
      go_wp2_with fail
      with_reducible refine cal.mono ?_
      rintro e w5 ⟨rfl, hx5⟩
      go_wp2_with fail
      go_ret
      exact ⟨rfl, hx03.trans hx5⟩
  · go_upto_region 2 with fail
    generalize hW : World.alloc w1 _ = W
    have bx := bk_of hW
    have hx := hx1.trans (ext_of_alloc hW)
    have hr := HR.out _ _ _ _ _ _ _ _ _ _ _ _ (ext_of_alloc hW) hr1
    generalize w1.heap.size = g at *
    clear hW hx1 hr1
    have cr := CR.out W (ecell HM.out hx)
    go_wp2_with fail
    with_reducible refine cr.mono ?_
    rintro e w2 ⟨rfl, hx2⟩
    have hx02 := hx.trans hx2
    have bx2 := bx.ext hx2
    have hr2 := HR.out _ _ _ _ _ _ _ _ _ _ _ _ hx2 hr
    have co' := CO'.out w2 (ecell HM.out hx02)
    clear cr hx2 hx bx hr
    go_wp2_with fail
    with_reducible refine co'.mono ?_
    rintro e w3 (⟨het, rfl, hx3⟩ | ⟨rfl, WA', TA', E', B', D', wc', tc', ec', bc', dc', rfl, hr3, hx3⟩)
    · go_upto_region 3 with fail
      generalize hW3 : World.alloc w3 _ = W3
      have hx03 := (hx02.trans hx3).trans (ext_of_alloc hW3)
      have h' : (((et : Nat) : Int) != 0) = true := by simp; omega
      clear hW3 co'
      have cal := CAL.out W3 (ecell HM.out hx03)
      go_wp2_with fail
      with_reducible refine cal.mono ?_
      rintro e w5 ⟨rfl, hx5⟩
      go_wp2_with fail
      go_ret
      exact ⟨rfl, hx03.trans hx5⟩
    · go_upto_region 3 with fail
      generalize hW3 : World.alloc w3 _ = W3
      have hx23 := hx3.trans (ext_of_alloc hW3)
      have hx03 := hx02.trans hx23
      have by3 := bk_of hW3
      have bx3 := bx2.ext hx23
      have hr4 := HR'.out _ _ _ _ _ _ _ _ _ _ _ _ (ext_of_alloc hW3) hr3
      have hr5 := HR.out _ _ _ _ _ _ _ _ _ _ _ _ hx23 hr2
      generalize w3.heap.size = g' at *
      clear hW3 co' bx2 hx3 hr2 hr3 hx23
      have cg := CG.out (by trivial) (by trivial) _ _ _ _ _ _ _ _ _ _ W3 hr5
      have z0 := bx3.cell 0
      have z1 := bx3.cell 1
      have z2 := bx3.cell 2
      have z3 := bx3.cell 3
      have z4 := bx3.cell 4
      have z5 := bx3.cell 5
      have z6 := bx3.cell 6
      go_wp2_with fail
      with_reducible refine cg.mono ?_
      rintro e w4 ⟨rfl, hx4⟩
      have by4 := by3.ext hx4
      have bx4 := bx3.ext hx4
      have hr6 := HR'.out _ _ _ _ _ _ _ _ _ _ _ _ hx4 hr4
      have hr7 := HR.out _ _ _ _ _ _ _ _ _ _ _ _ hx4 hr5
      have hx04 := hx03.trans hx4
      clear z0 z1 z2 z3 z4 z5 z6 cg bx3 by3 hr4 hr5 hx4 hx03
      have cg' := CG'.out (by trivial) (by trivial) _ _ _ _ _ _ _ _ _ _ w4 hr6
      have z0 := by4.cell 0
      have z1 := by4.cell 1
      have z2 := by4.cell 2
      have z3 := by4.cell 3
      have z4 := by4.cell 4
      have z5 := by4.cell 5
      have z6 := by4.cell 6
      go_wp2_with fail
      with_reducible refine cg'.mono ?_
      rintro e w5 ⟨rfl, hx5⟩
      have by5 := by4.ext hx5
      have bx5 := bx4.ext hx5
      have hr8 := HR'.out _ _ _ _ _ _ _ _ _ _ _ _ hx5 hr6
      have hr9 := HR.out _ _ _ _ _ _ _ _ _ _ _ _ hx5 hr7
      have hx05 := hx04.trans hx5
      clear z0 z1 z2 z3 z4 z5 z6 cg' bx4 by4 hr6 hr7 hx5 hx04
      have cc := CC.out (by trivial) (by trivial) WA TA E B D wc tc ec bc dc
      have cc' := CC'.out (by trivial) (by trivial) WA' TA' E' B' D' wc' tc' ec' bc' dc'
      have HCC := Lib.hid cc; have HCC' := Lib.hid cc'
      clear cc cc'
      have z0 := bx5.cell 0
      have z1 := bx5.cell 1
      have z2 := bx5.cell 2
      have z3 := bx5.cell 3
      have z4 := bx5.cell 4
      have z5 := bx5.cell 5
      have z6 := bx5.cell 6
      have y0 := by5.cell 0
      have y1 := by5.cell 1
      have y2 := by5.cell 2
      have y3 := by5.cell 3
      have y4 := by5.cell 4
      have y5 := by5.cell 5
      have y6 := by5.cell 6
      go_upto_region 7 with fail
      have hcur : Ext w5 w5.drew := (Ext.refl w5).drew
      have hc1 : ¬ (9223372036854775807 < 1 + ws.length) := by omega
      have hc2 : ¬ (9223372036854775807 < 1 + ws.length + 1) := by omega
      clear bx5 by5
      go_region_held3 (fun w' => w'.cell? ⟨g, 0, none⟩ = some (.slice WA N wc) ∧ w'.cell? ⟨g, 1, none⟩ = some (.slice TA n1 tc) ∧ w'.cell? ⟨g, 2, none⟩ = some (.slice E n1 ec) ∧ w'.cell? ⟨g, 3, none⟩ = some (.int .i64 n1) ∧ w'.cell? ⟨g, 4, none⟩ = some (.int .i64 10) ∧ w'.cell? ⟨g, 5, none⟩ = some (.slice B 10 bc) ∧ w'.cell? ⟨g, 6, none⟩ = some (.slice D m2 dc) ∧ w'.cell? ⟨g', 0, none⟩ = some (.slice WA' N' wc') ∧ w'.cell? ⟨g', 1, none⟩ = some (.slice TA' n1' tc') ∧ w'.cell? ⟨g', 2, none⟩ = some (.slice E' n1' ec') ∧ w'.cell? ⟨g', 3, none⟩ = some (.int .i64 n1') ∧ w'.cell? ⟨g', 4, none⟩ = some (.int .i64 10) ∧ w'.cell? ⟨g', 5, none⟩ = some (.slice B' 10 bc') ∧ w'.cell? ⟨g', 6, none⟩ = some (.slice D' m2' dc'))
        (first | (exact ⟨ecell z0 hcur, ecell z1 hcur, ecell z2 hcur, ecell z3 hcur, ecell z4 hcur, ecell z5 hcur, ecell z6 hcur, ecell y0 hcur, ecell y1 hcur, ecell y2 hcur, ecell y3 hcur, ecell y4 hcur, ecell y5 hcur, ecell y6 hcur⟩) | go_keep)
        (first
          | (go_at_call 7; with_reducible refine (HCC.out _ (HR.out _ _ _ _ _ _ _ _ _ _ _ _ hcur hr9)).mono ?_; rintro e wn ⟨rfl, hxn⟩; replace hcur := hcur.trans hxn)
          | (go_at_call 7; with_reducible refine (HCC'.out _ (HR'.out _ _ _ _ _ _ _ _ _ _ _ _ hcur hr8)).mono ?_; rintro e wn ⟨rfl, hxn⟩; replace hcur := hcur.trans hxn)
          | (go_at_call 6; with_reducible refine (CAL.out _ (ecell HM.out (hx05.trans hcur))).mono ?_; rintro e wn ⟨rfl, hxn⟩; replace hcur := hcur.trans hxn))
      all_goals
        go_wp2_with fail
        go_ret
        exact ⟨rfl, hx05.trans hcur⟩
theorem tspac_calls (s ws : List UInt8) (hs : s.length + ws.length ≤ 1048576) (m : Int) (w : World) (hm : w.cell? ⟨0, 0, none⟩ = some (.int .i64 m)) :
    Calls Tryz.prog 4 #[str s, str ws] w fun e w' => e = .returned (.bool true) ∧ Ext w w' := by
  have hL := lines_dbl s
  have ht := toks_sp ws
  have hdl := dbl_len s
  have hgs := same_gs hL ht
  refine tspac_walk s (s.flatMap dbl) ws (by omega) (errF s) (errF (s.flatMap dbl)) m w hm (wordsF s).length (bT s).length ((wordsF s).length + 3) (wordsF (s.flatMap dbl)).length (bT (s.flatMap dbl)).length ((wordsF (s.flatMap dbl)).length + 3)
    (cntF s ws) (gsE s ws) ⟨(gsF s ws).toArray⟩ (ShQ m s) (ShQ m (s.flatMap dbl)) ShQ.ext ShQ.ext ?_ ?_ ?_ ?_ ?_ ?_ ?_
  · exact open_O s (by omega) m w hm
  · intro w hm
    exact replaceS_calls s m w (by omega) hm
  · intro w hm
    exact open_O _ (by omega) m w hm
  · intro h _ WA TA E B D wc tc ec bc dc w r
    exact sguess_calls h ws (by omega) m w r
  · intro _ h' WA TA E B D wc tc ec bc dc w r
    rw [cat_sp, ← hgs.1, ← hgs.2]
    exact sguess_calls h' (32 :: (ws ++ [32])) (by simp; omega) m w r
  · intro h _ WA TA E B D wc tc ec bc dc w r
    exact scount_calls h ws (by omega) m w r
  · intro _ h' WA TA E B D wc tc ec bc dc w r
    rw [cat_sp, ← same_cnt hL ht]
    exact scount_calls h' (32 :: (ws ++ [32])) (by simp; omega) m w r

section
open Go.ChangeShapes Go.WideShapes Go.ChangeAt Go.ChangeMaps
variable {H : Type} {enc : TypeId × Value → H} {W : World}
set_option maxRecDepth 100000 in
theorem topSpaces_calls {r : Reach} {base : Nat} {v0 v1 : Value} {d0 d1 : DataW H} {p0 p1 : List MemPlace} (hsh : W.ShapedOpen Tryz.prog) (hk : Rows.uptoSmall H ([d0, d1] ++ []) = true)
    (_hsz : (DataW.weightsEach Tryz.prog [9, 9] [d0, d1]).all (· ≤ reachBytes) = true)
    (hv0 : Value.okWide Tryz.prog W r base 9 v0) (h0 : DataW.Trod enc Tryz.prog W 0 (fun _ => true) true 9 v0 d0 p0)
    (hv1 : Value.okWide Tryz.prog W r base 9 v1) (h1 : DataW.Trod enc Tryz.prog W 0 (fun _ => true) true 9 v1 d1 p1) :
    Calls Tryz.prog 4 #[v0, v1] W fun e w' => e = .returned (.bool true) ∧ Ext W w' := by
  obtain ⟨a, b, rfl, rfl, hl⟩ := open_two hk hv0 h0 hv1 h1
  obtain ⟨m, hm⟩ := Tryz.laysM146.s1_3 W hsh
  exact tspac_calls a b hl m W hm
end
end Go.Proofs.YtjfdlibceldanaaGreatDoor
