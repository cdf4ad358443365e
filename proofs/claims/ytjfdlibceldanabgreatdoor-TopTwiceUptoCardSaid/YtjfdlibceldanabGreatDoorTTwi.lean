/- TopTwice: the law's walk. -/
import Derived.Test.YtjfdlibceldanabGreatDoorTTwP
import Derived.Test.YtjfdlibceldanabGreatDoorUpB
namespace Go.Proofs.YtjfdlibceldanabGreatDoor
open Go.RowKit Go.Sort Tx En Wv Gu

set_option maxHeartbeats 8000000 in
set_option maxRecDepth 100000 in
theorem ttwi_walk (s s1 ws : List UInt8) (hs : s.length ≤ 1048576) (hs1 : s1.length ≤ 1048577) (h1 : s1 = if Lib.hasSuffix s [10] = true then s else s ++ [10]) (b : Bool) (L er et : Nat) (sg : List Int) (hsg : sg.length = L) (hL : L ≤ 100000000) (m : Int) (w : World) (hm : w.cell? ⟨0, 0, none⟩ = some (.int .i64 m)) (N n1 m2 N' n1' m2' r r' : Nat) (hr4 : r ≤ 4096)
    (R R' : World → Option Addr → Option Addr → Option Addr → Option Addr → Option Addr → Nat → Nat → Nat → Nat → Nat → Prop) (RP : World → Option Addr → Nat → Prop)
    (hR : ∀ w w' a b c d e f g h i j, Ext w w' → R w a b c d e f g h i j → R w' a b c d e f g h i j)
    (hR' : ∀ w w' a b c d e f g h i j, Ext w w' → R' w a b c d e f g h i j → R' w' a b c d e f g h i j)
    (hRP : ∀ w P p, RP w P p → Rd w P L (fun k => .int .i64 (nth sg k)))
    (co : ∀ w, w.cell? ⟨0, 0, none⟩ = some (.int .i64 m) → Calls Tryz.prog 9 #[str s1] w (RetO er N n1 m2 R w))
    (co' : ∀ w, w.cell? ⟨0, 0, none⟩ = some (.int .i64 m) → Calls Tryz.prog 9 #[.string (ByteArray.mk s1.toArray ++ ByteArray.mk s1.toArray)] w (RetO et N' n1' m2' R' w))
    (cno : ∀ w, w.cell? ⟨0, 0, none⟩ = some (.int .i64 m) → Calls Tryz.prog 10 #[noBook, str ws] w fun e w' => ∃ (b : Bool) (P : Option Addr) (L p : Nat), e = .returned (.tuple #[.slice P L p, .bool b]) ∧ Ext w w')
    (cs : er = 0 → ∀ WA TA E B D wc tc ec bc dc w, R w WA TA E B D wc tc ec bc dc → Calls Tryz.prog 10 #[bookV WA TA N wc n1 tc, str ws] w (SgRet b L RP w))
    (cc : er = 0 → et = 0 → b = true → ∀ WA TA E B D wc tc ec bc dc w, R w WA TA E B D wc tc ec bc dc → Calls Tryz.prog 12 #[shV WA TA N wc n1 tc E B D m2 ec bc dc, str ws] w fun e w' => e = .returned (.int .i64 r) ∧ Ext w w')
    (cc' : er = 0 → et = 0 → b = true → ∀ WA TA E B D wc tc ec bc dc w, R' w WA TA E B D wc tc ec bc dc → Calls Tryz.prog 12 #[shV WA TA N' wc n1' tc E B D m2' ec bc dc, str ws] w fun e w' => e = .returned (.int .i64 r') ∧ Ext w w')
    (hrr : er = 0 → et = 0 → b = true → 0 < L → (∀ k, k + 1 < L → nth sg k ≠ 1) → r' = 2 * r) :
    Calls Tryz.prog 3 #[str s, str ws] w fun e w' => e = .returned (.bool true) ∧ Ext w w' := by
  have cH := fun w => Tryz.strings_HasSuffix ⟨s.toArray⟩ ⟨#[10]⟩ w (by show s.length ≤ _; omega)
  have cH' : ∀ w, Calls Tryz.prog 8 #[str s, .string ⟨#[10]⟩] w fun e w' => e = .returned (.bool (Lib.hasSuffix s [10])) ∧ w' = w := cH
  have CO := Lib.hid co; have CO' := Lib.hid co'; have CNO := Lib.hid cno; have CS := Lib.hid cs; have CC := Lib.hid cc; have CC' := Lib.hid cc'; have HM := Lib.hid hm; have HR := Lib.hid hR; have HR' := Lib.hid hR'; have HRP := Lib.hid hRP; have HRR := Lib.hid hrr; have CH := Lib.hid cH'; have HSG := Lib.hid hsg
  have CAL := Lib.hid (fun w hm => alive_calls m w hm)
  have H1 := Lib.hid h1
  clear co co' cno cs cc cc' hm hR hR' hRP hrr cH cH' hsg h1
  go_enter Tryz.func3, Tryz.ntmps3
  go_upto_region 1 with fail
  go_cut [15] (fun v w' => v = .bool (!(Lib.hasSuffix s [10])) ∧ w' = w)
  case first => as_aux_lemma =>
    have ch := CH.out w
    clear H1
    generalize Lib.hasSuffix s [10] = q at *
    go_wp2_with fail
    with_reducible refine ch.mono ?_
    rintro e w1 ⟨rfl, rfl⟩
    go_wp2_with fail
    go_meet
    exact ⟨rfl, rfl⟩
  case rest =>
  obtain ⟨rfl, rfl⟩ := hcut
  go_upto_if 15 with fail
  obtain ⟨W0, rfl⟩ : ∃ W, W = wc := ⟨_, rfl⟩
  go_cut [0] (fun v0 w' => v0 = str s1 ∧ w' = W0)
  case first => as_aux_lemma =>
    cases hsuf : Lib.hasSuffix s [10] with
    | true =>
      have e1 : s1 = s := by rw [H1.out, if_pos hsuf]
      clear hsuf H1
      subst e1
      go_wp2_with fail
      go_meet
      exact ⟨rfl, rfl⟩
    | false =>
      have e1 : ByteArray.mk s.toArray ++ ByteArray.mk #[10] = ByteArray.mk s1.toArray := by
        rw [show (ByteArray.mk #[10]) = ⟨([10] : List UInt8).toArray⟩ from rfl, cat_str2, H1.out, if_neg (by rw [hsuf]; decide)]
      clear hsuf H1
      go_wp2_with fail
      go_meet
      exact ⟨rfl, rfl⟩
  case rest =>
  obtain ⟨rfl, rfl⟩ := hcut
  clear H1 CH
  have co := CO.out wc HM.out
  go_wp2_with fail
  with_reducible refine co.mono ?_
  clear co
  rintro e w1 (⟨her, rfl, hx1⟩ | ⟨rfl, WA, TA, E, B, D, wc', tc, ec, bc, dc, rfl, hr1, hx1⟩)
  · go_upto_region 4 with fail
    generalize hW : World.alloc w1 _ = W
    have bx := bk_of hW
    have hx := hx1.trans (ext_of_alloc hW)
    generalize w1.heap.size = g at *
    clear hW hx1
    have h' : (((er : Nat) : Int) != 0) = true := by simp; omega
    have co' := CO'.out W (ecell HM.out hx)
    go_wp2_with fail
    with_reducible refine co'.mono ?_
    rintro e w3 (⟨het, rfl, hx3⟩ | ⟨rfl, WA, TA, E, B, D, wc', tc, ec, bc, dc, rfl, hr1, hx3⟩)
    all_goals
      go_upto_region 5 with fail
      generalize hW3 : World.alloc w3 _ = W3
      have hxa := hx3.trans (ext_of_alloc hW3)
      have hx03 := hx.trans hxa
      have bx3 := bx.ext hxa
      clear hW3 co' bx
      have z0 := bx3.cell 0
      have z1 := bx3.cell 1
      have cno := CNO.out W3 (ecell HM.out hx03)
      go_wp2_with fail
      with_reducible refine cno.mono ?_
      rintro e w4 ⟨b4, P4, L4, p4, rfl, hx4⟩
      have cal := CAL.out w4 (ecell HM.out (hx03.trans hx4))
      go_wp2_with fail
      with_reducible refine cal.mono ?_
      rintro e w5 ⟨rfl, hx5⟩
      go_wp2_with fail
      go_ret
      exact ⟨rfl, (hx03.trans hx4).trans hx5⟩
  · go_upto_region 4 with fail
    generalize hW : World.alloc w1 _ = W
    have bx := bk_of hW
    have hx := hx1.trans (ext_of_alloc hW)
    have hr := HR.out _ _ _ _ _ _ _ _ _ _ _ _ (ext_of_alloc hW) hr1
    generalize w1.heap.size = g at *
    clear hW hx1 hr1
    have co' := CO'.out W (ecell HM.out hx)
    go_wp2_with fail
    with_reducible refine co'.mono ?_
    rintro e w3 (⟨het, rfl, hx3⟩ | ⟨rfl, WA', TA', E', B', D', wc'', tc', ec', bc', dc', rfl, hr3, hx3⟩)
    · go_upto_region 5 with fail
      generalize hW3 : World.alloc w3 _ = W3
      have hxa := hx3.trans (ext_of_alloc hW3)
      have hx03 := hx.trans hxa
      have bx3 := bx.ext hxa
      have hr5 := HR.out _ _ _ _ _ _ _ _ _ _ _ _ hxa hr
      have h' : (((et : Nat) : Int) != 0) = true := by simp; omega
      clear hW3 co' bx
      have z0 := bx3.cell 0
      have z1 := bx3.cell 1
      have cs := CS.out (by trivial) _ _ _ _ _ _ _ _ _ _ W3 hr5
      go_wp2_with fail
      with_reducible refine cs.mono ?_
      rintro e w4 h2
      obtain ⟨b4, L4, P4, p4, rfl, hx4⟩ : ∃ (b4 : Bool) (L4 : Nat) (P : Option Addr) (p : Nat), e = .returned (.tuple #[.slice P L4 p, .bool b4]) ∧ Ext W3 w4 := by
        rcases h2 with ⟨h, P, p, rfl, hP, hx1⟩ | ⟨h, rfl, hx1⟩
        · exact ⟨true, _, P, p, rfl, hx1⟩
        · exact ⟨false, _, none, 0, rfl, hx1⟩
      have cal := CAL.out w4 (ecell HM.out (hx03.trans hx4))
      clear h2 cs
      go_wp2_with fail
      with_reducible refine cal.mono ?_
      rintro e w5 ⟨rfl, hx5⟩
      go_wp2_with fail
      go_ret
      exact ⟨rfl, (hx03.trans hx4).trans hx5⟩
    · go_upto_region 5 with fail
      generalize hW3 : World.alloc w3 _ = W3
      have hx23 := hx3.trans (ext_of_alloc hW3)
      have hx03 := hx.trans hx23
      have by3 := bk_of hW3
      have bx3 := bx.ext hx23
      have hr4 := HR'.out _ _ _ _ _ _ _ _ _ _ _ _ (ext_of_alloc hW3) hr3
      have hr5 := HR.out _ _ _ _ _ _ _ _ _ _ _ _ hx23 hr
      generalize w3.heap.size = g' at *
      clear hW3 co' bx hx3 hr hr3 hx23 hx
      have z0 := bx3.cell 0
      have z1 := bx3.cell 1
      have cs := CS.out (by trivial) _ _ _ _ _ _ _ _ _ _ W3 hr5
      go_wp2_with fail
      with_reducible refine cs.mono ?_
      rintro e w4 (⟨rfl, P, p, rfl, hP, hx4⟩ | ⟨rfl, rfl, hx4⟩)
      · have bx4 := bx3.ext hx4
        have by4 := by3.ext hx4
        have hr6 := HR'.out _ _ _ _ _ _ _ _ _ _ _ _ hx4 hr4
        have hr7 := HR.out _ _ _ _ _ _ _ _ _ _ _ _ hx4 hr5
        have hx04 := hx03.trans hx4
        have HP := Lib.hid (HRP.out _ _ _ hP)
        clear z0 z1 cs bx3 by3 hr4 hr5 hx4 hx03 hP
        have BX := Lib.hid bx4; have BY := Lib.hid by4
        go_wp2_with fail
        clear bx4 by4
        go_loopw [50] (fun vi wr => ∃ i : Nat, vi = .int .i64 i ∧ i ≤ L ∧ Hid (∀ k, k < i → k + 1 < L → nth sg k ≠ 1) ∧ Ext w4 wr) (fun vi _ => L - (intOf vi).toNat)
        case atStart => exact ⟨0, rfl, Nat.zero_le _, Lib.hid (fun k hk => absurd hk (Nat.not_lt_zero _)), Ext.refl _⟩
        case round => as_aux_lemma =>
          obtain ⟨i, rfl, hi, HN, hxr⟩ := hrel
          have hx0r := hx04.trans hxr
          by_cases gi : i < L
          · obtain ⟨b1, o1, rfl, hb1, hc1⟩ := (HP.out.ext hxr) (by omega)
            have p1 := hc1 i gi
            dsimp only at p1
            obtain ⟨x, hx⟩ : ∃ x, nth sg i = x := ⟨_, rfl⟩
            rw [hx] at p1
            have HX := Lib.hid hx
            clear hc1 hx
            by_cases g1 : x = 1
            · subst g1
              by_cases g2 : i + 1 < L
              · have g2' : decide ((i : Int) + 1 < L) = true := decide_eq_true (by omega)
                have cal := CAL.out wr (ecell HM.out hx0r)
                go_wp2_with fail
                with_reducible refine cal.mono ?_
                rintro e w5 ⟨rfl, hx5⟩
                go_wp2_with fail
                go_ret
                exact ⟨rfl, hx0r.trans hx5⟩
              · have g2' : decide ((i : Int) + 1 < L) = false := decide_eq_false (by omega)
                have HN1 : Hid (∀ k, k < i + 1 → k + 1 < L → nth sg k ≠ 1) := fun k hk hk2 => HN.out k (by omega) hk2
                clear HN
                go_wp2_with fail
                refine ⟨⟨i + 1, by go_num, by omega, HN1, hxr⟩, by simp [intOf]; omega⟩
            · have g1' : (x == 1) = false := by rw [beq_eq_false_iff_ne]; exact g1
              have HN1 : Hid (∀ k, k < i + 1 → k + 1 < L → nth sg k ≠ 1) := fun k hk hk2 => by
                by_cases e : k = i
                · subst e; rw [HX.out]; exact g1
                · exact HN.out k (by omega) hk2
              clear HN g1
              go_wp2_with fail
              refine ⟨⟨i + 1, by go_num, by omega, HN1, hxr⟩, by simp [intOf]; omega⟩
          · obtain rfl : i = L := by omega
            have hrr := HRR.out (by trivial) (by trivial) (by trivial)
            have HRR2 : Hid (0 < i → r' = 2 * r) := fun h => hrr h fun k hk => HN.out k (by omega) hk
            have HC1 := Lib.hid (CC.out (by trivial) (by trivial) (by trivial) WA TA E B D wc' tc ec bc dc)
            have HC2 := Lib.hid (CC'.out (by trivial) (by trivial) (by trivial) WA' TA' E' B' D' wc'' tc' ec' bc' dc')
            have hr8 := HR.out _ _ _ _ _ _ _ _ _ _ _ _ hxr hr7
            have hr9 := HR'.out _ _ _ _ _ _ _ _ _ _ _ _ hxr hr6
            have bx5 := BX.out.ext hxr
            have by5 := BY.out.ext hxr
            clear hrr HRR HN CC CC' BX BY hr6 hr7 CS
            have z0 := bx5.cell 0
            have z1 := bx5.cell 1
            have z2 := bx5.cell 2
            have z3 := bx5.cell 3
            have z4 := bx5.cell 4
            have z5 := bx5.cell 5
            have z6 := bx5.cell 6
            have y0 := by5.cell 0
            have y1 := by5.cell 1
            have y2 := by5.cell 2
            have y3 := by5.cell 3
            have y4 := by5.cell 4
            have y5 := by5.cell 5
            have y6 := by5.cell 6
            have hcur : Ext wr wr.drew := (Ext.refl wr).drew
            clear bx5 by5
            by_cases g0 : i = 0
            · have g0' : (((i : Nat) : Int) == 0) = true := by rw [beq_iff_eq]; omega
              clear g0 HRR2
              go_wp2_with fail
              refine wp_region_grow_lit (by kernel_rfl) (by kernel_rfl) ?_
              repeat
                (go_big_quiet_step ((first
                  | (go_at_call 11; exact q_grow (CAL.out _ (ecell HM.out (hx0r.trans (grow_ext _ _))))))))
              refine wpQuiet_nil ?_
              intro _ hw'
              obtain ⟨u, rfl⟩ := hw'
              have hxu := grow_ext wr u
              generalize grow wr u = w9 at *
              go_wp2_with fail
              go_ret
              exact ⟨rfl, hx0r.trans hxu⟩
            · have g0' : (((i : Nat) : Int) == 0) = false := by rw [beq_eq_false_iff_ne]; omega
              have e2 : r' = 2 * r := HRR2.out (by omega)
              have hw2 : IntKind.i64.wrap ((2 : Int) * (r : Int)) = (r' : Int) := by rw [IntWalk.i64_in _ (by omega)]; omega
              clear g0 HRR2 e2
              go_wp2_with fail
              go_region_held3 (fun w' => w'.cell? ⟨g, 0, none⟩ = some (.slice WA N wc') ∧ w'.cell? ⟨g, 1, none⟩ = some (.slice TA n1 tc) ∧ w'.cell? ⟨g, 2, none⟩ = some (.slice E n1 ec) ∧ w'.cell? ⟨g, 3, none⟩ = some (.int .i64 n1) ∧ w'.cell? ⟨g, 4, none⟩ = some (.int .i64 10) ∧ w'.cell? ⟨g, 5, none⟩ = some (.slice B 10 bc) ∧ w'.cell? ⟨g, 6, none⟩ = some (.slice D m2 dc) ∧ w'.cell? ⟨g', 0, none⟩ = some (.slice WA' N' wc'') ∧ w'.cell? ⟨g', 1, none⟩ = some (.slice TA' n1' tc') ∧ w'.cell? ⟨g', 2, none⟩ = some (.slice E' n1' ec') ∧ w'.cell? ⟨g', 3, none⟩ = some (.int .i64 n1') ∧ w'.cell? ⟨g', 4, none⟩ = some (.int .i64 10) ∧ w'.cell? ⟨g', 5, none⟩ = some (.slice B' 10 bc') ∧ w'.cell? ⟨g', 6, none⟩ = some (.slice D' m2' dc'))
                (first | (exact ⟨ecell z0 hcur, ecell z1 hcur, ecell z2 hcur, ecell z3 hcur, ecell z4 hcur, ecell z5 hcur, ecell z6 hcur, ecell y0 hcur, ecell y1 hcur, ecell y2 hcur, ecell y3 hcur, ecell y4 hcur, ecell y5 hcur, ecell y6 hcur⟩) | go_keep)
                (first
                  | (go_at_call 12; with_reducible refine (HC1.out _ (HR.out _ _ _ _ _ _ _ _ _ _ _ _ hcur hr8)).mono ?_; rintro e wn ⟨rfl, hxn⟩; replace hcur := hcur.trans hxn)
                  | (go_at_call 12; with_reducible refine (HC2.out _ (HR'.out _ _ _ _ _ _ _ _ _ _ _ _ hcur hr9)).mono ?_; rintro e wn ⟨rfl, hxn⟩; replace hcur := hcur.trans hxn)
                  | (go_at_call 11; with_reducible refine (CAL.out _ (ecell HM.out (hx0r.trans hcur))).mono ?_; rintro e wn ⟨rfl, hxn⟩; replace hcur := hcur.trans hxn))
              all_goals
                go_wp2_with fail
                go_ret
                exact ⟨rfl, hx0r.trans hcur⟩
      · have cal := CAL.out w4 (ecell HM.out (hx03.trans hx4))
        clear cs
        go_wp2_with fail
        with_reducible refine cal.mono ?_
        rintro e w5 ⟨rfl, hx5⟩
        go_wp2_with fail
        go_ret
        exact ⟨rfl, (hx03.trans hx4).trans hx5⟩
theorem suffix_form {s : List UInt8} (h : Lib.hasSuffix s [10] = true) : ∃ u, s = u ++ [10] := by
  obtain ⟨u, hu⟩ := List.isSuffixOf_iff_suffix.1 h
  exact ⟨u, hu.symm⟩
theorem ttwi_calls (s ws : List UInt8) (hs : s.length + ws.length ≤ 1048576) (m : Int) (w : World) (hm : w.cell? ⟨0, 0, none⟩ = some (.int .i64 m)) :
    Calls Tryz.prog 3 #[str s, str ws] w fun e w' => e = .returned (.bool true) ∧ Ext w w' := by
  obtain ⟨u, hu⟩ : ∃ u, (if Lib.hasSuffix s [10] = true then s else s ++ [10]) = u ++ [10] := by
    by_cases h : Lib.hasSuffix s [10] = true
    · rw [if_pos h]; exact suffix_form h
    · rw [if_neg h]; exact ⟨s, rfl⟩
  have hul : (u ++ [10]).length ≤ 1048577 := by
    rw [← hu]
    split
    · omega
    · simp; omega
  have hws : ws.length ≤ 16777216 := by omega
  have htl := stoks_len hws
  refine ttwi_walk s (u ++ [10]) ws (by omega) hul hu.symm (decide (inB (u ++ [10]) ws)) (sgI (u ++ [10]) ws).length (errF (u ++ [10])) (errF ((u ++ [10]) ++ (u ++ [10]))) (sgI (u ++ [10]) ws) rfl (by rw [sgI_len]; omega) m w hm
    (wordsF (u ++ [10])).length (bT (u ++ [10])).length ((wordsF (u ++ [10])).length + 3) (wordsF ((u ++ [10]) ++ (u ++ [10]))).length (bT ((u ++ [10]) ++ (u ++ [10]))).length ((wordsF ((u ++ [10]) ++ (u ++ [10]))).length + 3)
    (if errF (u ++ [10]) = 0 then cntF (u ++ [10]) ws else 0) (cntF ((u ++ [10]) ++ (u ++ [10])) ws) ?_ (ShQ m (u ++ [10])) (ShQ m ((u ++ [10]) ++ (u ++ [10]))) (SgR (u ++ [10]) ws) ShQ.ext ShQ.ext (fun _ _ _ r => r.2.2) ?_ ?_ ?_ ?_ ?_ ?_ ?_
  · by_cases h : errF (u ++ [10]) = 0
    · rw [if_pos h]
      have h2 := (serr_ok h).2.2
      have : cntF (u ++ [10]) ws ≤ (bT (u ++ [10])).length := by
        unfold cntF
        split
        · exact places_le _ _
        · exact Nat.zero_le _
      rw [bT_len] at this
      omega
    · rw [if_neg h]; omega
  · intro w hm
    exact open_O (u ++ [10]) (by omega) m w hm
  · intro w hm
    rw [cat_str2]
    exact open_O ((u ++ [10]) ++ (u ++ [10])) (by rw [List.length_append]; omega) m w hm
  · intro w hm
    refine (signs_no ws hws m w hm).mono ?_
    rintro e w' ⟨b, P, L, p, rfl, _, _, _, _, _, hx⟩
    exact ⟨b, P, L, p, rfl, hx⟩
  · intro h WA TA E B D wc tc ec bc dc w r
    exact ssigns_calls h ws hws m w r
  · intro h h' _ WA TA E B D wc tc ec bc dc w r
    rw [if_pos h]
    exact scount_calls h ws hws m w r
  · intro h h' _ WA TA E B D wc tc ec bc dc w r
    exact scount_calls h' ws hws m w r
  · intro h h' _ hL h1
    rw [if_pos h]
    exact cnt_two u ws hL h1

section
open Go.ChangeShapes Go.WideShapes Go.ChangeAt Go.ChangeMaps
variable {H : Type} {enc : TypeId × Value → H} {W : World}
set_option maxRecDepth 100000 in
theorem topTwice_calls {r : Reach} {base : Nat} {v0 v1 : Value} {d0 d1 : DataW H} {p0 p1 : List MemPlace} (hsh : W.ShapedOpen Tryz.prog) (hk : Rows.uptoSmall H ([d0, d1] ++ []) = true)
    (_hsz : (DataW.weightsEach Tryz.prog [9, 9] [d0, d1]).all (· ≤ reachBytes) = true)
    (hv0 : Value.okWide Tryz.prog W r base 9 v0) (h0 : DataW.Trod enc Tryz.prog W 0 (fun _ => true) true 9 v0 d0 p0)
    (hv1 : Value.okWide Tryz.prog W r base 9 v1) (h1 : DataW.Trod enc Tryz.prog W 0 (fun _ => true) true 9 v1 d1 p1) :
    Calls Tryz.prog 3 #[v0, v1] W fun e w' => e = .returned (.bool true) ∧ Ext W w' := by
  obtain ⟨a, b, rfl, rfl, hl⟩ := open_two hk hv0 h0 hv1 h1
  obtain ⟨m, hm⟩ := Tryz.laysM146.s1_3 W hsh
  exact ttwi_calls a b hl m W hm
end
end Go.Proofs.YtjfdlibceldanabGreatDoor
