/- TopCounts: the law's walk. -/
import Derived.Test.YtjfdlibceldanabGreatDoorShA
namespace Go.Proofs.YtjfdlibceldanabGreatDoor
open Go.RowKit Go.Sort Tx En Wv Gu

set_option maxHeartbeats 4000000 in
set_option maxRecDepth 100000 in
theorem tcnt_no (s ws : List UInt8) (hs : s.length ≤ 9223372036854775807) (hws : ws.length ≤ 16777216) (m : Int) (w : World) (hm : w.cell? ⟨0, 0, none⟩ = some (.int .i64 m)) (h : errF s ≠ 0) :
    Calls Tryz.prog 7 #[str s, str ws] w fun e w' => e = .returned (.bool true) ∧ Ext w w' := by
  have co : Calls Tryz.prog 9 #[str s] w fun e w' => e = .returned (.tuple #[noShelf, .int .i64 (errF s : Nat)]) ∧ Ext w w' := by
    refine (open_calls s hs m w hm).mono ?_
    rintro e w' (⟨_, h1, h2⟩ | ⟨h1, _⟩)
    · exact ⟨h1, h2⟩
    · exact absurd h1 h
  obtain ⟨er, her⟩ : ∃ er, errF s = er := ⟨_, rfl⟩
  rw [her] at co h
  have h' : (((er : Nat) : Int) != 0) = true := by simp; omega
  have CO := Lib.hid co; have HM := Lib.hid hm
  have CC := Lib.hid (fun w hm => scount_no ws hws m w hm)
  have CA := Lib.hid (fun w hm => alive_calls m w hm)
  clear co hm her
  go_enter Tryz.func7, Tryz.ntmps7
  go_wp2_with fail
  with_reducible refine CO.out.mono ?_
  rintro e w1 ⟨rfl, hx1⟩
  go_upto_region 2 with fail
  generalize hW : World.alloc w1 _ = W
  have bx := bk_of hW
  have hx := hx1.trans (ext_of_alloc hW)
  generalize w1.heap.size = g at *
  clear hW hx1
  have z0 := bx.cell 0
  have z1 := bx.cell 1
  have z2 := bx.cell 2
  have z3 := bx.cell 3
  have z4 := bx.cell 4
  have z5 := bx.cell 5
  have z6 := bx.cell 6
  have cc := CC.out W (ecell HM.out hx)
  go_wp2_with fail
  with_reducible refine cc.mono ?_
  rintro e w2 ⟨rfl, hx2⟩
  have ca := CA.out w2 (ecell HM.out (hx.trans hx2))
  go_wp2_with fail
  with_reducible refine ca.mono ?_
  rintro e w3 ⟨rfl, hx3⟩
  go_wp2_with fail
  go_ret
  exact ⟨rfl, (hx.trans hx2).trans hx3⟩

set_option maxHeartbeats 8000000 in
set_option maxRecDepth 100000 in
theorem tcnt_walk (s ws : List UInt8) (b : Bool) (m : Int) (w : World) (hm : w.cell? ⟨0, 0, none⟩ = some (.int .i64 m)) (N n1 m2 L r : Nat) (hn1 : n1 ≤ 4096) (hL : L ≤ 100000000) (T sg : List Int) (hT : T.length = n1) (hsg : sg.length = L)
    (R : World → Option Addr → Option Addr → Option Addr → Option Addr → Option Addr → Nat → Nat → Nat → Nat → Nat → Prop) (RP : World → Option Addr → Nat → Prop)
    (hR : ∀ w w' a b c d e f g h i j, Ext w w' → R w a b c d e f g h i j → R w' a b c d e f g h i j) (hRT : ∀ w a b c d e f g h i j, R w a b c d e f g h i j → Rd w b n1 (fun k => .int .i64 (nth T k))) (hRP : ∀ w P p, RP w P p → Rd w P L (fun k => .int .i64 (nth sg k)))
    (co : Calls Tryz.prog 9 #[str s] w fun e w' => ∃ WA TA E B D wc tc ec bc dc, e = .returned (.tuple #[shV WA TA N wc n1 tc E B D m2 ec bc dc, .int .i64 0]) ∧ R w' WA TA E B D wc tc ec bc dc ∧ Ext w w')
    (cs : ∀ WA TA E B D wc tc ec bc dc w, R w WA TA E B D wc tc ec bc dc → Calls Tryz.prog 10 #[bookV WA TA N wc n1 tc, str ws] w (SgRet b L RP w))
    (cc : ∀ WA TA E B D wc tc ec bc dc w, R w WA TA E B D wc tc ec bc dc → Calls Tryz.prog 12 #[shV WA TA N wc n1 tc E B D m2 ec bc dc, str ws] w fun e w' => e = .returned (.int .i64 r) ∧ Ext w w')
    (cp : ∀ WA TA E B D wc tc ec bc dc w, R w WA TA E B D wc tc ec bc dc → Calls Tryz.prog 19 #[shV WA TA N wc n1 tc E B D m2 ec bc dc, str ws] w fun e w' => ∃ A c, e = .returned (.slice A r c) ∧ Ext w w')
    (st : Nat → Bool) (cnt : Nat → Nat) (hst : ∀ i, i < n1 → (st i = true ↔ b = true ∧ i + L ≤ n1 ∧ ∀ k, k < L → nth T (i + k) = nth sg k)) (c0 : cnt 0 = 0) (cn : cnt n1 = r) (cstep : ∀ i, i < n1 → cnt (i + 1) = cnt i + if st i = true then 1 else 0) (cle : ∀ i, cnt i ≤ i) :
    Calls Tryz.prog 7 #[str s, str ws] w fun e w' => e = .returned (.bool true) ∧ Ext w w' := by
  have CO := Lib.hid co; have CS := Lib.hid cs; have CC := Lib.hid cc; have CP := Lib.hid cp; have HM := Lib.hid hm
  have HR := Lib.hid hR; have HRT := Lib.hid hRT; have HRP := Lib.hid hRP; have HST := Lib.hid hst; have C0 := Lib.hid c0; have CN := Lib.hid cn; have CSTEP := Lib.hid cstep; have CLE := Lib.hid cle
  have HT := Lib.hid hT; have HSG := Lib.hid hsg
  have CA := Lib.hid (fun w hm => alive_calls m w hm)
  clear co cs cc cp hm hR hRT hRP hst c0 cn cstep cle hT hsg
  go_enter Tryz.func7, Tryz.ntmps7
  go_wp2_with fail
  with_reducible refine CO.out.mono ?_
  rintro e w1 ⟨WA, TA, E, B, D, wc, tc, ec, bc, dc, rfl, hr1, hx1⟩
  go_upto_region 2 with fail
  generalize hW : World.alloc w1 _ = W
  have bx := bk_of hW
  have hx := hx1.trans (ext_of_alloc hW)
  have hr := HR.out _ _ _ _ _ _ _ _ _ _ _ _ (ext_of_alloc hW) hr1
  generalize w1.heap.size = g at *
  clear hW hx1 hr1 CO
  have z0 := bx.cell 0
  have z1 := bx.cell 1
  have cs := CS.out _ _ _ _ _ _ _ _ _ _ W hr
  go_wp2_with fail
  with_reducible refine cs.mono ?_
  rintro e w2 h2
  obtain ⟨L3, P, p, rfl, hP2, hx2⟩ : ∃ (L3 : Nat) (P : Option Addr) (p : Nat), e = .returned (.tuple #[.slice P L3 p, .bool b]) ∧ (b = true → L3 = L ∧ RP w2 P p) ∧ Ext W w2 := by
    rcases h2 with ⟨h, P, p, rfl, hP, hx1⟩ | ⟨h, rfl, hx1⟩
    · exact ⟨_, P, p, by rw [h], fun _ => ⟨rfl, hP⟩, hx1⟩
    · exact ⟨_, none, 0, by rw [h], (fun q => by rw [h] at q; cases q), hx1⟩
  have bx2 := bx.ext hx2
  have hx02 := hx.trans hx2
  have hr2 := HR.out _ _ _ _ _ _ _ _ _ _ _ _ hx2 hr
  have HT2 := Lib.hid (HRT.out _ _ _ _ _ _ _ _ _ _ _ hr2)
  have HP2 := Lib.hid hP2
  have BX := Lib.hid bx2
  clear z0 z1 bx cs h2 hx hr hP2 hx2 CS
  have z0 := bx2.cell 0
  have z1 := bx2.cell 1
  go_wp2_with fail
  clear z0 z1 bx2
  go_loopw [38, 9] (fun vi v9 wr => ∃ i : Nat, vi = .int .i64 i ∧ v9 = .int .i64 (cnt i) ∧ i ≤ n1 ∧ Ext w2 wr) (fun vi _ _ => n1 - (intOf vi).toNat)
  case atStart => exact ⟨0, rfl, by rw [C0.out]; rfl, Nat.zero_le _, Ext.refl _⟩
  case round => as_aux_lemma =>
    obtain ⟨i, rfl, rfl, hi, hxr⟩ := hrel
    have z0 := (BX.out.ext hxr).cell 0
    have z1 := (BX.out.ext hxr).cell 1
    have hci := CLE.out i
    by_cases gi : i < n1
    · have hstep := CSTEP.out i gi
      have hsti := HST.out i gi
      obtain ⟨ci, hci'⟩ : ∃ ci, cnt i = ci := ⟨_, rfl⟩
      rw [hci'] at hstep hci ⊢
      have HSTEP := Lib.hid hstep; have HSTI := Lib.hid hsti
      clear hstep hsti hci'
      obtain ⟨wo, rfl⟩ : ∃ wo, wo = wr := ⟨_, rfl⟩
      cases b with
      | false =>
        have HS1 : Hid (cnt (i + 1) = ci) := by
          show _ = _
          rw [HSTEP.out, if_neg (fun q => by have := ((HSTI.out).1 q).1; cases this)]; rfl
        go_wp2_with fail
        go_loopw [11, 12] (fun v11 v12 wr => v11 = .bool false ∧ v12 = .int .i64 0 ∧ wr = wo) (fun _ _ _ => 0)
        case atStart => exact ⟨rfl, rfl, rfl⟩
        case round => as_aux_lemma =>
          obtain ⟨rfl, rfl, rfl⟩ := hrel
          go_wp2_with fail
          refine ⟨⟨i + 1, by go_num, by rw [HS1.out], by omega, hxr⟩, by simp [intOf]; omega⟩
      | true =>
        obtain ⟨rfl, hP⟩ := HP2.out rfl
        have hPr := HRP.out _ _ _ hP
        clear HP2
        by_cases gL : i + L3 ≤ n1
        · have gL' : decide ((i : Int) + L3 ≤ n1) = true := decide_eq_true (by omega)
          obtain ⟨q, hq⟩ : ∃ q : Nat → Bool, ∀ j, q j = true ↔ ∀ k, k < j → nth T (i + k) = nth sg k := ⟨fun j => decide (∀ k, k < j → nth T (i + k) = nth sg k), fun j => by simp⟩
          have q0 : q 0 = true := (hq 0).2 fun k hk => absurd hk (Nat.not_lt_zero _)
          have HQ := Lib.hid hq
          have HPR := Lib.hid hPr
          clear hq hPr hP
          go_wp2_with fail
          go_loopw [11, 12] (fun v11 v12 wr => ∃ j : Nat, v11 = .bool (q j) ∧ v12 = .int .i64 j ∧ j ≤ L3 ∧ Ext wo wr) (fun _ v12 _ => L3 - (intOf v12).toNat)
          case atStart => exact ⟨0, by rw [q0], rfl, Nat.zero_le _, Ext.refl _⟩
          case round => as_aux_lemma =>
            clear z0 z1 q0
            obtain ⟨j, rfl, rfl, hj, hxj⟩ := hrel
            have z0 := (BX.out.ext (hxr.trans hxj)).cell 0
            have z1 := (BX.out.ext (hxr.trans hxj)).cell 1
            cases hqj : q j with
            | false =>
              have HS1 : Hid (cnt (i + 1) = ci) := by
                show _ = _
                rw [HSTEP.out, if_neg (fun q' => by
                  have h1 := ((HSTI.out).1 q').2.2
                  have h2 := (HQ.out j).2 fun k hk => h1 k (by omega)
                  rw [hqj] at h2; cases h2)]; rfl
              clear hqj
              go_wp2_with fail
              refine ⟨⟨i + 1, by go_num, by rw [HS1.out], by omega, hxr.trans hxj⟩, by simp [intOf]; omega⟩
            | true =>
              by_cases gj : j < L3
              · obtain ⟨b1, o1, rfl, hb1, hc1⟩ := (HT2.out.ext (hxr.trans hxj)) (by omega)
                obtain ⟨b2, o2, rfl, hb2, hc2⟩ := (HPR.out.ext (hxr.trans hxj)) (by omega)
                have p1 := hc1 (i + j) (by omega)
                have p2 := hc2 j gj
                dsimp only at p1 p2
                have hij : i + j < n1 := by omega
                obtain ⟨x, hx⟩ : ∃ x, nth T (i + j) = x := ⟨_, rfl⟩
                obtain ⟨y, hy⟩ : ∃ y, nth sg j = y := ⟨_, rfl⟩
                rw [hx] at p1
                rw [hy] at p2
                have HQ1 : Hid (q (j + 1) = (x == y)) := by
                  show _ = _
                  rw [Bool.eq_iff_iff, HQ.out, beq_iff_eq]
                  constructor
                  · intro h; rw [← hx, ← hy]; exact h j (by omega)
                  · intro h k hk
                    by_cases e : k = j
                    · subst e; rw [hx, hy]; exact h
                    · exact (HQ.out j).1 hqj k (by omega)
                clear hc1 hc2 hqj hx hy
                have hij2 : ((i + j : Nat) : Int) = (i : Int) + j := by omega
                go_wp2_with fail
                go_quiet (fail)
                go_wp2_with fail
                refine ⟨⟨j + 1, by rw [HQ1.out], by go_num, by omega, hxj.drewN _⟩, by simp [intOf]; omega⟩
              · obtain rfl : j = L3 := by omega
                have HS1 : Hid (cnt (i + 1) = ci + 1) := by
                  show _ = _
                  rw [HSTEP.out, if_pos ((HSTI.out).2 ⟨by trivial, gL, (HQ.out j).1 hqj⟩)]
                clear hqj
                go_wp2_with fail
                refine ⟨⟨i + 1, by go_num, by rw [HS1.out]; rfl, by omega, hxr.trans hxj⟩, by simp [intOf]; omega⟩
        · have gL' : decide ((i : Int) + L3 ≤ n1) = false := decide_eq_false (by omega)
          have HS1 : Hid (cnt (i + 1) = ci) := by
            show _ = _
            rw [HSTEP.out, if_neg (fun q => gL ((HSTI.out).1 q).2.1)]; rfl
          go_wp2_with fail
          go_loopw [11, 12] (fun v11 v12 wr => v11 = .bool false ∧ v12 = .int .i64 0 ∧ wr = wo) (fun _ _ _ => 0)
          case atStart => exact ⟨rfl, rfl, rfl⟩
          case round => as_aux_lemma =>
            obtain ⟨rfl, rfl, rfl⟩ := hrel
            go_wp2_with fail
            refine ⟨⟨i + 1, by go_num, by rw [HS1.out], by omega, hxr⟩, by simp [intOf]; omega⟩
    · obtain rfl : i = n1 := by omega
      rw [CN.out]
      have hrr := HR.out _ _ _ _ _ _ _ _ _ _ _ _ hxr hr2
      have cc := CC.out _ _ _ _ _ _ _ _ _ _ _ hrr
      have bx := BX.out.ext hxr
      have z2 := bx.cell 2
      have z3 := bx.cell 3
      have z4 := bx.cell 4
      have z5 := bx.cell 5
      have z6 := bx.cell 6
      have hri : r ≤ i := by rw [← CN.out]; exact CLE.out i
      clear hci
      go_wp2_with fail
      with_reducible refine cc.mono ?_
      rintro e w3 ⟨rfl, hx3⟩
      have hrr3 := HR.out _ _ _ _ _ _ _ _ _ _ _ _ hx3 hrr
      have cp := CP.out _ _ _ _ _ _ _ _ _ _ _ hrr3
      have bx3 := bx.ext hx3
      clear z0 z1 z2 z3 z4 z5 z6 bx cc
      have z0 := bx3.cell 0
      have z1 := bx3.cell 1
      have z2 := bx3.cell 2
      have z3 := bx3.cell 3
      have z4 := bx3.cell 4
      have z5 := bx3.cell 5
      have z6 := bx3.cell 6
      go_wp2_with fail
      with_reducible refine cp.mono ?_
      rintro e w4 ⟨A, c, rfl, hx4⟩
      have hx04 := ((hx02.trans hxr).trans hx3).trans hx4
      have ca := CA.out w4 (ecell HM.out hx04)
      clear z0 z1 z2 z3 z4 z5 z6 bx3 cp
      go_wp2_with fail
      with_reducible refine ca.mono ?_
      rintro e w5 ⟨rfl, hx5⟩
      go_wp2_with fail
      go_ret
      exact ⟨rfl, hx04.trans hx5⟩
theorem tcnt_calls (s ws : List UInt8) (hs : s.length ≤ 9223372036854775807) (hws : ws.length ≤ 16777216) (m : Int) (w : World) (hm : w.cell? ⟨0, 0, none⟩ = some (.int .i64 m)) :
    Calls Tryz.prog 7 #[str s, str ws] w fun e w' => e = .returned (.bool true) ∧ Ext w w' := by
  by_cases h : errF s = 0
  · have h1 := swords_le h
    have h2 := (serr_ok h).2.2
    have htl := stoks_len hws
    have hpc : (plcF s ws).length = cntF s ws := by
      unfold plcF cntF
      split <;> rfl
    have hcount : (List.range (bT s).length).countP (fun i => decide (inB s ws) && stB (bT s) (sgI s ws) i) = cntF s ws := by
      unfold cntF
      by_cases g : inB s ws
      · rw [if_pos g, places_len]; simp [g]
      · rw [if_neg g]; simp [g]
    refine tcnt_walk s ws (decide (inB s ws)) m w hm (wordsF s).length (bT s).length ((wordsF s).length + 3) (sgI s ws).length (cntF s ws) (by rw [bT_len]; omega) (by rw [sgI_len]; omega) (bT s) (sgI s ws) rfl rfl
      (fun w WA TA E B D wc tc ec bc dc => ShR m s WA TA E B D wc tc ec bc dc w) (SgR s ws) (fun _ _ _ _ _ _ _ _ _ _ _ _ hx r => r.ext m hx) (fun _ _ _ _ _ _ _ _ _ _ _ r => r.2.tx) (fun _ _ _ r => r.2.2) ?_ ?_ ?_ ?_
      (fun i => decide (inB s ws) && stB (bT s) (sgI s ws) i) (fun i => (List.range i).countP (fun i => decide (inB s ws) && stB (bT s) (sgI s ws) i)) ?_ rfl hcount ?_ (fun i => by have := List.countP_le_length (p := fun i => decide (inB s ws) && stB (bT s) (sgI s ws) i) (l := List.range i); rw [List.length_range] at this; exact this)
    · refine (open_calls s hs m w hm).mono ?_
      rintro e w' (⟨h', _⟩ | ⟨_, WA, TA, E, B, D, wc, tc, ec, bc, dc, rfl, hs, hx⟩)
      · exact absurd h h'
      · exact ⟨WA, TA, E, B, D, wc, tc, ec, bc, dc, rfl, ⟨ecell hm hx, hs⟩, hx⟩
    · intro WA TA E B D wc tc ec bc dc w r
      exact ssigns_calls h ws hws m w r
    · intro WA TA E B D wc tc ec bc dc w r
      exact scount_calls h ws hws m w r
    · intro WA TA E B D wc tc ec bc dc w r
      refine (splaces_calls h ws hws m w r).mono ?_
      rintro e w' ⟨A, c, rfl, _, _, hx⟩
      rw [hpc]
      exact ⟨A, c, rfl, hx⟩
    · intro i hi
      show ((decide (inB s ws) && stB (bT s) (sgI s ws) i) = true) ↔ _
      rw [Bool.and_eq_true, stB_iff]
      constructor
      · rintro ⟨g1, g2, g3⟩; exact ⟨g1, by omega, g3⟩
      · rintro ⟨g1, g2, g3⟩; exact ⟨g1, by omega, g3⟩
    · intro i hi
      show (List.range (i + 1)).countP _ = _
      rw [List.range_succ, List.countP_append, List.countP_singleton]
  · exact tcnt_no s ws hs hws m w hm h
end Go.Proofs.YtjfdlibceldanabGreatDoor
