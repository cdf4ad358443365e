/- The document's own word, numberOf, SameBook and SignsOf: walks. -/
import Derived.Test.YtjfdlibceldanabGreatDoorRdPB
import Derived.Test.YtjfdlibceldanabGreatDoorBitsA
namespace Go.Proofs.YtjfdlibceldanabGreatDoor
open Go.RowKit Go.Sort Tx

set_option maxHeartbeats 4000000 in
set_option maxRecDepth 100000 in
theorem rword_calls (x : List UInt8) (w : World) (hs : x.length ≤ 9223372036854775807) :
    Calls Tryz.prog 33 #[str x] w fun e w' => e = .returned (.bool (wrdB x)) ∧ Ext w w' := by
  have ct := trim_calls x w hs
  obtain ⟨n, hn⟩ : ∃ n, x.length = n := ⟨_, rfl⟩
  have hsz : (ByteArray.mk x.toArray).size = n := by rw [bytes_len, hn]
  obtain ⟨r, hr⟩ : ∃ r, x.all letter = r := ⟨_, rfl⟩
  have hw : wrdB x = (decide (1 ≤ n ∧ n ≤ 8) && r) := by unfold wrdB; rw [hn, hr]
  rw [hn] at hs
  rw [hr] at ct
  rw [hw]
  have CT := Lib.hid ct
  clear ct hw hr hn
  by_cases g0 : n = 0
  · subst g0
    clear CT hs
    go_enter Tryz.func33, Tryz.ntmps33
    go_wp2_with fail
    go_ret
    exact ⟨rfl, Ext.refl _⟩
  · have g1 : decide ((0 : Int) < (n : Int)) = true := decide_eq_true (by omega)
    by_cases g8 : n < 9
    · have g2 : decide ((n : Int) < 9) = true := decide_eq_true (by omega)
      rw [decide_eq_true (show 1 ≤ n ∧ n ≤ 8 by omega), Bool.true_and]
      have gp : 0 < n := by omega
      clear g0 hs
      go_enter Tryz.func33, Tryz.ntmps33
      go_wp2_with fail
      with_reducible refine CT.out.mono ?_
      rintro e w1 ⟨t, rfl, ht, hx⟩
      by_cases h : t = []
      · obtain rfl := ht.1 h
        subst h
        clear ht CT
        go_wp2_with fail
        go_ret
        exact ⟨rfl, hx⟩
      · have h2 : r = false := by
          cases hh : r with
          | false => rfl
          | true => exact absurd (ht.2 hh) h
        subst h2
        have h3 : (t == ([] : List UInt8)) = false := by simp [h]
        clear ht CT
        go_wp2_with fail
        go_ret
        exact ⟨rfl, hx⟩
    · have g2 : decide ((n : Int) < 9) = false := decide_eq_false (by omega)
      rw [decide_eq_false (show ¬ (1 ≤ n ∧ n ≤ 8) by omega), Bool.false_and]
      have gp : 0 < n := by omega
      clear g0 CT
      go_enter Tryz.func33, Tryz.ntmps33
      go_wp2_with fail
      go_ret
      exact ⟨rfl, Ext.refl _⟩
set_option maxHeartbeats 4000000 in
set_option maxRecDepth 100000 in
theorem number_calls (W : List (List UInt8)) (hW : W.Pairwise fun x y => x < y) (t : List UInt8) (WA TA : Option Addr) (wc tn tc : Nat) (w : World) (hl : W.length ≤ 1000000) (hr : RdS w WA W) :
    Calls Tryz.prog 34 #[bookV WA TA W.length wc tn tc, str t] w fun e w' => e = .returned (.int .i64 (nbF W t)) ∧ Ext w w' := by
  by_cases h : t = [10]
  · subst h
    have hb : nbF W [10] = 1 := by unfold nbF; rw [if_pos rfl]
    rw [hb]
    clear hb hr
    go_enter Tryz.func34, Tryz.ntmps34
    go_wp2_with fail
    go_ret
    exact ⟨rfl, (Ext.refl _).alloc _⟩
  · have h1 : (t == ([10] : List UInt8)) = false := by simp [h]
    have HA := Lib.hid (fun i (hi : i < W.length) (e : nth W i = t) => nb_at hW h hi e)
    have HNO := Lib.hid (fun hh => nb_no (W := W) h hh)
    have HR := Lib.hid hr
    obtain ⟨N, hN⟩ : ∃ N, W.length = N := ⟨_, rfl⟩
    rw [hN] at hl HA HNO ⊢
    have HN := Lib.hid hN
    obtain ⟨nb, hnb⟩ : ∃ nb, nbF W t = nb := ⟨_, rfl⟩
    rw [hnb] at HA HNO ⊢
    clear hr hN hnb h
    go_enter Tryz.func34, Tryz.ntmps34
    go_upto_region 1 with fail
    generalize hW1 : World.alloc w _ = W1
    have bx := bk_of hW1
    have hx := ext_of_alloc hW1
    generalize w.heap.size = g at *
    clear hW1
    have hr1 : Rd W1 WA N (fun k => str (nth W k)) := by rw [← HN.out]; exact HR.out.ext hx
    have z0 := bx.cell 0
    have z1 := bx.cell 1
    clear bx
    go_wp2_with fail
    go_loopw [12] (fun vi wr => ∃ i : Nat, vi = .int .i64 i ∧ i ≤ N ∧ Hid (∀ k, k < i → nth W k ≠ t) ∧ wr = W1) (fun vi _ => N - (intOf vi).toNat)
    case atStart => exact ⟨0, rfl, Nat.zero_le _, Lib.hid fun k hk => absurd hk (Nat.not_lt_zero _), rfl⟩
    case round => as_aux_lemma =>
      obtain ⟨i, rfl, hi, HB, rfl⟩ := hrel
      by_cases gi : i < N
      · obtain ⟨b, o, rfl, hb, hc⟩ := hr1 (by omega)
        have p1 := hc i gi
        dsimp only at p1
        obtain ⟨y, hy⟩ : ∃ y, nth W i = y := ⟨_, rfl⟩
        rw [hy] at p1
        have HY := Lib.hid hy
        clear hc hy
        by_cases g1 : y = t
        · subst g1
          have E1 := Lib.hid (HA.out i gi HY.out)
          have hw2 : IntKind.i64.wrap ((i : Int) + 2) = (i : Int) + 2 := IntWalk.i64_in _ (by omega)
          clear HY
          go_wp2_with fail
          go_ret
          exact ⟨by rw [E1.out]; rfl, hx⟩
        · have g1' : (y == t) = false := by simp [g1]
          have HB' : Hid (∀ k, k < i + 1 → nth W k ≠ t) := fun k hk => by
            by_cases e : k = i
            · subst e; rw [HY.out]; exact g1
            · exact HB.out k (by omega)
          clear g1 HB HY
          go_wp2_with fail
          refine ⟨⟨i + 1, by go_num, by omega, HB', by first | trivial | rfl⟩, by simp [intOf]; omega⟩
      · obtain rfl : i = N := by omega
        have E1 := Lib.hid (HNO.out HB.out)
        clear HB
        go_wp2_with fail
        go_ret
        exact ⟨by rw [E1.out]; rfl, hx⟩
set_option maxHeartbeats 4000000 in
set_option maxRecDepth 100000 in
theorem sameBook_calls (W : List (List UInt8)) (T : List Int) (WA TA WA' TA' : Option Addr) (wc tc wc' tc' : Nat) (w : World) (hl : W.length ≤ 1000000) (hT : T.length ≤ 1000000) (h1 : RdS w WA W) (h2 : RdS w WA' W)
    (h3 : Rd w TA T.length (fun k => .int .i64 (nth T k))) (h4 : Rd w TA' T.length (fun k => .int .i64 (nth T k))) :
    Calls Tryz.prog 14 #[bookV WA TA W.length wc T.length tc, bookV WA' TA' W.length wc' T.length tc'] w fun e w' => e = .returned (.bool true) ∧ Ext w w' := by
  have cs := fun w h3 h4 => sameInts_calls T T TA TA' tc tc' w (by omega) h3 h4
  rw [decide_eq_true rfl] at cs
  have CS := Lib.hid cs; have H1 := Lib.hid h1; have H2 := Lib.hid h2; have H3 := Lib.hid h3; have H4 := Lib.hid h4
  obtain ⟨N, hN⟩ : ∃ N, W.length = N := ⟨_, rfl⟩
  obtain ⟨M, hM⟩ : ∃ M, T.length = M := ⟨_, rfl⟩
  rw [hM] at CS H3 H4 hT ⊢
  rw [hN] at hl ⊢
  have HN := Lib.hid hN
  clear cs h1 h2 h3 h4 hN hM
  go_enter Tryz.func14, Tryz.ntmps14
  go_upto_region 1 with fail
  generalize hW1 : World.alloc w _ = W1
  have hs1 : W1.heap.size = w.heap.size + 1 := by rw [← hW1]; simp
  have bq := bk_of hW1
  generalize hW2 : World.alloc W1 _ = W2
  have bl := bk_of hW2
  rw [hs1] at bl
  have hx : Ext w W2 := (ext_of_alloc hW1).trans (ext_of_alloc hW2)
  have bq2 := bq.ext (ext_of_alloc hW2)
  clear hW2 hW1 bq
  obtain ⟨PB, hPB⟩ : ∃ PB, w.heap.size + 1 = PB := ⟨_, rfl⟩
  rw [hPB] at bl hs1
  simp only [hPB]
  have z0 := bq2.cell 0
  have z1 := bq2.cell 1
  have y0 := bl.cell 0
  have y1 := bl.cell 1
  have hr1 : Rd W2 WA N (fun k => str (nth W k)) := by rw [← HN.out]; exact H1.out.ext hx
  have hr2 : Rd W2 WA' N (fun k => str (nth W k)) := by rw [← HN.out]; exact H2.out.ext hx
  have HX := Lib.hid hx
  have R1 := Lib.hid hr1; have R2 := Lib.hid hr2
  clear hs1 bq2 bl hr1 hr2 hx H1 H2
  generalize w.heap.size = g at *
  go_wp2_with fail
  go_loopw [16] (fun vi wr => ∃ i : Nat, vi = .int .i64 i ∧ i ≤ N ∧ ∃ q, wr = W2.drewN q) (fun vi _ => N - (intOf vi).toNat)
  case atStart => exact ⟨0, rfl, Nat.zero_le _, 0, rfl⟩
  case round => as_aux_lemma =>
    obtain ⟨i, rfl, hi, q, rfl⟩ := hrel
    by_cases gi : i < N
    · obtain ⟨b, o, rfl, hb, hc⟩ := R1.out (by omega)
      obtain ⟨b', o', rfl, hb', hc'⟩ := R2.out (by omega)
      have p1 := hc i gi
      have p2 := hc' i gi
      dsimp only at p1 p2
      clear hc hc'
      go_wp2_with fail
      go_quiet (fail)
      go_wp2_with fail
      refine ⟨⟨i + 1, by go_num, by omega, _, rfl⟩, by simp [intOf]; omega⟩
    · obtain rfl : i = N := by omega
      have hxq := HX.out.drewN q
      have cs := CS.out (W2.drewN q) (H3.out.ext hxq) (H4.out.ext hxq)
      go_wp2_with fail
      with_reducible refine cs.mono ?_
      rintro e w3 ⟨rfl, u, rfl⟩
      go_wp2_with fail
      go_ret
      exact ⟨rfl, HX.out.drewN (q + u)⟩
end Go.Proofs.YtjfdlibceldanabGreatDoor
