/- slices' symMerge over []int, by a number's upper bits: the walk, whole. -/
import Derived.Test.YtjfdlibceldanaaSymM
namespace Go.Proofs.Ytjfdlibceldanaa
open Go.RowKit Go.Sort Stab

/-- What symMerge leaves. -/
def SymPost (s : Nat) (f : Nat) (d : Array V) (blk off a m b : Nat) (w : World) (e : Ending) (w' : World) : Prop :=
  e = .returned (.tuple #[]) ∧ ∃ q, w' = (putRow encV w blk off (symM (ltk (keyV s)) f d a m b)).drewN q
def RowAt (w : World) (blk off : Nat) (d1 : Array V) (w' : World) : Prop := ∃ q, w' = (putRow encV w blk off d1).drewN q
theorem put_putV {w : World} {blk off : Nat} {D X : Array V} {q r : Nat} (h : X.size = D.size) : (putRow encV ((putRow encV w blk off D).drewN q) blk off X).drewN r = (putRow encV w blk off X).drewN (q + r) := put_put w blk off D X q r h
theorem rowAt_holds {w w' : World} {blk off : Nat} {d D : Array V} (h : RowAt w blk off D w') (hH : Holds encV w blk off d) (hD : D.size = d.size) : Holds encV w' blk off D := by
  obtain ⟨q, rfl⟩ := h
  exact holds_putRow encV w blk off d D hH hD
theorem rowAt_cell {w w' : World} {blk off S : Nat} {v : Value} {D : Array V} (h : RowAt w blk off D w') (hS : w.cell? ⟨S, 0, none⟩ = some v) (hne : S ≠ blk) : w'.cell? ⟨S, 0, none⟩ = some v := by
  obtain ⟨q, rfl⟩ := h
  exact cellS D q hS hne
theorem rowAt_next {w w' : World} {blk off : Nat} {D X : Array V} {r : Nat} (h : RowAt w blk off D w') (hX : X.size = D.size) : RowAt w blk off X ((putRow encV w' blk off X).drewN r) := by
  obtain ⟨q, rfl⟩ := h
  exact ⟨q + r, put_putV hX⟩
theorem size_symM' (lt : V → V → Bool) : ∀ (f : Nat) (d : Array V) (a m b : Nat), (symM lt f d a m b).size = d.size := by
  intro f
  induction f with
  | zero => intro d a m b; rfl
  | succ f ih =>
    intro d a m b
    rw [symM]
    dsimp only
    split
    · rw [size_bubR]
    · split
      · rw [size_bubL]
      · split <;> split <;> simp [ih, size_rot]

set_option maxHeartbeats 8000000 in
set_option maxRecDepth 100000 in
theorem symMerge_calls (s : Nat) (hs : s < 16) (S cap : Nat) (blk off : Nat) (hne : S ≠ blk) : ∀ (f : Nat) (d : Array V) (a m b : Nat) (w : World), Holds encV w blk off d → w.cell? ⟨S, 0, none⟩ = some (.int .u64 s) →
    b - a ≤ f → a < m → m < b → b ≤ d.size → d.size < 2305843009213693952 →
    Calls Try.prog 94 #[.slice (some ⟨blk, off, none⟩) d.size cap, .int .i64 a, .int .i64 m, .int .i64 b, .func (.func 63) #[] #[.pointer (some ⟨S, 0, none⟩)]] w (SymPost s f d blk off a m b w) := by
  intro f
  induction f with
  | zero => intro d a m b w hH hS hf ham hmb; omega
  | succ f ih =>
    intro d a m b w hH hS hf ham hmb hb hsz
    unfold SymPost
    rw [symM]
    by_cases c1 : m - a = 1
    · rw [if_pos c1]; exact symL_calls s hs S d blk off cap a m b w hH hS hne c1 hmb hb hsz
    · rw [if_neg c1]
      by_cases c2 : b - m = 1
      · rw [if_pos c2]; exact symR_calls s hs S d blk off cap a m b w hH hS hne ham c1 c2 hb hsz
      · rw [if_neg c2]
        dsimp only
        have IH := Lib.hid ih
        have HST : Hid (w = (putRow encV w blk off d).drewN 0) := (putRow_self encV w blk off d hH).symm
        have HH : Hid (Holds encV w blk off d) := hH
        have HS := Lib.hid hS
        unfold symStart
        obtain ⟨mid, hmid⟩ : ∃ mid, (a + b) / 2 = mid := ⟨_, rfl⟩
        obtain ⟨lo, hlo⟩ : ∃ lo, (if mid < m then mid + m - b else a) = lo := ⟨_, rfl⟩
        obtain ⟨hi, hhi⟩ : ∃ hi, (if mid < m then mid else m) = hi := ⟨_, rfl⟩
        rw [hmid, hlo, hhi]
        have hmid' : ((a : Int) + (b : Int)) / 2 = (mid : Int) := by omega
        obtain ⟨n, hn⟩ : ∃ n, mid + m = n := ⟨_, rfl⟩
        rw [hn] at hlo ⊢
        have hn' : (mid : Int) + (m : Int) = (n : Int) := by omega
        obtain ⟨pp, hpp⟩ : ∃ pp, n - 1 = pp := ⟨_, rfl⟩
        rw [hpp]
        obtain ⟨z1, hz1⟩ : ∃ z, m - a = z := ⟨_, rfl⟩
        have w0 : IntKind.i64.wrap ((m : Int) - a) = (z1 : Int) := by rw [IntWalk.i64_in _ (by omega)]; omega
        have w0' : ((z1 : Int) == 1) = false := by rw [beq_eq_false_iff_ne]; omega
        obtain ⟨z2, hz2⟩ : ∃ z, b - m = z := ⟨_, rfl⟩
        have w00 : IntKind.i64.wrap ((b : Int) - m) = (z2 : Int) := by rw [IntWalk.i64_in _ (by omega)]; omega
        have w00' : ((z2 : Int) == 1) = false := by rw [beq_eq_false_iff_ne]; omega
        have wp : IntKind.i64.wrap ((n : Int) - 1) = (pp : Int) := by rw [IntWalk.i64_in _ (by omega)]; omega
        have wp' : (n : Int) - 1 = (pp : Int) := by omega
        obtain ⟨p, hp⟩ : ∃ p : Nat → Bool, (fun c : Nat => !ltk (keyV s) d[pp - c]! d[c]!) = p := ⟨_, rfl⟩
        have HP := Lib.hid hp
        rw [hp]
        have k1 : a ≤ lo ∧ lo ≤ hi ∧ hi ≤ m ∧ hi ≤ mid ∧ n ≤ b + lo ∧ mid < b ∧ a < mid := by
          by_cases g : mid < m
          · rw [if_pos g] at hlo hhi; omega
          · rw [if_neg g] at hlo hhi; omega
        obtain ⟨k1, k2, k3, k4, k5, k6, k7⟩ := k1
        have HMID := Lib.hid hmid; have HN := Lib.hid hn; have HPP := Lib.hid hpp
        have HLO := Lib.hid hlo; have HHI := Lib.hid hhi
        have hnm : n = mid + m := hn.symm
        have hpn : pp + 1 = n := by omega
        clear hp hH hS hz1 hz2 hmid hn hpp hlo hhi ih
        have HNM := Lib.hid hnm; have HPN := Lib.hid hpn
        have q1 : n ≤ mid + m := by omega
        have q2 : mid + m ≤ n := by omega
        have q3 : pp < n := by omega
        have q4 : n ≤ pp + 1 := by omega
        clear hnm hpn
        obtain ⟨s0, hs0⟩ : ∃ s0, bs p lo hi = s0 := ⟨_, rfl⟩
        rw [hs0]
        have HS0 := Lib.hid hs0
        clear hs0
        obtain ⟨e, he⟩ : ∃ e, n - s0 = e := ⟨_, rfl⟩
        rw [he]
        obtain ⟨d1, hd1⟩ : ∃ d1, rot d m (m - s0) (e - m) = d1 := ⟨_, rfl⟩
        have sz1 : d1.size = d.size := by rw [← hd1]; exact size_rot ..
        rw [hd1]
        obtain ⟨d2, hd2⟩ : ∃ d2, (if a < s0 ∧ s0 < mid then symM (ltk (keyV s)) f d1 a s0 mid else d1) = d2 := ⟨_, rfl⟩
        have sz2 : d2.size = d.size := by rw [← hd2]; split <;> simp [size_symM', sz1]
        rw [hd2]
        obtain ⟨d3, hd3⟩ : ∃ d3, (if mid < e ∧ e < b then symM (ltk (keyV s)) f d2 mid e b else d2) = d3 := ⟨_, rfl⟩
        rw [hd3]
        have HE := Lib.hid he
        have HD1 := Lib.hid hd1; have HD2 := Lib.hid hd2; have HD3 := Lib.hid hd3
        have SZ1 := Lib.hid sz1; have SZ2 := Lib.hid sz2
        clear he hd1 hd2 hd3 sz1 sz2
        go_enter Try.func94, Try.ntmps94
        go_upto_if 140 with fail
        go_cut [20, 21] (fun v1 v2 w' => v1 = .int .i64 lo ∧ v2 = .int .i64 hi ∧ w' = w)
        case first => as_aux_lemma =>
          by_cases g : mid < m
          · have hlo := HLO.out
            have hhi := HHI.out
            rw [if_pos g] at hlo hhi
            have wlo : IntKind.i64.wrap ((n : Int) - b) = (lo : Int) := by rw [IntWalk.i64_in _ (by omega)]; omega
            clear hlo
            have HH' := Lib.hid hhi
            clear hhi
            go_wp2_with fail
            go_meet
            exact ⟨rfl, by rw [HH'.out], rfl⟩
          · have hlo := HLO.out
            have hhi := HHI.out
            rw [if_neg g] at hlo hhi
            have HL' := Lib.hid hlo
            have HH' := Lib.hid hhi
            clear hhi hlo
            go_wp2_with fail
            go_meet
            exact ⟨by rw [HL'.out], by rw [HH'.out], rfl⟩
        case rest => as_aux_lemma =>
          obtain ⟨rfl, rfl, hw⟩ := hcut
          obtain rfl : w = wc := hw.symm
          clear HLO HHI
          go_wp2_with fail
          go_loopw [20, 21] (fun vi vj wr => ∃ (i j q : Nat), vi = .int .i64 i ∧ vj = .int .i64 j ∧ a ≤ i ∧ i ≤ j ∧ j ≤ m ∧ j ≤ mid ∧ n ≤ b + i ∧ Hid (wr = (putRow encV w blk off d).drewN q) ∧ Hid (bs p i j = s0)) (fun vi vj _ => (intOf vj).toNat - (intOf vi).toNat)
          case atStart => exact ⟨lo, hi, 0, rfl, rfl, by omega, by omega, by omega, by omega, by omega, HST, HS0⟩
          case round =>
            clear HS0 HST
            obtain ⟨i, j, q, rfl, rfl, h1, h2, h3, h4, h5, HW, HB⟩ := hrel
            by_cases gi : i < j
            · as_aux_lemma =>
              obtain ⟨h, hh⟩ : ∃ h, (i + j) / 2 = h := ⟨_, rfl⟩
              have hh' : ((i : Int) + (j : Int)) / 2 = (h : Int) := by omega
              obtain ⟨t, ht⟩ : ∃ t, pp - h = t := ⟨_, rfl⟩
              have wt : IntKind.i64.wrap ((pp : Int) - h) = (t : Int) := by rw [IntWalk.i64_in _ (by omega)]; omega
              have wt' : (pp : Int) - h = (t : Int) := by omega
              have ht1 : t < d.size := by omega
              have ht2 : (t : Int) < d.size := by omega
              have hc1 := (cellR q HH.out (rfl : d.size = d.size) ht1).1
              have hc2 := (cellR q HH.out (rfl : d.size = d.size) (show h < d.size by omega)).1
              have hc3 := cellS (off := off) d q HS.out hne
              rw [← HW.out] at hc1 hc2 hc3
              obtain ⟨x, hx⟩ : ∃ x, d[t]! = x := ⟨_, rfl⟩
              obtain ⟨y, hy⟩ : ∃ y, d[h]! = y := ⟨_, rfl⟩
              rw [hx] at hc1; rw [hy] at hc2
              have hph : p h = !ltk (keyV s) x y := by rw [← hx, ← hy, ← HP.out, ← ht]
              have HPH := Lib.hid hph
              have HHH := Lib.hid hh
              have b1 : h < j := by omega
              have b2 : i ≤ h := by omega
              have b3 : h < d.size := by omega
              clear hx hy hph hh ht
              have hcmp := fun n => cmpV_calls s hs S x y (wr.drewN n) hc3
              by_cases c : keyV s x < keyV s y
              · have c' : decide ((keyV s x : Int) - (keyV s y : Int) < 0) = true := by simp; omega
                have ht := Lib.hid (bs_no gi HHH.out (HPH.out.trans (by rw [ltk_true c]; rfl)))
                go_wp2_with fail
                go_quiet ((first | (go_at_call 63; exact Calls.quiet_of_same (hcmp _))))
                go_wp2_with fail
                refine ⟨⟨i, h, q + nq, rfl, rfl, h1, b2, by omega, by omega, h5, (show _ = _ from ?_), (show _ = _ from ?_)⟩, by simp [intOf]; omega⟩
                · rw [HW.out, World.drewN_drewN]
                · rw [← HB.out, ht.out]
              · have c' : decide ((keyV s x : Int) - (keyV s y : Int) < 0) = false := by simp; omega
                have ht := Lib.hid (bs_yes gi HHH.out (HPH.out.trans (by rw [ltk_false c]; rfl)))
                go_wp2_with fail
                go_quiet ((first | (go_at_call 63; exact Calls.quiet_of_same (hcmp _))))
                go_wp2_with fail
                refine ⟨⟨h + 1, j, q + nq, by go_num, rfl, by omega, by omega, h3, h4, by omega, (show _ = _ from ?_), (show _ = _ from ?_)⟩, by simp [intOf]; omega⟩
                · rw [HW.out, World.drewN_drewN]
                · rw [← HB.out, ht.out]
            · as_aux_lemma =>
              have hE : i = s0 := (bs_end gi).symm.trans HB.out
              subst hE
              clear HB
              have e1 : i ≤ m := by omega
              have e2 : i ≤ mid := by omega
              have hij : i = j := by omega
              clear wp wp'
              have he := HE.out
              have we : IntKind.i64.wrap ((n : Int) - i) = (e : Int) := by rw [IntWalk.i64_in _ (by omega)]; omega
              have we' : (n : Int) - i = (e : Int) := by omega
              have e3 : m ≤ e := by omega
              have e4 : e ≤ b := by omega
              have e5 : mid ≤ e := by omega
              clear he
              subst hij
              obtain ⟨wo, rfl⟩ : ∃ wo, wo = wr := ⟨_, rfl⟩
              go_upto_region 39 with fail
              obtain ⟨B1, hB1⟩ : ∃ B, decide (i < m ∧ m < e) = B := ⟨_, rfl⟩
              have HB1 := Lib.hid hB1; clear hB1
              go_cut [185] (fun v w' => v = .bool B1 ∧ w' = wo)
              case first => as_aux_lemma =>
                by_cases ga : i < m
                · by_cases gb : m < e
                  · go_wp2_with fail
                    go_meet
                    exact ⟨by rw [← HB1.out]; simp [ga, gb], rfl⟩
                  · go_wp2_with fail
                    go_meet
                    exact ⟨by rw [← HB1.out]; simp [gb], rfl⟩
                · go_wp2_with fail
                  go_meet
                  exact ⟨by rw [← HB1.out]; simp [ga], rfl⟩
              case rest => as_aux_lemma =>
                obtain ⟨rfl, rfl⟩ := hcut
                go_upto_if 185 with fail
                go_cut [] (fun w' => RowAt w blk off d1 w')
                case first => as_aux_lemma =>
                  cases B1 with
                  | true =>
                    have hh := HB1.out
                    simp only [decide_eq_true_eq] at hh
                    obtain ⟨ga, gb⟩ := hh
                    go_wp2_with fail
                    have hc := rotate_calls d blk off cap i m e (.func (.func 63) #[] #[.pointer (some ⟨S, 0, none⟩)]) wc (by rw [HW.out]; exact holds_putRow encV w blk off d d HH.out rfl) ga gb (by omega) (by omega)
                    refine hc.mono ?_
                    rintro e' w' ⟨rfl, r, rfl⟩
                    go_wp2_with fail
                    go_meet
                    rw [HD1.out]
                    exact rowAt_next ⟨q, HW.out⟩ SZ1.out
                  | false =>
                    go_wp2_with fail
                    go_meet
                    have hh := HB1.out
                    simp only [decide_eq_false_iff_not] at hh
                    have : rot d m (m - i) (e - m) = d := by rw [rot, if_pos (by omega)]
                    exact ⟨q, by rw [HW.out, ← HD1.out, this]⟩
                case rest => as_aux_lemma =>
                  have HR1 := Lib.hid hcut
                  clear hcut HW
                  obtain ⟨wo, rfl⟩ : ∃ wo, wo = wc := ⟨_, rfl⟩
                  obtain ⟨B2, hB2⟩ : ∃ B, decide (a < i ∧ i < mid) = B := ⟨_, rfl⟩
                  have HB2 := Lib.hid hB2; clear hB2
                  go_upto_region 41 with fail
                  go_cut [199] (fun v w' => v = .bool B2 ∧ w' = wo)
                  case first => as_aux_lemma =>
                    by_cases ga : a < i
                    · by_cases gb : i < mid
                      · go_wp2_with fail
                        go_meet
                        exact ⟨by rw [← HB2.out]; simp [ga, gb], rfl⟩
                      · go_wp2_with fail
                        go_meet
                        exact ⟨by rw [← HB2.out]; simp [gb], rfl⟩
                    · go_wp2_with fail
                      go_meet
                      exact ⟨by rw [← HB2.out]; simp [ga], rfl⟩
                  case rest => as_aux_lemma =>
                    obtain ⟨rfl, rfl⟩ := hcut
                    go_upto_if 199 with fail
                    go_cut [] (fun w' => RowAt w blk off d2 w')
                    case first => as_aux_lemma =>
                      cases B2 with
                      | true =>
                        have hh := HB2.out
                        simp only [decide_eq_true_eq] at hh
                        have hd := HD2.out
                        rw [if_pos hh] at hd
                        have HD2' := Lib.hid hd
                        obtain ⟨ga, gb⟩ := hh
                        clear hd
                        go_wp2_with fail
                        have hc := IH.out d1 a i mid wc (rowAt_holds HR1.out HH.out SZ1.out) (rowAt_cell HR1.out HS.out hne) (by omega) ga gb (by rw [SZ1.out]; omega) (by rw [SZ1.out]; omega)
                        rw [SZ1.out] at hc
                        refine hc.mono ?_
                        rintro e' w' ⟨rfl, r, rfl⟩
                        go_wp2_with fail
                        go_meet
                        rw [HD2'.out]
                        exact rowAt_next HR1.out (SZ2.out.trans SZ1.out.symm)
                      | false =>
                        go_wp2_with fail
                        go_meet
                        have hh := HB2.out
                        simp only [decide_eq_false_iff_not] at hh
                        have hd := HD2.out
                        rw [if_neg hh] at hd
                        rw [← hd]; exact HR1.out
                    case rest => as_aux_lemma =>
                      have HR2 := Lib.hid hcut
                      clear hcut HR1
                      obtain ⟨wo, rfl⟩ : ∃ wo, wo = wc := ⟨_, rfl⟩
                      obtain ⟨B3, hB3⟩ : ∃ B, decide (mid < e ∧ e < b) = B := ⟨_, rfl⟩
                      have HB3 := Lib.hid hB3; clear hB3
                      go_upto_region 43 with fail
                      go_cut [213] (fun v w' => v = .bool B3 ∧ w' = wo)
                      case first => as_aux_lemma =>
                        by_cases ga : mid < e
                        · by_cases gb : e < b
                          · go_wp2_with fail
                            go_meet
                            exact ⟨by rw [← HB3.out]; simp [ga, gb], rfl⟩
                          · go_wp2_with fail
                            go_meet
                            exact ⟨by rw [← HB3.out]; simp [gb], rfl⟩
                        · go_wp2_with fail
                          go_meet
                          exact ⟨by rw [← HB3.out]; simp [ga], rfl⟩
                      case rest => as_aux_lemma =>
                        obtain ⟨rfl, rfl⟩ := hcut
                        cases B3 with
                        | true =>
                          have hh := HB3.out
                          simp only [decide_eq_true_eq] at hh
                          have hd := HD3.out
                          rw [if_pos hh] at hd
                          have HD3' := Lib.hid hd
                          obtain ⟨ga, gb⟩ := hh
                          clear hd
                          go_wp2_with fail
                          have hc := IH.out d2 mid e b wc (rowAt_holds HR2.out HH.out SZ2.out) (rowAt_cell HR2.out HS.out hne) (by omega) ga gb (by rw [SZ2.out]; omega) (by rw [SZ2.out]; omega)
                          rw [SZ2.out] at hc
                          refine hc.mono ?_
                          rintro e' w' ⟨rfl, r, rfl⟩
                          go_wp2_with fail
                          go_end0
                          refine ⟨rfl, ?_⟩
                          have := rowAt_next (r := r) HR2.out (show d3.size = d2.size by rw [← HD3'.out]; exact size_symM' ..)
                          rw [HD3'.out]; exact this
                        | false =>
                          go_wp2_with fail
                          go_end0
                          refine ⟨rfl, ?_⟩
                          have hh := HB3.out
                          simp only [decide_eq_false_iff_not] at hh
                          have hd := HD3.out
                          rw [if_neg hh] at hd
                          rw [← hd]; exact HR2.out
end Go.Proofs.Ytjfdlibceldanaa
