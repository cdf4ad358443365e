/- slices' symMerge over []int, by a number's upper bits: the walk. -/
import Derived.Test.YtjfdlibceldanaaStable
namespace Go.Proofs.Ytjfdlibceldanaa
open Go.RowKit Go.Sort Stab

theorem cellS {w : World} {blk off S : Nat} {v : Value} (D : Array V) (q : Nat) (hS : w.cell? ⟨S, 0, none⟩ = some v) (hne : S ≠ blk) : ((putRow encV w blk off D).drewN q).cell? ⟨S, 0, none⟩ = some v := by
  show (putRow encV w blk off D).cell? ⟨S, 0, none⟩ = some v
  rw [cell?_putRow_other encV w blk off D _ (.inl hne)]; exact hS
theorem cellR {w : World} {blk off : Nat} {d D : Array V} (q : Nat) (hH : Holds encV w blk off d) (hD : D.size = d.size) {k : Nat} (hk : k < d.size) : ((putRow encV w blk off D).drewN q).cell? ⟨blk, off + k, none⟩ = some (encV D[k]!) ∧ ((putRow encV w blk off D).drewN q).frozen? ⟨blk, off + k, none⟩ = false :=
  holds_putRow encV w blk off d D hH hD k (by omega)
theorem ltk_true {s : Nat} {x y : V} (h : keyV s x < keyV s y) : ltk (keyV s) x y = true := by simp [ltk, h]
theorem ltk_false {s : Nat} {x y : V} (h : ¬ keyV s x < keyV s y) : ltk (keyV s) x y = false := by simp [ltk]; omega
theorem bs_yes {p : Nat → Bool} {i j h : Nat} (hij : i < j) (hh : (i + j) / 2 = h) (hp : p h = true) : bs p i j = bs p (h + 1) j := by rw [bs, if_pos hij, hh, if_pos hp]
theorem bs_no {p : Nat → Bool} {i j h : Nat} (hij : i < j) (hh : (i + j) / 2 = h) (hp : p h = false) : bs p i j = bs p i h := by rw [bs, if_pos hij, hh, if_neg (by simp [hp])]
theorem bs_end {p : Nat → Bool} {i j : Nat} (hij : ¬ i < j) : bs p i j = i := by rw [bs, if_neg hij]

set_option maxHeartbeats 4000000 in
set_option maxRecDepth 100000 in
theorem symL_calls (s : Nat) (hs : s < 16) (S : Nat) (d : Array V) (blk off cap a m b : Nat) (w : World) (hH : Holds encV w blk off d) (hS : w.cell? ⟨S, 0, none⟩ = some (.int .u64 s)) (hne : S ≠ blk)
    (hma : m - a = 1) (hmb : m < b) (hb : b ≤ d.size) (hsz : d.size < 2305843009213693952) :
    Calls Try.prog 94 #[.slice (some ⟨blk, off, none⟩) d.size cap, .int .i64 a, .int .i64 m, .int .i64 b, .func (.func 63) #[] #[.pointer (some ⟨S, 0, none⟩)]] w fun e w' =>
      e = .returned (.tuple #[]) ∧ ∃ q, w' = (putRow encV w blk off (bubR d a (bs (fun h => ltk (keyV s) d[h]! d[a]!) m b - 1))).drewN q := by
  have HST : Hid (w = (putRow encV w blk off d).drewN 0) := (putRow_self encV w blk off d hH).symm
  have HH : Hid (Holds encV w blk off d) := hH
  have HS := Lib.hid hS
  have w0 : IntKind.i64.wrap ((m : Int) - a) = 1 := by rw [IntWalk.i64_in _ (by omega)]; omega
  obtain ⟨p, hp⟩ : ∃ p : Nat → Bool, (fun h : Nat => ltk (keyV s) d[h]! d[a]!) = p := ⟨_, rfl⟩
  have HP := Lib.hid hp
  rw [hp]
  clear hp hH hS
  go_enter Try.func94, Try.ntmps94
  go_wp2_with fail
  go_loopw [10, 11] (fun vi vj wr => ∃ (i j q : Nat), vi = .int .i64 i ∧ vj = .int .i64 j ∧ m ≤ i ∧ i ≤ j ∧ j ≤ b ∧ Hid (wr = (putRow encV w blk off d).drewN q) ∧ Hid (bs p i j = bs p m b)) (fun vi vj _ => (intOf vj).toNat - (intOf vi).toNat)
  case atStart => exact ⟨m, b, 0, rfl, rfl, by omega, by omega, by omega, HST, rfl⟩
  case round =>
    obtain ⟨i, j, q, rfl, rfl, hi, hij, hjb, HW, HB⟩ := hrel
    by_cases g : i < j
    · obtain ⟨h, hh⟩ : ∃ h, (i + j) / 2 = h := ⟨_, rfl⟩
      have hh' : ((i : Int) + (j : Int)) / 2 = (h : Int) := by omega
      have hc1 := (cellR q HH.out (rfl : d.size = d.size) (show h < d.size by omega)).1
      have hc2 := (cellR q HH.out (rfl : d.size = d.size) (show a < d.size by omega)).1
      have hc3 := cellS (off := off) d q HS.out hne
      rw [← HW.out] at hc1 hc2 hc3
      obtain ⟨x, hx⟩ : ∃ x, d[h]! = x := ⟨_, rfl⟩
      obtain ⟨y, hy⟩ : ∃ y, d[a]! = y := ⟨_, rfl⟩
      rw [hx] at hc1; rw [hy] at hc2
      have hph : p h = ltk (keyV s) x y := by rw [← hx, ← hy, ← HP.out]
      have HPH := Lib.hid hph
      have HHH := Lib.hid hh
      have b1 : h < j := by omega
      have b2 : i ≤ h := by omega
      clear hx hy hph hh
      have hcmp := fun n => cmpV_calls s hs S x y (wr.drewN n) hc3
      by_cases c : keyV s x < keyV s y
      · have c' : decide ((keyV s x : Int) - (keyV s y : Int) < 0) = true := by simp; omega
        have ht := Lib.hid (bs_yes g HHH.out (HPH.out.trans (ltk_true c)))
        go_wp2_with fail
        go_quiet ((first | (go_at_call 63; exact Calls.quiet_of_same (hcmp _))))
        go_wp2_with fail
        refine ⟨⟨h + 1, j, q + nq, by go_num, rfl, by omega, by omega, hjb, (show _ = _ from ?_), (show _ = _ from ?_)⟩, by simp [intOf]; omega⟩
        · rw [HW.out, World.drewN_drewN]
        · rw [← HB.out, ht.out]
      · have c' : decide ((keyV s x : Int) - (keyV s y : Int) < 0) = false := by simp; omega
        have ht := Lib.hid (bs_no g HHH.out (HPH.out.trans (ltk_false c)))
        go_wp2_with fail
        go_quiet ((first | (go_at_call 63; exact Calls.quiet_of_same (hcmp _))))
        go_wp2_with fail
        refine ⟨⟨i, h, q + nq, rfl, rfl, hi, b2, by omega, (show _ = _ from ?_), (show _ = _ from ?_)⟩, by simp [intOf]; omega⟩
        · rw [HW.out, World.drewN_drewN]
        · rw [← HB.out, ht.out]
    · have hE := Lib.hid ((bs_end g).symm.trans HB.out)
      obtain ⟨e, he⟩ : ∃ e, i - 1 = e := ⟨_, rfl⟩
      have w1 : IntKind.i64.wrap ((i : Int) - 1) = (e : Int) := by rw [IntWalk.i64_in _ (by omega)]; omega
      have he' : (i : Int) - 1 = (e : Int) := by omega
      have b1 : a ≤ e := by omega
      have b2 : e < d.size := by omega
      have HE := Lib.hid he; clear he
      obtain ⟨wo, rfl⟩ : ∃ wo, wo = wr := ⟨_, rfl⟩
      go_wp2_with fail
      go_loopw [13] (fun vk wr => ∃ (k q : Nat) (D : Array V), vk = .int .i64 k ∧ a ≤ k ∧ k ≤ e ∧ D.size = d.size ∧ Hid (wr = (putRow encV w blk off D).drewN q) ∧ Hid (bubR D k e = bubR d a e)) (fun vk _ => e - (intOf vk).toNat)
      case atStart => exact ⟨a, q, d, rfl, by omega, b1, rfl, HW, rfl⟩
      case round =>
        clear HW HB
        obtain ⟨k, q, D, rfl, hk1, hk2, hD, HW, HB⟩ := hrel
        by_cases gk : k < e
        · obtain ⟨k1, hk1'⟩ : ∃ k1, k + 1 = k1 := ⟨_, rfl⟩
          have w2 : IntKind.i64.wrap ((k : Int) + 1) = (k1 : Int) := by rw [IntWalk.i64_in _ (by omega)]; omega
          have w3 : (k : Int) + 1 = (k1 : Int) := by omega
          have hc1 := cellR q HH.out hD (show k < d.size by omega)
          have hc2 := cellR q HH.out hD (show k1 < d.size by omega)
          rw [← HW.out] at hc1 hc2
          obtain ⟨x, hx⟩ : ∃ x, D[k]! = x := ⟨_, rfl⟩
          obtain ⟨y, hy⟩ : ∃ y, D[k1]! = y := ⟨_, rfl⟩
          rw [hx] at hc1; rw [hy] at hc2
          obtain ⟨hc1, hf1⟩ := hc1
          obtain ⟨hc2, hf2⟩ := hc2
          have HX := Lib.hid hx; have HY := Lib.hid hy; have HK := Lib.hid hk1'
          have l1 : (k : Int) < d.size := by omega
          have l2 : (k1 : Int) < d.size := by omega
          clear hx hy hk1'
          go_wp2_with fail
          go_big_region
          all_goals go_wp2_with fail
          refine ⟨⟨k1, q + 1, swp D k k1, rfl, by omega, by omega, by rw [size_swp]; exact hD, (show _ = _ from ?_), (show _ = _ from ?_)⟩, by simp [intOf]; omega⟩
          · rw [HW.out, ← HX.out, ← HY.out]
            exact swap_worldC encV w blk off D q k k1 (by omega) (by omega)
          · rw [← HB.out, ← HK.out]
            conv => rhs; rw [bubR, if_pos gk]
        · go_wp2_with fail
          obtain rfl : k = e := by omega
          refine bodyPost_ret (results_none (by rfl) _ _ _) rfl ?_
          refine ⟨rfl, q, ?_⟩
          rw [HW.out, ← hE.out, HE.out, ← HB.out, bubR, if_neg (Nat.lt_irrefl _)]

set_option maxHeartbeats 4000000 in
set_option maxRecDepth 100000 in
theorem symR_calls (s : Nat) (hs : s < 16) (S : Nat) (d : Array V) (blk off cap a m b : Nat) (w : World) (hH : Holds encV w blk off d) (hS : w.cell? ⟨S, 0, none⟩ = some (.int .u64 s)) (hne : S ≠ blk)
    (ham : a < m) (hma : m - a ≠ 1) (hmb : b - m = 1) (hb : b ≤ d.size) (hsz : d.size < 2305843009213693952) :
    Calls Try.prog 94 #[.slice (some ⟨blk, off, none⟩) d.size cap, .int .i64 a, .int .i64 m, .int .i64 b, .func (.func 63) #[] #[.pointer (some ⟨S, 0, none⟩)]] w fun e w' =>
      e = .returned (.tuple #[]) ∧ ∃ q, w' = (putRow encV w blk off (bubL d (bs (fun h => !ltk (keyV s) d[m]! d[h]!) a m) m)).drewN q := by
  have HST : Hid (w = (putRow encV w blk off d).drewN 0) := (putRow_self encV w blk off d hH).symm
  have HH : Hid (Holds encV w blk off d) := hH
  have HS := Lib.hid hS
  obtain ⟨z, hz⟩ : ∃ z, m - a = z := ⟨_, rfl⟩
  have w0 : IntKind.i64.wrap ((m : Int) - a) = (z : Int) := by rw [IntWalk.i64_in _ (by omega)]; omega
  have w0' : ((z : Int) == 1) = false := by rw [beq_eq_false_iff_ne]; omega
  have w00 : IntKind.i64.wrap ((b : Int) - m) = 1 := by rw [IntWalk.i64_in _ (by omega)]; omega
  obtain ⟨p, hp⟩ : ∃ p : Nat → Bool, (fun h : Nat => !ltk (keyV s) d[m]! d[h]!) = p := ⟨_, rfl⟩
  have HP := Lib.hid hp
  rw [hp]
  clear hp hH hS hz
  go_enter Try.func94, Try.ntmps94
  go_wp2_with fail
  go_loopw [14, 15] (fun vi vj wr => ∃ (i j q : Nat), vi = .int .i64 i ∧ vj = .int .i64 j ∧ a ≤ i ∧ i ≤ j ∧ j ≤ m ∧ Hid (wr = (putRow encV w blk off d).drewN q) ∧ Hid (bs p i j = bs p a m)) (fun vi vj _ => (intOf vj).toNat - (intOf vi).toNat)
  case atStart => exact ⟨a, m, 0, rfl, rfl, by omega, by omega, by omega, HST, rfl⟩
  case round =>
    obtain ⟨i, j, q, rfl, rfl, hi, hij, hjb, HW, HB⟩ := hrel
    by_cases g : i < j
    · obtain ⟨h, hh⟩ : ∃ h, (i + j) / 2 = h := ⟨_, rfl⟩
      have hh' : ((i : Int) + (j : Int)) / 2 = (h : Int) := by omega
      have hc1 := (cellR q HH.out (rfl : d.size = d.size) (show m < d.size by omega)).1
      have hc2 := (cellR q HH.out (rfl : d.size = d.size) (show h < d.size by omega)).1
      have hc3 := cellS (off := off) d q HS.out hne
      rw [← HW.out] at hc1 hc2 hc3
      obtain ⟨x, hx⟩ : ∃ x, d[m]! = x := ⟨_, rfl⟩
      obtain ⟨y, hy⟩ : ∃ y, d[h]! = y := ⟨_, rfl⟩
      rw [hx] at hc1; rw [hy] at hc2
      have hph : p h = !ltk (keyV s) x y := by rw [← hx, ← hy, ← HP.out]
      have HPH := Lib.hid hph
      have HHH := Lib.hid hh
      have b1 : h < j := by omega
      have b2 : i ≤ h := by omega
      clear hx hy hph hh
      have hcmp := fun n => cmpV_calls s hs S x y (wr.drewN n) hc3
      by_cases c : keyV s x < keyV s y
      · have c' : decide ((keyV s x : Int) - (keyV s y : Int) < 0) = true := by simp; omega
        have ht := Lib.hid (bs_no g HHH.out (HPH.out.trans (by rw [ltk_true c]; rfl)))
        go_wp2_with fail
        go_quiet ((first | (go_at_call 63; exact Calls.quiet_of_same (hcmp _))))
        go_wp2_with fail
        refine ⟨⟨i, h, q + nq, rfl, rfl, hi, b2, by omega, (show _ = _ from ?_), (show _ = _ from ?_)⟩, by simp [intOf]; omega⟩
        · rw [HW.out, World.drewN_drewN]
        · rw [← HB.out, ht.out]
      · have c' : decide ((keyV s x : Int) - (keyV s y : Int) < 0) = false := by simp; omega
        have ht := Lib.hid (bs_yes g HHH.out (HPH.out.trans (by rw [ltk_false c]; rfl)))
        go_wp2_with fail
        go_quiet ((first | (go_at_call 63; exact Calls.quiet_of_same (hcmp _))))
        go_wp2_with fail
        refine ⟨⟨h + 1, j, q + nq, by go_num, rfl, by omega, by omega, hjb, (show _ = _ from ?_), (show _ = _ from ?_)⟩, by simp [intOf]; omega⟩
        · rw [HW.out, World.drewN_drewN]
        · rw [← HB.out, ht.out]
    · have hE := Lib.hid ((bs_end g).symm.trans HB.out)
      have b2 : i ≤ m := by omega
      obtain ⟨wo, rfl⟩ : ∃ wo, wo = wr := ⟨_, rfl⟩
      go_wp2_with fail
      go_loopw [17] (fun vk wr => ∃ (k q : Nat) (D : Array V), vk = .int .i64 k ∧ i ≤ k ∧ k ≤ m ∧ D.size = d.size ∧ Hid (wr = (putRow encV w blk off D).drewN q) ∧ Hid (bubL D i k = bubL d i m)) (fun vk _ => (intOf vk).toNat)
      case atStart => exact ⟨m, q, d, rfl, b2, by omega, rfl, HW, rfl⟩
      case round =>
        clear HW HB
        obtain ⟨k, q, D, rfl, hk1, hk2, hD, HW, HB⟩ := hrel
        by_cases gk : i < k
        · obtain ⟨k1, hk1'⟩ : ∃ k1, k = k1 + 1 := ⟨k - 1, by omega⟩
          have w2 : IntKind.i64.wrap ((k : Int) - 1) = (k1 : Int) := by rw [IntWalk.i64_in _ (by omega)]; omega
          have w3 : (k : Int) - 1 = (k1 : Int) := by omega
          have hc1 := cellR q HH.out hD (show k < d.size by omega)
          have hc2 := cellR q HH.out hD (show k1 < d.size by omega)
          rw [← HW.out] at hc1 hc2
          obtain ⟨x, hx⟩ : ∃ x, D[k]! = x := ⟨_, rfl⟩
          obtain ⟨y, hy⟩ : ∃ y, D[k1]! = y := ⟨_, rfl⟩
          rw [hx] at hc1; rw [hy] at hc2
          obtain ⟨hc1, hf1⟩ := hc1
          obtain ⟨hc2, hf2⟩ := hc2
          have HX := Lib.hid hx; have HY := Lib.hid hy; have HK := Lib.hid hk1'
          have l1 : (k : Int) < d.size := by omega
          have l2 : (k1 : Int) < d.size := by omega
          have l3 : k1 < k := by omega
          have l4 : i ≤ k1 := by omega
          clear hx hy hk1'
          go_wp2_with fail
          go_big_region
          all_goals go_wp2_with fail
          refine ⟨⟨k1, q + 1, swp D k k1, rfl, l4, by omega, by rw [size_swp]; exact hD, (show _ = _ from ?_), (show _ = _ from ?_)⟩, by simp [intOf]; omega⟩
          · rw [HW.out, ← HX.out, ← HY.out]
            exact swap_worldC encV w blk off D q k k1 (by omega) (by omega)
          · have hK := HK.out
            rw [← HB.out, hK]
            conv => rhs; rw [bubL, if_pos (by omega)]
        · go_wp2_with fail
          obtain rfl : k = i := by omega
          refine bodyPost_ret (results_none (by rfl) _ _ _) rfl ?_
          refine ⟨rfl, q, ?_⟩
          have stop : ∀ (D : Array V) (k : Nat), bubL D k k = D := fun D k => by
            cases k with
            | zero => rfl
            | succ k => rw [bubL, if_neg (Nat.lt_irrefl _)]
          rw [HW.out, ← hE.out, ← HB.out, stop]
end Go.Proofs.Ytjfdlibceldanaa
