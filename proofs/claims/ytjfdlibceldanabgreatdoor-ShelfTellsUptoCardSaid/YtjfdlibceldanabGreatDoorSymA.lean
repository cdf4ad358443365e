/- slices.SortStableFunc over []int, by a number's upper bits: its parts' walks. slices' symMerge over []int, by a number's upper bits: the walk. slices' symMerge over []int, by a number's upper bits: the walk, whole. slices.SortStableFunc over []int, by a number's upper bits: the whole. -/
import Derived.Test.YtjfdlibceldanabGreatDoorBase
import Derived.Test.YtjfdlibceldanabGreatDoorProg
import Derived.Test.YtjfdlibceldanabGreatDoorStabA
import Derived.Sort.WalkC
import Derived.BigRegion
import Derived.Test.YtjfdlibceldanabGreatDoorShelf
/-! slices.SortStableFunc over []int, by a number's upper bits: its parts' walks. -/
namespace Go.Proofs.YtjfdlibceldanabGreatDoor
open Go.RowKit Go.Sort Stab

/-- The numbers of a wave: of 16 bits. -/
abbrev V := Fin 65536
abbrev encV (v : V) : Value := .int .i64 ((v.val : Nat) : Int)
def keyV (s : Nat) (v : V) : Nat := v.val / 2 ^ s

set_option maxHeartbeats 1000000 in
theorem cmpV_calls (s : Nat) (hs : s < 16) (S : Nat) (x y : V) (w : World) (hS : w.cell? ⟨S, 0, none⟩ = some (.int .u64 s)) :
    Calls Tryz.prog 86 #[encV x, encV y, .pointer (some ⟨S, 0, none⟩)] w fun e w' => e = .returned (.int .i64 ((keyV s x : Nat) - (keyV s y : Nat) : Int)) ∧ w' = w := by
  unfold keyV
  have hx := x.isLt
  have hy := y.isLt
  obtain ⟨x, hx'⟩ := x
  obtain ⟨y, hy'⟩ := y
  dsimp only at *
  have q1 : x / 2 ^ s ≤ x := Nat.div_le_self _ _
  have q2 : y / 2 ^ s ≤ y := Nat.div_le_self _ _
  go_enter Tryz.func86, Tryz.ntmps86
  go_wp2_with fail
  go_ret
  refine ⟨?_, rfl⟩
  have e1 : ((x : Int) / 2 ^ s) = ((x / 2 ^ s : Nat) : Int) := by simp
  have e2 : ((y : Int) / 2 ^ s) = ((y / 2 ^ s : Nat) : Int) := by simp
  rw [e1, e2]
  generalize x / 2 ^ s = a at *
  generalize y / 2 ^ s = b at *
  rw [IntWalk.wrap64_in _ (by omega)]
  rfl

set_option maxHeartbeats 4000000 in
set_option maxRecDepth 100000 in
theorem swapRange_calls (d : Array V) (blk off cap a b n : Nat) (f : Value) (w : World) (hH : Holds encV w blk off d) (hab : a + n ≤ b) (hb : b + n ≤ d.size) (hsz : d.size < 4611686018427387904) :
    Calls Tryz.prog 179 #[.slice (some ⟨blk, off, none⟩) d.size cap, .int .i64 a, .int .i64 b, .int .i64 n, f] w fun e w' =>
      e = .returned (.tuple #[]) ∧ ∃ q, w' = (putRow encV w blk off (swpN d a b n)).drewN q := by
  have HST : Hid (w = (putRow encV w blk off d).drewN 0) := (putRow_self encV w blk off d hH).symm
  have HH : Hid (Holds encV w blk off d) := hH
  clear hH
  go_enter Tryz.func179, Tryz.ntmps179
  go_wp2_with fail
  go_loopw [10] (fun v wr => ∃ (i q : Nat), v = .int .i64 i ∧ i ≤ n ∧ Hid (wr = (putRow encV w blk off (swpN d a b i)).drewN q)) (fun v _ => n - (intOf v).toNat)
  case atStart => exact ⟨0, 0, rfl, by omega, HST⟩
  case round =>
    obtain ⟨i, q, rfl, hi, HW⟩ := hrel
    by_cases g : i < n
    · have hs : (swpN d a b i).size = d.size := size_swpN ..
      have hHj := holds_putRow encV w blk off d (swpN d a b i) HH.out hs
      obtain ⟨c1, f1⟩ := hHj (a + i) (by omega)
      obtain ⟨c2, f2⟩ := hHj (b + i) (by omega)
      have c1' : wr.cell? ⟨blk, off + (a + i), none⟩ = some (encV (swpN d a b i)[a + i]!) := by rw [HW.out]; exact c1
      have c2' : wr.cell? ⟨blk, off + (b + i), none⟩ = some (encV (swpN d a b i)[b + i]!) := by rw [HW.out]; exact c2
      have f1' : wr.frozen? ⟨blk, off + (a + i), none⟩ = false := by rw [HW.out]; exact f1
      have f2' : wr.frozen? ⟨blk, off + (b + i), none⟩ = false := by rw [HW.out]; exact f2
      clear c1 c2 f1 f2 hHj
      obtain ⟨x, hx⟩ : ∃ x, (swpN d a b i)[a + i]! = x := ⟨_, rfl⟩
      obtain ⟨y, hy⟩ : ∃ y, (swpN d a b i)[b + i]! = y := ⟨_, rfl⟩
      rw [hx] at c1'; rw [hy] at c2'
      have HX := Lib.hid hx; have HY := Lib.hid hy
      clear hx hy
      obtain ⟨ai, hai⟩ : ∃ q, a + i = q := ⟨_, rfl⟩
      obtain ⟨bi, hbi⟩ : ∃ q, b + i = q := ⟨_, rfl⟩
      rw [hai] at c1' f1'; rw [hbi] at c2' f2'
      have w1 : IntKind.i64.wrap ((a : Int) + i) = (ai : Int) := by rw [IntWalk.i64_in _ (by omega)]; omega
      have w2 : IntKind.i64.wrap ((b : Int) + i) = (bi : Int) := by rw [IntWalk.i64_in _ (by omega)]; omega
      have h1 : (ai : Int) < d.size := by omega
      have h2 : (bi : Int) < d.size := by omega
      go_wp2_with fail
      go_big_region
      all_goals go_wp2_with fail
      refine ⟨⟨i + 1, q + 1, by go_num, by omega, (show _ = _ from ?_)⟩, by simp [intOf]; omega⟩
      rw [HW.out, ← HX.out, ← HY.out, ← hai, ← hbi]
      exact swap_worldC encV w blk off (swpN d a b i) q (a + i) (b + i) (by omega) (by omega)
    · go_wp2_with fail
      obtain rfl : i = n := by omega
      go_end0
      exact ⟨rfl, q, HW.out⟩

theorem put_put (w : World) (blk off : Nat) (D X : Array V) (q r : Nat) (h : X.size = D.size) : (putRow encV ((putRow encV w blk off D).drewN q) blk off X).drewN r = (putRow encV w blk off X).drewN (q + r) := by
  have e : putRow encV ((putRow encV w blk off D).drewN q) blk off X = (putRow encV (putRow encV w blk off D) blk off X).drewN q := rfl
  rw [e, putRow_putRow encV w blk off D X h, World.drewN_drewN]

set_option maxHeartbeats 4000000 in
set_option maxRecDepth 100000 in
theorem rotate_calls (d : Array V) (blk off cap a m b : Nat) (f : Value) (w : World) (hH : Holds encV w blk off d) (ham : a < m) (hmb : m < b) (hb : b ≤ d.size) (hsz : d.size < 4611686018427387904) :
    Calls Tryz.prog 170 #[.slice (some ⟨blk, off, none⟩) d.size cap, .int .i64 a, .int .i64 m, .int .i64 b, f] w fun e w' =>
      e = .returned (.tuple #[]) ∧ ∃ q, w' = (putRow encV w blk off (rot d m (m - a) (b - m))).drewN q := by
  have HST : Hid (w = (putRow encV w blk off d).drewN 0) := (putRow_self encV w blk off d hH).symm
  have HH : Hid (Holds encV w blk off d) := hH
  clear hH
  obtain ⟨i0, hi0⟩ : ∃ q, m - a = q := ⟨_, rfl⟩
  obtain ⟨j0, hj0⟩ : ∃ q, b - m = q := ⟨_, rfl⟩
  have w1 : IntKind.i64.wrap ((m : Int) - a) = (i0 : Int) := by rw [IntWalk.i64_in _ (by omega)]; omega
  have w2 : IntKind.i64.wrap ((b : Int) - m) = (j0 : Int) := by rw [IntWalk.i64_in _ (by omega)]; omega
  rw [hi0, hj0]
  go_enter Tryz.func170, Tryz.ntmps170
  go_wp2_with fail
  go_loopw [10, 11] (fun vi vj wr => ∃ (i j q : Nat) (D : Array V), vi = .int .i64 i ∧ vj = .int .i64 j ∧ 0 < i ∧ 0 < j ∧ i ≤ m ∧ m + j ≤ d.size ∧ D.size = d.size ∧ Hid (wr = (putRow encV w blk off D).drewN q) ∧ Hid (rot D m i j = rot d m i0 j0)) (fun vi vj _ => (intOf vi).toNat + (intOf vj).toNat)
  case atStart => exact ⟨i0, j0, 0, d, rfl, rfl, by omega, by omega, by omega, by omega, rfl, HST, rfl⟩
  case round =>
    obtain ⟨i, j, q, D, rfl, rfl, hi, hj, him, hjm, hD, HW, HR⟩ := hrel
    have hHD : Holds encV wr blk off D := by rw [HW.out]; exact holds_putRow encV w blk off d D HH.out hD
    obtain ⟨mi, hmi⟩ : ∃ q, m - i = q := ⟨_, rfl⟩
    have w3 : IntKind.i64.wrap ((m : Int) - i) = (mi : Int) := by rw [IntWalk.i64_in _ (by omega)]; omega
    have eR := rot.eq_1 D m i j
    rw [if_neg (by omega), hmi] at eR
    by_cases g : i = j
    · subst g
      rw [if_pos rfl] at eR
      have ER := Lib.hid eR; clear eR
      go_wp2_with fail
      have hc := swapRange_calls D blk off cap mi m i f wr hHD (by omega) (by omega) (by omega)
      rw [hD] at hc
      refine hc.mono ?_
      rintro e w' ⟨rfl, r, rfl⟩
      go_wp2_with fail
      go_end0
      refine ⟨rfl, q + r, ?_⟩
      rw [HW.out, put_put w blk off D _ q r (size_swpN ..), ← HR.out, ER.out]
    · rw [if_neg g] at eR
      have g' : ((i : Int) == (j : Int)) = false := by simp; omega
      by_cases g2 : j < i
      · rw [if_pos g2] at eR
        have ER := Lib.hid eR; clear eR
        obtain ⟨k, hk⟩ : ∃ q, i - j = q := ⟨_, rfl⟩
        have w4 : IntKind.i64.wrap ((i : Int) - j) = (k : Int) := by rw [IntWalk.i64_in _ (by omega)]; omega
        go_wp2_with fail
        have hc := swapRange_calls D blk off cap mi m j f wr hHD (by omega) (by omega) (by omega)
        rw [hD] at hc
        refine hc.mono ?_
        rintro e w' ⟨rfl, r, rfl⟩
        go_wp2_with fail
        go_roundw
        case rel =>
          refine ⟨k, j, q + r, swpN D mi m j, by first | rfl | go_num, rfl, by omega, by omega, by omega, by omega, by rw [size_swpN]; exact hD, (show _ = _ from ?_), (show _ = _ from ?_)⟩
          · rw [HW.out, put_put w blk off D _ q r (size_swpN ..)]
          · rw [← HR.out, ER.out, hk]
        case measure => simp [intOf]; omega
      · rw [if_neg g2] at eR
        have ER := Lib.hid eR; clear eR
        obtain ⟨k, hk⟩ : ∃ q, j - i = q := ⟨_, rfl⟩
        obtain ⟨b2, hb2⟩ : ∃ q, m + j - i = q := ⟨_, rfl⟩
        rw [hk, hb2] at ER
        have w4 : IntKind.i64.wrap ((j : Int) - i) = (k : Int) := by rw [IntWalk.i64_in _ (by omega)]; omega
        have w5 : IntKind.i64.wrap ((m : Int) + j - i) = (b2 : Int) := by rw [IntWalk.i64_in _ (by omega)]; omega
        go_wp2_with fail
        have hc := swapRange_calls D blk off cap mi b2 i f wr hHD (by omega) (by omega) (by omega)
        rw [hD] at hc
        refine hc.mono ?_
        rintro e w' ⟨rfl, r, rfl⟩
        go_wp2_with fail
        go_roundw
        case rel =>
          refine ⟨i, k, q + r, swpN D mi b2 i, rfl, by first | rfl | go_num, by omega, by omega, by omega, by omega, by rw [size_swpN]; exact hD, (show _ = _ from ?_), (show _ = _ from ?_)⟩
          · rw [HW.out, put_put w blk off D _ q r (size_swpN ..)]
          · rw [← HR.out, ER.out]
        case measure => simp [intOf]; omega
end Go.Proofs.YtjfdlibceldanabGreatDoor

/-! slices' symMerge over []int, by a number's upper bits: the walk. -/
namespace Go.Proofs.YtjfdlibceldanabGreatDoor
open Go.RowKit Go.Sort Stab

theorem cellS {w : World} {blk off S : Nat} {v : Value} (D : Array V) (q : Nat) (hS : w.cell? ⟨S, 0, none⟩ = some v) (hne : S ≠ blk) : ((putRow encV w blk off D).drewN q).cell? ⟨S, 0, none⟩ = some v := by
  show (putRow encV w blk off D).cell? ⟨S, 0, none⟩ = some v
  rw [cell?_putRow_other encV w blk off D _ (.inl hne)]; exact hS
theorem cellR {w : World} {blk off : Nat} {d D : Array V} (q : Nat) (hH : Holds encV w blk off d) (hD : D.size = d.size) {k : Nat} (hk : k < d.size) : ((putRow encV w blk off D).drewN q).cell? ⟨blk, off + k, none⟩ = some (encV D[k]!) ∧ ((putRow encV w blk off D).drewN q).frozen? ⟨blk, off + k, none⟩ = false :=
  holds_putRow encV w blk off d D hH hD k (by omega)
theorem ltk_true {s : Nat} {x y : V} (h : keyV s x < keyV s y) : ltk (keyV s) x y = true := by simp [ltk, h]
theorem ltk_false {s : Nat} {x y : V} (h : ¬ keyV s x < keyV s y) : ltk (keyV s) x y = false := by simp [ltk]; omega
theorem bs_yes {p : Nat → Bool} {i j h : Nat} (hij : i < j) (hh : (i + j) / 2 = h) (hp : p h = true) : bs p i j = bs p (h + 1) j := by rw [bs, if_pos hij, hh, if_pos hp]
theorem bs_no {p : Nat → Bool} {i j h : Nat} (hij : i < j) (hh : (i + j) / 2 = h) (hp : p h = false) : bs p i j = bs p i h := by rw [bs, if_pos hij, hh, if_neg (by simp [hp])]
theorem bs_end {p : Nat → Bool} {i j : Nat} (hij : ¬ i < j) : bs p i j = i := by rw [bs, if_neg hij]

set_option maxHeartbeats 4000000 in
set_option maxRecDepth 100000 in
theorem symL_calls (s : Nat) (hs : s < 16) (S : Nat) (d : Array V) (blk off cap a m b : Nat) (w : World) (hH : Holds encV w blk off d) (hS : w.cell? ⟨S, 0, none⟩ = some (.int .u64 s)) (hne : S ≠ blk)
    (hma : m - a = 1) (hmb : m < b) (hb : b ≤ d.size) (hsz : d.size < 2305843009213693952) :
    Calls Tryz.prog 151 #[.slice (some ⟨blk, off, none⟩) d.size cap, .int .i64 a, .int .i64 m, .int .i64 b, .func (.func 86) #[] #[.pointer (some ⟨S, 0, none⟩)]] w fun e w' =>
      e = .returned (.tuple #[]) ∧ ∃ q, w' = (putRow encV w blk off (bubR d a (bs (fun h => ltk (keyV s) d[h]! d[a]!) m b - 1))).drewN q := by
  have HST : Hid (w = (putRow encV w blk off d).drewN 0) := (putRow_self encV w blk off d hH).symm
  have HH : Hid (Holds encV w blk off d) := hH
  have HS := Lib.hid hS
  have w0 : IntKind.i64.wrap ((m : Int) - a) = 1 := by rw [IntWalk.i64_in _ (by omega)]; omega
  obtain ⟨p, hp⟩ : ∃ p : Nat → Bool, (fun h : Nat => ltk (keyV s) d[h]! d[a]!) = p := ⟨_, rfl⟩
  have HP := Lib.hid hp
  rw [hp]
  clear hp hH hS
  go_enter Tryz.func151, Tryz.ntmps151
  go_wp2_with fail
  go_loopw [10, 11] (fun vi vj wr => ∃ (i j q : Nat), vi = .int .i64 i ∧ vj = .int .i64 j ∧ m ≤ i ∧ i ≤ j ∧ j ≤ b ∧ Hid (wr = (putRow encV w blk off d).drewN q) ∧ Hid (bs p i j = bs p m b)) (fun vi vj _ => (intOf vj).toNat - (intOf vi).toNat)
  case atStart => exact ⟨m, b, 0, rfl, rfl, by omega, by omega, by omega, HST, rfl⟩
  case round =>
    obtain ⟨i, j, q, rfl, rfl, hi, hij, hjb, HW, HB⟩ := hrel
    by_cases g : i < j
    · obtain ⟨h, hh⟩ : ∃ h, (i + j) / 2 = h := ⟨_, rfl⟩
      have hh' : ((i : Int) + (j : Int)) / 2 = (h : Int) := by omega
      have hc1 := (cellR q HH.out (rfl : d.size = d.size) (show h < d.size by omega)).1
      have hc2 := (cellR q HH.out (rfl : d.size = d.size) (show a < d.size by omega)).1
      have hc3 := cellS (off := off) d q HS.out hne
      rw [← HW.out] at hc1 hc2 hc3
      obtain ⟨x, hx⟩ : ∃ x, d[h]! = x := ⟨_, rfl⟩
      obtain ⟨y, hy⟩ : ∃ y, d[a]! = y := ⟨_, rfl⟩
      rw [hx] at hc1; rw [hy] at hc2
      have hph : p h = ltk (keyV s) x y := by rw [← hx, ← hy, ← HP.out]
      have HPH := Lib.hid hph
      have HHH := Lib.hid hh
      have b1 : h < j := by omega
      have b2 : i ≤ h := by omega
      clear hx hy hph hh
      have hcmp := fun n => cmpV_calls s hs S x y (wr.drewN n) hc3
      by_cases c : keyV s x < keyV s y
      · have c' : decide ((keyV s x : Int) - (keyV s y : Int) < 0) = true := by simp; omega
        have ht := Lib.hid (bs_yes g HHH.out (HPH.out.trans (ltk_true c)))
        go_wp2_with fail
        go_quiet ((first | (go_at_call 86; exact Calls.quiet_of_same (hcmp _))))
        go_wp2_with fail
        refine ⟨⟨h + 1, j, q + nq, by go_num, rfl, by omega, by omega, hjb, (show _ = _ from ?_), (show _ = _ from ?_)⟩, by simp [intOf]; omega⟩
        · rw [HW.out, World.drewN_drewN]
        · rw [← HB.out, ht.out]
      · have c' : decide ((keyV s x : Int) - (keyV s y : Int) < 0) = false := by simp; omega
        have ht := Lib.hid (bs_no g HHH.out (HPH.out.trans (ltk_false c)))
        go_wp2_with fail
        go_quiet ((first | (go_at_call 86; exact Calls.quiet_of_same (hcmp _))))
        go_wp2_with fail
        refine ⟨⟨i, h, q + nq, rfl, rfl, hi, b2, by omega, (show _ = _ from ?_), (show _ = _ from ?_)⟩, by simp [intOf]; omega⟩
        · rw [HW.out, World.drewN_drewN]
        · rw [← HB.out, ht.out]
    · have hE := Lib.hid ((bs_end g).symm.trans HB.out)
      obtain ⟨e, he⟩ : ∃ e, i - 1 = e := ⟨_, rfl⟩
      have w1 : IntKind.i64.wrap ((i : Int) - 1) = (e : Int) := by rw [IntWalk.i64_in _ (by omega)]; omega
      have he' : (i : Int) - 1 = (e : Int) := by omega
      have b1 : a ≤ e := by omega
      have b2 : e < d.size := by omega
      have HE := Lib.hid he; clear he
      obtain ⟨wo, rfl⟩ : ∃ wo, wo = wr := ⟨_, rfl⟩
      go_wp2_with fail
      go_loopw [13] (fun vk wr => ∃ (k q : Nat) (D : Array V), vk = .int .i64 k ∧ a ≤ k ∧ k ≤ e ∧ D.size = d.size ∧ Hid (wr = (putRow encV w blk off D).drewN q) ∧ Hid (bubR D k e = bubR d a e)) (fun vk _ => e - (intOf vk).toNat)
      case atStart => exact ⟨a, q, d, rfl, by omega, b1, rfl, HW, rfl⟩
      case round =>
        clear HW HB
        obtain ⟨k, q, D, rfl, hk1, hk2, hD, HW, HB⟩ := hrel
        by_cases gk : k < e
        · obtain ⟨k1, hk1'⟩ : ∃ k1, k + 1 = k1 := ⟨_, rfl⟩
          have w2 : IntKind.i64.wrap ((k : Int) + 1) = (k1 : Int) := by rw [IntWalk.i64_in _ (by omega)]; omega
          have w3 : (k : Int) + 1 = (k1 : Int) := by omega
          have hc1 := cellR q HH.out hD (show k < d.size by omega)
          have hc2 := cellR q HH.out hD (show k1 < d.size by omega)
          rw [← HW.out] at hc1 hc2
          obtain ⟨x, hx⟩ : ∃ x, D[k]! = x := ⟨_, rfl⟩
          obtain ⟨y, hy⟩ : ∃ y, D[k1]! = y := ⟨_, rfl⟩
          rw [hx] at hc1; rw [hy] at hc2
          obtain ⟨hc1, hf1⟩ := hc1
          obtain ⟨hc2, hf2⟩ := hc2
          have HX := Lib.hid hx; have HY := Lib.hid hy; have HK := Lib.hid hk1'
          have l1 : (k : Int) < d.size := by omega
          have l2 : (k1 : Int) < d.size := by omega
          clear hx hy hk1'
          go_wp2_with fail
          go_big_region
          all_goals go_wp2_with fail
          refine ⟨⟨k1, q + 1, swp D k k1, rfl, by omega, by omega, by rw [size_swp]; exact hD, (show _ = _ from ?_), (show _ = _ from ?_)⟩, by simp [intOf]; omega⟩
          · rw [HW.out, ← HX.out, ← HY.out]
            exact swap_worldC encV w blk off D q k k1 (by omega) (by omega)
          · rw [← HB.out, ← HK.out]
            conv => rhs; rw [bubR, if_pos gk]
        · go_wp2_with fail
          obtain rfl : k = e := by omega
          refine bodyPost_ret (results_none (by rfl) _ _ _) rfl ?_
          refine ⟨rfl, q, ?_⟩
          rw [HW.out, ← hE.out, HE.out, ← HB.out, bubR, if_neg (Nat.lt_irrefl _)]

set_option maxHeartbeats 4000000 in
set_option maxRecDepth 100000 in
theorem symR_calls (s : Nat) (hs : s < 16) (S : Nat) (d : Array V) (blk off cap a m b : Nat) (w : World) (hH : Holds encV w blk off d) (hS : w.cell? ⟨S, 0, none⟩ = some (.int .u64 s)) (hne : S ≠ blk)
    (ham : a < m) (hma : m - a ≠ 1) (hmb : b - m = 1) (hb : b ≤ d.size) (hsz : d.size < 2305843009213693952) :
    Calls Tryz.prog 151 #[.slice (some ⟨blk, off, none⟩) d.size cap, .int .i64 a, .int .i64 m, .int .i64 b, .func (.func 86) #[] #[.pointer (some ⟨S, 0, none⟩)]] w fun e w' =>
      e = .returned (.tuple #[]) ∧ ∃ q, w' = (putRow encV w blk off (bubL d (bs (fun h => !ltk (keyV s) d[m]! d[h]!) a m) m)).drewN q := by
  have HST : Hid (w = (putRow encV w blk off d).drewN 0) := (putRow_self encV w blk off d hH).symm
  have HH : Hid (Holds encV w blk off d) := hH
  have HS := Lib.hid hS
  obtain ⟨z, hz⟩ : ∃ z, m - a = z := ⟨_, rfl⟩
  have w0 : IntKind.i64.wrap ((m : Int) - a) = (z : Int) := by rw [IntWalk.i64_in _ (by omega)]; omega
  have w0' : ((z : Int) == 1) = false := by rw [beq_eq_false_iff_ne]; omega
  have w00 : IntKind.i64.wrap ((b : Int) - m) = 1 := by rw [IntWalk.i64_in _ (by omega)]; omega
  obtain ⟨p, hp⟩ : ∃ p : Nat → Bool, (fun h : Nat => !ltk (keyV s) d[m]! d[h]!) = p := ⟨_, rfl⟩
  have HP := Lib.hid hp
  rw [hp]
  clear hp hH hS hz
  go_enter Tryz.func151, Tryz.ntmps151
  go_wp2_with fail
  go_loopw [14, 15] (fun vi vj wr => ∃ (i j q : Nat), vi = .int .i64 i ∧ vj = .int .i64 j ∧ a ≤ i ∧ i ≤ j ∧ j ≤ m ∧ Hid (wr = (putRow encV w blk off d).drewN q) ∧ Hid (bs p i j = bs p a m)) (fun vi vj _ => (intOf vj).toNat - (intOf vi).toNat)
  case atStart => exact ⟨a, m, 0, rfl, rfl, by omega, by omega, by omega, HST, rfl⟩
  case round =>
    obtain ⟨i, j, q, rfl, rfl, hi, hij, hjb, HW, HB⟩ := hrel
    by_cases g : i < j
    · obtain ⟨h, hh⟩ : ∃ h, (i + j) / 2 = h := ⟨_, rfl⟩
      have hh' : ((i : Int) + (j : Int)) / 2 = (h : Int) := by omega
      have hc1 := (cellR q HH.out (rfl : d.size = d.size) (show m < d.size by omega)).1
      have hc2 := (cellR q HH.out (rfl : d.size = d.size) (show h < d.size by omega)).1
      have hc3 := cellS (off := off) d q HS.out hne
      rw [← HW.out] at hc1 hc2 hc3
      obtain ⟨x, hx⟩ : ∃ x, d[m]! = x := ⟨_, rfl⟩
      obtain ⟨y, hy⟩ : ∃ y, d[h]! = y := ⟨_, rfl⟩
      rw [hx] at hc1; rw [hy] at hc2
      have hph : p h = !ltk (keyV s) x y := by rw [← hx, ← hy, ← HP.out]
      have HPH := Lib.hid hph
      have HHH := Lib.hid hh
      have b1 : h < j := by omega
      have b2 : i ≤ h := by omega
      clear hx hy hph hh
      have hcmp := fun n => cmpV_calls s hs S x y (wr.drewN n) hc3
      by_cases c : keyV s x < keyV s y
      · have c' : decide ((keyV s x : Int) - (keyV s y : Int) < 0) = true := by simp; omega
        have ht := Lib.hid (bs_no g HHH.out (HPH.out.trans (by rw [ltk_true c]; rfl)))
        go_wp2_with fail
        go_quiet ((first | (go_at_call 86; exact Calls.quiet_of_same (hcmp _))))
        go_wp2_with fail
        refine ⟨⟨i, h, q + nq, rfl, rfl, hi, b2, by omega, (show _ = _ from ?_), (show _ = _ from ?_)⟩, by simp [intOf]; omega⟩
        · rw [HW.out, World.drewN_drewN]
        · rw [← HB.out, ht.out]
      · have c' : decide ((keyV s x : Int) - (keyV s y : Int) < 0) = false := by simp; omega
        have ht := Lib.hid (bs_yes g HHH.out (HPH.out.trans (by rw [ltk_false c]; rfl)))
        go_wp2_with fail
        go_quiet ((first | (go_at_call 86; exact Calls.quiet_of_same (hcmp _))))
        go_wp2_with fail
        refine ⟨⟨h + 1, j, q + nq, by go_num, rfl, by omega, by omega, hjb, (show _ = _ from ?_), (show _ = _ from ?_)⟩, by simp [intOf]; omega⟩
        · rw [HW.out, World.drewN_drewN]
        · rw [← HB.out, ht.out]
    · have hE := Lib.hid ((bs_end g).symm.trans HB.out)
      have b2 : i ≤ m := by omega
      obtain ⟨wo, rfl⟩ : ∃ wo, wo = wr := ⟨_, rfl⟩
      go_wp2_with fail
      go_loopw [17] (fun vk wr => ∃ (k q : Nat) (D : Array V), vk = .int .i64 k ∧ i ≤ k ∧ k ≤ m ∧ D.size = d.size ∧ Hid (wr = (putRow encV w blk off D).drewN q) ∧ Hid (bubL D i k = bubL d i m)) (fun vk _ => (intOf vk).toNat)
      case atStart => exact ⟨m, q, d, rfl, b2, by omega, rfl, HW, rfl⟩
      case round =>
        clear HW HB
        obtain ⟨k, q, D, rfl, hk1, hk2, hD, HW, HB⟩ := hrel
        by_cases gk : i < k
        · obtain ⟨k1, hk1'⟩ : ∃ k1, k = k1 + 1 := ⟨k - 1, by omega⟩
          have w2 : IntKind.i64.wrap ((k : Int) - 1) = (k1 : Int) := by rw [IntWalk.i64_in _ (by omega)]; omega
          have w3 : (k : Int) - 1 = (k1 : Int) := by omega
          have hc1 := cellR q HH.out hD (show k < d.size by omega)
          have hc2 := cellR q HH.out hD (show k1 < d.size by omega)
          rw [← HW.out] at hc1 hc2
          obtain ⟨x, hx⟩ : ∃ x, D[k]! = x := ⟨_, rfl⟩
          obtain ⟨y, hy⟩ : ∃ y, D[k1]! = y := ⟨_, rfl⟩
          rw [hx] at hc1; rw [hy] at hc2
          obtain ⟨hc1, hf1⟩ := hc1
          obtain ⟨hc2, hf2⟩ := hc2
          have HX := Lib.hid hx; have HY := Lib.hid hy; have HK := Lib.hid hk1'
          have l1 : (k : Int) < d.size := by omega
          have l2 : (k1 : Int) < d.size := by omega
          have l3 : k1 < k := by omega
          have l4 : i ≤ k1 := by omega
          clear hx hy hk1'
          go_wp2_with fail
          go_big_region
          all_goals go_wp2_with fail
          refine ⟨⟨k1, q + 1, swp D k k1, rfl, l4, by omega, by rw [size_swp]; exact hD, (show _ = _ from ?_), (show _ = _ from ?_)⟩, by simp [intOf]; omega⟩
          · rw [HW.out, ← HX.out, ← HY.out]
            exact swap_worldC encV w blk off D q k k1 (by omega) (by omega)
          · have hK := HK.out
            rw [← HB.out, hK]
            conv => rhs; rw [bubL, if_pos (by omega)]
        · go_wp2_with fail
          obtain rfl : k = i := by omega
          refine bodyPost_ret (results_none (by rfl) _ _ _) rfl ?_
          refine ⟨rfl, q, ?_⟩
          have stop : ∀ (D : Array V) (k : Nat), bubL D k k = D := fun D k => by
            cases k with
            | zero => rfl
            | succ k => rw [bubL, if_neg (Nat.lt_irrefl _)]
          rw [HW.out, ← hE.out, ← HB.out, stop]
end Go.Proofs.YtjfdlibceldanabGreatDoor

/-! slices' symMerge over []int, by a number's upper bits: the walk, whole. -/
namespace Go.Proofs.YtjfdlibceldanabGreatDoor
open Go.RowKit Go.Sort Stab

/-- What symMerge leaves. -/
def SymPost (s : Nat) (f : Nat) (d : Array V) (blk off a m b : Nat) (w : World) (e : Ending) (w' : World) : Prop :=
  e = .returned (.tuple #[]) ∧ ∃ q, w' = (putRow encV w blk off (symM (ltk (keyV s)) f d a m b)).drewN q
def RowAt (w : World) (blk off : Nat) (d1 : Array V) (w' : World) : Prop := ∃ q, w' = (putRow encV w blk off d1).drewN q
theorem put_putV {w : World} {blk off : Nat} {D X : Array V} {q r : Nat} (h : X.size = D.size) : (putRow encV ((putRow encV w blk off D).drewN q) blk off X).drewN r = (putRow encV w blk off X).drewN (q + r) := put_put w blk off D X q r h
theorem rowAt_holds {w w' : World} {blk off : Nat} {d D : Array V} (h : RowAt w blk off D w') (hH : Holds encV w blk off d) (hD : D.size = d.size) : Holds encV w' blk off D := by
  obtain ⟨q, rfl⟩ := h
  exact holds_putRow encV w blk off d D hH hD
theorem rowAt_cell {w w' : World} {blk off S : Nat} {v : Value} {D : Array V} (h : RowAt w blk off D w') (hS : w.cell? ⟨S, 0, none⟩ = some v) (hne : S ≠ blk) : w'.cell? ⟨S, 0, none⟩ = some v := by
  obtain ⟨q, rfl⟩ := h
  exact cellS D q hS hne
theorem rowAt_next {w w' : World} {blk off : Nat} {D X : Array V} {r : Nat} (h : RowAt w blk off D w') (hX : X.size = D.size) : RowAt w blk off X ((putRow encV w' blk off X).drewN r) := by
  obtain ⟨q, rfl⟩ := h
  exact ⟨q + r, put_putV hX⟩
theorem size_symM' (lt : V → V → Bool) : ∀ (f : Nat) (d : Array V) (a m b : Nat), (symM lt f d a m b).size = d.size := by
  intro f
  induction f with
  | zero => intro d a m b; rfl
  | succ f ih =>
    intro d a m b
    rw [symM]
    dsimp only
    split
    · rw [size_bubR]
    · split
      · rw [size_bubL]
      · split <;> split <;> simp [ih, size_rot]

set_option maxHeartbeats 8000000 in
set_option maxRecDepth 100000 in
theorem symMerge_calls (s : Nat) (hs : s < 16) (S cap : Nat) (blk off : Nat) (hne : S ≠ blk) : ∀ (f : Nat) (d : Array V) (a m b : Nat) (w : World), Holds encV w blk off d → w.cell? ⟨S, 0, none⟩ = some (.int .u64 s) →
    b - a ≤ f → a < m → m < b → b ≤ d.size → d.size < 2305843009213693952 →
    Calls Tryz.prog 151 #[.slice (some ⟨blk, off, none⟩) d.size cap, .int .i64 a, .int .i64 m, .int .i64 b, .func (.func 86) #[] #[.pointer (some ⟨S, 0, none⟩)]] w (SymPost s f d blk off a m b w) := by
  intro f
  induction f with
  | zero => intro d a m b w hH hS hf ham hmb; omega
  | succ f ih =>
    intro d a m b w hH hS hf ham hmb hb hsz
    unfold SymPost
    rw [symM]
    by_cases c1 : m - a = 1
    · rw [if_pos c1]; exact symL_calls s hs S d blk off cap a m b w hH hS hne c1 hmb hb hsz
    · rw [if_neg c1]
      by_cases c2 : b - m = 1
      · rw [if_pos c2]; exact symR_calls s hs S d blk off cap a m b w hH hS hne ham c1 c2 hb hsz
      · rw [if_neg c2]
        dsimp only
        have IH := Lib.hid ih
        have HST : Hid (w = (putRow encV w blk off d).drewN 0) := (putRow_self encV w blk off d hH).symm
        have HH : Hid (Holds encV w blk off d) := hH
        have HS := Lib.hid hS
        unfold symStart
        obtain ⟨mid, hmid⟩ : ∃ mid, (a + b) / 2 = mid := ⟨_, rfl⟩
        obtain ⟨lo, hlo⟩ : ∃ lo, (if mid < m then mid + m - b else a) = lo := ⟨_, rfl⟩
        obtain ⟨hi, hhi⟩ : ∃ hi, (if mid < m then mid else m) = hi := ⟨_, rfl⟩
        rw [hmid, hlo, hhi]
        have hmid' : ((a : Int) + (b : Int)) / 2 = (mid : Int) := by omega
        obtain ⟨n, hn⟩ : ∃ n, mid + m = n := ⟨_, rfl⟩
        rw [hn] at hlo ⊢
        have hn' : (mid : Int) + (m : Int) = (n : Int) := by omega
        obtain ⟨pp, hpp⟩ : ∃ pp, n - 1 = pp := ⟨_, rfl⟩
        rw [hpp]
        obtain ⟨z1, hz1⟩ : ∃ z, m - a = z := ⟨_, rfl⟩
        have w0 : IntKind.i64.wrap ((m : Int) - a) = (z1 : Int) := by rw [IntWalk.i64_in _ (by omega)]; omega
        have w0' : ((z1 : Int) == 1) = false := by rw [beq_eq_false_iff_ne]; omega
        obtain ⟨z2, hz2⟩ : ∃ z, b - m = z := ⟨_, rfl⟩
        have w00 : IntKind.i64.wrap ((b : Int) - m) = (z2 : Int) := by rw [IntWalk.i64_in _ (by omega)]; omega
        have w00' : ((z2 : Int) == 1) = false := by rw [beq_eq_false_iff_ne]; omega
        have wp : IntKind.i64.wrap ((n : Int) - 1) = (pp : Int) := by rw [IntWalk.i64_in _ (by omega)]; omega
        have wp' : (n : Int) - 1 = (pp : Int) := by omega
        obtain ⟨p, hp⟩ : ∃ p : Nat → Bool, (fun c : Nat => !ltk (keyV s) d[pp - c]! d[c]!) = p := ⟨_, rfl⟩
        have HP := Lib.hid hp
        rw [hp]
        have k1 : a ≤ lo ∧ lo ≤ hi ∧ hi ≤ m ∧ hi ≤ mid ∧ n ≤ b + lo ∧ mid < b ∧ a < mid := by
          by_cases g : mid < m
          · rw [if_pos g] at hlo hhi; omega
          · rw [if_neg g] at hlo hhi; omega
        obtain ⟨k1, k2, k3, k4, k5, k6, k7⟩ := k1
        have HMID := Lib.hid hmid; have HN := Lib.hid hn; have HPP := Lib.hid hpp
        have HLO := Lib.hid hlo; have HHI := Lib.hid hhi
        have hnm : n = mid + m := hn.symm
        have hpn : pp + 1 = n := by omega
        clear hp hH hS hz1 hz2 hmid hn hpp hlo hhi ih
        have HNM := Lib.hid hnm; have HPN := Lib.hid hpn
        have q1 : n ≤ mid + m := by omega
        have q2 : mid + m ≤ n := by omega
        have q3 : pp < n := by omega
        have q4 : n ≤ pp + 1 := by omega
        clear hnm hpn
        obtain ⟨s0, hs0⟩ : ∃ s0, bs p lo hi = s0 := ⟨_, rfl⟩
        rw [hs0]
        have HS0 := Lib.hid hs0
        clear hs0
        obtain ⟨e, he⟩ : ∃ e, n - s0 = e := ⟨_, rfl⟩
        rw [he]
        obtain ⟨d1, hd1⟩ : ∃ d1, rot d m (m - s0) (e - m) = d1 := ⟨_, rfl⟩
        have sz1 : d1.size = d.size := by rw [← hd1]; exact size_rot ..
        rw [hd1]
        obtain ⟨d2, hd2⟩ : ∃ d2, (if a < s0 ∧ s0 < mid then symM (ltk (keyV s)) f d1 a s0 mid else d1) = d2 := ⟨_, rfl⟩
        have sz2 : d2.size = d.size := by rw [← hd2]; split <;> simp [size_symM', sz1]
        rw [hd2]
        obtain ⟨d3, hd3⟩ : ∃ d3, (if mid < e ∧ e < b then symM (ltk (keyV s)) f d2 mid e b else d2) = d3 := ⟨_, rfl⟩
        rw [hd3]
        have HE := Lib.hid he
        have HD1 := Lib.hid hd1; have HD2 := Lib.hid hd2; have HD3 := Lib.hid hd3
        have SZ1 := Lib.hid sz1; have SZ2 := Lib.hid sz2
        clear he hd1 hd2 hd3 sz1 sz2
        go_enter Tryz.func151, Tryz.ntmps151
        go_upto_if 140 with fail
        go_cut [20, 21] (fun v1 v2 w' => v1 = .int .i64 lo ∧ v2 = .int .i64 hi ∧ w' = w)
        case first => as_aux_lemma =>
          by_cases g : mid < m
          · have hlo := HLO.out
            have hhi := HHI.out
            rw [if_pos g] at hlo hhi
            have wlo : IntKind.i64.wrap ((n : Int) - b) = (lo : Int) := by rw [IntWalk.i64_in _ (by omega)]; omega
            clear hlo
            have HH' := Lib.hid hhi
            clear hhi
            go_wp2_with fail
            go_meet
            exact ⟨rfl, by rw [HH'.out], rfl⟩
          · have hlo := HLO.out
            have hhi := HHI.out
            rw [if_neg g] at hlo hhi
            have HL' := Lib.hid hlo
            have HH' := Lib.hid hhi
            clear hhi hlo
            go_wp2_with fail
            go_meet
            exact ⟨by rw [HL'.out], by rw [HH'.out], rfl⟩
        case rest => as_aux_lemma =>
          obtain ⟨rfl, rfl, hw⟩ := hcut
          obtain rfl : w = wc := hw.symm
          clear HLO HHI
          go_wp2_with fail
          go_loopw [20, 21] (fun vi vj wr => ∃ (i j q : Nat), vi = .int .i64 i ∧ vj = .int .i64 j ∧ a ≤ i ∧ i ≤ j ∧ j ≤ m ∧ j ≤ mid ∧ n ≤ b + i ∧ Hid (wr = (putRow encV w blk off d).drewN q) ∧ Hid (bs p i j = s0)) (fun vi vj _ => (intOf vj).toNat - (intOf vi).toNat)
          case atStart => exact ⟨lo, hi, 0, rfl, rfl, by omega, by omega, by omega, by omega, by omega, HST, HS0⟩
          case round =>
            clear HS0 HST
            obtain ⟨i, j, q, rfl, rfl, h1, h2, h3, h4, h5, HW, HB⟩ := hrel
            by_cases gi : i < j
            · as_aux_lemma =>
              obtain ⟨h, hh⟩ : ∃ h, (i + j) / 2 = h := ⟨_, rfl⟩
              have hh' : ((i : Int) + (j : Int)) / 2 = (h : Int) := by omega
              obtain ⟨t, ht⟩ : ∃ t, pp - h = t := ⟨_, rfl⟩
              have wt : IntKind.i64.wrap ((pp : Int) - h) = (t : Int) := by rw [IntWalk.i64_in _ (by omega)]; omega
              have wt' : (pp : Int) - h = (t : Int) := by omega
              have ht1 : t < d.size := by omega
              have ht2 : (t : Int) < d.size := by omega
              have hc1 := (cellR q HH.out (rfl : d.size = d.size) ht1).1
              have hc2 := (cellR q HH.out (rfl : d.size = d.size) (show h < d.size by omega)).1
              have hc3 := cellS (off := off) d q HS.out hne
              rw [← HW.out] at hc1 hc2 hc3
              obtain ⟨x, hx⟩ : ∃ x, d[t]! = x := ⟨_, rfl⟩
              obtain ⟨y, hy⟩ : ∃ y, d[h]! = y := ⟨_, rfl⟩
              rw [hx] at hc1; rw [hy] at hc2
              have hph : p h = !ltk (keyV s) x y := by rw [← hx, ← hy, ← HP.out, ← ht]
              have HPH := Lib.hid hph
              have HHH := Lib.hid hh
              have b1 : h < j := by omega
              have b2 : i ≤ h := by omega
              have b3 : h < d.size := by omega
              clear hx hy hph hh ht
              have hcmp := fun n => cmpV_calls s hs S x y (wr.drewN n) hc3
              by_cases c : keyV s x < keyV s y
              · have c' : decide ((keyV s x : Int) - (keyV s y : Int) < 0) = true := by simp; omega
                have ht := Lib.hid (bs_no gi HHH.out (HPH.out.trans (by rw [ltk_true c]; rfl)))
                go_wp2_with fail
                go_quiet ((first | (go_at_call 86; exact Calls.quiet_of_same (hcmp _))))
                go_wp2_with fail
                refine ⟨⟨i, h, q + nq, rfl, rfl, h1, b2, by omega, by omega, h5, (show _ = _ from ?_), (show _ = _ from ?_)⟩, by simp [intOf]; omega⟩
                · rw [HW.out, World.drewN_drewN]
                · rw [← HB.out, ht.out]
              · have c' : decide ((keyV s x : Int) - (keyV s y : Int) < 0) = false := by simp; omega
                have ht := Lib.hid (bs_yes gi HHH.out (HPH.out.trans (by rw [ltk_false c]; rfl)))
                go_wp2_with fail
                go_quiet ((first | (go_at_call 86; exact Calls.quiet_of_same (hcmp _))))
                go_wp2_with fail
                refine ⟨⟨h + 1, j, q + nq, by go_num, rfl, by omega, by omega, h3, h4, by omega, (show _ = _ from ?_), (show _ = _ from ?_)⟩, by simp [intOf]; omega⟩
                · rw [HW.out, World.drewN_drewN]
                · rw [← HB.out, ht.out]
            · as_aux_lemma =>
              have hE : i = s0 := (bs_end gi).symm.trans HB.out
              subst hE
              clear HB
              have e1 : i ≤ m := by omega
              have e2 : i ≤ mid := by omega
              have hij : i = j := by omega
              clear wp wp'
              have he := HE.out
              have we : IntKind.i64.wrap ((n : Int) - i) = (e : Int) := by rw [IntWalk.i64_in _ (by omega)]; omega
              have we' : (n : Int) - i = (e : Int) := by omega
              have e3 : m ≤ e := by omega
              have e4 : e ≤ b := by omega
              have e5 : mid ≤ e := by omega
              clear he
              subst hij
              obtain ⟨wo, rfl⟩ : ∃ wo, wo = wr := ⟨_, rfl⟩
              go_upto_region 39 with fail
              obtain ⟨B1, hB1⟩ : ∃ B, decide (i < m ∧ m < e) = B := ⟨_, rfl⟩
              have HB1 := Lib.hid hB1; clear hB1
              go_cut [185] (fun v w' => v = .bool B1 ∧ w' = wo)
              case first => as_aux_lemma =>
                by_cases ga : i < m
                · by_cases gb : m < e
                  · go_wp2_with fail
                    go_meet
                    exact ⟨by rw [← HB1.out]; simp [ga, gb], rfl⟩
                  · go_wp2_with fail
                    go_meet
                    exact ⟨by rw [← HB1.out]; simp [gb], rfl⟩
                · go_wp2_with fail
                  go_meet
                  exact ⟨by rw [← HB1.out]; simp [ga], rfl⟩
              case rest => as_aux_lemma =>
                obtain ⟨rfl, rfl⟩ := hcut
                go_upto_if 185 with fail
                go_cut [] (fun w' => RowAt w blk off d1 w')
                case first => as_aux_lemma =>
                  cases B1 with
                  | true =>
                    have hh := HB1.out
                    simp only [decide_eq_true_eq] at hh
                    obtain ⟨ga, gb⟩ := hh
                    go_wp2_with fail
                    have hc := rotate_calls d blk off cap i m e (.func (.func 86) #[] #[.pointer (some ⟨S, 0, none⟩)]) wc (by rw [HW.out]; exact holds_putRow encV w blk off d d HH.out rfl) ga gb (by omega) (by omega)
                    refine hc.mono ?_
                    rintro e' w' ⟨rfl, r, rfl⟩
                    go_wp2_with fail
                    go_meet
                    rw [HD1.out]
                    exact rowAt_next ⟨q, HW.out⟩ SZ1.out
                  | false =>
                    go_wp2_with fail
                    go_meet
                    have hh := HB1.out
                    simp only [decide_eq_false_iff_not] at hh
                    have : rot d m (m - i) (e - m) = d := by rw [rot, if_pos (by omega)]
                    exact ⟨q, by rw [HW.out, ← HD1.out, this]⟩
                case rest => as_aux_lemma =>
                  have HR1 := Lib.hid hcut
                  clear hcut HW
                  obtain ⟨wo, rfl⟩ : ∃ wo, wo = wc := ⟨_, rfl⟩
                  obtain ⟨B2, hB2⟩ : ∃ B, decide (a < i ∧ i < mid) = B := ⟨_, rfl⟩
                  have HB2 := Lib.hid hB2; clear hB2
                  go_upto_region 41 with fail
                  go_cut [199] (fun v w' => v = .bool B2 ∧ w' = wo)
                  case first => as_aux_lemma =>
                    by_cases ga : a < i
                    · by_cases gb : i < mid
                      · go_wp2_with fail
                        go_meet
                        exact ⟨by rw [← HB2.out]; simp [ga, gb], rfl⟩
                      · go_wp2_with fail
                        go_meet
                        exact ⟨by rw [← HB2.out]; simp [gb], rfl⟩
                    · go_wp2_with fail
                      go_meet
                      exact ⟨by rw [← HB2.out]; simp [ga], rfl⟩
                  case rest => as_aux_lemma =>
                    obtain ⟨rfl, rfl⟩ := hcut
                    go_upto_if 199 with fail
                    go_cut [] (fun w' => RowAt w blk off d2 w')
                    case first => as_aux_lemma =>
                      cases B2 with
                      | true =>
                        have hh := HB2.out
                        simp only [decide_eq_true_eq] at hh
                        have hd := HD2.out
                        rw [if_pos hh] at hd
                        have HD2' := Lib.hid hd
                        obtain ⟨ga, gb⟩ := hh
                        clear hd
                        go_wp2_with fail
                        have hc := IH.out d1 a i mid wc (rowAt_holds HR1.out HH.out SZ1.out) (rowAt_cell HR1.out HS.out hne) (by omega) ga gb (by rw [SZ1.out]; omega) (by rw [SZ1.out]; omega)
                        rw [SZ1.out] at hc
                        refine hc.mono ?_
                        rintro e' w' ⟨rfl, r, rfl⟩
                        go_wp2_with fail
                        go_meet
                        rw [HD2'.out]
                        exact rowAt_next HR1.out (SZ2.out.trans SZ1.out.symm)
                      | false =>
                        go_wp2_with fail
                        go_meet
                        have hh := HB2.out
                        simp only [decide_eq_false_iff_not] at hh
                        have hd := HD2.out
                        rw [if_neg hh] at hd
                        rw [← hd]; exact HR1.out
                    case rest => as_aux_lemma =>
                      have HR2 := Lib.hid hcut
                      clear hcut HR1
                      obtain ⟨wo, rfl⟩ : ∃ wo, wo = wc := ⟨_, rfl⟩
                      obtain ⟨B3, hB3⟩ : ∃ B, decide (mid < e ∧ e < b) = B := ⟨_, rfl⟩
                      have HB3 := Lib.hid hB3; clear hB3
                      go_upto_region 43 with fail
                      go_cut [213] (fun v w' => v = .bool B3 ∧ w' = wo)
                      case first => as_aux_lemma =>
                        by_cases ga : mid < e
                        · by_cases gb : e < b
                          · go_wp2_with fail
                            go_meet
                            exact ⟨by rw [← HB3.out]; simp [ga, gb], rfl⟩
                          · go_wp2_with fail
                            go_meet
                            exact ⟨by rw [← HB3.out]; simp [gb], rfl⟩
                        · go_wp2_with fail
                          go_meet
                          exact ⟨by rw [← HB3.out]; simp [ga], rfl⟩
                      case rest => as_aux_lemma =>
                        obtain ⟨rfl, rfl⟩ := hcut
                        cases B3 with
                        | true =>
                          have hh := HB3.out
                          simp only [decide_eq_true_eq] at hh
                          have hd := HD3.out
                          rw [if_pos hh] at hd
                          have HD3' := Lib.hid hd
                          obtain ⟨ga, gb⟩ := hh
                          clear hd
                          go_wp2_with fail
                          have hc := IH.out d2 mid e b wc (rowAt_holds HR2.out HH.out SZ2.out) (rowAt_cell HR2.out HS.out hne) (by omega) ga gb (by rw [SZ2.out]; omega) (by rw [SZ2.out]; omega)
                          rw [SZ2.out] at hc
                          refine hc.mono ?_
                          rintro e' w' ⟨rfl, r, rfl⟩
                          go_wp2_with fail
                          go_end0
                          refine ⟨rfl, ?_⟩
                          have := rowAt_next (r := r) HR2.out (show d3.size = d2.size by rw [← HD3'.out]; exact size_symM' ..)
                          rw [HD3'.out]; exact this
                        | false =>
                          go_wp2_with fail
                          go_end0
                          refine ⟨rfl, ?_⟩
                          have hh := HB3.out
                          simp only [decide_eq_false_iff_not] at hh
                          have hd := HD3.out
                          rw [if_neg hh] at hd
                          rw [← hd]; exact HR2.out
end Go.Proofs.YtjfdlibceldanabGreatDoor

/-! slices.SortStableFunc over []int, by a number's upper bits: the whole. -/
namespace Go.Proofs.YtjfdlibceldanabGreatDoor
open Go.RowKit Go.Sort Stab

theorem oneCellV : OneCell encV := fun _ => rfl
def cfV (s : Nat) (x y : V) : Int := (keyV s x : Nat) - (keyV s y : Nat)
theorem ltOf_cfV (s : Nat) : ltOf (cfV s) = ltk (keyV s) := by
  funext x y
  unfold ltOf cfV ltk
  rw [Bool.eq_iff_iff]; simp only [decide_eq_true_eq]; omega

set_option maxRecDepth 100000 in
theorem insV_calls (s : Nat) (hs : s < 16) (S cap : Nat) (blk off : Nat) (hne : S ≠ blk) (d : Array V) (a b : Nat) (w : World) (hH : Holds encV w blk off d) (hS : w.cell? ⟨S, 0, none⟩ = some (.int .u64 s))
    (hab : a ≤ b) (hb : b ≤ d.size) (hsz : d.size < 2305843009213693952) :
    Calls Tryz.prog 143 #[.slice (some ⟨blk, off, none⟩) d.size cap, .int .i64 a, .int .i64 b, .func (.func 86) #[] #[.pointer (some ⟨S, 0, none⟩)]] w fun e w' =>
      e = .returned (.tuple #[]) ∧ RowAt w blk off (insertionSort (ltk (keyV s)) d a b) w' := by
  have h := Tryz.insertionSortCmpFunc_one encV oneCellV (cfV s) 86 #[.pointer (some ⟨S, 0, none⟩)] blk off cap a b d w (fun _ _ => rfl) (by
    intro m os dk hdk x y
    refine (cmpV_calls s hs S x y _ ?_).mono fun e w' ⟨he, hw⟩ => ⟨he, 0, hw⟩
    unfold sortWorld
    rw [cell?_grow _ _ _ (by simp; exact cell_lt hS), cell?_putRow_other encV _ blk off dk _ (.inl hne)]
    exact hS) hH hab hb (by omega)
  rw [ltOf_cfV] at h
  exact h

theorem size_insOuter (lt : V → V → Bool) (a b : Nat) : ∀ (t i : Nat) (d : Array V), b - i ≤ t → (insOuter lt a b i d).size = d.size := by
  intro t
  induction t with
  | zero => intro i d h; rw [insOuter, if_neg (by omega)]
  | succ t ih =>
    intro i d h
    rw [insOuter]
    split
    · rw [ih _ _ (by omega), size_insInner]
    · rfl
theorem size_ins (lt : V → V → Bool) (d : Array V) (a b : Nat) : (insertionSort lt d a b).size = d.size := size_insOuter lt a b _ _ d (Nat.le_refl _)
theorem size_blocks (lt : V → V → Bool) (n : Nat) : ∀ (t a : Nat) (d : Array V), n - a ≤ t → (blocks lt n a d).size = d.size := by
  intro t
  induction t with
  | zero => intro a d h; rw [blocks, if_neg (by omega), size_ins]
  | succ t ih =>
    intro a d h
    rw [blocks]
    split
    · rw [ih _ _ (by omega), size_ins]
    · exact size_ins ..
theorem size_pass (lt : V → V → Bool) (n z : Nat) : ∀ (f a : Nat) (d : Array V), (pass lt n z f a d).size = d.size := by
  intro f
  induction f with
  | zero => intro a d; rfl
  | succ f ih =>
    intro a d
    rw [pass]
    split
    · rw [ih, size_symM']
    · split <;> simp [size_symM']
theorem blocks_go {lt : V → V → Bool} {n a b : Nat} {d : Array V} (hb : a + 20 = b) (h : b ≤ n) : blocks lt n a d = blocks lt n b (insertionSort lt d a b) := by rw [blocks, hb, if_pos h]
theorem blocks_end {lt : V → V → Bool} {n a : Nat} {d : Array V} (h : ¬ a + 20 ≤ n) : blocks lt n a d = insertionSort lt d a n := by rw [blocks, if_neg h]

set_option maxHeartbeats 8000000 in
set_option maxRecDepth 100000 in
theorem stable_calls (s : Nat) (hs : s < 16) (S cap : Nat) (blk off : Nat) (hne : S ≠ blk) (d : Array V) (w : World) (hH : Holds encV w blk off d) (hS : w.cell? ⟨S, 0, none⟩ = some (.int .u64 s)) (hsz : d.size < 1152921504606846976) :
    Calls Tryz.prog 118 #[.slice (some ⟨blk, off, none⟩) d.size cap, .int .i64 d.size, .func (.func 86) #[] #[.pointer (some ⟨S, 0, none⟩)]] w fun e w' =>
      e = .returned (.tuple #[]) ∧ RowAt w blk off (stableS (ltk (keyV s)) d) w' := by
  have HST : Hid (RowAt w blk off d w) := ⟨0, (putRow_self encV w blk off d hH).symm⟩
  have HH : Hid (Holds encV w blk off d) := hH
  have HS := Lib.hid hS
  obtain ⟨lt, hlt⟩ : ∃ lt, ltk (keyV s) = lt := ⟨_, rfl⟩
  have HLT := Lib.hid hlt
  rw [hlt]
  unfold stableS
  obtain ⟨n, hn⟩ : ∃ n, d.size = n := ⟨_, rfl⟩
  have HN := Lib.hid hn
  rw [hn] at hsz ⊢
  obtain ⟨B0, hB0⟩ : ∃ B, blocks lt n 0 d = B := ⟨_, rfl⟩
  have HB0 := Lib.hid hB0
  have hsB : B0.size = n := by rw [← hB0, size_blocks lt n _ 0 d (Nat.le_refl _), hn]
  have HSB := Lib.hid hsB
  rw [hB0]
  obtain ⟨L0, hL0⟩ : ∃ L, levels lt n (n + 1) 20 B0 = L := ⟨_, rfl⟩
  have HL0 := Lib.hid hL0
  rw [hL0]
  clear hL0 hB0 hn hlt hH hS hsB
  go_enter Tryz.func118, Tryz.ntmps118
  go_wp2_with fail
  go_loopw [7, 8] (fun va vb wr => ∃ (a b : Nat) (D : Array V), va = .int .i64 a ∧ vb = .int .i64 b ∧ Hid (a + 20 = b) ∧ a ≤ n ∧ b ≤ n + 20 ∧ Hid (D.size = n) ∧ Hid (RowAt w blk off D wr) ∧ Hid (blocks lt n a D = B0)) (fun _ vb _ => n + 20 - (intOf vb).toNat)
  case atStart => exact ⟨0, 20, d, rfl, rfl, rfl, by omega, by omega, HN, HST, HB0⟩
  case round =>
    clear HB0
    obtain ⟨a, b, D, rfl, rfl, HAB, h1, h2, HD, HR, HB⟩ := hrel
    have hab := HAB.out
    have hab1 : a ≤ b := by omega
    have hab2 : b ≤ a + 20 := by omega
    have hab3 : a + 20 ≤ b := by omega
    clear hab
    have hD := HD.out
    by_cases g : b ≤ n
    · go_wp2_with fail
      have hc := insV_calls s hs S cap blk off hne D a b wr (rowAt_holds HR.out HH.out (hD.trans HN.out.symm)) (rowAt_cell HR.out HS.out hne) (by omega) (by omega) (by omega)
      rw [hD] at hc
      clear hD
      refine hc.mono ?_
      rintro e w' ⟨rfl, hR⟩
      have HR2 := Lib.hid hR
      clear hR
      go_wp2_with fail
      go_roundw
      case rel =>
        refine ⟨b, b + 20, _, rfl, by go_num, rfl, by omega, by omega, (show _ = _ from (size_ins lt D a b).trans HD.out), (show RowAt _ _ _ _ _ from ?_), (show _ = _ from ?_)⟩
        · obtain ⟨r, hr⟩ := HR2.out
          rw [HLT.out] at hr
          rw [hr]
          exact rowAt_next HR.out (size_ins lt D a b)
        · rw [← blocks_go HAB.out g]; exact HB.out
      case measure => simp [intOf]; omega
    · go_wp2_with fail
      have hc := insV_calls s hs S cap blk off hne D a n wr (rowAt_holds HR.out HH.out (hD.trans HN.out.symm)) (rowAt_cell HR.out HS.out hne) (by omega) (by omega) (by omega)
      rw [hD] at hc
      clear hD
      refine hc.mono ?_
      rintro e w' ⟨rfl, hR⟩
      have HRB : Hid (RowAt w blk off B0 w') := by
        obtain ⟨r, hr⟩ := hR
        rw [HLT.out] at hr
        show RowAt _ _ _ _ _
        rw [hr, ← HB.out, blocks_end (by omega)]
        exact rowAt_next HR.out (size_ins lt D a n)
      clear hR HR HB HAB hab1 hab2 hab3 HD
      obtain ⟨wo, rfl⟩ : ∃ wo, wo = w' := ⟨_, rfl⟩
      go_wp2_with fail
      clear hc h1 h2 g
      go_loopw [6, 7, 8, 9] (fun vz va vb vm wr => ∃ (z f : Nat) (D : Array V), vz = .int .i64 z ∧ 0 < z ∧ z ≤ 2 * n + 20 ∧ Hid (n - z < f) ∧ Hid (D.size = n) ∧ Hid (RowAt w blk off D wr) ∧ Hid (levels lt n f z D = L0)) (fun vz _ _ _ _ => 2 * n + 20 - (intOf vz).toNat)
      case atStart => exact ⟨20, n + 1, B0, rfl, by omega, by omega, (show _ < _ by omega), HSB, HRB, HL0⟩
      case round =>
        clear HRB HL0 HSB
        obtain ⟨z, f, D, rfl, hz, hz2, HF, HD, HR, HL⟩ := hrel
        by_cases g : z < n
        · obtain ⟨f', hf'⟩ : ∃ f', f = f' + 1 := ⟨f - 1, by have := HF.out; omega⟩
          have hl := HL.out
          rw [hf', levels, if_pos g] at hl
          obtain ⟨P0, hP0⟩ : ∃ P, pass lt n z (n + 1) 0 D = P := ⟨_, rfl⟩
          rw [hP0] at hl
          have HL' := Lib.hid hl
          have HP0 := Lib.hid hP0
          have hsP : P0.size = n := by rw [← hP0, size_pass]; exact HD.out
          have HSP := Lib.hid hsP
          have HF' : Hid (n - 2 * z < f') := by show _ < _; have := HF.out; omega
          clear hl hP0 hsP hf' HL HF
          obtain ⟨z2, hz2'⟩ : ∃ z2, 2 * z = z2 := ⟨_, rfl⟩
          have hzz : (2 : Int) * (z : Int) = (z2 : Int) := by omega
          have hzz' : (z : Int) * 2 = (z2 : Int) := by omega
          have hz3 : z2 ≤ 2 * z := by omega
          have hz4 : 2 * z ≤ z2 := by omega
          rw [hz2'] at HL' HF'
          have HZ2 := Lib.hid hz2'
          clear hz2'
          obtain ⟨wo, rfl⟩ : ∃ wo, wo = wr := ⟨_, rfl⟩
          go_wp2_with fail
          go_loopw [7, 8] (fun va vb wr => ∃ (a b fp : Nat) (D1 : Array V), va = .int .i64 a ∧ vb = .int .i64 b ∧ Hid (a + z2 = b) ∧ a ≤ n ∧ b ≤ n + z2 ∧ Hid (n - a < fp) ∧ Hid (D1.size = n) ∧ Hid (RowAt w blk off D1 wr) ∧ Hid (pass lt n z fp a D1 = P0)) (fun _ vb _ => n + z2 - (intOf vb).toNat)
          case atStart => exact ⟨0, z2, n + 1, D, rfl, rfl, (show _ = _ by omega), by omega, by omega, (show _ < _ by omega), HD, HR, HP0⟩
          case round =>
            clear HD HR HP0
            obtain ⟨a, b, fp, D1, rfl, rfl, HAB, h1, h2, HFP, HD, HR, HP⟩ := hrel
            have hab := HAB.out
            obtain ⟨am, ham⟩ : ∃ am, a + z = am := ⟨_, rfl⟩
            have hama : (a : Int) + (z : Int) = (am : Int) := by omega
            have q1 : a < am := by omega
            have q2 : am ≤ a + z := by omega
            have q3 : am < b := by omega
            have q4 : b - a ≤ z2 := by omega
            have q5 : z2 ≤ b - a := by omega
            have q6 : b ≤ a + z2 := by omega
            have HAM := Lib.hid ham
            clear ham hab
            obtain ⟨fp', hfp'⟩ : ∃ f', fp = f' + 1 := ⟨fp - 1, by have := HFP.out; omega⟩
            have hp := HP.out
            rw [hfp', pass, HZ2.out, HAB.out, HAM.out] at hp
            have HFQ : Hid (n - a < fp' + 1) := by show _ < _; have := HFP.out; omega
            clear hfp' HP HFP
            have hD := HD.out
            by_cases gb : b ≤ n
            · rw [if_pos gb] at hp
              have HFP' : Hid (n - b < fp') := by show _ < _; have := HFQ.out; omega
              have HP := Lib.hid hp
              clear hp
              go_wp2_with fail
              have hc := symMerge_calls s hs S cap blk off hne z2 D1 a am b wr (rowAt_holds HR.out HH.out (hD.trans HN.out.symm)) (rowAt_cell HR.out HS.out hne) q4 q1 q3 (by omega) (by omega)
              rw [hD] at hc
              clear hD
              refine hc.mono ?_
              rintro e w' ⟨rfl, hR⟩
              have HR2 := Lib.hid hR
              clear hR
              go_wp2_with fail
              go_roundw
              case rel =>
                refine ⟨b, b + z2, fp', _, rfl, by go_num, rfl, gb, by omega, HFP', (show _ = _ from (size_symM' lt z2 D1 a am b).trans HD.out), (show RowAt _ _ _ _ _ from ?_), HP⟩
                obtain ⟨r, hr⟩ := HR2.out
                rw [HLT.out] at hr
                rw [hr]
                exact rowAt_next HR.out (size_symM' lt z2 D1 a am b)
              case measure => simp [intOf]; omega
            · rw [if_neg gb] at hp
              by_cases gm : am < n
              · rw [if_pos gm] at hp
                have HP := Lib.hid hp
                clear hp
                go_wp2_with fail
                have hc := symMerge_calls s hs S cap blk off hne (n - a) D1 a am n wr (rowAt_holds HR.out HH.out (hD.trans HN.out.symm)) (rowAt_cell HR.out HS.out hne) (by omega) q1 gm (by omega) (by omega)
                rw [hD] at hc
                clear hD
                refine hc.mono ?_
                rintro e w' ⟨rfl, hR⟩
                have HR2 : Hid (RowAt w blk off P0 w') := by
                  show RowAt _ _ _ _ _
                  obtain ⟨r, hr⟩ := hR
                  rw [HLT.out] at hr
                  rw [hr, ← HP.out]
                  exact rowAt_next HR.out (size_symM' lt (n - a) D1 a am n)
                clear hR HR HP
                go_wp2_with fail
                refine ⟨⟨z2, f', P0, rfl, by omega, by omega, HF', HSP, HR2, HL'⟩, by simp [intOf]; omega⟩
              · rw [if_neg gm] at hp
                have HR2 : Hid (RowAt w blk off P0 wr) := by
                  show RowAt _ _ _ _ _
                  rw [← hp]; exact HR.out
                clear hp HR hD
                go_wp2_with fail
                refine ⟨⟨z2, f', P0, rfl, by omega, by omega, HF', HSP, HR2, HL'⟩, by simp [intOf]; omega⟩
        · go_wp2_with fail
          go_end0
          refine ⟨rfl, ?_⟩
          have hl := HL.out
          have hf := HF.out
          obtain ⟨f', hf'⟩ : ∃ f', f = f' + 1 := ⟨f - 1, by omega⟩
          rw [hf', levels, if_neg g] at hl
          rw [← hl]; exact HR.out

/-- slices.SortStableFunc by the bits from s on: sorted by them, otherwise as it was. -/
theorem sortStable_calls (s : Nat) (hs : s < 16) (S cap : Nat) (blk off : Nat) (hne : S ≠ blk) (d : Array V) (w : World) (hH : Holds encV w blk off d) (hS : w.cell? ⟨S, 0, none⟩ = some (.int .u64 s)) (hsz : d.size < 1152921504606846976) :
    Calls Tryz.prog 85 #[.slice (some ⟨blk, off, none⟩) d.size cap, .func (.func 86) #[] #[.pointer (some ⟨S, 0, none⟩)]] w fun e w' =>
      e = .returned (.tuple #[]) ∧ RowAt w blk off (stableS (ltk (keyV s)) d) w' := by
  have hc := stable_calls s hs S cap blk off hne d w hH hS hsz
  clear hH
  go_enter Tryz.func85, Tryz.ntmps85
  go_wp2_with fail
  refine hc.mono ?_
  rintro e w' ⟨rfl, hR⟩
  go_wp2_with fail
  go_end0
  exact ⟨rfl, hR⟩
end Go.Proofs.YtjfdlibceldanabGreatDoor
