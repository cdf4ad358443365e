/- BitsFind: the law's walk, and its argument opened. -/
import Derived.Test.YtjfdlibceldanaaMade
import Derived.Test.YtjfdlibceldanaaOpen2
import Derived.Test.YtjfdlibceldanaaFind2
namespace Go.Proofs.Ytjfdlibceldanaa
open Go.ChangeShapes Go.WideShapes Go.ChangeAt Go.RowKit

theorem find_at (l : List Bool) (hl : l.length ≤ 1125899906842624) (k : Nat) (hk : k < cnt l) : ∃ p : Nat, p < l.length ∧ (∀ r, FindIs (bitsOf l) k r → r = p) ∧ atF (bitsOf l) p = true ∧ onesF (bitsOf l) p = k := by
  obtain ⟨p, h1, h2, h3, h4⟩ := placeGo_some l k 0 hk
  refine ⟨p, h1, fun r hr => ?_, ?_, ?_⟩
  · rw [find_made l hl k r hr, placeF, if_pos (by omega), Int.toNat_natCast, h2]; omega
  · rw [atF_made, Int.toNat_natCast, h4, decide_eq_true (by omega)]; rfl
  · rw [onesF_nat l hl, Int.toNat_natCast, h3]
theorem step_at (l : List Bool) (hl : l.length ≤ 1125899906842624) (k : Nat) (hk : k < l.length) : ∃ c n : Nat, n = (if nth l k then 1 else 0) ∧ c ≤ k ∧ atF (bitsOf l) k = nth l k ∧ onesF (bitsOf l) k = c ∧ onesF (bitsOf l) ((k : Int) + 1) = c + n ∧
    noughtsF (bitsOf l) k = k - c ∧ noughtsF (bitsOf l) ((k : Int) + 1) = k - c + 1 - n := by
  have hc := cnt_take_succ l k hk
  have hle := cnt_le (l.take k)
  rw [List.length_take] at hle
  have e1 : clamp (k : Int) l.length = (k : Int) := by
    have := clamp_min (k : Int) l.length; have := clamp_nat (k : Int) l.length; omega
  have e2 : clamp ((k : Int) + 1) l.length = (k : Int) + 1 := by
    have := clamp_min ((k : Int) + 1) l.length; have := clamp_nat ((k : Int) + 1) l.length; omega
  have t1 : ((k : Int) + 1).toNat = k + 1 := by omega
  refine ⟨cnt (l.take k), _, rfl, by omega, ?_, ?_, ?_, ?_, ?_⟩
  · rw [atF_made, Int.toNat_natCast, decide_eq_true (by omega)]; rfl
  · rw [onesF_nat l hl, Int.toNat_natCast]
  · rw [onesF_nat l hl, t1, hc]; omega
  · rw [noughtsF_made l hl, e1, Int.toNat_natCast]
  · rw [noughtsF_made l hl, e2, t1, hc]; omega

set_option maxHeartbeats 4000000 in
set_option maxRecDepth 100000 in
theorem bitsFind_walk (l : List Bool) (A : Option Addr) (c : Nat) (w : World) (hl : l.length ≤ 140737488351232) (hr : Rd w A l.length (fun j => .bool (nth l j))) :
    Calls Try.prog 6 #[.slice A l.length c] w fun e w' => e = .returned (.bool true) ∧ Ext w w' := by
  by_cases g0 : 1000 < l.length
  · have g0' : decide ((1000 : Int) < l.length) = true := by simp; omega
    go_enter Try.func6, Try.ntmps6
    go_wp2_with fail
    refine (madeK_calls _).mono ?_
    rintro e w1 ⟨rfl, hx⟩
    go_wp2_with fail
    go_ret
    exact ⟨rfl, hx⟩
  have g0' : decide ((1000 : Int) < l.length) = false := by simp; omega
  have hl2 : l.length ≤ 1000 := by omega
  clear g0
  obtain ⟨B, hB⟩ : ∃ B, bitsOf l = B := ⟨_, rfl⟩
  have ok : B.Ok := hB ▸ bitsOf_ok l (by omega)
  obtain ⟨T, hT⟩ : ∃ T : Nat, cnt l = T := ⟨_, rfl⟩
  have hT2 : T ≤ 1000 := by rw [← hT]; have := cnt_le l; omega
  have hOT : onesF B l.length = T := by rw [← hB, onesF_nat l (by omega), Int.toNat_natCast, List.take_length, hT]
  have hB0 : onesF B 0 = 0 := by rw [← hB, onesF_nat l (by omega)]; simp [cnt]
  have hBN : B.N = (l.length : Int) := by rw [← hB]; rfl
  have hgood : goodF B = true := by rw [← hB]; exact goodF_made l
  have HFA := Lib.hid (fun k hk => find_at l (by omega) k hk)
  have HSA := Lib.hid (fun k hk => step_at l (by omega) k hk)
  rw [hB, hT] at HFA
  rw [hB] at HSA
  have HB := Lib.hid hB; have HOT := Lib.hid hOT; have HB0 := Lib.hid hB0; have HBN := Lib.hid hBN; have HG := Lib.hid hgood
  clear hB hT hOT hB0 hBN hgood
  go_enter Try.func6, Try.ntmps6
  go_wp2_with fail
  refine (make_calls l A c w (by omega) hr).mono ?_
  rintro e w2 ⟨C1, d1, C2, d2, rfl, hrB, hx2⟩
  rw [HB.out] at hrB ⊢
  go_wp2_with fail
  generalize hW : World.alloc w2 _ = W
  have bx := bx3_of hW
  have hxW := hx2.trans (ext_of_alloc hW)
  have hrBW := hrB.ext (ext_of_alloc hW)
  have hrl := hr.ext hxW
  generalize w2.heap.size = BX at *
  clear hW hrB hx2
  refine (ones_calls B ok C1 C2 d1 d2 l.length ⟨by omega, by omega⟩ W hrBW).mono ?_
  rintro e w3 ⟨rfl, hx3⟩
  rw [HOT.out]
  go_wp2_with fail
  go_loopw [19] (fun i wr => ∃ k : Nat, k ≤ T ∧ i = .int .i64 k ∧ Ext W wr) (fun i _ => T - (intOf i).toNat)
  case atStart => exact ⟨0, by omega, rfl, hx3⟩
  case round =>
    obtain ⟨k, hk, rfl, hxr⟩ := hrel
    by_cases g1 : k < T
    · obtain ⟨p, hp1, hp2, hp3, hp4⟩ := HFA.out k g1
      have HP2 := Lib.hid hp2; have HP3 := Lib.hid hp3; have HP4 := Lib.hid hp4
      clear hp2 hp3 hp4
      obtain ⟨x0, x1, x2⟩ := bx.ext hxr
      go_wp2_with fail
      refine (find_calls B ok C1 C2 d1 d2 k wr (hrBW.ext hxr) (by rw [HBN.out]; omega) (by rw [HBN.out]; omega) HB0.out).mono ?_
      rintro e w4 ⟨r, hrf, rfl, hx4⟩
      rw [HP2.out r hrf]
      clear hrf x0 x1 x2
      have hx4 := hxr.trans hx4
      obtain ⟨x0, x1, x2⟩ := bx.ext hx4
      go_wp2_with fail
      refine (at_calls B ok C1 C2 d1 d2 p ⟨by omega, by omega⟩ w4 (hrBW.ext hx4)).mono ?_
      rintro e w5 ⟨rfl, hx5⟩
      rw [HP3.out]
      have hx5 := hx4.trans hx5
      clear x0 x1 x2
      obtain ⟨x0, x1, x2⟩ := bx.ext hx5
      go_wp2_with fail
      refine (ones_calls B ok C1 C2 d1 d2 p ⟨by omega, by omega⟩ w5 (hrBW.ext hx5)).mono ?_
      rintro e w6 ⟨rfl, hx6⟩
      rw [HP4.out]
      have hx6 := hx5.trans hx6
      go_wp2_with fail
      go_roundw
      case rel => exact ⟨k + 1, by omega, by go_num, hx6⟩
      case measure => simp [intOf]; omega
    · go_wp2_with fail
      obtain ⟨wo, rfl⟩ : ∃ wo : World, wo = wr := ⟨_, rfl⟩
      go_loopw [39] (fun i wr => ∃ k : Nat, k ≤ l.length ∧ i = .int .i64 k ∧ Ext W wr) (fun i _ => l.length - (intOf i).toNat)
      case atStart => exact ⟨0, by omega, rfl, hxr⟩
      case round =>
        obtain ⟨k, hk, rfl, hxr⟩ := hrel
        by_cases g1 : k < l.length
        · obtain ⟨cc, n, hn, hcc, s1, s2, s3, s4, s5⟩ := HSA.out k g1
          obtain ⟨b1, o1, hAA, hb1, hc1⟩ := hrl (by omega)
          subst hAA
          have p1 := ecell (hc1 k g1) hxr
          dsimp only at p1
          obtain ⟨X, hX⟩ : ∃ X, nth l k = X := ⟨_, rfl⟩
          rw [hX] at p1 hn s1
          have v1 := Lib.hid (congrArg Value.bool s1)
          have v2 := Lib.hid (congrArg (Value.int .i64) s2); have v3 := Lib.hid (congrArg (Value.int .i64) s3)
          have v4 := Lib.hid (congrArg (Value.int .i64) s4); have v5 := Lib.hid (congrArg (Value.int .i64) s5)
          clear s1 s2 s3 s4 s5 hX hc1
          have hbx := bx.ext hxr
          have hrW := hrBW.ext hxr
          have hWK : IntKind.i64.wrap ((k : Int) + 1) = (k : Int) + 1 := IntWalk.i64_in _ (by omega)
          cases X with
          | true =>
            have hn1 : n = 1 := by simpa using hn
            subst hn1
            clear hn
            have hWC : IntKind.i64.wrap ((cc : Int) + 1) = (cc : Int) + 1 := IntWalk.i64_in _ (by omega)
            have hWD : IntKind.i64.wrap ((k : Int) - cc + 1) = (k : Int) - cc + 1 := IntWalk.i64_in _ (by omega)
            have hWE : IntKind.i64.wrap ((k : Int) - cc + 1 - 1) = (k : Int) - cc + 1 - 1 := IntWalk.i64_in _ (by omega)
            go_wp2_with fail
            obtain ⟨k0, k1, k2⟩ := hbx.grow
            have wk := hWK
            refine wp_region_grow_lit (by kernel_rfl) (by kernel_rfl) ?_
            repeat
              (go_big_quiet_step ((first
                | (go_at_call 20; exact q_grow (val_eq (at_calls B ok C1 C2 d1 d2 (k : Int) ⟨by omega, by omega⟩ _ (hrW.ext (grow_ext _ _))) v1.out))
                | (go_at_call_of 21 (Value.int IntKind.i64 (k : Int)); exact q_grow (val_eq (ones_calls B ok C1 C2 d1 d2 (k : Int) ⟨by omega, by omega⟩ _ (hrW.ext (grow_ext _ _))) v2.out))
                | (go_at_call 21; exact q_grow (val_eq (ones_calls B ok C1 C2 d1 d2 ((k : Int) + 1) ⟨by omega, by omega⟩ _ (hrW.ext (grow_ext _ _))) v3.out))
                | (go_at_call_of 23 (Value.int IntKind.i64 (k : Int)); exact q_grow (val_eq (noughts_calls B ok C1 C2 d1 d2 (k : Int) ⟨by omega, by omega⟩ _ (hrW.ext (grow_ext _ _))) v4.out))
                | (go_at_call 23; exact q_grow (val_eq (noughts_calls B ok C1 C2 d1 d2 ((k : Int) + 1) ⟨by omega, by omega⟩ _ (hrW.ext (grow_ext _ _))) v5.out)))))
            refine wpQuiet_nil ?_
            intro _ hw'
            obtain ⟨u, rfl⟩ := hw'
            have hxu := grow_ext wr u
            generalize grow wr u = w9 at *
            go_wp2_with fail
            go_roundw
            case rel => exact ⟨k + 1, by omega, by go_num, hxr.trans hxu⟩
            case measure => simp [intOf]; omega
          | false =>
            have hn1 : n = 0 := by simpa using hn
            subst hn1
            clear hn
            have hWC : IntKind.i64.wrap ((cc : Int) + 0) = (cc : Int) + 0 := IntWalk.i64_in _ (by omega)
            have hWD : IntKind.i64.wrap ((k : Int) - cc + 1) = (k : Int) - cc + 1 := IntWalk.i64_in _ (by omega)
            have hWE : IntKind.i64.wrap ((k : Int) - cc + 1 - 0) = (k : Int) - cc + 1 - 0 := IntWalk.i64_in _ (by omega)
            go_wp2_with fail
            obtain ⟨k0, k1, k2⟩ := hbx.grow
            have wk := hWK
            refine wp_region_grow_lit (by kernel_rfl) (by kernel_rfl) ?_
            repeat
              (go_big_quiet_step ((first
                | (go_at_call 20; exact q_grow (val_eq (at_calls B ok C1 C2 d1 d2 (k : Int) ⟨by omega, by omega⟩ _ (hrW.ext (grow_ext _ _))) v1.out))
                | (go_at_call_of 21 (Value.int IntKind.i64 (k : Int)); exact q_grow (val_eq (ones_calls B ok C1 C2 d1 d2 (k : Int) ⟨by omega, by omega⟩ _ (hrW.ext (grow_ext _ _))) v2.out))
                | (go_at_call 21; exact q_grow (val_eq (ones_calls B ok C1 C2 d1 d2 ((k : Int) + 1) ⟨by omega, by omega⟩ _ (hrW.ext (grow_ext _ _))) v3.out))
                | (go_at_call_of 23 (Value.int IntKind.i64 (k : Int)); exact q_grow (val_eq (noughts_calls B ok C1 C2 d1 d2 (k : Int) ⟨by omega, by omega⟩ _ (hrW.ext (grow_ext _ _))) v4.out))
                | (go_at_call 23; exact q_grow (val_eq (noughts_calls B ok C1 C2 d1 d2 ((k : Int) + 1) ⟨by omega, by omega⟩ _ (hrW.ext (grow_ext _ _))) v5.out)))))
            refine wpQuiet_nil ?_
            intro _ hw'
            obtain ⟨u, rfl⟩ := hw'
            have hxu := grow_ext wr u
            generalize grow wr u = w9 at *
            go_wp2_with fail
            go_roundw
            case rel => exact ⟨k + 1, by omega, by go_num, hxr.trans hxu⟩
            case measure => simp [intOf]; omega
        · obtain ⟨x0, x1, x2⟩ := bx.ext hxr
          go_wp2_with fail
          refine (good_calls B ok C1 C2 d1 d2 wr (hrBW.ext hxr)).mono ?_
          rintro e w4 ⟨rfl, hx4⟩
          rw [HG.out]
          go_wp2_with fail
          refine (madeK_calls _).mono ?_
          rintro e w5 ⟨rfl, hx5⟩
          go_wp2_with fail
          go_ret
          exact ⟨rfl, hxW.trans (hxr.trans (hx4.trans hx5))⟩

section
variable {H : Type} {enc : TypeId × Value → H} {W : World}
set_option maxRecDepth 100000 in
theorem bitsFind_calls {r : Reach} {base : Nat} {v0 : Value} {d0 : DataW H} {p0 : List MemPlace}
    (hsz : (DataW.weightsEach Try.prog [27] [d0]).all (· ≤ reachBytes) = true)
    (hv0 : Value.okWide Try.prog W r base 27 v0) (h0 : DataW.Trod enc Try.prog W 0 (fun _ => true) true 27 v0 d0 p0) :
    Calls Try.prog 6 #[v0] W fun e w' => e = .returned (.bool true) ∧ Ext W w' := by
  simp only [DataW.weightsEach, List.all_append, Bool.and_eq_true] at hsz
  obtain ⟨A, c, l, rfl, hr, hl, hA⟩ := open_bools hv0 h0 hsz.1
  exact bitsFind_walk l A c W hl hr
end
end Go.Proofs.Ytjfdlibceldanaa
