/- BitsTells: one case of the law's walk. -/
import Derived.Test.YtjfdlibceldanaaBitsTells00
namespace Go.Proofs.Ytjfdlibceldanaa
open Go.ChangeShapes Go.WideShapes Go.ChangeAt Go.RowKit

set_option maxHeartbeats 8000000 in
set_option maxRecDepth 100000 in
theorem bitsTells_11 (l : List Bool) (A : Option Addr) (c : Nat) (i k : Int) (w : World) (hl : l.length ≤ 140737488351232) (hA : A = none → c = 0) (hi : I64 i) (hk : I64 k) (hr : Rd w A l.length (fun j => .bool (nth l j))) (g0 : ¬ 1000 < l.length) (h1 : 0 ≤ i) (h2 : ¬ i < (l.length : Int)) (h3 : ¬ 0 ≤ k) :
    Calls Try.prog 5 #[.slice A l.length c, .int .i64 i, .int .i64 k] w fun e w' => e = .returned (.bool true) ∧ Ext w w' := by
  have g0' : decide ((1000 : Int) < l.length) = false := by simp; omega
  have hl2 : l.length ≤ 1000 := by omega
  clear g0
  obtain ⟨hi1, hi2⟩ := hi
  obtain ⟨hk1, hk2⟩ := hk
  obtain ⟨ib, hib, hz0, hz1, hz2⟩ := info_parts info_bool
  -- the letters
  obtain ⟨B, hB⟩ : ∃ B, bitsOf l = B := ⟨_, rfl⟩
  have ok : B.Ok := hB ▸ bitsOf_ok l (by omega)
  obtain ⟨AT, hAT⟩ : ∃ AT, atF B i = AT := ⟨_, rfl⟩
  obtain ⟨O, hO⟩ : ∃ O : Nat, cnt (l.take i.toNat) = O := ⟨_, rfl⟩
  obtain ⟨J, hJ⟩ : ∃ J, clamp i l.length = J := ⟨_, rfl⟩
  obtain ⟨PL, hPL⟩ : ∃ PL, placeF l k = PL := ⟨_, rfl⟩
  have hOnes : onesF B i = O := by rw [← hB, onesF_nat l (by omega), hO]
  have hNo : noughtsF B i = J - O := by rw [← hB, noughts_nat l (by omega), hO, hJ]
  have hFind : ∀ r, FindIs B k r → r = PL := fun r hr => by rw [← hPL]; exact find_made l (by omega) k r (hB ▸ hr)
  have hB0 : onesF B 0 = 0 := by rw [← hB, onesF_nat l (by omega)]; simp [cnt]
  have hBN : B.N = (l.length : Int) := by rw [← hB]; rfl
  have hsame : sameB B B = true := (sameB_iff B B).2 rfl
  have hO2 : O ≤ 1000 := by rw [← hO]; have := cnt_le (l.take i.toNat); rw [List.length_take] at this; omega
  have hJ2 : 0 ≤ J ∧ J ≤ 1000 := by rw [← hJ]; have := clamp_nat i l.length; omega
  obtain ⟨hJ3, hJ4⟩ := hJ2
  have hat : AT = (decide (0 ≤ i ∧ i < l.length) && nth l i.toNat) := by rw [← hAT, ← hB, atF_made]
  obtain ⟨m, hm⟩ : ∃ m, (if (l.length : Int) < i then (l.length : Int) else i) = m := ⟨_, rfl⟩
  have hj : (if 0 < m then m else 0) = J := by rw [← hJ, ← hm]; rfl
  have HB := Lib.hid hB; have HAT := Lib.hid hAT; have HO := Lib.hid hO; have HPL := Lib.hid hPL; have HOn := Lib.hid hOnes; have HNo := Lib.hid hNo; have HFi := Lib.hid hFind
  have HB0 := Lib.hid hB0; have HBN := Lib.hid hBN; have HS := Lib.hid hsame; have HA := Lib.hid hat
  clear hB hAT hO hPL hOnes hNo hFind hB0 hBN hsame hat hJ
  have a2 : decide (i < (l.length : Int)) = false := by simpa using h2
  have a3 : decide (0 ≤ k) = false := by simpa using h3
  go_enter Try.func5, Try.ntmps5
  go_wp2_with (at_builtin; refine wpList_appAll (by rfl) _ _ 27 rfl w.heap.size 4 ib (.bool false) 1 Try.underlying27 hib hz0 hz1 hz2 rfl _ 0 [] rfl (own_nil w w.heap.size 4 1) A l.length c (fun j => .bool (nth l j)) rfl hA hr (fun _ _ => rfl) (by omega) (by omega) (by omega) (Nat.le_refl _) ?_)
  intro v1 w1 own1 hg1
  obtain ⟨A1, c1, hv1⟩ := own_form own1
  subst hv1
  have hx1 : Ext w w1 := ext_of_grown hg1
  have hr1 := rd_own own1
  clear own1 hg1
  go_wp2_with fail
  refine (make_calls l A1 c1 w1 (by omega) hr1).mono ?_
  rintro e w2 ⟨C1, d1, C2, d2, rfl, hrB, hx2⟩
  rw [HB.out] at hrB ⊢
  go_wp2_with fail
  generalize hW : World.alloc w2 _ = W
  have bx := bx3_of hW
  have hxW := (hx1.trans hx2).trans (ext_of_alloc hW)
  have hrBW := hrB.ext (ext_of_alloc hW)
  have hrl := hr.ext hxW
  generalize w2.heap.size = BX at *
  clear hW hrB hx1 hx2 hr1
  have hATf : AT = false := by rw [HA.out, decide_eq_false (by omega)]; rfl
  subst hATf
  have hPLf : PL = -1 := by rw [← HPL.out, placeF, if_neg (by omega)]
  subst hPLf
  go_wp2_with fail
  obtain ⟨x0, x1, x2⟩ := bx
  have ok2 := ok
  have hwr : IntKind.i64.wrap (J - (O : Int)) = J - O := IntWalk.i64_in _ (by omega)
  have hcur : Ext W W.drew := (Ext.refl W).drew
  go_region_held3 (fun w' => w'.cell? ⟨BX, 0, none⟩ = some (.int .i64 B.N) ∧ w'.cell? ⟨BX, 1, none⟩ = some (.slice C1 B.P.length d1) ∧ w'.cell? ⟨BX, 2, none⟩ = some (.slice C2 B.A.length d2))
    (first | (exact ⟨ecell x0 hcur, ecell x1 hcur, ecell x2 hcur⟩) | go_keep)
    (first
      | (go_at_call 19; refine (bitsOf_calls l A c _ (by omega) (hrl.ext hcur)).mono ?_; rintro e wn ⟨E1, e1, E2, e2, rfl, hrE, hxn⟩; replace hcur := hcur.trans hxn; rw [HB.out] at hrE ⊢)
      | (go_at_call 18; refine (sameBits_calls B B ok ok2 C1 C2 E1 E2 d1 d2 e1 e2 _ (hrBW.ext hcur) hrE).mono ?_; rintro e wn ⟨rfl, hxn⟩; replace hcur := hcur.trans hxn; rw [HS.out])
      | (go_at_call 20; refine (at_calls B ok C1 C2 d1 d2 _ ⟨hi1, hi2⟩ _ (hrBW.ext hcur)).mono ?_; rintro e wn ⟨rfl, hxn⟩; replace hcur := hcur.trans hxn; rw [HAT.out])
      | (go_at_call 21; refine (ones_calls B ok C1 C2 d1 d2 _ ⟨hi1, hi2⟩ _ (hrBW.ext hcur)).mono ?_; rintro e wn ⟨rfl, hxn⟩; replace hcur := hcur.trans hxn; rw [HOn.out])
      | (go_at_call 22; refine (onesOf_calls l A c _ _ (by omega) (hrl.ext hcur)).mono ?_; rintro e wn ⟨rfl, hxq⟩; rw [HO.out]; subst hxq)
      | (go_at_call 23; refine (noughts_calls B ok C1 C2 d1 d2 _ ⟨hi1, hi2⟩ _ (hrBW.ext hcur)).mono ?_; rintro e wn ⟨rfl, hxn⟩; replace hcur := hcur.trans hxn; rw [HNo.out])
      | (go_at_call 24; refine (find_calls B ok C1 C2 d1 d2 _ _ (hrBW.ext hcur) (by rw [HBN.out]; omega) (by rw [HBN.out]; omega) HB0.out).mono ?_; rintro e wn ⟨r, hrf, rfl, hxn⟩; replace hcur := hcur.trans hxn; rw [HFi.out r hrf])
      | (go_at_call 13; refine (made_calls _).mono ?_; rintro e wn ⟨rfl, hxn⟩; replace hcur := hcur.trans hxn))
  go_wp2_with fail
  go_ret
  exact ⟨rfl, hxW.trans hcur⟩
end Go.Proofs.Ytjfdlibceldanaa
