/- BitsGood: the law's walk, and its argument opened. -/
import Derived.Test.YtjfdlibceldanaaMade
import Derived.Test.YtjfdlibceldanaaOpen
namespace Go.Proofs.Ytjfdlibceldanaa
open Go.ChangeShapes Go.WideShapes Go.ChangeAt Go.RowKit

set_option maxHeartbeats 1000000 in
theorem bitsGood_walk (b : PB) (hb : b.Ok) (A1 A2 : Option Addr) (c1 c2 : Nat) (w : World) (hr : RdB w A1 A2 b) :
    Calls Try.prog 4 #[.agg #[.int .i64 b.N, .slice A1 b.P.length c1, .slice A2 b.A.length c2]] w fun e w' => e = .returned (.bool true) ∧ Ext w w' := by
  by_cases g1 : 1048576 < b.N
  · go_enter Try.func4, Try.ntmps4
    go_wp2_with fail
    refine (made_calls _).mono ?_
    rintro e w1 ⟨rfl, hx⟩
    go_wp2_with fail
    go_ret
    exact ⟨rfl, ((Ext.refl _).alloc _).trans hx⟩
  · have g1' : decide (1048576 < b.N) = false := by simpa using g1
    have hlo : listOk b = goodF b := by unfold listOk; rw [decide_eq_true (by omega)]; rfl
    have HL := Lib.hid hlo; clear hlo
    go_enter Try.func4, Try.ntmps4
    go_wp2_with fail
    generalize hW : World.alloc w _ = W
    have bx := bx3_of hW
    have hx := ext_of_alloc hW
    clear hW
    refine (listOf_calls b hb A1 A2 c1 c2 W (hr.ext hx)).mono ?_
    rintro e w1 ⟨v, rfl, hx1⟩
    rw [HL.out]
    obtain ⟨G, hG⟩ : ∃ G, goodF b = G := ⟨_, rfl⟩
    have HG := Lib.hid hG
    rw [hG]
    clear hG
    obtain ⟨x0, x1, x2⟩ := bx.ext hx1
    go_wp2_with fail
    refine (good_calls b hb A1 A2 c1 c2 w1 ((hr.ext hx).ext hx1)).mono ?_
    rintro e w2 ⟨rfl, hx2⟩
    rw [HG.out]
    have hGG : (G == G) = true := by simp
    clear x0 x1 x2
    go_wp2_with fail
    refine (made_calls _).mono ?_
    rintro e w3 ⟨rfl, hx3⟩
    go_wp2_with fail
    go_ret
    exact ⟨rfl, hx.trans (hx1.trans (hx2.trans hx3))⟩

section
variable {H : Type} {enc : TypeId × Value → H} {W : World}
set_option maxRecDepth 100000 in
theorem open_bits {r : Reach} {base : Nat} {v : Value} {d : DataW H} {p : List MemPlace} (hv : Value.okWide Try.prog W r base 26 v) (h : DataW.Trod enc Try.prog W 0 (fun _ => true) true 26 v d p)
    (hw : (d.weights Try.prog 26).all (· ≤ reachBytes) = true) :
    ∃ (b : PB) (A1 A2 : Option Addr) (c1 c2 : Nat), v = .agg #[.int .i64 b.N, .slice A1 b.P.length c1, .slice A2 b.A.length c2] ∧ b.Ok ∧ RdB W A1 A2 b :=
  opened_bits (Tw := 23) (Ti := 24) (Eu := 72) (Ei := 3) Try.underlying26 (by kernel_rfl) (by kernel_rfl) (by kernel_rfl) (by kernel_rfl) (by kernel_rfl) Try.underlying23 Try.underlying24 Try.underlying72 Try.underlying3 (by kernel_rfl) (by kernel_rfl) (by kernel_rfl) (by kernel_rfl) hv h hw

set_option maxRecDepth 100000 in
theorem bitsGood_calls {r : Reach} {base : Nat} {v0 : Value} {d0 : DataW H} {p0 : List MemPlace}
    (hsz : (DataW.weightsEach Try.prog [26] [d0]).all (· ≤ reachBytes) = true)
    (hv0 : Value.okWide Try.prog W r base 26 v0) (h0 : DataW.Trod enc Try.prog W 0 (fun _ => true) true 26 v0 d0 p0) :
    Calls Try.prog 4 #[v0] W fun e w' => e = .returned (.bool true) ∧ Ext W w' := by
  have hw : (d0.weights Try.prog 26).all (· ≤ reachBytes) = true := by simpa [DataW.weightsEach] using hsz
  obtain ⟨b, A1, A2, c1, c2, rfl, hb, hr⟩ := open_bits hv0 h0 hw
  exact bitsGood_walk b hb A1 A2 c1 c2 W hr
end
end Go.Proofs.Ytjfdlibceldanaa
