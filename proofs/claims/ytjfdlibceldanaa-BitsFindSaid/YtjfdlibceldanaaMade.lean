/- bits answers at all: the closed call that stands in both packages of statements. -/
import Derived.Test.YtjfdlibceldanaaRefListOf
namespace Go.Proofs.Ytjfdlibceldanaa
open Go.RowKit

def l3 : List Bool := [true, false, true]
theorem l3_facts : ∃ b : PB, b = bitsOf l3 ∧ b.Ok ∧ goodF b = true ∧ (b.N == 3) = true ∧ b.N = 3 ∧ onesF b 0 = 0 ∧ onesF b 1 = 1 ∧ onesF b 2 = 1 ∧ onesF b 3 = 2 := by
  have h := onesF_made l3 (by decide)
  exact ⟨_, rfl, bitsOf_ok l3 (by decide), goodF_made l3, rfl, rfl, by rw [h]; rfl, by rw [h]; rfl, by rw [h]; rfl, by rw [h]; rfl⟩
theorem find_l3 {b : PB} {r : Int} (hN : b.N = 3) (h1 : onesF b 1 = 1) (h2 : onesF b 2 = 1) (h3 : onesF b 3 = 2) (h : FindIs b 1 r) : r = 2 := by
  unfold FindIs at h
  rw [hN, h3, if_neg (by omega)] at h
  obtain ⟨a, b', c, d⟩ := h
  rcases (show r = 0 ∨ r = 1 ∨ r = 2 by omega) with rfl | rfl | rfl
  · rw [show (0 : Int) + 1 = 1 from rfl, h1] at d; omega
  · rw [show (1 : Int) + 1 = 2 from rfl, h2] at d; omega
  · rfl

set_option maxHeartbeats 1000000 in
theorem made_calls (w : World) : Calls Try.prog 13 #[] w fun e w' => e = .returned (.bool true) ∧ Ext w w' := by
  obtain ⟨b, hb, ok, hg, hN, hN3, o0, o1, o2, o3⟩ := l3_facts
  have O0 := Lib.hid o0; have O1 := Lib.hid o1; have O2 := Lib.hid o2; have O3 := Lib.hid o3; have HN := Lib.hid hN3; have HB := Lib.hid hb; have HG := Lib.hid hg
  clear o0 o1 o2 o3 hN3 hb hg
  go_enter Try.func13, Try.ntmps13
  go_wp2_with fail
  have hm := make_calls l3 (some ⟨w.heap.size, 0, none⟩) 3 (w.alloc (.cells #[.bool true, .bool false, .bool true] 4)) (by decide)
    (fun _ => ⟨w.heap.size, 0, rfl, by simp, fun k hk => by
      have hk3 : k < 3 := hk
      rw [Nat.zero_add, World.cell?_alloc_new]
      rcases (show k = 0 ∨ k = 1 ∨ k = 2 by omega) with rfl | rfl | rfl <;> rfl⟩)
  refine hm.mono ?_
  rintro e w1 ⟨A1, c1, A2, c2, rfl, hr, hx⟩
  rw [← HB.out] at hr ⊢
  have hx0 := ((Ext.refl w).alloc _).trans hx
  clear hm hx
  go_wp2_with fail
  generalize hW : World.alloc w1 _ = W
  have bx := bx3_of hW
  have hxW := hx0.trans (ext_of_alloc hW)
  have hrW := hr.ext (ext_of_alloc hW)
  clear hW
  refine (good_calls b ok A1 A2 c1 c2 W hrW).mono ?_
  rintro e w2 ⟨rfl, hx2⟩
  rw [HG.out]
  obtain ⟨x0, x1, x2⟩ := bx.ext hx2
  go_wp2_with fail
  refine (ones_calls b ok A1 A2 c1 c2 3 ⟨by decide, by decide⟩ w2 (hrW.ext hx2)).mono ?_
  rintro e w3 ⟨rfl, hx3⟩
  rw [O3.out]
  clear x0 x1 x2
  obtain ⟨x0, x1, x2⟩ := bx.ext (hx2.trans hx3)
  go_wp2_with fail
  refine (find_calls b ok A1 A2 c1 c2 1 w3 (hrW.ext (hx2.trans hx3)) (by rw [HN.out]; decide) (by rw [HN.out]; decide) O0.out).mono ?_
  rintro e w4 ⟨r, hr4, rfl, hx4⟩
  obtain rfl := find_l3 HN.out O1.out O2.out O3.out hr4
  clear hr4
  go_wp2_with fail
  go_ret
  exact ⟨rfl, hxW.trans (hx2.trans (hx3.trans hx4))⟩

set_option maxHeartbeats 1000000 in
theorem madeK_calls (w : World) : Calls Try.prog 25 #[] w fun e w' => e = .returned (.bool true) ∧ Ext w w' := by
  obtain ⟨b, hb, ok, hg, hN, hN3, o0, o1, o2, o3⟩ := l3_facts
  have O0 := Lib.hid o0; have O1 := Lib.hid o1; have O2 := Lib.hid o2; have O3 := Lib.hid o3; have HN := Lib.hid hN3; have HB := Lib.hid hb; have HG := Lib.hid hg
  clear o0 o1 o2 o3 hN3 hb hg
  go_enter Try.func25, Try.ntmps25
  go_wp2_with fail
  have hm := make_calls l3 (some ⟨w.heap.size, 0, none⟩) 3 (w.alloc (.cells #[.bool true, .bool false, .bool true] 4)) (by decide)
    (fun _ => ⟨w.heap.size, 0, rfl, by simp, fun k hk => by
      have hk3 : k < 3 := hk
      rw [Nat.zero_add, World.cell?_alloc_new]
      rcases (show k = 0 ∨ k = 1 ∨ k = 2 by omega) with rfl | rfl | rfl <;> rfl⟩)
  refine hm.mono ?_
  rintro e w1 ⟨A1, c1, A2, c2, rfl, hr, hx⟩
  rw [← HB.out] at hr ⊢
  have hx0 := ((Ext.refl w).alloc _).trans hx
  clear hm hx
  go_wp2_with fail
  generalize hW : World.alloc w1 _ = W
  have bx := bx3_of hW
  have hxW := hx0.trans (ext_of_alloc hW)
  have hrW := hr.ext (ext_of_alloc hW)
  clear hW
  refine (good_calls b ok A1 A2 c1 c2 W hrW).mono ?_
  rintro e w2 ⟨rfl, hx2⟩
  rw [HG.out]
  obtain ⟨x0, x1, x2⟩ := bx.ext hx2
  go_wp2_with fail
  refine (ones_calls b ok A1 A2 c1 c2 3 ⟨by decide, by decide⟩ w2 (hrW.ext hx2)).mono ?_
  rintro e w3 ⟨rfl, hx3⟩
  rw [O3.out]
  clear x0 x1 x2
  obtain ⟨x0, x1, x2⟩ := bx.ext (hx2.trans hx3)
  go_wp2_with fail
  refine (find_calls b ok A1 A2 c1 c2 1 w3 (hrW.ext (hx2.trans hx3)) (by rw [HN.out]; decide) (by rw [HN.out]; decide) O0.out).mono ?_
  rintro e w4 ⟨r, hr4, rfl, hx4⟩
  obtain rfl := find_l3 HN.out O1.out O2.out O3.out hr4
  clear hr4
  go_wp2_with fail
  go_ret
  exact ⟨rfl, hxW.trans (hx2.trans (hx3.trans hx4))⟩
end Go.Proofs.Ytjfdlibceldanaa
