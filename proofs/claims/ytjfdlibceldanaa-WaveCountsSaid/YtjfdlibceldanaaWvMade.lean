/- waves, of both packages: the walks. -/
import Derived.Test.YtjfdlibceldanaaWvSame
import Derived.Test.YtjfdlibceldanaaWvOf
namespace Go.Proofs.Ytjfdlibceldanaa
open Go.RowKit Wv

def l4 : List Nat := [5, 2, 5, 0]
structure L4 (X : PW) : Prop where
  at2 : ∀ A c w, RdL w A X.L → Calls Try.prog 33 #[.agg #[.int .i64 X.N, .int .i64 X.Deep, .slice A X.L.length c], .int .i64 2] w fun e w' => e = .returned (.int .i64 5) ∧ Ext w w'
  count : ∀ A c w, RdL w A X.L → Calls Try.prog 34 #[.agg #[.int .i64 X.N, .int .i64 X.Deep, .slice A X.L.length c], .int .i64 5, .int .i64 3] w fun e w' => e = .returned (.int .i64 2) ∧ Ext w w'
  kinds : ∀ A c w, RdL w A X.L → Calls Try.prog 37 #[.agg #[.int .i64 X.N, .int .i64 X.Deep, .slice A X.L.length c], .int .i64 0, .int .i64 4] w fun e w' => ∃ B b, e = .returned (.slice B 3 b) ∧ Ext w w'
theorem l4_ok : L4 (waveOf l4 3) where
  at2 A c w hr := by
    have h := wat_yes l4 3 (by decide) (by decide) (by decide) A c 2 (by decide) w hr
    exact h
  count A c w hr := by
    have h := wcount_yes l4 3 (by decide) (by decide) (by decide) A c 5 3 (by decide) w hr
    rw [show (l4.take (cl 3 l4.length)).count 5 = 2 from by decide] at h
    exact h
  kinds A c w hr := by
    have h := wkinds_calls l4 3 (by decide) (by decide) (by decide) A c 0 4 w hr
    refine h.mono ?_
    rintro e w' ⟨B, b, rfl, _, _, hx⟩
    rw [show (kindsT 3 l4 (cl 0 l4.length) (cl 4 l4.length) 3 0).length = 3 from by decide]
    exact ⟨B, b, rfl, hx⟩
theorem rd_l4 (w : World) (T : TypeId) : Rd (w.alloc (.cells #[.int .i64 5, .int .i64 2, .int .i64 5, .int .i64 0] T)) (some ⟨w.heap.size, 0, none⟩) l4.length (fun k => .int .i64 (nth l4 k : Nat)) := fun _ => by
  refine ⟨w.heap.size, 0, rfl, by simp, fun k hk => ?_⟩
  have hk4 : k < 4 := hk
  rw [Nat.zero_add, World.cell?_alloc_new]
  rcases (show k = 0 ∨ k = 1 ∨ k = 2 ∨ k = 3 by omega) with rfl | rfl | rfl | rfl <;> rfl

set_option maxHeartbeats 4000000 in
set_option maxRecDepth 100000 in
theorem waves_calls (w : World) : Calls Try.prog 27 #[] w fun e w' => e = .returned (.bool true) ∧ Ext w w' := by
  have ok := l4_ok
  have hmk := wmake_yes l4 3 (some ⟨w.heap.size, 0, none⟩) 4 (w.alloc (.cells #[.int .i64 5, .int .i64 2, .int .i64 5, .int .i64 0] 3)) (by decide) (by decide) (by decide) (fun h => by cases h) (rd_l4 w _)
  obtain ⟨X, hX⟩ : ∃ X, waveOf l4 3 = X := ⟨_, rfl⟩
  rw [hX] at ok hmk
  have OK := Lib.hid ok; have HM := Lib.hid hmk
  clear hX ok hmk
  go_enter Try.func27, Try.ntmps27
  go_wp2_with fail
  refine HM.out.mono ?_
  rintro e w1 ⟨A, c, rfl, hc, hr, hx⟩
  have hx0 := ((Ext.refl w).alloc _).trans hx
  clear hx hc
  obtain ⟨N, D, L⟩ := X
  obtain ⟨h1, h2, h3⟩ := OK.out
  dsimp only at hr h1 h2 h3 ⊢
  have H1 := Lib.hid h1; have H2 := Lib.hid h2; have H3 := Lib.hid h3
  clear h1 h2 h3 OK HM
  obtain ⟨n, hn⟩ : ∃ n, L.length = n := ⟨_, rfl⟩
  rw [hn] at H1 H2 H3 ⊢
  clear hn
  go_wp2_with fail
  generalize hW : World.alloc w1 _ = W
  have bx := bx3_of hW
  have hxW := hx0.trans (ext_of_alloc hW)
  have hrW := hr.ext (ext_of_alloc hW)
  clear hW hr hx0
  refine (H1.out A c W hrW).mono ?_
  rintro e w2 ⟨rfl, hx2⟩
  obtain ⟨x0, x1, x2⟩ := bx.ext hx2
  go_wp2_with fail
  refine (H2.out A c w2 (hrW.ext hx2)).mono ?_
  rintro e w3 ⟨rfl, hx3⟩
  clear x0 x1 x2
  obtain ⟨x0, x1, x2⟩ := bx.ext (hx2.trans hx3)
  go_wp2_with fail
  refine (H3.out A c w3 (hrW.ext (hx2.trans hx3))).mono ?_
  rintro e w4 ⟨B, b, rfl, hx4⟩
  go_wp2_with fail
  go_ret
  exact ⟨rfl, hxW.trans (hx2.trans (hx3.trans hx4))⟩

set_option maxHeartbeats 4000000 in
set_option maxRecDepth 100000 in
theorem wavesK_calls (w : World) : Calls Try.prog 39 #[] w fun e w' => e = .returned (.bool true) ∧ Ext w w' := by
  have ok := l4_ok
  have hmk := wmake_yes l4 3 (some ⟨w.heap.size, 0, none⟩) 4 (w.alloc (.cells #[.int .i64 5, .int .i64 2, .int .i64 5, .int .i64 0] 3)) (by decide) (by decide) (by decide) (fun h => by cases h) (rd_l4 w _)
  obtain ⟨X, hX⟩ : ∃ X, waveOf l4 3 = X := ⟨_, rfl⟩
  rw [hX] at ok hmk
  have OK := Lib.hid ok; have HM := Lib.hid hmk
  clear hX ok hmk
  go_enter Try.func39, Try.ntmps39
  go_wp2_with fail
  refine HM.out.mono ?_
  rintro e w1 ⟨A, c, rfl, hc, hr, hx⟩
  have hx0 := ((Ext.refl w).alloc _).trans hx
  clear hx hc
  obtain ⟨N, D, L⟩ := X
  obtain ⟨h1, h2, h3⟩ := OK.out
  dsimp only at hr h1 h2 h3 ⊢
  have H1 := Lib.hid h1; have H2 := Lib.hid h2; have H3 := Lib.hid h3
  clear h1 h2 h3 OK HM
  obtain ⟨n, hn⟩ : ∃ n, L.length = n := ⟨_, rfl⟩
  rw [hn] at H1 H2 H3 ⊢
  clear hn
  go_wp2_with fail
  generalize hW : World.alloc w1 _ = W
  have bx := bx3_of hW
  have hxW := hx0.trans (ext_of_alloc hW)
  have hrW := hr.ext (ext_of_alloc hW)
  clear hW hr hx0
  refine (H1.out A c W hrW).mono ?_
  rintro e w2 ⟨rfl, hx2⟩
  obtain ⟨x0, x1, x2⟩ := bx.ext hx2
  go_wp2_with fail
  refine (H2.out A c w2 (hrW.ext hx2)).mono ?_
  rintro e w3 ⟨rfl, hx3⟩
  clear x0 x1 x2
  obtain ⟨x0, x1, x2⟩ := bx.ext (hx2.trans hx3)
  go_wp2_with fail
  refine (H3.out A c w3 (hrW.ext (hx2.trans hx3))).mono ?_
  rintro e w4 ⟨B, b, rfl, hx4⟩
  go_wp2_with fail
  go_ret
  exact ⟨rfl, hxW.trans (hx2.trans (hx3.trans hx4))⟩
end Go.Proofs.Ytjfdlibceldanaa
