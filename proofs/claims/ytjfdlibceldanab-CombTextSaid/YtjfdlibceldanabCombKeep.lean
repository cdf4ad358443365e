/- CombText: combs and the law's walk. -/
import Derived.Test.YtjfdlibceldanabCombTxt
import Derived.Test.YtjfdlibceldanabOpenI
namespace Go.Proofs.Ytjfdlibceldanab
open Go.ChangeShapes Go.WideShapes Go.ChangeAt Go.RowKit En Wv Gu

/-! ### Does comb answer at all? -/
def l5 : List Int := [2, 1, 2, 1, 0]
theorem l5_ok : combOk l5 := by unfold combOk; decide
theorem rd_row (w : World) (T : TypeId) (xs : List Int) : Rd (w.alloc (.cells (xs.map (Value.int .i64)).toArray T)) (some ⟨w.heap.size, 0, none⟩) xs.length (fun k => .int .i64 (nth xs k)) := fun _ => by
  refine ⟨w.heap.size, 0, rfl, by simp, fun k hk => ?_⟩
  rw [Nat.zero_add, World.cell?_alloc_new]
  simp [nth, hk]

set_option maxHeartbeats 4000000 in
set_option maxRecDepth 100000 in
theorem combs_walk (CI : World → Option Addr → Option Addr → Option Addr → Nat → Prop) (hCI : ∀ w w' E B D ec, CI w E B D ec → Ext w w' → CI w' E B D ec) (n m2 : Nat) (w : World)
    (cm : Calls Try.prog 8 #[.slice (some ⟨w.heap.size, 0, none⟩) 5 5] (w.alloc (.cells #[.int .i64 2, .int .i64 1, .int .i64 2, .int .i64 1, .int .i64 0] 3)) fun e w' => ∃ (E B D : Option Addr) (ec bc dc : Nat), e = .returned (.tuple #[combV n m2 E B D ec bc dc, .bool true]) ∧ CI w' E B D ec ∧ Ext w w')
    (c1 : ∀ E B D ec bc dc w, CI w E B D ec → Calls Try.prog 14 #[combV n m2 E B D ec bc dc, .slice (some ⟨w.heap.size, 0, none⟩) 2 2] (w.alloc (.cells #[.int .i64 2, .int .i64 1] 3)) fun e w' => e = .returned (.int .i64 2) ∧ Ext w w')
    (c2 : ∀ E B D ec bc dc w, CI w E B D ec → Calls Try.prog 13 #[combV n m2 E B D ec bc dc, .slice (some ⟨w.heap.size, 0, none⟩) 1 1] (w.alloc (.cells #[.int .i64 1] 3)) fun e w' => ∃ P p, e = .returned (.slice P 2 p) ∧ Ext w w') :
    Calls Try.prog 12 #[] w fun e w' => e = .returned (.bool true) ∧ Ext w w' := by
  have CM := Lib.hid cm; have C1 := Lib.hid c1; have C2 := Lib.hid c2; have HC := Lib.hid hCI
  clear cm c1 c2 hCI
  go_enter Try.func12, Try.ntmps12
  go_wp2_with fail
  with_reducible refine CM.out.mono ?_
  rintro e w1 ⟨E, B, D, ec, bc, dc, rfl, hci, hx1⟩
  unfold combV at C1 C2 ⊢
  go_wp2_with fail
  generalize hW : World.alloc w1 _ = W
  have bx := bk_of hW
  have hxW := hx1.trans (ext_of_alloc hW)
  have hciW := HC.out _ _ _ _ _ _ hci (ext_of_alloc hW)
  have hs : w1.heap.size + 1 = W.heap.size := by rw [← hW]; simp
  clear hW hci hx1
  have z0 := bx.cell 0
  have z1 := bx.cell 1
  have z2 := bx.cell 2
  have z3 := bx.cell 3
  have z4 := bx.cell 4
  go_wp2_with fail
  rw [hs]
  with_reducible refine (C1.out E B D ec bc dc W hciW).mono ?_
  rintro e w2 ⟨rfl, hx2⟩
  have hx2' : Ext W w2 := hx2
  have hci2 := HC.out _ _ _ _ _ _ hciW hx2'
  have bx2 := bx.ext hx2'
  have hxw2 := hxW.trans hx2'
  clear z0 z1 z2 z3 z4 bx hxW hciW hx2 hx2' hs
  have z0 := bx2.cell 0
  have z1 := bx2.cell 1
  have z2 := bx2.cell 2
  have z3 := bx2.cell 3
  have z4 := bx2.cell 4
  go_wp2_with fail
  with_reducible refine (C2.out E B D ec bc dc w2 hci2).mono ?_
  rintro e w3 ⟨P, p, rfl, hx3⟩
  have hx3' := hxw2.trans hx3
  clear z0 z1 z2 z3 z4 bx2
  go_wp2_with fail
  go_ret
  exact ⟨rfl, hx3'⟩
theorem combs_calls (w : World) : Calls Try.prog 12 #[] w fun e w' => e = .returned (.bool true) ∧ Ext w w' := by
  refine combs_walk (fun w E B D ec => l5.length ≤ ec ∧ CombIn w l5 E B D) (fun w w' E B D ec h hx => ⟨h.1, h.2.ext hx⟩) 5 4 w ?_ ?_ ?_
  · refine (cmake_yes l5 (some ⟨w.heap.size, 0, none⟩) 5 _ (by decide) (rd_row w 3 l5) l5_ok).mono ?_
    rintro e w' ⟨E, B, D, ec, bc, dc, rfl, h1, h2, h3⟩
    exact ⟨E, B, D, ec, bc, dc, rfl, ⟨h1, h2⟩, ((Ext.refl w).alloc _).trans h3⟩
  · intro E B D ec bc dc w h
    refine (ccount_calls l5 l5_ok E B D ec bc dc [2, 1] ?_ (by decide) (some ⟨w.heap.size, 0, none⟩) 2 _ (h.2.ext ((Ext.refl w).alloc _)) (rd_row w 3 [2, 1])).mono ?_
    · unfold signOk; decide
    · rintro e w' ⟨rfl, hx⟩
      refine ⟨?_, ((Ext.refl w).alloc _).trans hx⟩
      rw [span_places]
      rw [show (places l5 [2, 1]).length = 2 from by decide]
      rfl
  · intro E B D ec bc dc w h
    refine (places_calls l5 l5_ok E B D ec bc dc h.1 [1] ?_ (by decide) (some ⟨w.heap.size, 0, none⟩) 1 _ (h.2.ext ((Ext.refl w).alloc _)) (rd_row w 3 [1])).mono ?_
    · unfold signOk; decide
    · rintro e w' ⟨P, p, rfl, _, _, hx⟩
      rw [show (places l5 [1]).length = 2 from by decide]
      exact ⟨P, p, rfl, ((Ext.refl w).alloc _).trans hx⟩
end Go.Proofs.Ytjfdlibceldanab
