/- sorts, of both packages: the walks. -/
import Derived.Test.YtjfdlibceldanaaSortRef2
import Derived.Test.YtjfdlibceldanaaSortAhead
namespace Go.Proofs.Ytjfdlibceldanaa
open Go.RowKit En

def s4 : List Int := [2, 1, 2, 0]
theorem s4_ends : endsF s4 = [3, 1, 2, 0] := (ends_eq (show IsEnds s4 [3, 1, 2, 0] from ⟨by decide, by decide⟩)).symm
theorem rd_s4 (w : World) (T : TypeId) : Rd (w.alloc (.cells #[.int .i64 2, .int .i64 1, .int .i64 2, .int .i64 0] T)) (some ⟨w.heap.size, 0, none⟩) s4.length (fun k => .int .i64 (nth s4 k)) := fun _ => by
  refine ⟨w.heap.size, 0, rfl, by simp, fun k hk => ?_⟩
  have hk4 : k < 4 := hk
  rw [Nat.zero_add, World.cell?_alloc_new]
  rcases (show k = 0 ∨ k = 1 ∨ k = 2 ∨ k = 3 by omega) with rfl | rfl | rfl | rfl <;> rfl
theorem s4_calls (w : World) (T : TypeId) : Calls Try.prog 41 #[.slice (some ⟨w.heap.size, 0, none⟩) 4 4] (w.alloc (.cells #[.int .i64 2, .int .i64 1, .int .i64 2, .int .i64 0] T)) fun e w' => ∃ b o c, e = .returned (.slice (some ⟨b, o, none⟩) 4 c) ∧ (w'.cell? ⟨b, o, none⟩ = some (.int .i64 3) ∧ w'.cell? ⟨b, o + 1, none⟩ = some (.int .i64 1) ∧ w'.cell? ⟨b, o + 2, none⟩ = some (.int .i64 2)) ∧ Ext w w' := by
  have h := ends_calls s4 (some ⟨w.heap.size, 0, none⟩) 4 (w.alloc (.cells #[.int .i64 2, .int .i64 1, .int .i64 2, .int .i64 0] T)) (by decide) (rd_s4 w T)
  rw [s4_ends] at h
  refine h.mono ?_
  rintro e w' ⟨A, c, rfl, _, hr, hx⟩
  obtain ⟨b, o, rfl, _, hc⟩ := hr (by decide)
  exact ⟨b, o, c, rfl, ⟨hc 0 (by decide), hc 1 (by decide), hc 2 (by decide)⟩, ((Ext.refl w).alloc _).trans hx⟩

set_option maxHeartbeats 2000000 in
set_option maxRecDepth 100000 in
theorem sorts_calls (w : World) : Calls Try.prog 43 #[] w fun e w' => e = .returned (.bool true) ∧ Ext w w' := by
  go_enter Try.func43, Try.ntmps43
  go_wp2_with fail
  refine (s4_calls w _).mono ?_
  rintro e w1 ⟨b, o, c, rfl, ⟨p0, p1, p2⟩, hx⟩
  go_wp2_with fail
  go_ret
  exact ⟨rfl, hx⟩

set_option maxHeartbeats 2000000 in
set_option maxRecDepth 100000 in
theorem sortsK_calls (w : World) : Calls Try.prog 40 #[] w fun e w' => e = .returned (.bool true) ∧ Ext w w' := by
  go_enter Try.func40, Try.ntmps40
  go_wp2_with fail
  refine (s4_calls w _).mono ?_
  rintro e w1 ⟨b, o, c, rfl, ⟨p0, p1, p2⟩, hx⟩
  go_wp2_with fail
  go_ret
  exact ⟨rfl, hx⟩
end Go.Proofs.Ytjfdlibceldanaa
