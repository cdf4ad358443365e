/- waves, of both packages: the walks. -/
import Derived.Test.YtjfdlibceldanabWvSame
import Derived.Test.YtjfdlibceldanabWvOf
namespace Go.Proofs.Ytjfdlibceldanab
open Go.RowKit Wv

def l4 : List Nat := [5, 2, 5, 0]
structure L4 (X : PW) : Prop where
  at2 : ∀ A c w, RdL w A X.L → Calls Try.prog 38 #[.agg #[.int .i64 X.N, .int .i64 X.Deep, .slice A X.L.length c], .int .i64 2] w fun e w' => e = .returned (.int .i64 5) ∧ Ext w w'
  count : ∀ A c w, RdL w A X.L → Calls Try.prog 63 #[.agg #[.int .i64 X.N, .int .i64 X.Deep, .slice A X.L.length c], .int .i64 5, .int .i64 3] w fun e w' => e = .returned (.int .i64 2) ∧ Ext w w'
  kinds : ∀ A c w, RdL w A X.L → Calls Try.prog 39 #[.agg #[.int .i64 X.N, .int .i64 X.Deep, .slice A X.L.length c], .int .i64 0, .int .i64 4] w fun e w' => ∃ B b, e = .returned (.slice B 3 b) ∧ Ext w w'
theorem l4_ok : L4 (waveOf l4 3) where
  at2 A c w hr := by
    have h := wat_yes l4 3 (by decide) (by decide) (by decide) A c 2 (by decide) w hr
    exact h
  count A c w hr := by
    have h := wcount_yes l4 3 (by decide) (by decide) (by decide) A c 5 3 (by decide) w hr
    rw [show (l4.take (cl 3 l4.length)).count 5 = 2 from by decide] at h
    exact h
  kinds A c w hr := by
    have h := wkinds_calls l4 3 (by decide) (by decide) (by decide) A c 0 4 w hr
    refine h.mono ?_
    rintro e w' ⟨B, b, rfl, _, _, hx⟩
    rw [show (kindsT 3 l4 (cl 0 l4.length) (cl 4 l4.length) 3 0).length = 3 from by decide]
    exact ⟨B, b, rfl, hx⟩
theorem rd_l4 (w : World) (T : TypeId) : Rd (w.alloc (.cells #[.int .i64 5, .int .i64 2, .int .i64 5, .int .i64 0] T)) (some ⟨w.heap.size, 0, none⟩) l4.length (fun k => .int .i64 (nth l4 k : Nat)) := fun _ => by
  refine ⟨w.heap.size, 0, rfl, by simp, fun k hk => ?_⟩
  have hk4 : k < 4 := hk
  rw [Nat.zero_add, World.cell?_alloc_new]
  rcases (show k = 0 ∨ k = 1 ∨ k = 2 ∨ k = 3 by omega) with rfl | rfl | rfl | rfl <;> rfl

end Go.Proofs.Ytjfdlibceldanab
