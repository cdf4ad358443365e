/- A row of its own, sorted in place by slices.SortStableFunc; the empty one too. -/
import Derived.Test.YtjfdlibceldanabGreatDoorWvRow
namespace Go.Proofs.YtjfdlibceldanabGreatDoor
open Go.RowKit Go.Sort Stab Wv

set_option maxHeartbeats 1000000 in
set_option maxRecDepth 100000 in
theorem insNil_calls (f : Value) (w : World) :
    Calls Tryz.prog 143 #[.slice none 0 0, .int .i64 0, .int .i64 0, f] w fun e w' => e = .returned (.tuple #[]) ∧ w' = w := by
  go_enter Tryz.func143, Tryz.ntmps143
  go_wp2_with fail
  go_loopw [8] (fun v wr => v = .int .i64 1 ∧ wr = w) (fun _ _ => 0)
  case atStart => exact ⟨rfl, rfl⟩
  case round =>
    obtain ⟨rfl, rfl⟩ := hrel
    go_wp2_with fail
    go_end0
    exact ⟨rfl, rfl⟩
set_option maxHeartbeats 1000000 in
set_option maxRecDepth 100000 in
theorem stableNil_calls (f : Value) (w : World) :
    Calls Tryz.prog 118 #[.slice none 0 0, .int .i64 0, f] w fun e w' => e = .returned (.tuple #[]) ∧ w' = w := by
  go_enter Tryz.func118, Tryz.ntmps118
  go_wp2_with fail
  go_loopw [7, 8] (fun v v' wr => v = .int .i64 0 ∧ v' = .int .i64 20 ∧ wr = w) (fun _ _ _ => 0)
  case atStart => exact ⟨rfl, rfl, rfl⟩
  case round =>
    obtain ⟨rfl, rfl, rfl⟩ := hrel
    go_wp2_with fail
    refine (insNil_calls f _).mono ?_
    rintro e w' ⟨rfl, rfl⟩
    go_wp2_with fail
    obtain ⟨wo, rfl⟩ : ∃ wo, wo = w' := ⟨_, rfl⟩
    go_loopw [6] (fun v wr => v = .int .i64 20 ∧ wr = wo) (fun _ _ => 0)
    case atStart => exact ⟨rfl, rfl⟩
    case round =>
      obtain ⟨rfl, rfl⟩ := hrel
      go_wp2_with fail
      go_end0
      exact ⟨rfl, rfl⟩
theorem sortNil_calls (f : Value) (w : World) :
    Calls Tryz.prog 85 #[.slice none 0 0, f] w fun e w' => e = .returned (.tuple #[]) ∧ w' = w := by
  go_enter Tryz.func85, Tryz.ntmps85
  go_wp2_with fail
  refine (stableNil_calls f _).mono ?_
  rintro e w' ⟨rfl, rfl⟩
  go_wp2_with fail
  go_end0
  exact ⟨rfl, rfl⟩
theorem grownBy_refl (w : World) (r : Option Nat) : w.grownBy w r := ⟨rfl, rfl, rfl, Nat.le_refl _, fun _ _ _ => rfl⟩
/-- The row, sorted. -/
theorem sortRow_calls (s : Nat) (hs : s < 16) (S base : Nat) (e : TypeId) (v : Value) (ds : List V) (w : World) (h : w.ownsRow base e 1 v ds.length (ds.map encV)) (hS : w.cell? ⟨S, 0, none⟩ = some (.int .u64 s)) (hne : v.ownBlock ≠ some S) (hsz : ds.length < 1152921504606846976) :
    Calls Tryz.prog 85 #[v, .func (.func 86) #[] #[.pointer (some ⟨S, 0, none⟩)]] w fun e' w' =>
      e' = .returned (.tuple #[]) ∧ w'.ownsRow base e 1 v ds.length ((stableS (ltk (keyV s)) ds.toArray).toList.map encV) ∧ w.grownBy w' v.ownBlock := by
  have hlen : (stableS (ltk (keyV s)) ds.toArray).size = ds.length := by
    have := (stableS_law (key := keyV s) ds.toArray).1.size
    simpa using this
  rcases h.2 with ⟨rfl, h0⟩ | ⟨g, cap, cur, rfl, hb, hh, r⟩
  · refine (sortNil_calls _ w).mono fun e' w' ⟨he, hw⟩ => ⟨he, ?_, by rw [hw]; exact grownBy_refl _ _⟩
    subst hw
    have e1 : (stableS (ltk (keyV s)) ds.toArray).toList = [] := List.eq_nil_of_length_eq_zero (by simpa using hlen.trans h0)
    have e2 : ds = [] := List.eq_nil_of_length_eq_zero h0
    subst e2
    rw [e1]; exact own_nil _ _ _ _
  · have hne' : S ≠ g := fun q => hne (by simp [Value.ownBlock, q])
    have hc := sortStable_calls s hs S cap g 0 hne' ds.toArray w (own_holds h) hS (by simpa using hsz)
    simp only [List.size_toArray] at hc
    refine hc.mono fun e' w' ⟨he, hR⟩ => ⟨he, ?_⟩
    exact own_sorted h hlen hR
end Go.Proofs.YtjfdlibceldanabGreatDoor
