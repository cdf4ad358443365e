/- CombText: the law's walk. -/
import Derived.Test.YtjfdlibceldanabCombKeep
namespace Go.Proofs.Ytjfdlibceldanab
open Go.ChangeShapes Go.WideShapes Go.ChangeAt Go.RowKit En Wv Gu

set_option maxHeartbeats 4000000 in
set_option maxRecDepth 100000 in
theorem ctl_no (l : List Int) (A : Option Addr) (c : Nat) (w : World) (hl : l.length ≤ 17592186044416) (hcap : l.length ≤ c) (hr : Rd w A l.length (fun k => .int .i64 (nth l k))) (h : ¬ combOk l) :
    Calls Try.prog 5 #[.slice A l.length c] w fun e w' => e = .returned (.bool true) ∧ Ext w w' := by
  have CM := Lib.hid (cmake_no l A c w hl hcap hr h)
  clear h hr
  go_enter Try.func5, Try.ntmps5
  go_wp2_with fail
  with_reducible refine CM.out.mono ?_
  rintro e w1 ⟨rfl, hx1⟩
  go_wp2_with fail
  refine (combs_calls _).mono ?_
  rintro e w2 ⟨rfl, hx2⟩
  go_wp2_with fail
  go_ret
  exact ⟨rfl, (hx1.alloc _).trans hx2⟩
set_option maxHeartbeats 4000000 in
set_option maxRecDepth 100000 in
theorem ctl_long (l : List Int) (A : Option Addr) (c : Nat) (w : World) (hcap : l.length ≤ c) (hr : Rd w A l.length (fun k => .int .i64 (nth l k))) (h : combOk l) (h2 : 150 < l.length) :
    Calls Try.prog 5 #[.slice A l.length c] w fun e w' => e = .returned (.bool true) ∧ Ext w w' := by
  have CM := Lib.hid (cmake_yes l A c w hcap hr h)
  have g' : decide ((150 : Int) < l.length) = true := by simp; omega
  clear h hr
  go_enter Try.func5, Try.ntmps5
  go_wp2_with fail
  with_reducible refine CM.out.mono ?_
  rintro e w1 ⟨E, B, D, ec, bc, dc, rfl, _, _, hx1⟩
  go_wp2_with fail
  refine (combs_calls _).mono ?_
  rintro e w2 ⟨rfl, hx2⟩
  go_wp2_with fail
  go_ret
  exact ⟨rfl, (hx1.alloc _).trans hx2⟩
set_option maxHeartbeats 4000000 in
set_option maxRecDepth 100000 in
theorem ctl_yes (l : List Int) (A : Option Addr) (c : Nat) (w : World) (hcap : l.length ≤ c) (hr : Rd w A l.length (fun k => .int .i64 (nth l k))) (h : combOk l) (h2 : l.length ≤ 150) :
    Calls Try.prog 5 #[.slice A l.length c] w fun e w' => e = .returned (.bool true) ∧ Ext w w' := by
  have CM := Lib.hid (cmake_yes l A c w hcap hr h)
  have CT := Lib.hid (fun E B D ec bc dc w hc => ctext_calls l h E B D ec bc dc w hc)
  have HR := Lib.hid hr
  have g' : decide ((150 : Int) < l.length) = false := by simp; omega
  obtain ⟨m2, hm⟩ : ∃ m2, (mostI l).toNat + 2 = m2 := ⟨_, rfl⟩
  have CM' : Hid (Calls Try.prog 8 #[.slice A l.length c] w fun e w' => ∃ (E B D : Option Addr) (ec bc dc : Nat), e = .returned (.tuple #[.agg #[.slice E l.length ec, .int .i64 l.length, .int .i64 10, .slice B 10 bc, .slice D m2 dc], .bool true]) ∧ CombIn w' l E B D ∧ Ext w w') := by
    show Calls _ _ _ _ _
    refine CM.out.mono ?_
    rintro e w1 ⟨E, B, D, ec, bc, dc, rfl, _, h1, h2⟩
    exact ⟨E, B, D, ec, bc, dc, by rw [hm], h1, h2⟩
  have CT' : Hid (∀ E B D ec bc dc w, CombIn w l E B D → Calls Try.prog 15 #[.agg #[.slice E l.length ec, .int .i64 l.length, .int .i64 10, .slice B 10 bc, .slice D m2 dc]] w fun e w' => ∃ P p, e = .returned (.slice P l.length p) ∧ Rd w' P l.length (fun k => .int .i64 (nth l k)) ∧ Ext w w') := fun E B D ec bc dc w hc => by
    have := CT.out E B D ec bc dc w hc
    rw [hm] at this
    exact this
  clear h hr CM CT hm
  obtain ⟨n, hn⟩ : ∃ n, l.length = n := ⟨_, rfl⟩
  rw [hn] at CM' CT' HR g' hcap h2 ⊢
  go_enter Try.func5, Try.ntmps5
  go_wp2_with fail
  with_reducible refine CM'.out.mono ?_
  rintro e w1 ⟨E, B, D, ec, bc, dc, rfl, hc1, hx1⟩
  go_wp2_with fail
  generalize hW : World.alloc w1 _ = W
  have bx := bk_of hW
  have hxW := hx1.trans (ext_of_alloc hW)
  have hcW := hc1.ext (ext_of_alloc hW)
  generalize w1.heap.size = g at *
  clear hW hc1 hx1 CM'
  refine (combs_calls _).mono ?_
  rintro e w2 ⟨rfl, hx2⟩
  have bx2 := bx.ext hx2
  have z0 := bx2.cell 0
  have z1 := bx2.cell 1
  have z2 := bx2.cell 2
  have z3 := bx2.cell 3
  have z4 := bx2.cell 4
  go_wp2_with fail
  with_reducible refine (CT'.out E B D ec bc dc w2 (hcW.ext hx2)).mono ?_
  rintro e w3 ⟨P, p, rfl, hP, hx3⟩
  have hxx := (hxW.trans hx2).trans hx3
  have HP := Lib.hid hP
  clear z0 z1 z2 z3 z4 bx2 bx hP hcW CT'
  go_wp2_with fail
  go_loopw [33] (fun vi wr => ∃ i : Nat, vi = .int .i64 i ∧ i ≤ n ∧ Ext w3 wr) (fun vi _ => n - (intOf vi).toNat)
  case atStart => exact ⟨0, rfl, Nat.zero_le _, Ext.refl _⟩
  case round => as_aux_lemma =>
    obtain ⟨i, rfl, hi', hxr⟩ := hrel
    by_cases g1 : i < n
    · obtain ⟨b, o, rfl, hb, hc⟩ := (HP.out.ext hxr) (by omega)
      obtain ⟨b2, o2, rfl, hb2, hc2⟩ := (HR.out.ext (hxx.trans hxr)) (by omega)
      have p1 := hc i g1
      have p2 := hc2 i g1
      dsimp only at p1 p2
      clear hc hc2
      go_wp2_with fail
      go_quiet (fail)
      go_wp2_with fail
      refine ⟨⟨i + 1, by go_num, by omega, hxr.drewN _⟩, by simp [intOf]; omega⟩
    · obtain rfl : i = n := by omega
      go_wp2_with fail
      go_ret
      exact ⟨rfl, hxx.trans hxr⟩

theorem combText_walk (l : List Int) (A : Option Addr) (c : Nat) (w : World) (hl : l.length ≤ 17592186044416) (hcap : l.length ≤ c) (hr : Rd w A l.length (fun k => .int .i64 (nth l k))) :
    Calls Try.prog 5 #[.slice A l.length c] w fun e w' => e = .returned (.bool true) ∧ Ext w w' := by
  by_cases h : combOk l
  · by_cases h2 : 150 < l.length
    · exact ctl_long l A c w hcap hr h h2
    · exact ctl_yes l A c w hcap hr h (by omega)
  · exact ctl_no l A c w hl hcap hr h

section
variable {H : Type} {enc : TypeId × Value → H} {W : World}
theorem cap_ints {A : Option Addr} {n c : Nat} {d : DataW H} {p : List MemPlace} (h : DataW.Trod enc Try.prog W 0 (fun _ => true) true 22 (.slice A n c) d p) : n ≤ c := by
  obtain ⟨fuel, hf⟩ := h
  rcases Go.Deep.open_slice1 Try.underlying22 (by kernel_rfl) (by simpa [Value.cells] using hf) with ⟨hcs, _⟩ | ⟨a, len, cap, m, n', V, D, Pl, hcs, _, hl, _⟩
  · simp at hcs; omega
  · simp at hcs; omega
set_option maxRecDepth 100000 in
theorem combText_calls {r : Reach} {base : Nat} {v0 : Value} {d0 : DataW H} {p0 : List MemPlace}
    (hsz : (DataW.weightsEach Try.prog [22] [d0]).all (· ≤ reachBytes) = true)
    (hv0 : Value.okWide Try.prog W r base 22 v0) (h0 : DataW.Trod enc Try.prog W 0 (fun _ => true) true 22 v0 d0 p0) :
    Calls Try.prog 5 #[v0] W fun e w' => e = .returned (.bool true) ∧ Ext W w' := by
  simp only [DataW.weightsEach, List.all_append, Bool.and_eq_true] at hsz
  obtain ⟨A, c, l, rfl, hr, _, hl, hA⟩ := open_ints hv0 h0 hsz.1
  exact combText_walk l A c W hl (cap_ints h0) hr
end
end Go.Proofs.Ytjfdlibceldanab
