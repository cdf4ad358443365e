/- sort.Ends of nothing; and of every list. -/
import Derived.Test.YtjfdlibceldanaaSortEndsW
namespace Go.Proofs.Ytjfdlibceldanaa
open Go.RowKit Go.Sort En

set_option maxHeartbeats 4000000 in
set_option maxRecDepth 100000 in
theorem ends_nil (A : Option Addr) (c : Nat) (w : World) : Calls Try.prog 41 #[.slice A 0 c] w (RetInts [] w) := by
  obtain ⟨ii, hi, hj0, hj1, hj2⟩ := info_parts info_int
  have hclone : ∀ w, Calls Try.prog 66 #[.slice A 0 c] w fun e w' => ∃ A' c', e = .returned (.slice A' 0 c') ∧ Ext w w' := fun w => by
    cases A with
    | none =>
      refine (Try.slices_Clone_int_nil 0 c w).mono ?_
      rintro e w' ⟨he, rfl⟩
      exact ⟨none, 0, he, Ext.refl _⟩
    | some a =>
      refine (Try.slices_Clone_int_zero a c w).mono ?_
      rintro e w' ⟨v', he, ho, _, hx⟩
      obtain ⟨A', c', rfl⟩ := own_form ho
      exact ⟨A', c', he, hx⟩
  have HC := Lib.hid hclone
  clear hclone
  go_enter Try.func41, Try.ntmps41
  go_wp2_with (at_make; refine wpList_make_full _ rfl _ _ 24 rfl w.heap.size 3 ii (.int .i64 0) 1 Try.underlying24 hi hj0 hj1 _ _ _ _ 0 rfl rfl rfl rfl ?c1 ?c2 ?c3 ?_)
  case c1 => rw [hj2]; omega
  case c2 => unfold maxLen; omega
  case c3 => simp
  intro w1 hown1 hgrow1
  have bl1 := (bk_of (w := w) rfl).ext (ext_of_grown hgrow1)
  have hx1 : Ext w w1 := ((Ext.refl w).alloc _).trans (ext_of_grown hgrow1)
  have hx0' : w1.cell? ⟨w.heap.size, 0, none⟩ = some (.slice A 0 c) := bl1.cell 0
  clear hown1 hgrow1
  go_wp2_with fail
  refine (HC.out w1).mono ?_
  rintro e w2 ⟨A', c', rfl, hx2⟩
  go_wp2_with fail
  generalize hW : World.alloc w2 _ = W
  have br := Lib.hid (bk_of hW)
  have bl := Lib.hid (bl1.ext (hx2.trans (ext_of_alloc hW)))
  have hx3 := (hx1.trans hx2).trans (ext_of_alloc hW)
  have hRB : w.heap.size < w2.heap.size := Nat.lt_of_lt_of_le bl1.lt hx2.size
  generalize w2.heap.size = RB at *
  clear hW hx0' bl1 hx1 hx2
  go_loopw [19] (fun vi wr => vi = .int .i64 0 ∧ wr = W) (fun _ _ => 0)
  case atStart => exact ⟨rfl, rfl⟩
  case round => as_aux_lemma =>
    obtain ⟨rfl, rfl⟩ := hrel
    go_wp2_with fail
    generalize hWF : World.alloc wr _ = WF
    have hxF := ext_of_alloc hWF
    have BR := Lib.hid (br.out.ext hxF); have BL := Lib.hid (bl.out.ext hxF); have BF := Lib.hid (bk_of hWF)
    have hx4 := hx3.trans hxF
    clear hWF hxF br bl hx3
    have hlt : RB < WF.heap.size := BR.out.lt
    generalize wr.heap.size = FB at *
    go_loopw [6] (fun v6 wr => v6 = .pointer (some ⟨FB, 0, none⟩) ∧ wr = WF) (fun _ _ => 0)
    case atStart => exact ⟨rfl, rfl⟩
    case round => as_aux_lemma =>
      obtain ⟨rfl, rfl⟩ := hrel
      go_wp2_with fail
      refine (sort0_calls _ _ _ wr).mono ?_
      rintro e w3 ⟨rfl, rfl⟩
      have y0 : w3.cell? ⟨w.heap.size, 0, none⟩ = some (.slice A 0 c) := BL.out.cell 0
      have hb3 : w3.heap.size ≤ w3.heap.size := Nat.le_refl _
      go_wp2_with (at_make; refine wpList_make_full _ rfl _ _ 24 rfl w3.heap.size 3 ii (.int .i64 0) 1 Try.underlying24 hi hj0 hj1 _ _ _ _ 0 rfl rfl rfl rfl ?c1 ?c2 ?c3 ?_)
      case c1 => rw [hj2]; omega
      case c2 => unfold maxLen; omega
      case c3 => exact hb3
      intro w4 hown4 hgrow4
      have hx5 := ext_of_grown hgrow4
      have BR4 := Lib.hid (BR.out.ext hx5); have BL4 := Lib.hid (BL.out.ext hx5)
      have hx6 := hx4.trans hx5
      clear hown4 hgrow4 y0
      go_wp2_with fail
      obtain ⟨wo, rfl⟩ : ∃ wo, wo = w4 := ⟨_, rfl⟩
      go_loopw [9, 38] (fun vn vi wr => vn = .int .i64 0 ∧ vi = .int .i64 0 ∧ wr = wo) (fun _ _ _ => 0)
      case atStart => exact ⟨rfl, rfl, rfl⟩
      case round => as_aux_lemma =>
        obtain ⟨rfl, rfl, rfl⟩ := hrel
        have f1 := BR4.out.cell 0
        have f2 := BR4.out.frozen 0
        go_upto_region 22 with fail
        have hne : w.heap.size ≠ RB := by omega
        have y1 : (wr.setCell ⟨RB, 0, none⟩ (.slice (some ⟨w3.heap.size, 0, none⟩) 0 0)).cell? ⟨w.heap.size, 0, none⟩ = some (.slice A 0 c) := ((BL4.out.far (p := ⟨RB, 0, none⟩) hne _).cell 0)
        have hx7 := hx6.setCell (p := ⟨RB, 0, none⟩) (Nat.le_of_lt hRB) (.slice (some ⟨w3.heap.size, 0, none⟩) 0 0)
        go_wp2_with fail
        go_ret
        exact ⟨some ⟨w.heap.size + 1, 0, none⟩, 0, rfl, (fun h => by cases h), Rd.zero, hx7⟩

theorem ends_calls (l : List Int) (A : Option Addr) (c : Nat) (w : World) (hl : l.length ≤ 1048576) (hr : Rd w A l.length (fun k => .int .i64 (nth l k))) :
    Calls Try.prog 41 #[.slice A l.length c] w (RetInts (endsF l) w) := by
  cases l with
  | nil =>
    rw [← ends_eq (ord_one (l := []) rfl)]
    exact ends_nil A c w
  | cons a t => exact ends_pos (a :: t) A c w (by simp) hl hr
end Go.Proofs.Ytjfdlibceldanaa
