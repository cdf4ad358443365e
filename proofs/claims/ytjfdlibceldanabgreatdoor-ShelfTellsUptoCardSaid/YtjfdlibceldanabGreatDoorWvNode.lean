/- wave's nodes: the walks. -/
import Derived.Test.YtjfdlibceldanabGreatDoorWvMake
import Derived.Test.YtjfdlibceldanabGreatDoorBitsA
namespace Go.Proofs.YtjfdlibceldanabGreatDoor
open Go.RowKit Wv

/-- How many noughts there are ahead of a place. -/
def nz (l : List Bool) (i : Nat) : Nat := i - cnt (l.take i)
theorem cnt_take_le (l : List Bool) (i : Nat) : cnt (l.take i) ≤ i := by
  have h := cnt_le (l.take i)
  rw [List.length_take] at h; omega
theorem nz_mono (l : List Bool) {i j : Nat} (h : i ≤ j) (hj : j ≤ l.length) : nz l i ≤ nz l j := by
  unfold nz
  have e : l.take j = l.take i ++ (l.drop i).take (j - i) := by rw [← List.take_add]; congr 1; omega
  have h1 := cnt_le ((l.drop i).take (j - i))
  rw [List.length_take, List.length_drop] at h1
  have h2 := cnt_take_le l i
  rw [e, cnt_append]; omega
theorem nz_le (l : List Bool) (i : Nat) : nz l i ≤ i := Nat.sub_le _ _
theorem clamp_in {i n : Nat} (h : i ≤ n) : clamp (i : Int) n = i := by unfold clamp; split <;> split at * <;> omega

theorem ones_m (l : List Bool) (hl : l.length ≤ 17592186044416) (A1 A2 : Option Addr) (c1 c2 : Nat) (i : Nat) (hi : i ≤ l.length) (w : World) (hr : RdB w A1 A2 (bitsOf l)) :
    Calls Tryz.prog 175 #[.agg #[.int .i64 (bitsOf l).N, .slice A1 (bitsOf l).P.length c1, .slice A2 (bitsOf l).A.length c2], .int .i64 i] w fun e w' => e = .returned (.int .i64 (cnt (l.take i) : Nat)) ∧ Ext w w' := by
  have h := ones_calls (bitsOf l) (bitsOf_ok l (by omega)) A1 A2 c1 c2 i ⟨by omega, by omega⟩ w hr
  rw [onesF_nat l (by omega)] at h
  exact h
theorem noughts_m (l : List Bool) (hl : l.length ≤ 17592186044416) (A1 A2 : Option Addr) (c1 c2 : Nat) (i : Nat) (hi : i ≤ l.length) (w : World) (hr : RdB w A1 A2 (bitsOf l)) :
    Calls Tryz.prog 176 #[.agg #[.int .i64 (bitsOf l).N, .slice A1 (bitsOf l).P.length c1, .slice A2 (bitsOf l).A.length c2], .int .i64 i] w fun e w' => e = .returned (.int .i64 (nz l i : Nat)) ∧ Ext w w' := by
  have h := noughts_calls (bitsOf l) (bitsOf_ok l (by omega)) A1 A2 c1 c2 i ⟨by omega, by omega⟩ w hr
  rw [noughtsF_made l (by omega), clamp_in hi] at h
  have h2 := cnt_take_le l i
  rw [Int.toNat_natCast, show (i : Int) - (cnt (l.take i) : Nat) = (nz l i : Nat) from by unfold nz; omega] at h
  exact h

/-- Bits in a block of their own. -/
theorem bx3_grow {w : World} {B : Nat} {x y z : Value} (h : BX3 w B x y z) {w' : World} (hx : Ext w w') : w'.cell? ⟨B, 0, none⟩ = some x ∧ w'.cell? ⟨B, 1, none⟩ = some y ∧ w'.cell? ⟨B, 2, none⟩ = some z := h.ext hx

set_option maxHeartbeats 2000000 in
set_option maxRecDepth 100000 in
theorem nnoughts_calls (l : List Bool) (hl : l.length ≤ 17592186044416) (A1 A2 : Option Addr) (c1 c2 f t : Nat) (hf : f ≤ t) (ht : t ≤ l.length) (w : World) (hr : RdB w A1 A2 (bitsOf l)) :
    Calls Tryz.prog 174 #[.agg #[.int .i64 f, .int .i64 t], .agg #[.int .i64 (bitsOf l).N, .slice A1 (bitsOf l).P.length c1, .slice A2 (bitsOf l).A.length c2]] w fun e w' => e = .returned (.int .i64 (nz l t - nz l f : Nat)) ∧ Ext w w' := by
  obtain ⟨b, hb⟩ : ∃ b, bitsOf l = b := ⟨_, rfl⟩
  have n1 := fun w h => noughts_m l hl A1 A2 c1 c2 t ht w h
  have n2 := fun w h => noughts_m l hl A1 A2 c1 c2 f (by omega) w h
  rw [hb] at n1 n2 hr ⊢
  have hm := nz_mono l hf ht
  have hle := nz_le l t
  obtain ⟨x, hx⟩ : ∃ x, nz l t = x := ⟨_, rfl⟩
  obtain ⟨y, hy⟩ : ∃ y, nz l f = y := ⟨_, rfl⟩
  rw [hx] at n1 hm hle ⊢; rw [hy] at n2 hm ⊢
  obtain ⟨z, hz⟩ : ∃ z, x - y = z := ⟨_, rfl⟩
  rw [hz]
  have hw : IntKind.i64.wrap ((x : Int) - y) = (z : Int) := by rw [IntWalk.i64_in _ (by omega)]; omega
  have N1 := Lib.hid n1; have N2 := Lib.hid n2
  clear hx hy hb n1 n2 hz
  go_enter Tryz.func174, Tryz.ntmps174
  go_wp2_with fail
  generalize hW1 : World.alloc w _ = W1
  generalize hW : World.alloc W1 _ = W
  have x0 : W.cell? ⟨w.heap.size, 0, none⟩ = some (.int .i64 f) := ecell (bk_of hW1 |>.cell 0) (ext_of_alloc hW)
  have x1 : W.cell? ⟨w.heap.size, 1, none⟩ = some (.int .i64 t) := ecell (bk_of hW1 |>.cell 1) (ext_of_alloc hW)
  have hs1 : W1.heap.size = w.heap.size + 1 := by rw [← hW1]; simp
  have by3 := bx3_of hW
  rw [hs1] at by3
  obtain ⟨y0, y1, y2⟩ := by3
  have hxW : Ext w W := (ext_of_alloc hW1).trans (ext_of_alloc hW)
  have hrW := hr.ext hxW
  generalize w.heap.size + 1 = B5 at *
  clear hW hW1 hs1
  have hcur : Ext W W.drew := (Ext.refl W).drew
  go_region_held3 (fun w' => (w'.cell? ⟨w.heap.size, 0, none⟩ = some (.int .i64 f) ∧ w'.cell? ⟨w.heap.size, 1, none⟩ = some (.int .i64 t)) ∧ w'.cell? ⟨B5, 0, none⟩ = some (.int .i64 b.N) ∧ w'.cell? ⟨B5, 1, none⟩ = some (.slice A1 b.P.length c1) ∧ w'.cell? ⟨B5, 2, none⟩ = some (.slice A2 b.A.length c2))
    (first | (exact ⟨⟨ecell x0 hcur, ecell x1 hcur⟩, ecell y0 hcur, ecell y1 hcur, ecell y2 hcur⟩) | go_keep)
    (first
      | (go_at_call_of 176 (Value.int IntKind.i64 (t : Int)); refine (N1.out _ (hrW.ext hcur)).mono ?_; rintro e wn ⟨rfl, hxn⟩; replace hcur := hcur.trans hxn)
      | (go_at_call 176; refine (N2.out _ (hrW.ext hcur)).mono ?_; rintro e wn ⟨rfl, hxn⟩; replace hcur := hcur.trans hxn))
  all_goals
    go_wp2_with fail
    go_ret
    exact ⟨rfl, hxW.trans hcur⟩

theorem far2 {w : World} {b o : Nat} {v : Value} (h : w.cell? ⟨b, o, none⟩ = some v) {B o1 o2 : Nat} {u1 u2 : Value} (hne : b ≠ B) : ((w.setCell ⟨B, o1, none⟩ u1).setCell ⟨B, o2, none⟩ u2).cell? ⟨b, o, none⟩ = some v := by
  obtain ⟨c, e, fr, hb, hc⟩ := Go.Sort.cells_of_cell? h
  have h1 : ((w.setCell ⟨B, o1, none⟩ u1).setCell ⟨B, o2, none⟩ u2).heap[b]? = some (.cells c e fr) := by
    rw [Below.heap_setCell _ _ _ _ hne, Below.heap_setCell _ _ _ _ hne]; exact hb
  simp [World.cell?, h1, hc]
def RetNode (f t i : Nat) (w : World) (e : Ending) (w' : World) : Prop := e = .returned (.tuple #[.agg #[.int .i64 f, .int .i64 t], .int .i64 i]) ∧ Ext w w'
set_option maxHeartbeats 4000000 in
set_option maxRecDepth 100000 in
theorem ndown_one (l : List Bool) (hl : l.length ≤ 17592186044416) (A1 A2 : Option Addr) (c1 c2 f t i : Nat) (hf : f ≤ t) (ht : t ≤ l.length) (hi : f + i ≤ t) (w : World) (hr : RdB w A1 A2 (bitsOf l)) :
    Calls Tryz.prog 159 #[.agg #[.int .i64 f, .int .i64 t], .agg #[.int .i64 (bitsOf l).N, .slice A1 (bitsOf l).P.length c1, .slice A2 (bitsOf l).A.length c2], .bool true, .int .i64 i] w
      (RetNode (f + (nz l t - nz l f)) t (cnt (l.take (f + i)) - cnt (l.take f)) w) := by
  have nn := fun w h => nnoughts_calls l hl A1 A2 c1 c2 f t hf ht w h
  obtain ⟨b, hb⟩ : ∃ b, bitsOf l = b := ⟨_, rfl⟩
  obtain ⟨fi, hfi⟩ : ∃ q, f + i = q := ⟨_, rfl⟩
  have n1 := fun w h => ones_m l hl A1 A2 c1 c2 fi (by omega) w h
  have n2 := fun w h => ones_m l hl A1 A2 c1 c2 f (by omega) w h
  have hm := cnt_take_mono l (show f ≤ fi by omega)
  have hle := cnt_take_le l fi
  have hal := Nat.le_trans (Nat.sub_le (nz l t) (nz l f)) (nz_le l t)
  rw [hb] at nn n1 n2 hr ⊢
  obtain ⟨al, ha⟩ : ∃ x, nz l t - nz l f = x := ⟨_, rfl⟩
  obtain ⟨x, hx⟩ : ∃ x, cnt (l.take fi) = x := ⟨_, rfl⟩
  obtain ⟨y, hy⟩ : ∃ y, cnt (l.take f) = y := ⟨_, rfl⟩
  rw [ha] at nn hal ⊢
  rw [hfi]
  rw [hx] at n1 hm hle ⊢; rw [hy] at n2 hm ⊢
  obtain ⟨z, hz⟩ : ∃ z, x - y = z := ⟨_, rfl⟩
  rw [hz]
  obtain ⟨fa, hfa⟩ : ∃ q, f + al = q := ⟨_, rfl⟩
  rw [hfa]
  have hw : IntKind.i64.wrap ((x : Int) - y) = (z : Int) := by rw [IntWalk.i64_in _ (by omega)]; omega
  have hw2 : IntKind.i64.wrap ((f : Int) + i) = (fi : Int) := by rw [IntWalk.i64_in _ (by omega)]; omega
  have hw3 : IntKind.i64.wrap ((f : Int) + al) = (fa : Int) := by rw [IntWalk.i64_in _ (by omega)]; omega
  have N0 := Lib.hid nn; have N1 := Lib.hid n1; have N2 := Lib.hid n2
  clear hx hy hb n1 n2 hz hfi hfa ha nn
  go_enter Tryz.func159, Tryz.ntmps159
  go_wp2_with fail
  generalize hW1 : World.alloc w _ = W1
  generalize hW2 : World.alloc W1 _ = W2
  generalize hW : World.alloc W2 _ = W
  have hs1 : W1.heap.size = w.heap.size + 1 := by rw [← hW1]; simp
  have hs2 : W2.heap.size = w.heap.size + 1 + 1 := by rw [← hW2]; simp [hs1]
  have hx2 := ext_of_alloc hW2
  have hx3 := ext_of_alloc hW
  have b4 := (bk_of hW1).ext (hx2.trans hx3)
  have b5 := (bk_of hW2).ext hx3
  have b8 := bk_of hW
  rw [hs1] at b5
  rw [hs2] at b8
  have hxW : Ext w W := (ext_of_alloc hW1).trans (hx2.trans hx3)
  have hr0 := hr.ext hxW
  have hB8 : w.heap.size ≤ w.heap.size + 1 + 1 := by omega
  have HNE : Hid (w.heap.size ≠ w.heap.size + 1 + 1 ∧ w.heap.size + 1 ≠ w.heap.size + 1 + 1) := Lib.hid ⟨by omega, by omega⟩
  have H4 := Lib.hid b4; have H5 := Lib.hid b5; have H8 := Lib.hid b8
  clear b4 b5 b8 hW hW1 hW2 hs1 hs2 hx2 hx3
  generalize w.heap.size + 1 + 1 = B8 at *
  generalize w.heap.size + 1 = B5 at *
  refine (N0.out _ hr0).mono ?_
  rintro e Wn ⟨rfl, hxn0⟩
  go_upto_region 3 with fail
  have x0 := (H4.out.ext hxn0).cell 0
  have x1 := (H4.out.ext hxn0).cell 1
  obtain ⟨y0, y1, y2⟩ := bx3_bk (H5.out.ext hxn0)
  have z0 := (H8.out.ext hxn0).cell 0
  have z1 := (H8.out.ext hxn0).cell 1
  have g0 := (H8.out.ext hxn0).frozen 0
  have g1 := (H8.out.ext hxn0).frozen 1
  have hrW := hr0.ext hxn0
  have hxW2 := hxW.trans hxn0
  have H82 := Lib.hid (H8.out.ext hxn0)
  clear H4 H5 H8
  have hcur : Ext Wn Wn.drew := (Ext.refl Wn).drew
  have n4 : w.heap.size ≠ B8 := HNE.out.1
  have n5 : B5 ≠ B8 := HNE.out.2
  go_region_held3 (fun w' => (w'.cell? ⟨w.heap.size, 0, none⟩ = some (.int .i64 f) ∧ w'.cell? ⟨w.heap.size, 1, none⟩ = some (.int .i64 t)) ∧ w'.cell? ⟨B5, 0, none⟩ = some (.int .i64 b.N) ∧ w'.cell? ⟨B5, 1, none⟩ = some (.slice A1 b.P.length c1) ∧ w'.cell? ⟨B5, 2, none⟩ = some (.slice A2 b.A.length c2))
    (first | (exact ⟨⟨ecell x0 hcur, ecell x1 hcur⟩, ecell y0 hcur, ecell y1 hcur, ecell y2 hcur⟩) | (exact ⟨⟨far2 (ecell x0 hcur) n4, far2 (ecell x1 hcur) n4⟩, far2 (ecell y0 hcur) n5, far2 (ecell y1 hcur) n5, far2 (ecell y2 hcur) n5⟩) | go_keep)
    (first
      | (go_at_call_of 175 (Value.int IntKind.i64 (fi : Int)); refine (N1.out _ (hrW.ext hcur)).mono ?_; rintro e wn ⟨rfl, hxn⟩; replace hcur := hcur.trans hxn; have z0' := (H82.out.ext hcur).cell 0; have z1' := (H82.out.ext hcur).cell 1; have g0' := (H82.out.ext hcur).frozen 0; have g1' := (H82.out.ext hcur).frozen 1)
      | (go_at_call 175; refine (N2.out _ (hrW.ext hcur)).mono ?_; rintro e wn ⟨rfl, hxn⟩; replace hcur := hcur.trans hxn; have z0' := (H82.out.ext hcur).cell 0; have z1' := (H82.out.ext hcur).cell 1; have g0' := (H82.out.ext hcur).frozen 0; have g1' := (H82.out.ext hcur).frozen 1))
  have bF := ((H82.out.ext hcur).set 0 (.int .i64 fa)).set 1 (.int .i64 t)
  have hxF : Ext w ((wn.setCell ⟨B8, 0, none⟩ (.int .i64 fa)).setCell ⟨B8, 1, none⟩ (.int .i64 t)) := ((hxW2.trans hcur).setCell (p := ⟨B8, 0, none⟩) hB8 _).setCell (p := ⟨B8, 1, none⟩) hB8 _
  have BF := Lib.hid bF; have HXF := Lib.hid hxF
  clear bF hxF
  go_wp2_with fail
  have bF := BF.out
  have hxF := HXF.out
  clear z0' z1' g0' g1'
  generalize (wn.setCell _ _).setCell _ _ = wF at *
  have u0 := bF.cell 0
  have u1 := bF.cell 1
  exact bodyPost_ret (v := .tuple #[.agg #[.int .i64 fa, .int .i64 t], .int .i64 z]) (by simp [results, Tryz.results159, go_sem, u0, u1]) rfl ⟨rfl, hxF⟩

set_option maxHeartbeats 4000000 in
set_option maxRecDepth 100000 in
theorem ndown_zero (l : List Bool) (hl : l.length ≤ 17592186044416) (A1 A2 : Option Addr) (c1 c2 f t i : Nat) (hf : f ≤ t) (ht : t ≤ l.length) (hi : f + i ≤ t) (w : World) (hr : RdB w A1 A2 (bitsOf l)) :
    Calls Tryz.prog 159 #[.agg #[.int .i64 f, .int .i64 t], .agg #[.int .i64 (bitsOf l).N, .slice A1 (bitsOf l).P.length c1, .slice A2 (bitsOf l).A.length c2],   .bool false, .int .i64 i] w
      (RetNode f (f + (nz l t - nz l f)) (nz l (f + i) - nz l f) w) := by
  have nn := fun w h => nnoughts_calls l hl A1 A2 c1 c2 f t hf ht w h
  obtain ⟨b, hb⟩ : ∃ b, bitsOf l = b := ⟨_, rfl⟩
  obtain ⟨fi, hfi⟩ : ∃ q, f + i = q := ⟨_, rfl⟩
  have n1 := fun w h => noughts_m l hl A1 A2 c1 c2 fi (by omega) w h
  have n2 := fun w h => noughts_m l hl A1 A2 c1 c2 f (by omega) w h
  have hm := nz_mono l (show f ≤ fi by omega) (by omega)
  have hle := nz_le l fi
  have hal := Nat.le_trans (Nat.sub_le (nz l t) (nz l f)) (nz_le l t)
  rw [hb] at nn n1 n2 hr ⊢
  obtain ⟨al, ha⟩ : ∃ x, nz l t - nz l f = x := ⟨_, rfl⟩
  obtain ⟨x, hx⟩ : ∃ x, nz l fi = x := ⟨_, rfl⟩
  obtain ⟨y, hy⟩ : ∃ y, nz l f = y := ⟨_, rfl⟩
  rw [ha] at nn hal ⊢
  rw [hfi]
  rw [hx] at n1 hm hle ⊢; rw [hy] at n2 hm ⊢
  obtain ⟨z, hz⟩ : ∃ z, x - y = z := ⟨_, rfl⟩
  rw [hz]
  obtain ⟨fa, hfa⟩ : ∃ q, f + al = q := ⟨_, rfl⟩
  rw [hfa]
  have hw : IntKind.i64.wrap ((x : Int) - y) = (z : Int) := by rw [IntWalk.i64_in _ (by omega)]; omega
  have hw2 : IntKind.i64.wrap ((f : Int) + i) = (fi : Int) := by rw [IntWalk.i64_in _ (by omega)]; omega
  have hw3 : IntKind.i64.wrap ((f : Int) + al) = (fa : Int) := by rw [IntWalk.i64_in _ (by omega)]; omega
  have N0 := Lib.hid nn; have N1 := Lib.hid n1; have N2 := Lib.hid n2
  clear hx hy hb n1 n2 hz hfi hfa ha nn
  go_enter Tryz.func159, Tryz.ntmps159
  go_wp2_with fail
  generalize hW1 : World.alloc w _ = W1
  generalize hW2 : World.alloc W1 _ = W2
  generalize hW : World.alloc W2 _ = W
  have hs1 : W1.heap.size = w.heap.size + 1 := by rw [← hW1]; simp
  have hs2 : W2.heap.size = w.heap.size + 1 + 1 := by rw [← hW2]; simp [hs1]
  have hx2 := ext_of_alloc hW2
  have hx3 := ext_of_alloc hW
  have b4 := (bk_of hW1).ext (hx2.trans hx3)
  have b5 := (bk_of hW2).ext hx3
  have b8 := bk_of hW
  rw [hs1] at b5
  rw [hs2] at b8
  have hxW : Ext w W := (ext_of_alloc hW1).trans (hx2.trans hx3)
  have hr0 := hr.ext hxW
  have hB8 : w.heap.size ≤ w.heap.size + 1 + 1 := by omega
  have HNE : Hid (w.heap.size ≠ w.heap.size + 1 + 1 ∧ w.heap.size + 1 ≠ w.heap.size + 1 + 1) := Lib.hid ⟨by omega, by omega⟩
  have H4 := Lib.hid b4; have H5 := Lib.hid b5; have H8 := Lib.hid b8
  clear b4 b5 b8 hW hW1 hW2 hs1 hs2 hx2 hx3
  generalize w.heap.size + 1 + 1 = B8 at *
  generalize w.heap.size + 1 = B5 at *
  refine (N0.out _ hr0).mono ?_
  rintro e Wn ⟨rfl, hxn0⟩
  go_upto_region 4 with fail
  have x0 := (H4.out.ext hxn0).cell 0
  have x1 := (H4.out.ext hxn0).cell 1
  obtain ⟨y0, y1, y2⟩ := bx3_bk (H5.out.ext hxn0)
  have z0 := (H8.out.ext hxn0).cell 0
  have z1 := (H8.out.ext hxn0).cell 1
  have g0 := (H8.out.ext hxn0).frozen 0
  have g1 := (H8.out.ext hxn0).frozen 1
  have hrW := hr0.ext hxn0
  have hxW2 := hxW.trans hxn0
  have H82 := Lib.hid (H8.out.ext hxn0)
  clear H4 H5 H8
  have hcur : Ext Wn Wn.drew := (Ext.refl Wn).drew
  have n4 : w.heap.size ≠ B8 := HNE.out.1
  have n5 : B5 ≠ B8 := HNE.out.2
  go_region_held3 (fun w' => (w'.cell? ⟨w.heap.size, 0, none⟩ = some (.int .i64 f) ∧ w'.cell? ⟨w.heap.size, 1, none⟩ = some (.int .i64 t)) ∧ w'.cell? ⟨B5, 0, none⟩ = some (.int .i64 b.N) ∧ w'.cell? ⟨B5, 1, none⟩ = some (.slice A1 b.P.length c1) ∧ w'.cell? ⟨B5, 2, none⟩ = some (.slice A2 b.A.length c2))
    (first | (exact ⟨⟨ecell x0 hcur, ecell x1 hcur⟩, ecell y0 hcur, ecell y1 hcur, ecell y2 hcur⟩) | (exact ⟨⟨far2 (ecell x0 hcur) n4, far2 (ecell x1 hcur) n4⟩, far2 (ecell y0 hcur) n5, far2 (ecell y1 hcur) n5, far2 (ecell y2 hcur) n5⟩) | go_keep)
    (first
      | (go_at_call_of 176 (Value.int IntKind.i64 (fi : Int)); refine (N1.out _ (hrW.ext hcur)).mono ?_; rintro e wn ⟨rfl, hxn⟩; replace hcur := hcur.trans hxn; have z0' := (H82.out.ext hcur).cell 0; have z1' := (H82.out.ext hcur).cell 1; have g0' := (H82.out.ext hcur).frozen 0; have g1' := (H82.out.ext hcur).frozen 1)
      | (go_at_call 176; refine (N2.out _ (hrW.ext hcur)).mono ?_; rintro e wn ⟨rfl, hxn⟩; replace hcur := hcur.trans hxn; have z0' := (H82.out.ext hcur).cell 0; have z1' := (H82.out.ext hcur).cell 1; have g0' := (H82.out.ext hcur).frozen 0; have g1' := (H82.out.ext hcur).frozen 1))
  have bF := ((H82.out.ext hcur).set 0 (.int .i64 f)).set 1 (.int .i64 fa)
  have hxF : Ext w ((wn.setCell ⟨B8, 0, none⟩ (.int .i64 f)).setCell ⟨B8, 1, none⟩ (.int .i64 fa)) := ((hxW2.trans hcur).setCell (p := ⟨B8, 0, none⟩) hB8 _).setCell (p := ⟨B8, 1, none⟩) hB8 _
  have BF := Lib.hid bF; have HXF := Lib.hid hxF
  clear bF hxF
  go_wp2_with fail
  have bF := BF.out
  have hxF := HXF.out
  clear z0' z1' g0' g1'
  generalize (wn.setCell _ _).setCell _ _ = wF at *
  have u0 := bF.cell 0
  have u1 := bF.cell 1
  exact bodyPost_ret (v := .tuple #[.agg #[.int .i64 f, .int .i64 fa], .int .i64 z]) (by simp [results, Tryz.results159, go_sem, u0, u1]) rfl ⟨rfl, hxF⟩

theorem ndown_calls (l : List Bool) (hl : l.length ≤ 17592186044416) (A1 A2 : Option Addr) (c1 c2 f t i : Nat) (one : Bool) (hf : f ≤ t) (ht : t ≤ l.length) (hi : f + i ≤ t) (w : World) (hr : RdB w A1 A2 (bitsOf l)) :
    Calls Tryz.prog 159 #[.agg #[.int .i64 f, .int .i64 t], .agg #[.int .i64 (bitsOf l).N, .slice A1 (bitsOf l).P.length c1, .slice A2 (bitsOf l).A.length c2], .bool one, .int .i64 i] w
      (RetNode (if one then f + (nz l t - nz l f) else f) (if one then t else f + (nz l t - nz l f)) (if one then cnt (l.take (f + i)) - cnt (l.take f) else nz l (f + i) - nz l f) w) := by
  cases one with
  | true => exact ndown_one l hl A1 A2 c1 c2 f t i hf ht hi w hr
  | false => exact ndown_zero l hl A1 A2 c1 c2 f t i hf ht hi w hr
end Go.Proofs.YtjfdlibceldanabGreatDoor
