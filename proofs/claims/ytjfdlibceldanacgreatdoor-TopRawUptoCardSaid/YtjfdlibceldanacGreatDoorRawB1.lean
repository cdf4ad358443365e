/- guess.tidy, Add, Times, signs at whatever numbers: walks. comb.Longer over an index of whatever numbers: the walk. comb.Find, Count, Befores, Behinds, Places and guess.weigh over an index of whatever numbers. -/
import Derived.Test.YtjfdlibceldanacGreatDoorRawA
import Derived.Test.YtjfdlibceldanacGreatDoorRawP1
/-! guess.tidy, Add, Times, signs at whatever numbers: walks. -/
namespace Go.Proofs.YtjfdlibceldanacGreatDoor.Raw
open Go.Proofs.YtjfdlibceldanacGreatDoor Go.RowKit Go.Sort En Wv Gu Ri

def RetPI (p : Int × Int) (w : World) (e : Ending) (w' : World) : Prop := e = .returned (.agg #[.int .i64 p.1, .int .i64 p.2]) ∧ Ext w w'
set_option maxHeartbeats 4000000 in
set_option maxRecDepth 100000 in
theorem tidy_calls (n d : Int) (hn : I64 n) (hd : I64 d) (w : World) :
    Calls Tryz.prog 24 #[.int .i64 n, .int .i64 d] w (RetPI (tidyI n d) w) := by
  have hpt : tidyI n d = if gG n d = 0 then (0, 1) else (IntKind.i64.wrap (Int.tdiv n (gG n d)), IntKind.i64.wrap (Int.tdiv d (gG n d))) := rfl
  obtain ⟨g, hg⟩ : ∃ g, gG n d = g := ⟨_, rfl⟩
  rw [hg] at hpt
  have HG := Lib.hid hg
  obtain ⟨N, hN⟩ : ∃ N, IntKind.i64.wrap (Int.tdiv n g) = N := ⟨_, rfl⟩
  obtain ⟨D, hD⟩ : ∃ D, IntKind.i64.wrap (Int.tdiv d g) = D := ⟨_, rfl⟩
  rw [hN, hD] at hpt
  obtain ⟨p, hp⟩ : ∃ p, tidyI n d = p := ⟨_, rfl⟩
  rw [hp] at hpt ⊢
  have HP := Lib.hid hpt; have HI := Lib.hid hn; have HI2 := Lib.hid hd
  clear hpt hg hp hn hd
  go_enter Tryz.func24, Tryz.ntmps24
  go_upto_region 1 with fail
  generalize hW : World.alloc w _ = W
  have bx := bk_of hW
  have hx := ext_of_alloc hW
  have hBw : w.heap.size ≤ w.heap.size := Nat.le_refl _
  generalize hB : w.heap.size = B at *
  rw [← hB] at hBw
  have hBw : w.heap.size ≤ B := by omega
  have BX := Lib.hid bx
  clear hW bx
  go_wp2_with fail
  go_loopw [5, 6] (fun va vb wr => ∃ a b : Int, va = .int .i64 a ∧ vb = .int .i64 b ∧ Hid (gG a b = g) ∧ Hid (I64 a) ∧ Hid (I64 b) ∧ Ext W wr) (fun _ vb _ => (intOf vb).natAbs)
  case atStart => exact ⟨n, d, rfl, rfl, HG, HI, HI2, Ext.refl _⟩
  case round => as_aux_lemma =>
    obtain ⟨a, b, rfl, rfl, HGab, ha, hb, hxr⟩ := hrel
    by_cases h : b = 0
    · subst h
      have hag : a = g := by have := HGab.out; rwa [gG_zero] at this
      subst hag
      have bx := BX.out.ext hxr
      have x0 := bx.cell 0
      have x1 := bx.cell 1
      have f0 := bx.frozen 0
      have f1 := bx.frozen 1
      by_cases g0 : a = 0
      · have hpp : p = (0, 1) := by rw [HP.out, if_pos g0]
        subst g0
        subst hpp
        have BF := Lib.hid (bk2G (v0 := .int .i64 0) (v1 := .int .i64 1) bx)
        have HXF := Lib.hid (ext2G (B := B) (hx.trans hxr) hBw (.int .i64 0) (.int .i64 1))
        clear bx HP
        go_wp2_with fail
        clear x0 x1 f0 f1
        have bF := BF.out
        have hxF := HXF.out
        clear BF HXF
        generalize (wr.setCell _ _).setCell _ _ = wF at *
        have z0 := bF.cell 0
        have z1 := bF.cell 1
        exact bodyPost_ret (v := .agg #[.int .i64 0, .int .i64 1]) (by simp [results, Tryz.results24, go_sem, z0, z1]) rfl ⟨rfl, hxF⟩
      · have hpp : p = (N, D) := by rw [HP.out, if_neg g0]
        subst hpp
        have ga : (a == 0) = false := by simp [g0]
        have ga3 : decide (a = 0) = false := by simp [g0]
        have BF := Lib.hid (bk2G (v0 := .int .i64 N) (v1 := .int .i64 D) bx)
        clear HP
        go_wp2_with fail
        have hcur : Ext wr wr.drew := (Ext.refl wr).drew
        go_region_held3 (fun w' => True) (first | trivial | go_keep) (fail)
        all_goals
          have HXF := Lib.hid (ext2G (B := B) (hx.trans hxr) hBw (.int .i64 N) (.int .i64 D))
          clear x0 x1 f0 f1 bx hcur
          have bF := BF.out
          have hxF := HXF.out
          clear BF HXF
          generalize (wr.setCell _ _).setCell _ _ = wF at *
          go_wp2_with fail
          have z0 : wF.drew.cell? ⟨B, 0, none⟩ = some (.int .i64 N) := bF.cell 0
          have z1 : wF.drew.cell? ⟨B, 1, none⟩ = some (.int .i64 D) := bF.cell 1
          exact bodyPost_ret (v := .agg #[.int .i64 N, .int .i64 D]) (by simp [results, Tryz.results24, go_sem, z0, z1]) rfl ⟨rfl, hxF.drew⟩
    · have hb' : (b != 0) = true := by simp [h]
      have hb'' : (b == 0) = false := by simp [h]
      have hlt := tmod_abs (a := a) h
      have hgg : gG b (Int.tmod a b) = g := by rw [← gG_step h]; exact HGab.out
      have hI := Lib.hid (tmod_i64 ha.out hb.out)
      obtain ⟨r, hr⟩ : ∃ r, Int.tmod a b = r := ⟨_, rfl⟩
      rw [hr] at hlt hgg hI
      have HGG := Lib.hid hgg
      clear hgg
      go_wp2_with fail
      go_quiet (fail)
      go_wp2_with fail
      refine ⟨⟨b, r, rfl, rfl, HGG, hb, hI, hxr.drewN _⟩, by simp [intOf]; omega⟩

set_option maxHeartbeats 4000000 in
set_option maxRecDepth 100000 in
theorem gadd_calls (a b : Int × Int) (w : World) :
    Calls Tryz.prog 25 #[.agg #[.int .i64 a.1, .int .i64 a.2], .agg #[.int .i64 b.1, .int .i64 b.2]] w (RetPI (addI a b) w) := by
  have ct := fun w => tidy_calls (IntKind.i64.wrap (IntKind.i64.wrap (a.1 * b.2) + IntKind.i64.wrap (b.1 * a.2))) (IntKind.i64.wrap (a.2 * b.2)) (wrap_i64 _) (wrap_i64 _) w
  have hp : addI a b = tidyI (IntKind.i64.wrap (IntKind.i64.wrap (a.1 * b.2) + IntKind.i64.wrap (b.1 * a.2))) (IntKind.i64.wrap (a.2 * b.2)) := rfl
  rw [← hp] at ct
  clear hp
  obtain ⟨a1, a2⟩ := a
  obtain ⟨b1, b2⟩ := b
  obtain ⟨R, hR⟩ : ∃ R, addI (a1, a2) (b1, b2) = R := ⟨_, rfl⟩
  rw [hR] at ct ⊢
  dsimp only at *
  obtain ⟨p1, w1⟩ : ∃ p1, IntKind.i64.wrap (a1 * b2) = p1 := ⟨_, rfl⟩
  obtain ⟨p2, w2⟩ : ∃ p2, IntKind.i64.wrap (b1 * a2) = p2 := ⟨_, rfl⟩
  obtain ⟨q, w3⟩ : ∃ q, IntKind.i64.wrap (a2 * b2) = q := ⟨_, rfl⟩
  rw [w1, w2, w3] at ct
  obtain ⟨S, w4⟩ : ∃ S, IntKind.i64.wrap (p1 + p2) = S := ⟨_, rfl⟩
  rw [w4] at ct
  unfold RetPI at ct
  have CT := Lib.hid ct
  clear ct hR
  go_enter Tryz.func25, Tryz.ntmps25
  go_upto_region 1 with fail
  generalize hW1 : World.alloc w _ = W1
  have hs1 : W1.heap.size = w.heap.size + 1 := by rw [← hW1]; simp
  have ba := bk_of hW1
  have hx1 := ext_of_alloc hW1
  generalize hW2 : World.alloc W1 _ = W2
  have hs2 : W2.heap.size = w.heap.size + 1 + 1 := by rw [← hW2]; simp [hs1]
  have bb := bk_of hW2
  rw [hs1] at bb
  have hx2 := ext_of_alloc hW2
  generalize hW3 : World.alloc W2 _ = W3
  have br := bk_of hW3
  rw [hs2] at br
  have hx3 := ext_of_alloc hW3
  have ba3 := ba.ext (hx2.trans hx3)
  have bb3 := bb.ext hx3
  have hx := (hx1.trans hx2).trans hx3
  clear hW1 hW2 hW3 hs1 hs2 ba bb hx1 hx2 hx3
  have hB : w.heap.size ≤ w.heap.size + 1 + 1 := by omega
  have BR := Lib.hid br
  have x0 := ba3.cell 0
  have x1 := ba3.cell 1
  have y0 := bb3.cell 0
  have y1 := bb3.cell 1
  go_wp2_with fail
  with_reducible refine (CT.out W3).mono ?_
  rintro e wn ⟨rfl, hxn⟩
  have bn := BR.out.ext hxn
  have f0 := bn.frozen 0
  have f1 := bn.frozen 1
  have z0 := bn.cell 0
  have z1 := bn.cell 1
  have BF := Lib.hid (bk2G (v0 := .int .i64 R.1) (v1 := .int .i64 R.2) bn)
  have HXF := Lib.hid (ext2G (B := w.heap.size + 1 + 1) (hx.trans hxn) hB (.int .i64 R.1) (.int .i64 R.2))
  clear x0 x1 y0 y1 bn
  go_wp2_with fail
  clear z0 z1 f0 f1
  have bF := BF.out
  have hxF := HXF.out
  generalize (wn.setCell _ _).setCell _ _ = wF at *
  have z0 := bF.cell 0
  have z1 := bF.cell 1
  exact bodyPost_ret (v := .agg #[.int .i64 R.1, .int .i64 R.2]) (by simp [results, Tryz.results25, go_sem, z0, z1]) rfl ⟨rfl, hxF⟩
set_option maxHeartbeats 4000000 in
set_option maxRecDepth 100000 in
theorem gtimes_calls (a b : Int × Int) (w : World) :
    Calls Tryz.prog 26 #[.agg #[.int .i64 a.1, .int .i64 a.2], .agg #[.int .i64 b.1, .int .i64 b.2]] w (RetPI (timesI a b) w) := by
  have ct := fun w => tidy_calls (IntKind.i64.wrap (a.1 * b.1)) (IntKind.i64.wrap (a.2 * b.2)) (wrap_i64 _) (wrap_i64 _) w
  have hp : timesI a b = tidyI (IntKind.i64.wrap (a.1 * b.1)) (IntKind.i64.wrap (a.2 * b.2)) := rfl
  rw [← hp] at ct
  clear hp
  obtain ⟨a1, a2⟩ := a
  obtain ⟨b1, b2⟩ := b
  obtain ⟨R, hR⟩ : ∃ R, timesI (a1, a2) (b1, b2) = R := ⟨_, rfl⟩
  rw [hR] at ct ⊢
  dsimp only at *
  obtain ⟨p1, w1⟩ : ∃ p1, IntKind.i64.wrap (a1 * b1) = p1 := ⟨_, rfl⟩
  obtain ⟨q, w3⟩ : ∃ q, IntKind.i64.wrap (a2 * b2) = q := ⟨_, rfl⟩
  rw [w1, w3] at ct
  unfold RetPI at ct
  have CT := Lib.hid ct
  clear ct hR
  go_enter Tryz.func26, Tryz.ntmps26
  go_upto_region 1 with fail
  generalize hW1 : World.alloc w _ = W1
  have hs1 : W1.heap.size = w.heap.size + 1 := by rw [← hW1]; simp
  have ba := bk_of hW1
  have hx1 := ext_of_alloc hW1
  generalize hW2 : World.alloc W1 _ = W2
  have hs2 : W2.heap.size = w.heap.size + 1 + 1 := by rw [← hW2]; simp [hs1]
  have bb := bk_of hW2
  rw [hs1] at bb
  have hx2 := ext_of_alloc hW2
  generalize hW3 : World.alloc W2 _ = W3
  have br := bk_of hW3
  rw [hs2] at br
  have hx3 := ext_of_alloc hW3
  have ba3 := ba.ext (hx2.trans hx3)
  have bb3 := bb.ext hx3
  have hx := (hx1.trans hx2).trans hx3
  clear hW1 hW2 hW3 hs1 hs2 ba bb hx1 hx2 hx3
  have hB : w.heap.size ≤ w.heap.size + 1 + 1 := by omega
  have BR := Lib.hid br
  have x0 := ba3.cell 0
  have x1 := ba3.cell 1
  have y0 := bb3.cell 0
  have y1 := bb3.cell 1
  go_wp2_with fail
  with_reducible refine (CT.out W3).mono ?_
  rintro e wn ⟨rfl, hxn⟩
  have bn := BR.out.ext hxn
  have f0 := bn.frozen 0
  have f1 := bn.frozen 1
  have z0 := bn.cell 0
  have z1 := bn.cell 1
  have BF := Lib.hid (bk2G (v0 := .int .i64 R.1) (v1 := .int .i64 R.2) bn)
  have HXF := Lib.hid (ext2G (B := w.heap.size + 1 + 1) (hx.trans hxn) hB (.int .i64 R.1) (.int .i64 R.2))
  clear x0 x1 y0 y1 bn
  go_wp2_with fail
  clear z0 z1 f0 f1
  have bF := BF.out
  have hxF := HXF.out
  generalize (wn.setCell _ _).setCell _ _ = wF at *
  have z0 := bF.cell 0
  have z1 := bF.cell 1
  exact bodyPost_ret (v := .agg #[.int .i64 R.1, .int .i64 R.2]) (by simp [results, Tryz.results26, go_sem, z0, z1]) rfl ⟨rfl, hxF⟩
set_option maxHeartbeats 2000000 in
set_option maxRecDepth 100000 in
theorem gsigns_calls (wN wD : Int) (nl n m2 : Nat) (E B D : Option Addr) (ec bc dc : Nat) (hm2 : m2 ≤ 1048576) (w : World) :
    Calls Tryz.prog 22 #[combV wN wD nl n m2 E B D ec bc dc] w fun e w' => e = .returned (.int .i64 ((m2 : Int) - 2)) ∧ Ext w w' := by
  have hw : IntKind.i64.wrap ((m2 : Int) - 2) = (m2 : Int) - 2 := IntWalk.i64_in _ (by omega)
  unfold combV
  go_enter Tryz.func22, Tryz.ntmps22
  go_wp2_with fail
  go_ret
  exact ⟨rfl, (Ext.refl w).alloc _⟩
end Go.Proofs.YtjfdlibceldanacGreatDoor.Raw

/-! comb.Longer over an index of whatever numbers: the walk. -/
namespace Go.Proofs.YtjfdlibceldanacGreatDoor.Raw
open Go.Proofs.YtjfdlibceldanacGreatDoor Go.RowKit Go.Sort En Wv Gu Ri

/-- Nothing stands behind the last one. -/
theorem longer_last (wN wD : Int) (nl n m2 : Nat) (E B D : Option Addr) (ec bc dc f t : Nat) (w : World) (hg : ¬ (f = 0 ∧ t = n)) :
    Calls Tryz.prog 32 #[combV wN wD nl n m2 E B D ec bc dc, .agg #[.int .i64 f, .int .i64 t], .int .i64 0] w (RetSpan (0, 0) w) := by
  unfold combV
  go_enter Tryz.func32, Tryz.ntmps32
  go_wp2_with fail
  all_goals
    generalize hW1 : World.alloc w _ = W1
    generalize hW2 : World.alloc W1 _ = W2
    generalize hW : World.alloc W2 _ = W
    have hs1 : W1.heap.size = w.heap.size + 1 := by rw [← hW1]; simp
    have hs2 : W2.heap.size = w.heap.size + 1 + 1 := by rw [← hW2]; simp [hs1]
    have bl := bk_of hW
    rw [hs2] at bl
    have hx : Ext w W := (ext_of_alloc hW1).trans ((ext_of_alloc hW2).trans (ext_of_alloc hW))
    clear hW hW1 hW2 hs1 hs2
    have z0 := bl.cell 0
    have z1 := bl.cell 1
    exact bodyPost_ret (v := .agg #[.int .i64 0, .int .i64 0]) (by simp [results, Tryz.results32, go_sem, z0, z1]) rfl ⟨rfl, hx⟩
theorem longer_out (wN wD : Int) (nl n m2 : Nat) (E B D : Option Addr) (ec bc dc f t : Nat) (c : Int) (w : World) (_hn : n ≤ 1048576) (_hm : m2 ≤ 1048576) (_hft : f ≤ t) (_htn : t ≤ n) (hc : -9223372036854775808 ≤ c ∧ c < 9223372036854775807) (h0 : ¬ c = 0) (hg : c < 0 ∨ m2 ≤ c + 1) :
    Calls Tryz.prog 32 #[combV wN wD nl n m2 E B D ec bc dc, .agg #[.int .i64 f, .int .i64 t], .int .i64 c] w (RetSpan (0, 0) w) := by
  unfold combV
  go_enter Tryz.func32, Tryz.ntmps32
  go_wp2_with fail
  all_goals
    generalize hW1 : World.alloc w _ = W1
    generalize hW2 : World.alloc W1 _ = W2
    generalize hW : World.alloc W2 _ = W
    have hs1 : W1.heap.size = w.heap.size + 1 := by rw [← hW1]; simp
    have hs2 : W2.heap.size = w.heap.size + 1 + 1 := by rw [← hW2]; simp [hs1]
    have bl := bk_of hW
    rw [hs2] at bl
    have hx : Ext w W := (ext_of_alloc hW1).trans ((ext_of_alloc hW2).trans (ext_of_alloc hW))
    clear hW hW1 hW2 hs1 hs2
    have z0 := bl.cell 0
    have z1 := bl.cell 1
    exact bodyPost_ret (v := .agg #[.int .i64 0, .int .i64 0]) (by simp [results, Tryz.results32, go_sem, z0, z1]) rfl ⟨rfl, hx⟩
theorem longer_zero (wN wD : Int) (nl n m2 : Nat) (E B D : Option Addr) (ec bc dc f t : Nat) (w : World) (_hn : n ≤ 1048576) (h0 : f = 0) (h1 : t = n) (hg : m2 ≤ 1) :
    Calls Tryz.prog 32 #[combV wN wD nl n m2 E B D ec bc dc, .agg #[.int .i64 f, .int .i64 t],   .int .i64 0] w (RetSpan (0, 0) w) := by
  subst h0
  subst h1
  have hg' : decide ((m2 : Int) ≤ 1) = true := by simp; omega
  unfold combV
  go_enter Tryz.func32, Tryz.ntmps32
  go_wp2_with fail
  all_goals
    generalize hW1 : World.alloc w _ = W1
    generalize hW2 : World.alloc W1 _ = W2
    generalize hW : World.alloc W2 _ = W
    have hs1 : W1.heap.size = w.heap.size + 1 := by rw [← hW1]; simp
    have hs2 : W2.heap.size = w.heap.size + 1 + 1 := by rw [← hW2]; simp [hs1]
    have bl := bk_of hW
    rw [hs2] at bl
    have hx : Ext w W := (ext_of_alloc hW1).trans ((ext_of_alloc hW2).trans (ext_of_alloc hW))
    clear hW hW1 hW2 hs1 hs2
    have z0 := bl.cell 0
    have z1 := bl.cell 1
    exact bodyPost_ret (v := .agg #[.int .i64 0, .int .i64 0]) (by simp [results, Tryz.results32, go_sem, z0, z1]) rfl ⟨rfl, hx⟩
set_option maxHeartbeats 8000000 in
set_option maxRecDepth 100000 in
theorem longer_in (wN wD : Int) (nl n m2 x : Nat) (y : Int) (cf ct : Nat) (E B D : Option Addr) (ec bc dc f t : Nat) (w : World) (R : World → Prop) (hR : ∀ w w', Ext w w' → R w → R w') (hn : n ≤ 1048576) (hm : m2 ≤ 1048576) (hx : x + 1 < m2) (hft : f ≤ t) (htn : t ≤ n) (h0 : x = 0 → f = 0 ∧ t = n) (_hy : I64 y)
    (hr : R w) (b1 o1 : Nat) (hd : D = some ⟨b1, o1, none⟩) (p1 : w.cell? ⟨b1, o1 + x, none⟩ = some (.int .i64 y))
    (c1 : ∀ w, R w → Calls Tryz.prog 56 #[.agg #[.int .i64 wN, .int .i64 wD, .slice B nl bc], .int .i64 x, .int .i64 f] w fun e w' => e = .returned (.int .i64 cf) ∧ Ext w w')
    (c2 : ∀ w, R w → Calls Tryz.prog 56 #[.agg #[.int .i64 wN, .int .i64 wD, .slice B nl bc], .int .i64 x, .int .i64 t] w fun e w' => e = .returned (.int .i64 ct) ∧ Ext w w') :
    Calls Tryz.prog 32 #[combV wN wD nl n m2 E B D ec bc dc, .agg #[.int .i64 f, .int .i64 t], .int .i64 x] w (RetSpan (if IntKind.i64.wrap (y + (cf : Int)) < IntKind.i64.wrap (y + (ct : Int)) ∧ 0 ≤ IntKind.i64.wrap (y + (cf : Int)) ∧ IntKind.i64.wrap (y + (ct : Int)) ≤ n then ((IntKind.i64.wrap (y + (cf : Int))).toNat, (IntKind.i64.wrap (y + (ct : Int))).toNat) else (0, 0)) w) := by
  have C1 := Lib.hid c1; have C2 := Lib.hid c2; have HR := Lib.hid hR
  subst hd
  obtain ⟨z, hz⟩ : ∃ z, IntKind.i64.wrap (y + (cf : Int)) = z := ⟨_, rfl⟩
  obtain ⟨v, hv⟩ : ∃ v, IntKind.i64.wrap (y + (ct : Int)) = v := ⟨_, rfl⟩
  have HZW := Lib.hid hz; have HVW := Lib.hid hv
  rw [hz, hv]
  obtain ⟨p, hp⟩ : ∃ p, (if z < v ∧ 0 ≤ z ∧ v ≤ n then (z.toNat, v.toNat) else (0, 0)) = p := ⟨_, rfl⟩
  rw [hp]
  have HP := Lib.hid hp
  unfold combV
  clear c1 c2 hR hz hv hp
  go_enter Tryz.func32, Tryz.ntmps32
  go_upto_region 1 with fail
  generalize hW1 : World.alloc w _ = W1
  generalize hW2 : World.alloc W1 _ = W2
  generalize hW : World.alloc W2 _ = W
  have hs1 : W1.heap.size = w.heap.size + 1 := by rw [← hW1]; simp
  have hs2 : W2.heap.size = w.heap.size + 1 + 1 := by rw [← hW2]; simp [hs1]
  have hx2 := ext_of_alloc hW2
  have hx3 := ext_of_alloc hW
  have hx1 := ext_of_alloc hW1
  have bq := (bk_of hW1).ext (hx2.trans hx3)
  have bs := (bk_of hW2).ext hx3
  have bl := bk_of hW
  rw [hs1] at bs
  rw [hs2] at bl
  have HBLL : Hid (w.heap.size ≤ w.heap.size + 1 + 1) := Lib.hid (by omega)
  have hxW : Ext w W := hx1.trans (hx2.trans hx3)
  replace p1 := ecell p1 hxW
  replace hr := HR.out _ _ hxW hr
  clear hW hW1 hW2 hs1 hs2 hx1 hx2 hx3
  generalize w.heap.size + 1 + 1 = BL at *
  generalize w.heap.size + 1 = BS at *
  have x0 := bq.cell 0
  have x1 := bq.cell 1
  have x2 := bq.cell 2
  have x3 := bq.cell 3
  have x4 := bq.cell 4
  have y0 := bs.cell 0
  have y1 := bs.cell 1
  have HBC := Lib.hid bq; have HBS := Lib.hid bs; have HBL := Lib.hid bl
  clear bq bs bl
  go_cut [18] (fun v18 w' => v18 = .bool false ∧ w' = W)
  case first =>
    by_cases q : x = 0
    · obtain ⟨rfl, rfl⟩ := h0 q
      subst q
      go_wp2_with fail
      go_meet
      exact ⟨rfl, rfl⟩
    · have q' : ((x : Int) == 0) = false := by rw [beq_eq_false_iff_ne]; omega
      clear q h0
      go_wp2_with fail
      go_meet
      exact ⟨rfl, rfl⟩
  case rest =>
    obtain ⟨rfl, rfl⟩ := hcut
    clear h0
    go_upto_region 6 with fail
    clear x0 x4 p1
    go_cut [8] (fun v8 w' => ∃ By, v8 = .pointer (some ⟨By, 0, none⟩) ∧ Hid (Bk w' By 59 #[.int .i64 z, .int .i64 v]) ∧ Ext wc w')
    case first => as_aux_lemma =>
      have hcur : Ext wc wc.drew := (Ext.refl wc).drew
      go_region_held3 (fun w' => w'.cell? ⟨w.heap.size, 1, none⟩ = some (.int .i64 wN) ∧ w'.cell? ⟨w.heap.size, 2, none⟩ = some (.int .i64 wD) ∧ w'.cell? ⟨w.heap.size, 3, none⟩ = some (.slice B nl bc) ∧ w'.cell? ⟨BS, 0, none⟩ = some (.int .i64 f) ∧ w'.cell? ⟨BS, 1, none⟩ = some (.int .i64 t))
        (first | (exact ⟨ecell x1 hcur, ecell x2 hcur, ecell x3 hcur, ecell y0 hcur, ecell y1 hcur⟩) | (exact ⟨ecell x1 (hcur.alloc _), ecell x2 (hcur.alloc _), ecell x3 (hcur.alloc _), ecell y0 (hcur.alloc _), ecell y1 (hcur.alloc _)⟩) | (exact ⟨ecell x1 (((Ext.refl wc).alloc _).drew), ecell x2 (((Ext.refl wc).alloc _).drew), ecell x3 (((Ext.refl wc).alloc _).drew), ecell y0 (((Ext.refl wc).alloc _).drew), ecell y1 (((Ext.refl wc).alloc _).drew)⟩) | (exact ⟨ecell x1 ((hcur.setCell (p := ⟨_, 0, none⟩) hge _).setCell (p := ⟨_, 1, none⟩) hge _), ecell x2 ((hcur.setCell (p := ⟨_, 0, none⟩) hge _).setCell (p := ⟨_, 1, none⟩) hge _), ecell x3 ((hcur.setCell (p := ⟨_, 0, none⟩) hge _).setCell (p := ⟨_, 1, none⟩) hge _), ecell y0 ((hcur.setCell (p := ⟨_, 0, none⟩) hge _).setCell (p := ⟨_, 1, none⟩) hge _), ecell y1 ((hcur.setCell (p := ⟨_, 0, none⟩) hge _).setCell (p := ⟨_, 1, none⟩) hge _)⟩) | go_keep)
        (first
            | (go_at_call 56; with_reducible refine (C1.out _ (HR.out _ _ hcur hr)).mono ?_; rintro e wn ⟨rfl, hxn⟩; replace hcur := hcur.trans hxn; first | (replace BZ2 := Lib.hid (BZ2.out.ext hxn); have z0 := BZ2.out.cell 0; have z1 := BZ2.out.cell 1; have g0 := BZ2.out.frozen 0; have g1 := BZ2.out.frozen 1) | skip)
            | (go_at_call 56; with_reducible refine (C2.out _ (HR.out _ _ hcur hr)).mono ?_; rintro e wn ⟨rfl, hxn⟩; replace hcur := hcur.trans hxn; first | (replace BZ2 := Lib.hid (BZ2.out.ext hxn); have z0 := BZ2.out.cell 0; have z1 := BZ2.out.cell 1; have g0 := BZ2.out.frozen 0; have g1 := BZ2.out.frozen 1) | skip)
            | (go_at_call 56; with_reducible refine (C1.out (wc.alloc _).drew (HR.out _ _ ((Ext.refl wc).alloc _).drew hr)).mono ?_; rintro e wn ⟨rfl, hxn⟩; have BZ2 := Lib.hid ((Bk.new .. : Bk (wc.alloc (.cells #[.int .i64 0, .int .i64 0] 59)) wc.heap.size 59 #[.int .i64 0, .int .i64 0]).ext ((Ext.refl _).drew.trans hxn)); have hge : wc.heap.size ≤ wc.heap.size := Nat.le_refl _; replace hcur := (((Ext.refl wc).alloc _).drew).trans hxn; have z0 := BZ2.out.cell 0; have z1 := BZ2.out.cell 1; have g0 := BZ2.out.frozen 0; have g1 := BZ2.out.frozen 1)
            | (go_at_call 56; with_reducible refine (C2.out (wc.alloc _).drew (HR.out _ _ ((Ext.refl wc).alloc _).drew hr)).mono ?_; rintro e wn ⟨rfl, hxn⟩; have BZ2 := Lib.hid ((Bk.new .. : Bk (wc.alloc (.cells #[.int .i64 0, .int .i64 0] 59)) wc.heap.size 59 #[.int .i64 0, .int .i64 0]).ext ((Ext.refl _).drew.trans hxn)); have hge : wc.heap.size ≤ wc.heap.size := Nat.le_refl _; replace hcur := (((Ext.refl wc).alloc _).drew).trans hxn; have z0 := BZ2.out.cell 0; have z1 := BZ2.out.cell 1; have g0 := BZ2.out.frozen 0; have g1 := BZ2.out.frozen 1)
            | (go_at_call 56; with_reducible refine (C1.out _ (HR.out _ _ (hcur.alloc _) hr)).mono ?_; rintro e wm ⟨rfl, hxm⟩; have BZ2 := Lib.hid ((Bk.new .. : Bk (wn.alloc (.cells #[.int .i64 0, .int .i64 0] 59)) wn.heap.size 59 #[.int .i64 0, .int .i64 0]).ext hxm); have hge := hcur.size; replace hcur := (hcur.alloc _).trans hxm; have z0 := BZ2.out.cell 0; have z1 := BZ2.out.cell 1; have g0 := BZ2.out.frozen 0; have g1 := BZ2.out.frozen 1)
            | (go_at_call 56; with_reducible refine (C2.out _ (HR.out _ _ (hcur.alloc _) hr)).mono ?_; rintro e wm ⟨rfl, hxm⟩; have BZ2 := Lib.hid ((Bk.new .. : Bk (wn.alloc (.cells #[.int .i64 0, .int .i64 0] 59)) wn.heap.size 59 #[.int .i64 0, .int .i64 0]).ext hxm); have hge := hcur.size; replace hcur := (hcur.alloc _).trans hxm; have z0 := BZ2.out.cell 0; have z1 := BZ2.out.cell 1; have g0 := BZ2.out.frozen 0; have g1 := BZ2.out.frozen 1))
      all_goals
        go_wp2_with fail
        go_meet
        first
          | exact ⟨_, rfl, Lib.hid (by rw [← HZW.out, ← HVW.out]; exact Bk.new ..), hcur.alloc _⟩
          | exact ⟨_, rfl, Lib.hid (by rw [← HZW.out, ← HVW.out]; exact (BZ2.out.set 0 _).set 1 _), ((hcur.setCell (p := ⟨_, 0, none⟩) hge _).setCell (p := ⟨_, 1, none⟩) hge _)⟩
    case rest => as_aux_lemma =>
      obtain ⟨By, rfl, HBY, hx6⟩ := hcut
      have bl := HBL.out.ext hx6
      have q0 := HBY.out.cell 0
      have q1 := HBY.out.cell 1
      have e0 := (HBC.out.ext hx6).cell 0
      have l0 := bl.cell 0
      have l1 := bl.cell 1
      have l2 := bl.frozen 0
      have l3 := bl.frozen 1
      by_cases g : v ≤ z
      · have g' : decide (v ≤ z) = true := by simpa using g
        have hp : p = (0, 0) := by rw [← HP.out, if_neg (by omega)]
        have BF := Lib.hid ((bl.set 0 (.int .i64 0)).set 1 (.int .i64 0))
        have XF := Lib.hid (((hxW.trans hx6).setCell (p := ⟨BL, 0, none⟩) HBLL.out (.int .i64 0)).setCell (p := ⟨BL, 1, none⟩) HBLL.out (.int .i64 0))
        subst hp
        clear bl HZW HVW HP
        go_wp2_with fail
        clear l0 l1 l2 l3 q0 q1 e0
        have bF := BF.out
        have xF := XF.out
        generalize (wc.setCell _ _).setCell _ _ = wF at *
        have z0 : wF.cell? ⟨BL, 0, none⟩ = some (.int .i64 0) := bF.cell 0
        have z1 : wF.cell? ⟨BL, 1, none⟩ = some (.int .i64 0) := bF.cell 1
        exact bodyPost_ret (v := .agg #[.int .i64 0, .int .i64 0]) (by simp [results, Tryz.results32, go_sem, z0, z1]) rfl ⟨rfl, xF⟩
      · have g' : decide (v ≤ z) = false := by simpa using g
        by_cases gz : z < 0
        · have gz' : decide (z < 0) = true := by simpa using gz
          have hp : p = (0, 0) := by rw [← HP.out, if_neg (by omega)]
          have BF := Lib.hid ((bl.set 0 (.int .i64 0)).set 1 (.int .i64 0))
          have XF := Lib.hid (((hxW.trans hx6).setCell (p := ⟨BL, 0, none⟩) HBLL.out (.int .i64 0)).setCell (p := ⟨BL, 1, none⟩) HBLL.out (.int .i64 0))
          subst hp
          clear bl HZW HVW HP
          go_wp2_with fail
          clear l0 l1 l2 l3 q0 q1 e0
          have bF := BF.out
          have xF := XF.out
          generalize (wc.setCell _ _).setCell _ _ = wF at *
          have z0 : wF.cell? ⟨BL, 0, none⟩ = some (.int .i64 0) := bF.cell 0
          have z1 : wF.cell? ⟨BL, 1, none⟩ = some (.int .i64 0) := bF.cell 1
          exact bodyPost_ret (v := .agg #[.int .i64 0, .int .i64 0]) (by simp [results, Tryz.results32, go_sem, z0, z1]) rfl ⟨rfl, xF⟩
        · have gz' : decide (z < 0) = false := by simpa using gz
          by_cases gn : (n : Int) < v
          · have gn' : decide ((n : Int) < v) = true := by simpa using gn
            have hp : p = (0, 0) := by rw [← HP.out, if_neg (by omega)]
            have BF := Lib.hid ((bl.set 0 (.int .i64 0)).set 1 (.int .i64 0))
            have XF := Lib.hid (((hxW.trans hx6).setCell (p := ⟨BL, 0, none⟩) HBLL.out (.int .i64 0)).setCell (p := ⟨BL, 1, none⟩) HBLL.out (.int .i64 0))
            subst hp
            clear bl HZW HVW HP
            go_wp2_with fail
            clear l0 l1 l2 l3 q0 q1 e0
            have bF := BF.out
            have xF := XF.out
            generalize (wc.setCell _ _).setCell _ _ = wF at *
            have z0 : wF.cell? ⟨BL, 0, none⟩ = some (.int .i64 0) := bF.cell 0
            have z1 : wF.cell? ⟨BL, 1, none⟩ = some (.int .i64 0) := bF.cell 1
            exact bodyPost_ret (v := .agg #[.int .i64 0, .int .i64 0]) (by simp [results, Tryz.results32, go_sem, z0, z1]) rfl ⟨rfl, xF⟩
          · have gn' : decide ((n : Int) < v) = false := by simpa using gn
            have hp : p = (z.toNat, v.toNat) := by rw [← HP.out, if_pos ⟨by omega, by omega, by omega⟩]
            clear HZW HVW HP
            obtain ⟨z', rfl⟩ := Int.eq_ofNat_of_zero_le (show 0 ≤ z by omega)
            obtain ⟨v', rfl⟩ := Int.eq_ofNat_of_zero_le (show 0 ≤ v by omega)
            rw [Int.toNat_natCast, Int.toNat_natCast] at hp
            have BF := Lib.hid ((bl.set 0 (.int .i64 (z' : Nat))).set 1 (.int .i64 (v' : Nat)))
            have XF := Lib.hid (((hxW.trans hx6).setCell (p := ⟨BL, 0, none⟩) HBLL.out (.int .i64 (z' : Nat))).setCell (p := ⟨BL, 1, none⟩) HBLL.out (.int .i64 (v' : Nat)))
            subst hp
            clear bl
            go_wp2_with fail
            clear l0 l1 l2 l3 q0 q1 e0
            have bF := BF.out
            have xF := XF.out
            generalize (wc.setCell _ _).setCell _ _ = wF at *
            have z0 : wF.cell? ⟨BL, 0, none⟩ = some (.int .i64 (z' : Nat)) := bF.cell 0
            have z1 : wF.cell? ⟨BL, 1, none⟩ = some (.int .i64 (v' : Nat)) := bF.cell 1
            exact bodyPost_ret (v := .agg #[.int .i64 (z' : Nat), .int .i64 (v' : Nat)]) (by simp [results, Tryz.results32, go_sem, z0, z1]) rfl ⟨rfl, xF⟩
theorem longer_calls (wN wD : Int) (nl n m2 : Nat) (ls : List Int) (hls : ls.length = m2) (hI : ∀ x ∈ ls, I64 x) (cf : Int → Int → Nat) (E B D : Option Addr) (ec bc dc f t : Nat) (c : Int) (w : World) (R : World → Prop) (hR : ∀ w w', Ext w w' → R w → R w') (hn : n ≤ 1048576) (hm : m2 ≤ 1048576) (hft : f ≤ t) (htn : t ≤ n)
    (hc : -9223372036854775808 ≤ c ∧ c < 9223372036854775807) (hr : R w) (hd : Rd w D m2 (fun k => .int .i64 (nth ls k)))
    (cc : ∀ x i w, R w → Calls Tryz.prog 56 #[.agg #[.int .i64 wN, .int .i64 wD, .slice B nl bc], .int .i64 x, .int .i64 i] w fun e w' => e = .returned (.int .i64 (cf x i : Nat)) ∧ Ext w w') :
    Calls Tryz.prog 32 #[combV wN wD nl n m2 E B D ec bc dc, .agg #[.int .i64 f, .int .i64 t], .int .i64 c] w (RetSpan (longR cf n m2 ls f t c) w) := by
  unfold longR
  by_cases h1 : c = 0 ∧ ¬ (f = 0 ∧ t = n)
  · rw [if_pos h1]
    obtain ⟨rfl, h2⟩ := h1
    exact longer_last wN wD nl n m2 E B D ec bc dc f t w h2
  · rw [if_neg h1]
    by_cases h2 : c < 0 ∨ (m2 : Int) ≤ c + 1
    · rw [if_pos h2]
      by_cases h0 : c = 0
      · subst h0
        have g : f = 0 ∧ t = n := by
          by_cases g : f = 0 ∧ t = n
          · exact g
          · exact absurd ⟨rfl, g⟩ h1
        exact longer_zero wN wD nl n m2 E B D ec bc dc f t w hn g.1 g.2 (by omega)
      · exact longer_out wN wD nl n m2 E B D ec bc dc f t c w hn hm hft htn hc h0 h2
    · rw [if_neg h2]
      obtain ⟨x, rfl⟩ := Int.eq_ofNat_of_zero_le (show 0 ≤ c by omega)
      rw [Int.toNat_natCast]
      obtain ⟨b1, o1, rfl, hb1, hc1⟩ := hd (by omega)
      exact longer_in wN wD nl n m2 x (nth ls x) (cf x f) (cf x t) E B _ ec bc dc f t w R hR hn hm (by omega) hft htn (fun q => by
        by_cases g : f = 0 ∧ t = n
        · exact g
        · exact absurd ⟨by omega, g⟩ h1) (hI _ (nth_mem (by omega))) hr b1 o1 rfl (hc1 x (by omega)) (fun w r => cc x f w r) (fun w r => cc x t w r)
end Go.Proofs.YtjfdlibceldanacGreatDoor.Raw

/-! comb.Find, Count, Befores, Behinds, Places and guess.weigh over an index of whatever numbers. -/
namespace Go.Proofs.YtjfdlibceldanacGreatDoor.Raw
open Go.Proofs.YtjfdlibceldanacGreatDoor Go.RowKit Go.Sort En Wv Gu Ri

/-- What is known of an index of whatever numbers. -/
structure Ix (wN wD : Int) (nl n m2 : Nat) (ls es : List Int) (cf kf : Int → Int → Nat) (E B D : Option Addr) (ec bc dc : Nat) (R : World → Prop) : Prop where
  ext : ∀ w w', Ext w w' → R w → R w'
  n4 : n ≤ 1048576
  m4 : m2 ≤ 1048576
  ll : ls.length = m2
  li : ∀ x ∈ ls, I64 x
  le : es.length = n
  ce : n ≤ ec
  en : E = none → ec = 0
  rd : ∀ w, R w → Rd w D m2 (fun k => .int .i64 (nth ls k))
  re : ∀ w, R w → Rd w E n (fun k => .int .i64 (nth es k))
  cc : ∀ x i w, R w → Calls Tryz.prog 56 #[.agg #[.int .i64 wN, .int .i64 wD, .slice B nl bc], .int .i64 x, .int .i64 i] w fun e w' => e = .returned (.int .i64 (cf x i : Nat)) ∧ Ext w w'
  ck : ∀ f t w, R w → Calls Tryz.prog 68 #[.agg #[.int .i64 wN, .int .i64 wD, .slice B nl bc], .int .i64 f, .int .i64 t] w fun e w' => ∃ P p, e = .returned (.slice P (kf f t) p) ∧ Ext w w'
  kb : ∀ f t, kf f t ≤ 65536
theorem cloneG_calls (s : List Int) (A : Option Addr) (c : Nat) (w : World) (hl : s.length ≤ 1048576) (hr : Rd w A s.length (fun k => .int .i64 (nth s k))) :
    Calls Tryz.prog 20 #[.slice A s.length c] w fun e w' => ∃ v, e = .returned v ∧ w'.ownsRow w.heap.size 3 1 v s.length (s.map (Value.int .i64)) ∧ Ext w w' := by
  cases A with
  | none =>
    have h0 : s.length = 0 := by
      rcases Nat.eq_zero_or_pos s.length with h | h
      · exact h
      · obtain ⟨b, o, hA, _⟩ := hr h; cases hA
    obtain rfl : s = [] := List.length_eq_zero_iff.1 h0
    refine (Tryz.slices_Clone_int_nil 0 c w).mono ?_
    rintro e w' ⟨rfl, rfl⟩
    exact ⟨_, rfl, own_nil _ _ _ _, Ext.refl _⟩
  | some a =>
    by_cases h0 : s.length = 0
    · obtain rfl : s = [] := List.length_eq_zero_iff.1 h0
      refine (Tryz.slices_Clone_int_zero a c w).mono ?_
      rintro e w' ⟨v, rfl, ho, _, hx⟩
      exact ⟨_, rfl, ho, hx⟩
    · obtain ⟨b, o, hA, hb, hc⟩ := hr (by omega)
      injection hA with hA
      subst hA
      have h := Tryz.slices_Clone_int b o s.length c s w (Nat.le_refl _) (by omega) (fun j hj => by
        rw [hc j hj, List.getD_eq_getElem?_getD]; rfl)
      rw [List.take_length] at h
      refine h.mono ?_
      rintro e w' ⟨v, rfl, ho, _, hx⟩
      exact ⟨_, rfl, ho, hx⟩
/-- slices.Sort on what Clone gave. -/
theorem sort_any {w : World} {base : Nat} {v : Value} {xs : List Int} (h : w.ownsRow base 3 1 v xs.length (xs.map (Value.int .i64))) (hl : xs.length ≤ 1048576) :
    ∃ P p, v = .slice P xs.length p ∧ Calls Tryz.prog 21 #[.slice P xs.length p] w fun e w' => e = .returned (.tuple #[]) ∧ ∀ a : World, a.heap.size ≤ base → Ext a w → Ext a w' := by
  by_cases g : xs.length = 0
  · obtain ⟨P, p, rfl⟩ : ∃ P p, v = .slice P 0 p := by
      rcases h.2 with ⟨rfl, _⟩ | ⟨gg, cap, cur, rfl, _⟩
      · exact ⟨none, 0, rfl⟩
      · exact ⟨_, cap, by rw [g]⟩
    rw [g]
    refine ⟨P, p, rfl, (Tryz.slices_Sort_int_none P p w).mono ?_⟩
    rintro e w' ⟨rfl, rfl⟩
    exact ⟨rfl, fun _ _ hx => hx⟩
  · obtain ⟨gg, cap, rfl, _, _⟩ := h.form (by omega)
    have hgge : base ≤ gg := (own_row_ge h gg rfl).1
    refine ⟨some ⟨gg, 0, none⟩, cap, rfl, (sortI_calls h (by omega)).mono ?_⟩
    rintro e w' ⟨rfl, _, hg⟩
    exact ⟨rfl, fun a ha hx => hx.grown hg (fun k hk => by injection hk with hk; rw [← hk]; exact Nat.le_trans ha hgge)⟩
set_option maxHeartbeats 4000000 in
set_option maxRecDepth 100000 in
theorem xplaces_walk (wN wD : Int) (nl n m2 : Nat) (es : List Int) (E B D : Option Addr) (ec bc dc L : Nat) (A : Option Addr) (c : Nat) (w : World) (R : World → Prop) (hR : ∀ w w', Ext w w' → R w → R w') (hr : R w) (f t : Nat) (hle : es.length = n) (hn : n ≤ 1048576) (hec : n ≤ ec) (hE : E = none → ec = 0) (hft : f ≤ t) (htn : t ≤ n) (hz : ¬ f < t → f = 0 ∧ t = 0)
    (hre : ∀ w, R w → Rd w E n (fun k => .int .i64 (nth es k)))
    (cF : ∀ w, R w → Calls Tryz.prog 19 #[combV wN wD nl n m2 E B D ec bc dc, .slice A L c] w fun e w' => e = .returned (.agg #[.int .i64 f, .int .i64 t]) ∧ Ext w w') :
    Calls Tryz.prog 11 #[combV wN wD nl n m2 E B D ec bc dc, .slice A L c] w fun e w' => ∃ A c, e = .returned (.slice A (t - f) c) ∧ Ext w w' := by
  have CF := Lib.hid cF; have HR := Lib.hid hR; have HE := Lib.hid hre; have HL := Lib.hid hle
  unfold combV at CF ⊢
  clear cF hR hre hle
  obtain ⟨xs, hxs⟩ : ∃ xs, (es.take t).drop f = xs := ⟨_, rfl⟩
  have hxl : xs.length = t - f := by rw [← hxs, List.length_drop, List.length_take, HL.out]; omega
  have hxn : ∀ k, k < t - f → nth xs k = nth es (f + k) := fun k hk => by
    rw [← hxs]
    unfold nth
    rw [List.getElem?_drop, List.getElem?_take_of_lt (by omega)]
  have HXN := Lib.hid hxn; have HXL := Lib.hid hxl
  clear hxs hxn hxl
  obtain ⟨k, hk⟩ : ∃ k, t - f = k := ⟨_, rfl⟩
  rw [hk] at HXN HXL ⊢
  go_enter Tryz.func11, Tryz.ntmps11
  go_upto_region 1 with fail
  generalize hW : World.alloc w _ = W at *
  have bq := bk_of hW
  have hx := ext_of_alloc hW
  have hrW := HR.out _ _ hx hr
  clear hW hr
  have c0 := bq.cell 0
  have c1 := bq.cell 1
  have c2 := bq.cell 2
  have c3 := bq.cell 3
  have c4 := bq.cell 4
  go_upto_region 2 with (go_at_call 19; with_reducible refine (CF.out _ hrW).mono ?_; rintro e wn ⟨rfl, hxn⟩)
  generalize hW2 : World.alloc wn _ = W2
  have bs := bk_of hW2
  have hx2 := hxn.trans (ext_of_alloc hW2)
  have bq2 := bq.ext hx2
  have d0 := bq2.cell 0
  have y0 := bs.cell 0
  have y1 := bs.cell 1
  have hrd := HE.out _ (HR.out _ _ hx2 hrW)
  have hxw := hx.trans hx2
  clear c0 c1 c2 c3 c4 bq bq2 bs hW2 CF hx hx2 hxn HR hrW
  by_cases hn0 : n = 0
  · subst hn0
    obtain rfl : t = 0 := by omega
    obtain rfl : f = 0 := by omega
    obtain rfl : k = 0 := by omega
    obtain rfl : xs = [] := List.length_eq_zero_iff.1 HXL.out
    cases E with
    | none =>
      obtain rfl := hE rfl
      clear hrd
      go_wp2_with fail
      refine (cloneG_calls [] none 0 W2 (by decide) Rd.zero).mono ?_
      rintro e w3 ⟨v, rfl, ho, hx3⟩
      obtain ⟨P, p, rfl, hso⟩ := sort_any ho (by decide)
      rw [List.length_nil] at hso ⊢
      clear d0 y0 y1
      go_wp2_with fail
      with_reducible refine hso.mono ?_
      rintro e w4 ⟨rfl, hx4⟩
      go_wp2_with fail
      go_ret
      exact ⟨P, p, rfl, hxw.trans (hx4 _ (Nat.le_refl _) hx3)⟩
    | some a =>
      clear hrd
      go_wp2_with fail
      all_goals
        refine (cloneG_calls [] _ _ W2 (by decide) Rd.zero).mono ?_
        rintro e w3 ⟨v, rfl, ho, hx3⟩
        obtain ⟨P, p, rfl, hso⟩ := sort_any ho (by decide)
        rw [List.length_nil] at hso ⊢
        clear d0 y0 y1
        go_wp2_with fail
        with_reducible refine hso.mono ?_
        rintro e w4 ⟨rfl, hx4⟩
        go_wp2_with fail
        go_ret
        exact ⟨P, p, rfl, hxw.trans (hx4 _ (Nat.le_refl _) hx3)⟩
  · obtain ⟨b, o, rfl, hb, hc⟩ := hrd (by omega)
    have hfn : f < n := by
      by_cases g : f < t
      · omega
      · have := hz g; omega
    have hcl := cloneG_calls xs (some ⟨b, o + f, none⟩) (ec - f) W2 (by rw [HXL.out]; omega) (by
      rw [HXL.out]
      refine fun _ => ⟨b, o + f, rfl, hb, fun j hj => ?_⟩
      show W2.cell? ⟨b, o + f + j, none⟩ = some (.int .i64 (nth xs j))
      rw [HXN.out j hj, Nat.add_assoc]
      exact hc (f + j) (by omega))
    rw [HXL.out] at hcl
    have CL := Lib.hid hcl
    clear hc hcl
    go_wp2_with fail
    refine CL.out.mono ?_
    rintro e w3 ⟨v, rfl, ho, hx3⟩
    rw [← HXL.out] at ho
    obtain ⟨P, p, rfl, hso⟩ := sort_any ho (by rw [HXL.out]; omega)
    rw [HXL.out] at hso ⊢
    clear d0 y0 y1 ho
    go_wp2_with fail
    with_reducible refine hso.mono ?_
    rintro e w4 ⟨rfl, hx4⟩
    go_wp2_with fail
    go_ret
    exact ⟨P, p, rfl, hxw.trans (hx4 _ (Nat.le_refl _) hx3)⟩
section
variable {wN wD : Int} {nl n m2 : Nat} {ls es : List Int} {cf kf : Int → Int → Nat} {E B D : Option Addr} {ec bc dc : Nat} {R : World → Prop} (h : Ix wN wD nl n m2 ls es cf kf E B D ec bc dc R)
include h
theorem xfind_calls (s : List Int) (hs : signOk s) (hsl : s.length ≤ 17592186044416) (A : Option Addr) (c : Nat) (w : World) (hr : R w) (hA : Rd w A s.length (fun k => .int .i64 (nth s k))) :
    Calls Tryz.prog 19 #[combV wN wD nl n m2 E B D ec bc dc, .slice A s.length c] w (RetSpan (findR cf n m2 ls s) w) := by
  have key := cfind_walk wN wD nl n m2 E B D ec bc dc s A c w R h.ext (fun k => findR cf n m2 ls (s.drop k)) h.n4 hsl hr hA (by rw [List.drop_length]; rfl)
    (fun k => ⟨(findR_le cf n m2 ls _).1, (findR_le cf n m2 ls _).2.1⟩) (fun k => (findR_le cf n m2 ls _).2.2) (fun k hk => by rw [List.drop_zero]; exact findR_drop cf n m2 ls hk) (fun i hi h0 => by rw [List.drop_zero]; exact findR_last cf n m2 ls hi h0)
    (fun i w hi hlt hno hr => by
      rw [findR_step cf n m2 ls hi hlt hno]
      exact longer_calls wN wD nl n m2 ls h.ll h.li cf E B D ec bc dc _ _ (nth s i) w R h.ext h.n4 h.m4 (Nat.le_of_lt hlt) (findR_le cf n m2 ls _).2.1 (hs _ (nth_mem hi)) hr (h.rd w hr) h.cc)
  rw [List.drop_zero] at key
  exact key
set_option maxRecDepth 100000 in
theorem xcount_calls (s : List Int) (hs : signOk s) (hsl : s.length ≤ 17592186044416) (A : Option Addr) (c : Nat) (w : World) (hr : R w) (hA : Rd w A s.length (fun k => .int .i64 (nth s k))) :
    Calls Tryz.prog 10 #[combV wN wD nl n m2 E B D ec bc dc, .slice A s.length c] w fun e w' => e = .returned (.int .i64 (countR cf n m2 ls s : Nat)) ∧ Ext w w' := by
  have cF := fun w hr hA => xfind_calls h s hs hsl A c w hr hA
  obtain ⟨h1, h2, _⟩ := findR_le cf n m2 ls s
  have hl := h.n4
  have hx0 := h.ext
  unfold RetSpan at cF
  unfold countR
  obtain ⟨f, hf⟩ : ∃ f, (findR cf n m2 ls s).1 = f := ⟨_, rfl⟩
  obtain ⟨t, ht⟩ : ∃ t, (findR cf n m2 ls s).2 = t := ⟨_, rfl⟩
  rw [hf, ht] at cF
  rw [hf, ht] at h1
  rw [ht] at h2
  rw [hf, ht]
  have e : ((t - f : Nat) : Int) = (t : Int) - (f : Int) := by omega
  rw [e]
  have CF := Lib.hid cF; have HC := Lib.hid hr; have HR := Lib.hid hA; have HX := Lib.hid hx0
  unfold combV
  clear cF h hr hA hf ht hs hx0
  go_enter Tryz.func10, Tryz.ntmps10
  go_upto_region 1 with fail
  generalize hW : World.alloc w _ = W
  have bq := bk_of hW
  have hx := ext_of_alloc hW
  clear hW
  have c0 := bq.cell 0
  have c1 := bq.cell 1
  have c2 := bq.cell 2
  have c3 := bq.cell 3
  have c4 := bq.cell 4
  clear bq
  go_wp2_with (go_at_call 19; with_reducible refine (CF.out _ (HX.out _ _ hx HC.out) (HR.out.ext hx)).mono ?_; rintro e wn ⟨rfl, hxn⟩)
  go_ret
  exact ⟨rfl, (hx.trans hxn).alloc _⟩
theorem xbefores_calls (s : List Int) (hs : signOk s) (hsl : s.length ≤ 17592186044416) (A : Option Addr) (c : Nat) (w : World) (hr : R w) (hA : Rd w A s.length (fun k => .int .i64 (nth s k))) :
    Calls Tryz.prog 36 #[combV wN wD nl n m2 E B D ec bc dc, .slice A s.length c] w fun e w' => ∃ P p, e = .returned (.slice P (kf (findR cf n m2 ls s).1 (findR cf n m2 ls s).2) p) ∧ Ext w w' :=
  befores_walk wN wD nl n m2 E B D ec bc dc s.length A c w (fun w => R w ∧ Rd w A s.length (fun k => .int .i64 (nth s k))) (fun _ _ hx r => ⟨h.ext _ _ hx r.1, r.2.ext hx⟩) ⟨hr, hA⟩ (findR cf n m2 ls s).1 (findR cf n m2 ls s).2 _
    (fun w r => xfind_calls h s hs hsl A c w r.1 r.2) (fun w r => h.ck _ _ w r.1)
omit h in
set_option maxHeartbeats 2000000 in
set_option maxRecDepth 100000 in
theorem behinds_none (hm : m2 = 0) (L : Nat) (A : Option Addr) (c : Nat) (w : World) :
    Calls Tryz.prog 35 #[combV wN wD nl n m2 E B D ec bc dc, .slice A L c] w (RetInts [] w) := by
  unfold combV
  subst hm
  go_enter Tryz.func35, Tryz.ntmps35
  go_wp2_with fail
  generalize hW : World.alloc w _ = W
  have bq := bk_of hW
  have hx := ext_of_alloc hW
  clear hW
  have c2 := bq.cell 4
  go_wp2_with fail
  clear c2
  go_loopw [11, 5] (fun vi v5 wr => vi = .int .i64 0 ∧ v5 = .slice none 0 0 ∧ wr = W) (fun _ _ _ => 0)
  case atStart => exact ⟨rfl, rfl, rfl⟩
  case round => as_aux_lemma =>
    obtain ⟨rfl, rfl, rfl⟩ := hrel
    go_wp2_with fail
    go_ret
    exact ⟨none, 0, rfl, fun _ => rfl, Rd.zero, hx⟩
omit h in
theorem snoc_ok {s : List Int} (hs : signOk s) {k : Nat} (hk : k ≤ 1048576) : signOk (s ++ [(k : Int)]) := fun x hx => by
  rcases List.mem_append.1 hx with q | q
  · exact hs x q
  · rw [List.mem_singleton.1 q]; omega
theorem xbehinds_calls (s : List Int) (hs : signOk s) (hsl : s.length ≤ 1000) (A : Option Addr) (c : Nat) (w : World) (hr : R w) (hA : Rd w A s.length (fun k => .int .i64 (nth s k))) :
    Calls Tryz.prog 35 #[combV wN wD nl n m2 E B D ec bc dc, .slice A s.length c] w (RetInts (selN (fun k => countR cf n m2 ls (s ++ [(k : Int)])) (m2 - 1)) w) := by
  have h4 := h.m4
  by_cases hm : m2 = 0
  · have e : selN (fun k => countR cf n m2 ls (s ++ [(k : Int)])) (m2 - 1) = [] := by rw [hm]; rfl
    rw [e]
    exact behinds_none hm s.length A c w
  · refine behinds_walk wN wD nl n m2 E B D ec bc dc s A c w R h.ext (by omega) h4 hsl _ (fun k => Nat.le_trans (countR_le cf n m2 ls _) h.n4) hr hA fun k P p w hk hr hP => ?_
    have e : (s ++ [(k : Int)]).length = s.length + 1 := by rw [List.length_append]; rfl
    rw [← e] at hP ⊢
    exact xcount_calls h _ (snoc_ok hs (by omega)) (by rw [e]; omega) P p w hr hP
theorem xplaces_calls (s : List Int) (hs : signOk s) (hsl : s.length ≤ 17592186044416) (A : Option Addr) (c : Nat) (w : World) (hr : R w) (hA : Rd w A s.length (fun k => .int .i64 (nth s k))) :
    Calls Tryz.prog 11 #[combV wN wD nl n m2 E B D ec bc dc, .slice A s.length c] w fun e w' => ∃ A c, e = .returned (.slice A (countR cf n m2 ls s) c) ∧ Ext w w' := by
  have cF := fun w hr hA => xfind_calls h s hs hsl A c w hr hA
  obtain ⟨h1, h2, h3⟩ := findR_le cf n m2 ls s
  have hl := h.n4
  have hx0 := h.ext
  have hre := fun w r => h.re w r
  have hen := h.en
  have hce := h.ce
  have hle := h.le
  unfold RetSpan at cF
  unfold countR
  obtain ⟨f, hf⟩ : ∃ f, (findR cf n m2 ls s).1 = f := ⟨_, rfl⟩
  obtain ⟨t, ht⟩ : ∃ t, (findR cf n m2 ls s).2 = t := ⟨_, rfl⟩
  have h4 : ¬ f < t → f = 0 ∧ t = 0 := fun q => by
    have := h3 (by rw [hf, ht]; exact q)
    rw [this] at hf ht
    exact ⟨hf.symm, ht.symm⟩
  rw [hf, ht] at cF
  rw [hf, ht] at h1
  rw [ht] at h2
  rw [hf, ht]
  clear h3 hf ht hs h
  exact xplaces_walk wN wD nl n m2 es E B D ec bc dc s.length A c w (fun w => R w ∧ Rd w A s.length (fun k => .int .i64 (nth s k))) (fun _ _ hx r => ⟨hx0 _ _ hx r.1, r.2.ext hx⟩) ⟨hr, hA⟩ f t hle hl hce hen h1 h2 h4 (fun w r => hre w r.1) (fun w r => cF w r.1 r.2)
omit h in
theorem selN_lt (cn : Nat → Nat) (N k : Nat) : nth (selN cn N) k ≤ N := by
  by_cases hk : k < (selN cn N).length
  · have := (List.mem_filter.1 (nth_mem hk)).1
    exact Nat.le_of_lt (List.mem_range.1 this)
  · rw [nth_ge (by omega)]; exact Nat.zero_le _
/-- How much signs weigh behind others. -/
def weighR (cf kf : Int → Int → Nat) (n m2 : Nat) (ls s : List Int) (longest : Bool) (sign : Int) : Nat × Nat × Nat :=
  wR (selN (fun k => countR cf n m2 ls (s ++ [(k : Int)])) (m2 - 1)) (fun x => if longest then countR cf n m2 ls (s ++ [(x : Int)]) else kf (findR cf n m2 ls (s ++ [(x : Int)])).1 (findR cf n m2 ls (s ++ [(x : Int)])).2) sign
    (selN (fun k => countR cf n m2 ls (s ++ [(k : Int)])) (m2 - 1)).length
theorem nv_le (s : List Int) (longest : Bool) (x : Nat) : (if longest then countR cf n m2 ls (s ++ [(x : Int)]) else kf (findR cf n m2 ls (s ++ [(x : Int)])).1 (findR cf n m2 ls (s ++ [(x : Int)])).2) ≤ 1048576 := by
  have h1 := countR_le cf n m2 ls (s ++ [(x : Int)])
  have h2 := h.kb (findR cf n m2 ls (s ++ [(x : Int)])).1 (findR cf n m2 ls (s ++ [(x : Int)])).2
  have h3 := h.n4
  split <;> omega
theorem sel_len (s : List Int) : (selN (fun k => countR cf n m2 ls (s ++ [(k : Int)])) (m2 - 1)).length ≤ 1048576 := by
  have := selN_le (fun k => countR cf n m2 ls (s ++ [(k : Int)])) (m2 - 1)
  have := h.m4
  omega
theorem weighR_le (s : List Int) (longest : Bool) (sign : Int) : (weighR cf kf n m2 ls s longest sign).1 ≤ 1048576 ∧ (weighR cf kf n m2 ls s longest sign).2.1 ≤ 1099511627776 ∧ (weighR cf kf n m2 ls s longest sign).2.2 ≤ 1048576 := by
  have h1 := wR_le (selN (fun k => countR cf n m2 ls (s ++ [(k : Int)])) (m2 - 1)) _ sign 1048576 (nv_le h s longest) (selN (fun k => countR cf n m2 ls (s ++ [(k : Int)])) (m2 - 1)).length
  have h2 := sel_len h s
  unfold weighR
  rw [Nat.min_self] at h1
  have h3 := Nat.mul_le_mul_right 1048576 h2
  exact ⟨h1.1, by omega, by omega⟩
theorem xweigh_calls (s : List Int) (hs : signOk s) (hsl : s.length ≤ 1000) (A : Option Addr) (c : Nat) (hA0 : A = none → c = 0) (sign : Int) (longest : Bool) (w : World) (hr : R w) (hA : Rd w A s.length (fun k => .int .i64 (nth s k))) :
    Calls Tryz.prog 23 #[combV wN wD nl n m2 E B D ec bc dc, .slice A s.length c, .int .i64 sign, .bool longest] w fun e w' => e = .returned (.tuple #[.int .i64 ((weighR cf kf n m2 ls s longest sign).1 : Nat), .int .i64 ((weighR cf kf n m2 ls s longest sign).2.1 : Nat), .int .i64 ((weighR cf kf n m2 ls s longest sign).2.2 : Nat)]) ∧ Ext w w' := by
  have h4 := h.m4
  have hn4 := h.n4
  have hw := fun i => wR_le (selN (fun k => countR cf n m2 ls (s ++ [(k : Int)])) (m2 - 1)) _ sign 1048576 (nv_le h s longest) i
  have hl := sel_len h s
  have happ : ∀ k : Nat, (s ++ [(k : Int)]).length = s.length + 1 := fun k => by rw [List.length_append]; rfl
  refine weigh_walk wN wD nl n m2 E B D ec bc dc s A c sign longest w R h.ext hr hsl hA0 hA (selN (fun k => countR cf n m2 ls (s ++ [(k : Int)])) (m2 - 1)) _ rfl hl (fun k _ => Nat.le_trans (selN_lt _ _ k) (by omega))
    (fun x => countR cf n m2 ls (s ++ [(x : Int)])) (fun x => kf (findR cf n m2 ls (s ++ [(x : Int)])).1 (findR cf n m2 ls (s ++ [(x : Int)])).2) _ (fun _ => rfl) (fun x => Nat.le_trans (countR_le cf n m2 ls _) hn4) (fun x => Nat.le_trans (h.kb _ _) (by omega))
    (fun i => (wR (selN (fun k => countR cf n m2 ls (s ++ [(k : Int)])) (m2 - 1)) _ sign i).1) (fun i => (wR (selN (fun k => countR cf n m2 ls (s ++ [(k : Int)])) (m2 - 1)) _ sign i).2.1) (fun i => (wR (selN (fun k => countR cf n m2 ls (s ++ [(k : Int)])) (m2 - 1)) _ sign i).2.2) rfl rfl rfl ?_ ?_ ?_ ?_ ?_ ?_ ?_
  · intro i
    have h1 := (hw i).2.1
    have h2 := Nat.mul_le_mul_right 1048576 (show min i (selN (fun k => countR cf n m2 ls (s ++ [(k : Int)])) (m2 - 1)).length ≤ 1048576 by omega)
    exact Nat.le_trans h1 (by omega)
  · intro i _ h0
    try dsimp only
    rw [wR, if_pos h0]
    exact ⟨rfl, rfl, rfl⟩
  · intro i _ h0
    try dsimp only
    rw [wR, if_neg h0]
    exact ⟨rfl, rfl, rfl⟩
  · intro i
    have h1 := (hw i).2.2
    exact Nat.le_trans h1 (by omega)
  · intro w hr hA
    exact xbehinds_calls h s hs hsl A c w hr hA
  · intro k P p w hk hr hP
    rw [← happ k] at hP ⊢
    exact xcount_calls h _ (snoc_ok hs hk) (by rw [happ]; omega) P p w hr hP
  · intro k P p w hk hr hP
    rw [← happ k] at hP ⊢
    exact xbefores_calls h _ (snoc_ok hs hk) (by rw [happ]; omega) P p w hr hP
end
end Go.Proofs.YtjfdlibceldanacGreatDoor.Raw
