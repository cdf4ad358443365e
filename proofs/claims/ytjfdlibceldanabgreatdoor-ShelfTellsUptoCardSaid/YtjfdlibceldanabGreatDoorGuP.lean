/- guess: tidy, Add, Times: walks. -/
import Derived.Test.YtjfdlibceldanabGreatDoorGuWe
namespace Go.Proofs.YtjfdlibceldanabGreatDoor
open Go.RowKit Go.Sort En Wv Gu Ri

def RetPart (p : Nat × Nat) (w : World) (e : Ending) (w' : World) : Prop := e = .returned (.agg #[.int .i64 p.1, .int .i64 p.2]) ∧ Ext w w'
theorem bk2G {w : World} {B : Nat} {T : TypeId} {a0 a1 v0 v1 : Value} (h : Bk w B T #[a0, a1]) : Bk ((w.setCell ⟨B, 0, none⟩ v0).setCell ⟨B, 1, none⟩ v1) B T #[v0, v1] := (h.set 0 v0).set 1 v1
theorem ext2G {a w : World} {B : Nat} (hx : Ext a w) (hb : a.heap.size ≤ B) (v0 v1 : Value) : Ext a ((w.setCell ⟨B, 0, none⟩ v0).setCell ⟨B, 1, none⟩ v1) :=
  (hx.setCell (p := ⟨B, 0, none⟩) hb v0).setCell (p := ⟨B, 1, none⟩) hb v1
theorem mod_cast' (a b : Nat) : Int.tmod (a : Int) (b : Int) = ((a % b : Nat) : Int) := (Int.ofNat_tmod a b).symm
theorem div_cast' (a b : Nat) : Int.tdiv (a : Int) (b : Int) = ((a / b : Nat) : Int) := (Int.ofNat_tdiv a b).symm

set_option maxHeartbeats 4000000 in
set_option maxRecDepth 100000 in
theorem tidy_calls (n d : Nat) (hd : 0 < d) (hn : n < 9223372036854775807) (hd2 : d < 9223372036854775807) (w : World) :
    Calls Tryz.prog 41 #[.int .i64 n, .int .i64 d] w (RetPart (partF n d) w) := by
  have hpt : partF n d = (n / Nat.gcd n d, d / Nat.gcd n d) := rfl
  obtain ⟨g, hg⟩ : ∃ g, Nat.gcd n d = g := ⟨_, rfl⟩
  have hg0 : 0 < g := by rw [← hg]; exact Nat.gcd_pos_of_pos_right _ hd
  rw [hpt, hg]
  have HG := Lib.hid hg
  have hq1 := div_cast' n g
  have hq2 := div_cast' d g
  have hgd : g ≤ d := by rw [← hg]; exact Nat.gcd_le_right _ hd
  have hl1 : n / g ≤ n := Nat.div_le_self _ _
  have hl2 : d / g ≤ d := Nat.div_le_self _ _
  obtain ⟨N, hN⟩ : ∃ N, n / g = N := ⟨_, rfl⟩
  obtain ⟨D, hD⟩ : ∃ D, d / g = D := ⟨_, rfl⟩
  rw [hN] at hq1 hl1 ⊢
  rw [hD] at hq2 hl2 ⊢
  have hwN : IntKind.i64.wrap (N : Int) = (N : Int) := IntWalk.i64_in _ (by omega)
  have hwD : IntKind.i64.wrap (D : Int) = (D : Int) := IntWalk.i64_in _ (by omega)
  clear hpt hg hN hD
  go_enter Tryz.func41, Tryz.ntmps41
  go_upto_region 1 with fail
  generalize hW : World.alloc w _ = W
  have bx := bk_of hW
  have hx := ext_of_alloc hW
  have hBw : w.heap.size ≤ w.heap.size := Nat.le_refl _
  generalize hB : w.heap.size = B at *
  rw [← hB] at hBw
  have hBw : w.heap.size ≤ B := by omega
  have BX := Lib.hid bx
  clear hW bx
  go_wp2_with fail
  go_loopw [5, 6] (fun va vb wr => ∃ a b : Nat, va = .int .i64 a ∧ vb = .int .i64 b ∧ Hid (Nat.gcd a b = g) ∧ a ≤ 9223372036854775806 ∧ b ≤ 9223372036854775806 ∧ Ext W wr) (fun _ vb _ => (intOf vb).toNat)
  case atStart => exact ⟨n, d, rfl, rfl, HG, by omega, by omega, Ext.refl _⟩
  case round => as_aux_lemma =>
    obtain ⟨a, b, rfl, rfl, HGab, ha, hb, hxr⟩ := hrel
    by_cases h : b = 0
    · subst h
      have hag : a = g := by have := HGab.out; rwa [Nat.gcd_zero_right] at this
      subst hag
      have ga : (((a : Nat) : Int) == 0) = false := by simp; omega
      have ga1 : ¬ ((a : Nat) : Int) = 0 := by omega
      have ga2 : ¬ a = 0 := by omega
      have ga3 : decide (((a : Nat) : Int) = 0) = false := by simp; omega
      have bx := BX.out.ext hxr
      have x0 := bx.cell 0
      have x1 := bx.cell 1
      have f0 := bx.frozen 0
      have f1 := bx.frozen 1
      have BF := Lib.hid (bk2G (v0 := .int .i64 N) (v1 := .int .i64 D) bx)
      go_wp2_with fail
      have hcur : Ext wr wr.drew := (Ext.refl wr).drew
      go_region_held3 (fun w' => True) (first | trivial | go_keep) (fail)
      all_goals
        have HXF := Lib.hid (ext2G (B := B) (hx.trans hxr) hBw (.int .i64 N) (.int .i64 D))
        clear x0 x1 f0 f1 bx hcur
        have bF := BF.out
        have hxF := HXF.out
        clear BF HXF
        generalize (wr.setCell _ _).setCell _ _ = wF at *
        go_wp2_with fail
        have z0 : wF.drew.cell? ⟨B, 0, none⟩ = some (.int .i64 N) := bF.cell 0
        have z1 : wF.drew.cell? ⟨B, 1, none⟩ = some (.int .i64 D) := bF.cell 1
        exact bodyPost_ret (v := .agg #[.int .i64 N, .int .i64 D]) (by simp [results, Tryz.results41, go_sem, z0, z1]) rfl ⟨rfl, hxF.drew⟩
    · have hb' : (((b : Nat) : Int) != 0) = true := by simp; omega
      have hb'' : (((b : Nat) : Int) == 0) = false := by simp; omega
      have hm := mod_cast' a b
      have hlt : a % b < b := Nat.mod_lt _ (by omega)
      have hgg : Nat.gcd b (a % b) = g := by rw [← HGab.out, Nat.gcd_comm a b, Nat.gcd_rec b a, Nat.gcd_comm]
      obtain ⟨r, hr⟩ : ∃ r, a % b = r := ⟨_, rfl⟩
      rw [hr] at hm hlt hgg
      go_wp2_with fail
      go_quiet (fail)
      go_wp2_with fail
      refine ⟨⟨b, r, rfl, rfl, hgg, hb, by omega, hxr.drewN _⟩, by simp [intOf]; omega⟩

theorem mul_wrap {x y z : Nat} (h : x * y = z) (hz : z < 9223372036854775807) : IntKind.i64.wrap ((x : Int) * y) = (z : Int) := by
  have e : (x : Int) * y = (z : Int) := by rw [← h]; exact (Int.natCast_mul x y).symm
  rw [e]; exact IntWalk.i64_in _ (by omega)
set_option maxHeartbeats 4000000 in
set_option maxRecDepth 100000 in
theorem gadd_calls (a b : Nat × Nat) (h1 : a.1 * b.2 + b.1 * a.2 < 9223372036854775807) (h2 : a.2 * b.2 < 9223372036854775807) (h3 : 0 < a.2 * b.2) (w : World) :
    Calls Tryz.prog 24 #[.agg #[.int .i64 a.1, .int .i64 a.2], .agg #[.int .i64 b.1, .int .i64 b.2]] w (RetPart (addF a b) w) := by
  have ct := fun w => tidy_calls (a.1 * b.2 + b.1 * a.2) (a.2 * b.2) h3 h1 h2 w
  have hp : addF a b = partF (a.1 * b.2 + b.1 * a.2) (a.2 * b.2) := rfl
  obtain ⟨a1, a2⟩ := a
  obtain ⟨b1, b2⟩ := b
  dsimp only at *
  obtain ⟨p1, hp1⟩ : ∃ p1, a1 * b2 = p1 := ⟨_, rfl⟩
  obtain ⟨p2, hp2⟩ : ∃ p2, b1 * a2 = p2 := ⟨_, rfl⟩
  obtain ⟨q, hq⟩ : ∃ q, a2 * b2 = q := ⟨_, rfl⟩
  rw [hp1, hp2, hq] at ct hp
  rw [hp1, hp2] at h1
  rw [hq] at h2
  have w1 := mul_wrap hp1 (by omega)
  have w2 := mul_wrap hp2 (by omega)
  have w3 := mul_wrap hq h2
  have w4 : IntKind.i64.wrap ((p1 : Int) + p2) = ((p1 + p2 : Nat) : Int) := by rw [IntWalk.i64_in _ (by omega)]; omega
  rw [hp]
  obtain ⟨S, hS⟩ : ∃ S, p1 + p2 = S := ⟨_, rfl⟩
  rw [hS] at ct w4 ⊢
  obtain ⟨R, hR⟩ : ∃ R, partF S q = R := ⟨_, rfl⟩
  rw [hR] at ct ⊢
  unfold RetPart at ct
  have CT := Lib.hid ct
  clear ct hp hp1 hp2 hq hR
  go_enter Tryz.func24, Tryz.ntmps24
  go_upto_region 1 with fail
  generalize hW1 : World.alloc w _ = W1
  have hs1 : W1.heap.size = w.heap.size + 1 := by rw [← hW1]; simp
  have ba := bk_of hW1
  have hx1 := ext_of_alloc hW1
  generalize hW2 : World.alloc W1 _ = W2
  have hs2 : W2.heap.size = w.heap.size + 1 + 1 := by rw [← hW2]; simp [hs1]
  have bb := bk_of hW2
  rw [hs1] at bb
  have hx2 := ext_of_alloc hW2
  generalize hW3 : World.alloc W2 _ = W3
  have br := bk_of hW3
  rw [hs2] at br
  have hx3 := ext_of_alloc hW3
  have ba3 := ba.ext (hx2.trans hx3)
  have bb3 := bb.ext hx3
  have hx := (hx1.trans hx2).trans hx3
  clear hW1 hW2 hW3 hs1 hs2 ba bb hx1 hx2 hx3
  have hB : w.heap.size ≤ w.heap.size + 1 + 1 := by omega
  have BR := Lib.hid br
  have x0 := ba3.cell 0
  have x1 := ba3.cell 1
  have y0 := bb3.cell 0
  have y1 := bb3.cell 1
  go_wp2_with fail
  with_reducible refine (CT.out W3).mono ?_
  rintro e wn ⟨rfl, hxn⟩
  have bn := BR.out.ext hxn
  have f0 := bn.frozen 0
  have f1 := bn.frozen 1
  have z0 := bn.cell 0
  have z1 := bn.cell 1
  have BF := Lib.hid (bk2G (v0 := .int .i64 R.1) (v1 := .int .i64 R.2) bn)
  have HXF := Lib.hid (ext2G (B := w.heap.size + 1 + 1) (hx.trans hxn) hB (.int .i64 R.1) (.int .i64 R.2))
  clear x0 x1 y0 y1 bn
  go_wp2_with fail
  clear z0 z1 f0 f1
  have bF := BF.out
  have hxF := HXF.out
  generalize (wn.setCell _ _).setCell _ _ = wF at *
  have z0 := bF.cell 0
  have z1 := bF.cell 1
  exact bodyPost_ret (v := .agg #[.int .i64 R.1, .int .i64 R.2]) (by simp [results, Tryz.results24, go_sem, z0, z1]) rfl ⟨rfl, hxF⟩
set_option maxHeartbeats 4000000 in
set_option maxRecDepth 100000 in
theorem gtimes_calls (a b : Nat × Nat) (h1 : a.1 * b.1 < 9223372036854775807) (h2 : a.2 * b.2 < 9223372036854775807) (h3 : 0 < a.2 * b.2) (w : World) :
    Calls Tryz.prog 60 #[.agg #[.int .i64 a.1, .int .i64 a.2], .agg #[.int .i64 b.1, .int .i64 b.2]] w (RetPart (timesF a b) w) := by
  have ct := fun w => tidy_calls (a.1 * b.1) (a.2 * b.2) h3 h1 h2 w
  have hp : timesF a b = partF (a.1 * b.1) (a.2 * b.2) := rfl
  obtain ⟨a1, a2⟩ := a
  obtain ⟨b1, b2⟩ := b
  dsimp only at *
  obtain ⟨p1, hp1⟩ : ∃ p1, a1 * b1 = p1 := ⟨_, rfl⟩
  obtain ⟨q, hq⟩ : ∃ q, a2 * b2 = q := ⟨_, rfl⟩
  rw [hp1, hq] at ct hp
  rw [hp1] at h1
  rw [hq] at h2
  have w1 := mul_wrap hp1 (by omega)
  have w3 := mul_wrap hq h2
  rw [hp]
  obtain ⟨R, hR⟩ : ∃ R, partF p1 q = R := ⟨_, rfl⟩
  rw [hR] at ct ⊢
  unfold RetPart at ct
  have CT := Lib.hid ct
  clear ct hp hp1 hq hR
  go_enter Tryz.func60, Tryz.ntmps60
  go_upto_region 1 with fail
  generalize hW1 : World.alloc w _ = W1
  have hs1 : W1.heap.size = w.heap.size + 1 := by rw [← hW1]; simp
  have ba := bk_of hW1
  have hx1 := ext_of_alloc hW1
  generalize hW2 : World.alloc W1 _ = W2
  have hs2 : W2.heap.size = w.heap.size + 1 + 1 := by rw [← hW2]; simp [hs1]
  have bb := bk_of hW2
  rw [hs1] at bb
  have hx2 := ext_of_alloc hW2
  generalize hW3 : World.alloc W2 _ = W3
  have br := bk_of hW3
  rw [hs2] at br
  have hx3 := ext_of_alloc hW3
  have ba3 := ba.ext (hx2.trans hx3)
  have bb3 := bb.ext hx3
  have hx := (hx1.trans hx2).trans hx3
  clear hW1 hW2 hW3 hs1 hs2 ba bb hx1 hx2 hx3
  have hB : w.heap.size ≤ w.heap.size + 1 + 1 := by omega
  have BR := Lib.hid br
  have x0 := ba3.cell 0
  have x1 := ba3.cell 1
  have y0 := bb3.cell 0
  have y1 := bb3.cell 1
  go_wp2_with fail
  with_reducible refine (CT.out W3).mono ?_
  rintro e wn ⟨rfl, hxn⟩
  have bn := BR.out.ext hxn
  have f0 := bn.frozen 0
  have f1 := bn.frozen 1
  have z0 := bn.cell 0
  have z1 := bn.cell 1
  have BF := Lib.hid (bk2G (v0 := .int .i64 R.1) (v1 := .int .i64 R.2) bn)
  have HXF := Lib.hid (ext2G (B := w.heap.size + 1 + 1) (hx.trans hxn) hB (.int .i64 R.1) (.int .i64 R.2))
  clear x0 x1 y0 y1 bn
  go_wp2_with fail
  clear z0 z1 f0 f1
  have bF := BF.out
  have hxF := HXF.out
  generalize (wn.setCell _ _).setCell _ _ = wF at *
  have z0 := bF.cell 0
  have z1 := bF.cell 1
  exact bodyPost_ret (v := .agg #[.int .i64 R.1, .int .i64 R.2]) (by simp [results, Tryz.results60, go_sem, z0, z1]) rfl ⟨rfl, hxF⟩
set_option maxHeartbeats 2000000 in
set_option maxRecDepth 100000 in
theorem gsigns_calls (n m2 : Nat) (E B D : Option Addr) (ec bc dc : Nat) (hm : 2 ≤ m2) (hm2 : m2 ≤ 4096) (w : World) :
    Calls Tryz.prog 58 #[combV n m2 E B D ec bc dc] w fun e w' => e = .returned (.int .i64 ((m2 - 2 : Nat) : Int)) ∧ Ext w w' := by
  have e1 : ((m2 - 2 : Nat) : Int) = (m2 : Int) - 2 := by omega
  have hw : IntKind.i64.wrap ((m2 : Int) - 2) = (m2 : Int) - 2 := IntWalk.i64_in _ (by omega)
  rw [e1]
  unfold combV
  clear e1
  go_enter Tryz.func58, Tryz.ntmps58
  go_wp2_with fail
  go_ret
  exact ⟨rfl, (Ext.refl w).alloc _⟩
end Go.Proofs.YtjfdlibceldanabGreatDoor
