/- The document's own gcd, part, SumOf, TimesOf: walks. The document's own likely and LikelyOf: walks. -/
import Derived.Test.YtjfdlibceldanabGreatDoorGuA
import Derived.Test.YtjfdlibceldanabGreatDoorRfA
import Derived.Test.YtjfdlibceldanabGreatDoorOrd
/-! The document's own gcd, part, SumOf, TimesOf: walks. -/
namespace Go.Proofs.YtjfdlibceldanabGreatDoor
open Go.RowKit Go.Sort En Wv Gu Ri

set_option maxHeartbeats 4000000 in
set_option maxRecDepth 100000 in
theorem rgcd_calls (n d : Nat) (hd : 0 < d) (hn : n < 9223372036854775807) (hd2 : d < 9223372036854775807) (w : World) :
    Calls Tryz.prog 100 #[.int .i64 n, .int .i64 d] w fun e w' => e = .returned (.int .i64 (Nat.gcd n d : Nat)) ∧ Ext w w' := by
  obtain ⟨g, hg⟩ : ∃ g, Nat.gcd n d = g := ⟨_, rfl⟩
  rw [hg]
  have HG := Lib.hid hg
  clear hg
  go_enter Tryz.func100, Tryz.ntmps100
  go_wp2_with fail
  go_loopw [0, 1] (fun va vb wr => ∃ a b : Nat, va = .int .i64 a ∧ vb = .int .i64 b ∧ Hid (Nat.gcd a b = g) ∧ 0 < b ∧ a ≤ 9223372036854775806 ∧ b ≤ 9223372036854775806 ∧ Ext w wr) (fun _ vb _ => (intOf vb).toNat)
  case atStart => exact ⟨n, d, rfl, rfl, HG, hd, by omega, by omega, Ext.refl _⟩
  case round => as_aux_lemma =>
    obtain ⟨a, b, rfl, rfl, HGab, hb0, ha, hb, hxr⟩ := hrel
    have hm := mod_cast' a b
    have hlt : a % b < b := Nat.mod_lt _ hb0
    have hgg : Nat.gcd b (a % b) = g := by rw [← HGab.out, Nat.gcd_comm a b, Nat.gcd_rec b a, Nat.gcd_comm]
    have hb'' : (((b : Nat) : Int) == 0) = false := by simp; omega
    obtain ⟨r, hr⟩ : ∃ r, a % b = r := ⟨_, rfl⟩
    rw [hr] at hm hlt hgg
    have HGG := Lib.hid hgg
    clear hgg hr
    by_cases h : r = 0
    · subst h
      have hbg : b = g := by have := HGG.out; rwa [Nat.gcd_zero_right] at this
      subst hbg
      go_wp2_with fail
      go_ret
      exact ⟨rfl, hxr⟩
    · have hr' : (((r : Nat) : Int) != 0) = true := by simp; omega
      go_wp2_with fail
      go_quiet (fail)
      go_wp2_with fail
      refine ⟨⟨b, r, rfl, rfl, HGG, by omega, hb, by omega, hxr.drewN _⟩, by simp [intOf]; omega⟩
theorem partF_zero {d : Nat} (hd : 0 < d) : partF 0 d = (0, 1) := by
  unfold partF
  rw [Nat.gcd_zero_left, Nat.zero_div, Nat.div_self hd]
set_option maxHeartbeats 4000000 in
set_option maxRecDepth 100000 in
theorem rpart_calls (n d : Nat) (hd : 0 < d) (hn : n < 9223372036854775807) (hd2 : d < 9223372036854775807) (w : World) :
    Calls Tryz.prog 66 #[.int .i64 n, .int .i64 d] w (RetPart (partF n d) w) := by
  by_cases h0 : n = 0
  · subst h0
    rw [partF_zero hd]
    go_enter Tryz.func66, Tryz.ntmps66
    go_upto_region 1 with fail
    generalize hW : World.alloc w _ = W
    have bx := bk_of hW
    have hx := ext_of_alloc hW
    obtain ⟨B, hB⟩ : ∃ B, w.heap.size = B := ⟨_, rfl⟩
    have hBw : w.heap.size ≤ B := by omega
    rw [hB] at bx
    simp only [hB]
    clear hW hB
    have x0 := bx.cell 0
    have x1 := bx.cell 1
    have f0 := bx.frozen 0
    have f1 := bx.frozen 1
    have BF := Lib.hid (bk2G (v0 := .int .i64 0) (v1 := .int .i64 1) bx)
    have HXF := Lib.hid (ext2G (B := B) hx hBw (.int .i64 0) (.int .i64 1))
    clear bx
    go_wp2_with fail
    clear x0 x1 f0 f1
    have bF := BF.out
    have hxF := HXF.out
    generalize (W.setCell _ _).setCell _ _ = wF at *
    have z0 := bF.cell 0
    have z1 := bF.cell 1
    exact bodyPost_ret (v := .agg #[.int .i64 0, .int .i64 1]) (by simp [results, Tryz.results66, go_sem, z0, z1]) rfl ⟨rfl, hxF⟩
  · have hpt : partF n d = (n / Nat.gcd n d, d / Nat.gcd n d) := rfl
    have cg := fun w => rgcd_calls n d hd hn hd2 w
    obtain ⟨g, hg⟩ : ∃ g, Nat.gcd n d = g := ⟨_, rfl⟩
    have hg0 : 0 < g := by rw [← hg]; exact Nat.gcd_pos_of_pos_right _ hd
    rw [hpt, hg]
    rw [hg] at cg
    have hq1 := div_cast' n g
    have hq2 := div_cast' d g
    have hl1 : n / g ≤ n := Nat.div_le_self _ _
    have hl2 : d / g ≤ d := Nat.div_le_self _ _
    obtain ⟨N, hN⟩ : ∃ N, n / g = N := ⟨_, rfl⟩
    obtain ⟨D, hD⟩ : ∃ D, d / g = D := ⟨_, rfl⟩
    rw [hN] at hq1 hl1 ⊢
    rw [hD] at hq2 hl2 ⊢
    have hwN : IntKind.i64.wrap (N : Int) = (N : Int) := IntWalk.i64_in _ (by omega)
    have hwD : IntKind.i64.wrap (D : Int) = (D : Int) := IntWalk.i64_in _ (by omega)
    have h0' : (((n : Nat) : Int) == 0) = false := by simp; omega
    have ga : (((g : Nat) : Int) == 0) = false := by simp; omega
    have ga1 : ¬ ((g : Nat) : Int) = 0 := by omega
    have ga2 : ¬ g = 0 := by omega
    have ga3 : decide (((g : Nat) : Int) = 0) = false := by simp; omega
    have CG := Lib.hid cg
    clear hpt hg hN hD cg h0
    go_enter Tryz.func66, Tryz.ntmps66
    go_upto_region 1 with fail
    generalize hW : World.alloc w _ = W
    have bx := bk_of hW
    have hx := ext_of_alloc hW
    obtain ⟨B, hB⟩ : ∃ B, w.heap.size = B := ⟨_, rfl⟩
    have hBw : w.heap.size ≤ B := by omega
    rw [hB] at bx
    simp only [hB]
    clear hW hB
    go_wp2_with fail
    with_reducible refine (CG.out W).mono ?_
    rintro e wr ⟨rfl, hxr⟩
    have bx2 := bx.ext hxr
    have x0 := bx2.cell 0
    have x1 := bx2.cell 1
    have f0 := bx2.frozen 0
    have f1 := bx2.frozen 1
    have BF := Lib.hid (bk2G (v0 := .int .i64 N) (v1 := .int .i64 D) bx2)
    go_wp2_with fail
    have hcur : Ext wr wr.drew := (Ext.refl wr).drew
    go_region_held3 (fun w' => True) (first | trivial | go_keep) (fail)
    all_goals
      have HXF := Lib.hid (ext2G (B := B) (hx.trans hxr) hBw (.int .i64 N) (.int .i64 D))
      clear x0 x1 f0 f1 bx hcur bx2
      have bF := BF.out
      have hxF := HXF.out
      clear BF HXF
      generalize (wr.setCell _ _).setCell _ _ = wF at *
      go_wp2_with fail
      have z0 : wF.drew.cell? ⟨B, 0, none⟩ = some (.int .i64 N) := bF.cell 0
      have z1 : wF.drew.cell? ⟨B, 1, none⟩ = some (.int .i64 D) := bF.cell 1
      exact bodyPost_ret (v := .agg #[.int .i64 N, .int .i64 D]) (by simp [results, Tryz.results66, go_sem, z0, z1]) rfl ⟨rfl, hxF.drew⟩
set_option maxHeartbeats 4000000 in
set_option maxRecDepth 100000 in
theorem rsum_calls (a b : Nat × Nat) (h1 : a.1 * b.2 + b.1 * a.2 < 9223372036854775807) (h2 : a.2 * b.2 < 9223372036854775807) (h3 : 0 < a.2 * b.2) (w : World) :
    Calls Tryz.prog 65 #[.agg #[.int .i64 a.1, .int .i64 a.2], .agg #[.int .i64 b.1, .int .i64 b.2]] w (RetPart (addF a b) w) := by
  have ct := fun w => rpart_calls (a.1 * b.2 + b.1 * a.2) (a.2 * b.2) h3 h1 h2 w
  have hp : addF a b = partF (a.1 * b.2 + b.1 * a.2) (a.2 * b.2) := rfl
  obtain ⟨a1, a2⟩ := a
  obtain ⟨b1, b2⟩ := b
  dsimp only at *
  obtain ⟨p1, hp1⟩ : ∃ p1, a1 * b2 = p1 := ⟨_, rfl⟩
  obtain ⟨p2, hp2⟩ : ∃ p2, b1 * a2 = p2 := ⟨_, rfl⟩
  obtain ⟨q, hq⟩ : ∃ q, a2 * b2 = q := ⟨_, rfl⟩
  rw [hp1, hp2, hq] at ct hp
  rw [hp1, hp2] at h1
  rw [hq] at h2
  have w1 := mul_wrap hp1 (by omega)
  have w2 := mul_wrap hp2 (by omega)
  have w3 := mul_wrap hq h2
  have w4 : IntKind.i64.wrap ((p1 : Int) + p2) = ((p1 + p2 : Nat) : Int) := by rw [IntWalk.i64_in _ (by omega)]; omega
  rw [hp]
  obtain ⟨S, hS⟩ : ∃ S, p1 + p2 = S := ⟨_, rfl⟩
  rw [hS] at ct w4 ⊢
  obtain ⟨R, hR⟩ : ∃ R, partF S q = R := ⟨_, rfl⟩
  rw [hR] at ct ⊢
  unfold RetPart at ct
  have CT := Lib.hid ct
  clear ct hp hp1 hp2 hq hR
  go_enter Tryz.func65, Tryz.ntmps65
  go_upto_region 1 with fail
  generalize hW1 : World.alloc w _ = W1
  have hs1 : W1.heap.size = w.heap.size + 1 := by rw [← hW1]; simp
  have ba := bk_of hW1
  have hx1 := ext_of_alloc hW1
  generalize hW2 : World.alloc W1 _ = W2
  have hs2 : W2.heap.size = w.heap.size + 1 + 1 := by rw [← hW2]; simp [hs1]
  have bb := bk_of hW2
  rw [hs1] at bb
  have hx2 := ext_of_alloc hW2
  generalize hW3 : World.alloc W2 _ = W3
  have br := bk_of hW3
  rw [hs2] at br
  have hx3 := ext_of_alloc hW3
  have ba3 := ba.ext (hx2.trans hx3)
  have bb3 := bb.ext hx3
  have hx := (hx1.trans hx2).trans hx3
  clear hW1 hW2 hW3 hs1 hs2 ba bb hx1 hx2 hx3
  have hB : w.heap.size ≤ w.heap.size + 1 + 1 := by omega
  have BR := Lib.hid br
  have x0 := ba3.cell 0
  have x1 := ba3.cell 1
  have y0 := bb3.cell 0
  have y1 := bb3.cell 1
  go_wp2_with fail
  with_reducible refine (CT.out W3).mono ?_
  rintro e wn ⟨rfl, hxn⟩
  have bn := BR.out.ext hxn
  have f0 := bn.frozen 0
  have f1 := bn.frozen 1
  have z0 := bn.cell 0
  have z1 := bn.cell 1
  have BF := Lib.hid (bk2G (v0 := .int .i64 R.1) (v1 := .int .i64 R.2) bn)
  have HXF := Lib.hid (ext2G (B := w.heap.size + 1 + 1) (hx.trans hxn) hB (.int .i64 R.1) (.int .i64 R.2))
  clear x0 x1 y0 y1 bn
  go_wp2_with fail
  clear z0 z1 f0 f1
  have bF := BF.out
  have hxF := HXF.out
  generalize (wn.setCell _ _).setCell _ _ = wF at *
  have z0 := bF.cell 0
  have z1 := bF.cell 1
  exact bodyPost_ret (v := .agg #[.int .i64 R.1, .int .i64 R.2]) (by simp [results, Tryz.results65, go_sem, z0, z1]) rfl ⟨rfl, hxF⟩
set_option maxHeartbeats 4000000 in
set_option maxRecDepth 100000 in
theorem rtimes_calls (a b : Nat × Nat) (h1 : a.1 * b.1 < 9223372036854775807) (h2 : a.2 * b.2 < 9223372036854775807) (h3 : 0 < a.2 * b.2) (w : World) :
    Calls Tryz.prog 67 #[.agg #[.int .i64 a.1, .int .i64 a.2], .agg #[.int .i64 b.1, .int .i64 b.2]] w (RetPart (timesF a b) w) := by
  have ct := fun w => rpart_calls (a.1 * b.1) (a.2 * b.2) h3 h1 h2 w
  have hp : timesF a b = partF (a.1 * b.1) (a.2 * b.2) := rfl
  obtain ⟨a1, a2⟩ := a
  obtain ⟨b1, b2⟩ := b
  dsimp only at *
  obtain ⟨p1, hp1⟩ : ∃ p1, a1 * b1 = p1 := ⟨_, rfl⟩
  obtain ⟨q, hq⟩ : ∃ q, a2 * b2 = q := ⟨_, rfl⟩
  rw [hp1, hq] at ct hp
  rw [hp1] at h1
  rw [hq] at h2
  have w1 := mul_wrap hp1 (by omega)
  have w3 := mul_wrap hq h2
  rw [hp]
  obtain ⟨R, hR⟩ : ∃ R, partF p1 q = R := ⟨_, rfl⟩
  rw [hR] at ct ⊢
  unfold RetPart at ct
  have CT := Lib.hid ct
  clear ct hp hp1 hq hR
  go_enter Tryz.func67, Tryz.ntmps67
  go_upto_region 1 with fail
  generalize hW1 : World.alloc w _ = W1
  have hs1 : W1.heap.size = w.heap.size + 1 := by rw [← hW1]; simp
  have ba := bk_of hW1
  have hx1 := ext_of_alloc hW1
  generalize hW2 : World.alloc W1 _ = W2
  have hs2 : W2.heap.size = w.heap.size + 1 + 1 := by rw [← hW2]; simp [hs1]
  have bb := bk_of hW2
  rw [hs1] at bb
  have hx2 := ext_of_alloc hW2
  generalize hW3 : World.alloc W2 _ = W3
  have br := bk_of hW3
  rw [hs2] at br
  have hx3 := ext_of_alloc hW3
  have ba3 := ba.ext (hx2.trans hx3)
  have bb3 := bb.ext hx3
  have hx := (hx1.trans hx2).trans hx3
  clear hW1 hW2 hW3 hs1 hs2 ba bb hx1 hx2 hx3
  have hB : w.heap.size ≤ w.heap.size + 1 + 1 := by omega
  have BR := Lib.hid br
  have x0 := ba3.cell 0
  have x1 := ba3.cell 1
  have y0 := bb3.cell 0
  have y1 := bb3.cell 1
  go_wp2_with fail
  with_reducible refine (CT.out W3).mono ?_
  rintro e wn ⟨rfl, hxn⟩
  have bn := BR.out.ext hxn
  have f0 := bn.frozen 0
  have f1 := bn.frozen 1
  have z0 := bn.cell 0
  have z1 := bn.cell 1
  have BF := Lib.hid (bk2G (v0 := .int .i64 R.1) (v1 := .int .i64 R.2) bn)
  have HXF := Lib.hid (ext2G (B := w.heap.size + 1 + 1) (hx.trans hxn) hB (.int .i64 R.1) (.int .i64 R.2))
  clear x0 x1 y0 y1 bn
  go_wp2_with fail
  clear z0 z1 f0 f1
  have bF := BF.out
  have hxF := HXF.out
  generalize (wn.setCell _ _).setCell _ _ = wF at *
  have z0 := bF.cell 0
  have z1 := bF.cell 1
  exact bodyPost_ret (v := .agg #[.int .i64 R.1, .int .i64 R.2]) (by simp [results, Tryz.results67, go_sem, z0, z1]) rfl ⟨rfl, hxF⟩
end Go.Proofs.YtjfdlibceldanabGreatDoor

/-! The document's own likely and LikelyOf: walks. -/
namespace Go.Proofs.YtjfdlibceldanabGreatDoor
open Go.RowKit Go.Sort En Wv Gu Ri

/-! ### The signs that count, one by one -/
def upZ (xs : List Int) (i : Nat) : List Int := (xs.take i).filter fun x => decide (x ≠ 0)
theorem upZ_succ {xs : List Int} {i : Nat} (h : i < xs.length) : upZ xs (i + 1) = if nth xs i = 0 then upZ xs i else upZ xs i ++ [nth xs i] := by
  unfold upZ
  rw [List.take_add_one, List.getElem?_eq_getElem h, Option.toList_some, ← nth_lt h, List.filter_append, List.filter_cons, List.filter_nil]
  by_cases g : nth xs i = 0
  · simp [g]
  · simp [g]
theorem upZ_le (xs : List Int) (i : Nat) : (upZ xs i).length ≤ xs.length := by
  unfold upZ
  refine Nat.le_trans (List.length_filter_le _ _) ?_
  rw [List.length_take]; omega
theorem sumZ_bound (f : Int → Nat) (B : Nat) (h : ∀ x, f x ≤ B) : ∀ xs : List Int, (xs.map f).sum ≤ xs.length * B
  | [] => by simp
  | a :: xs => by
    have := sumZ_bound f B h xs
    have h1 := h a
    simp only [List.map_cons, List.sum_cons, List.length_cons]
    rw [Nat.add_mul]
    omega
/-- What is known after i signs: the own weight, all, how many. -/
structure WgF (l s : List Int) (b : Bool) (sign : Int) (xs : List Int) (oP aP kP : Nat → Nat) : Prop where
  o0 : oP 0 = 0
  a0 : aP 0 = 0
  k0 : kP 0 = 0
  bd : ∀ i, oP i ≤ 101 ∧ aP i ≤ 101 * 101 ∧ kP i ≤ 101
  z : ∀ i, i < xs.length → nth xs i = 0 → oP (i + 1) = oP i ∧ aP (i + 1) = aP i ∧ kP (i + 1) = kP i
  p : ∀ i, i < xs.length → nth xs i ≠ 0 → oP (i + 1) = (if nth xs i = sign then nn l s b (nth xs i) else oP i) ∧ aP (i + 1) = aP i + nn l s b (nth xs i) ∧ kP (i + 1) = kP i + 1
  oN : oP xs.length = ownF l s b sign
  aN : aP xs.length = allF l s b
  kN : kP xs.length = (kn l s).length
theorem wg_ex (l s : List Int) (b : Bool) (sign : Int) (hl : l.length ≤ 101) : ∃ oP aP kP : Nat → Nat, WgF l s b sign (behs l s) oP aP kP := by
  have hnn : ∀ x, nn l s b x ≤ 101 := fun x => Nat.le_trans (nn_le l s b x) (Nat.le_trans (places_le l _) hl)
  have hbl : (behs l s).length ≤ 101 := by
    unfold behs
    refine Nat.le_trans (rise_length _) ?_
    rw [List.length_map]
    exact Nat.le_trans (List.length_filter_le _ _) (Nat.le_trans (places_le l s) hl)
  have hkn : upZ (behs l s) (behs l s).length = kn l s := by unfold upZ kn; rw [List.take_length]
  refine ⟨fun i => if sign ∈ upZ (behs l s) i then nn l s b sign else 0, fun i => ((upZ (behs l s) i).map (nn l s b)).sum, fun i => (upZ (behs l s) i).length, ⟨?_, ?_, ?_, ?_, ?_, ?_, ?_, ?_, ?_⟩⟩
  · simp [upZ]
  · simp [upZ]
  · simp [upZ]
  · intro i
    have h1 := upZ_le (behs l s) i
    have h2 := sumZ_bound (nn l s b) 101 hnn (upZ (behs l s) i)
    have h3 := hnn sign
    have h4 : (upZ (behs l s) i).length * 101 ≤ 101 * 101 := Nat.mul_le_mul_right _ (by omega)
    refine ⟨?_, by omega, by omega⟩
    try dsimp only
    split <;> omega
  · intro i hi hx
    try dsimp only
    rw [upZ_succ hi, if_pos hx]
    exact ⟨rfl, rfl, rfl⟩
  · intro i hi hx
    try dsimp only
    rw [upZ_succ hi, if_neg hx]
    refine ⟨?_, by simp, by simp⟩
    by_cases g : nth (behs l s) i = sign
    · rw [if_pos g, if_pos (List.mem_append_right _ (by simp [← g])), g]
    · rw [if_neg g]
      have : sign ∈ upZ (behs l s) i ++ [nth (behs l s) i] ↔ sign ∈ upZ (behs l s) i := by
        rw [List.mem_append]
        constructor
        · rintro (q | q)
          · exact q
          · exact absurd (List.mem_singleton.1 q).symm g
        · exact Or.inl
      by_cases g2 : sign ∈ upZ (behs l s) i
      · rw [if_pos g2, if_pos (this.2 g2)]
      · rw [if_neg g2, if_neg fun q => g2 (this.1 q)]
  · try dsimp only
    rw [hkn]; rfl
  · try dsimp only
    rw [hkn]; rfl
  · try dsimp only
    rw [hkn]
set_option maxHeartbeats 16000000 in
set_option maxRecDepth 100000 in
theorem rlike_walk (l s : List Int) (A P : Option Addr) (c p : Nat) (sign : Int) (signs : Nat) (longest : Bool) (sh F : Nat × Nat) (hl : l.length ≤ 101) (hsl : s.length ≤ 2) (hsg : signs ≤ 101) (hP : P = none → p = 0) (hcp : s.length ≤ p)
    (hsh : Pt sh 2700000000000) (h0 : s.length = 0 → sh = (1, max 1 signs)) (hF : (if allF l s longest = 0 then sh else stepF l s longest sign sh) = F)
    (crec : s.length ≠ 0 → ∀ P' p' w, (P' = none → p' = 0) → s.length - 1 ≤ p' → Rd w A l.length (fun k => .int .i64 (nth l k)) → Rd w P' (s.length - 1) (fun k => .int .i64 (nth s (1 + k))) →
      Calls Tryz.prog 40 #[.slice A l.length c, .slice P' (s.length - 1) p', .int .i64 sign, .int .i64 signs, .bool false] w (RetPart sh w))
    (w : World) (hr : Rd w A l.length (fun k => .int .i64 (nth l k))) (hs : Rd w P s.length (fun k => .int .i64 (nth s k))) :
    Calls Tryz.prog 40 #[.slice A l.length c, .slice P s.length p, .int .i64 sign, .int .i64 signs, .bool longest] w (RetPart F w) := by
  obtain ⟨ii, hi, hj0, hj1, hj2⟩ := info_parts info_int
  obtain ⟨oP, aP, kP, hW⟩ := wg_ex l s longest sign hl
  have cb := fun w hr hs => rbehinds_calls l s A P c p (by omega) (by omega) w hr hs
  have cp := fun (x : Int) Q q w hr (hs : Rd w Q (s ++ [x]).length (fun k => .int .i64 (nth (s ++ [x]) k))) => rplaces_calls l (s ++ [x]) A Q c q (by omega) (by rw [List.length_append, List.length_singleton]; omega) w hr hs
  have cf := fun (x : Int) Q q w hr (hs : Rd w Q (s ++ [x]).length (fun k => .int .i64 (nth (s ++ [x]) k))) => rbefores_calls l (s ++ [x]) A Q c q (by omega) (by rw [List.length_append, List.length_singleton]; omega) w hr hs
  have ha0 := all_le l s longest
  have ho0 := own_le l s longest sign
  have hk0 := kinds_le l s longest
  have hst : stepF l s longest sign sh = addF (partF (4 * ownF l s longest sign - 3) (4 * allF l s longest)) (timesF (partF (3 * (kn l s).length) (4 * allF l s longest)) sh) := rfl
  rw [hst] at hF
  have hnn : ∀ x, nn l s longest x = if longest then (places l (s ++ [x])).length else (befs l (s ++ [x])).length := fun x => rfl
  have hnb : ∀ x, nn l s longest x ≤ 101 := fun x => Nat.le_trans (nn_le l s longest x) (Nat.le_trans (places_le l _) hl)
  have hbl : (behs l s).length ≤ 101 := by
    unfold behs
    refine Nat.le_trans (rise_length _) ?_
    rw [List.length_map]
    exact Nat.le_trans (List.length_filter_le _ _) (Nat.le_trans (places_le l s) hl)
  have WN := Lib.hid hW.oN; have WA := Lib.hid hW.aN; have WK := Lib.hid hW.kN
  obtain ⟨xs, hxs⟩ : ∃ xs, behs l s = xs := ⟨_, rfl⟩
  rw [hxs] at hW cb hbl WN WA WK
  obtain ⟨M, hM⟩ : ∃ M, xs.length = M := ⟨_, rfl⟩
  have hz := hW.z; have hp := hW.p; have hbd := hW.bd; have o0 := hW.o0; have a0 := hW.a0; have k0 := hW.k0
  unfold RetZs at cb
  rw [hM] at hz hp hbl cb WN WA WK
  obtain ⟨ow, how⟩ : ∃ x, ownF l s longest sign = x := ⟨_, rfl⟩
  obtain ⟨al, hal⟩ : ∃ x, allF l s longest = x := ⟨_, rfl⟩
  obtain ⟨kk, hkk⟩ : ∃ x, (kn l s).length = x := ⟨_, rfl⟩
  rw [how, hal, hkk] at hF
  rw [how, hal] at ho0
  rw [hal] at ha0
  rw [hkk, hal] at hk0
  have WN2 : Hid (oP M = ow) := by rw [← how]; exact WN
  have WA2 : Hid (aP M = al) := by rw [← hal]; exact WA
  have WK2 : Hid (kP M = kk) := by rw [← hkk]; exact WK
  obtain ⟨mx, hmx⟩ : ∃ mx, max 1 signs = mx := ⟨_, rfl⟩
  have hmxI : max (1 : Int) (signs : Int) = (mx : Int) := by omega
  rw [hmx] at h0
  obtain ⟨n, hn⟩ : ∃ n, l.length = n := ⟨_, rfl⟩
  obtain ⟨L, hL⟩ : ∃ L, s.length = L := ⟨_, rfl⟩
  rw [hn] at cb cp cf crec hl hr ha0 ⊢
  rw [hL] at cb crec hsl hs h0 hcp ⊢
  have CB := Lib.hid cb; have CP := Lib.hid cp; have CF := Lib.hid cf; have CR := Lib.hid crec; have HR := Lib.hid hr; have HS := Lib.hid hs; have HZ := Lib.hid hz; have HPP := Lib.hid hp; have HBD := Lib.hid hbd; have O0 := Lib.hid o0; have A0 := Lib.hid a0; have K0 := Lib.hid k0
  have HNN := Lib.hid hnn; have HNB := Lib.hid hnb; have HSH := Lib.hid hsh; have H00 := Lib.hid h0; have HFF := Lib.hid hF; have HLL := Lib.hid hL; have HM := Lib.hid hM
  clear cb cp cf crec hr hs hz hp hbd o0 a0 k0 hnn hnb hsh h0 hF hL hn hM hxs how hal hkk hmx hst hW WN WA WK
  go_enter Tryz.func40, Tryz.ntmps40
  go_upto_region 1 with fail
  generalize hW1 : World.alloc w _ = W1
  have br := bk_of hW1
  have hx := ext_of_alloc hW1
  obtain ⟨RB, hRB⟩ : ∃ B, w.heap.size = B := ⟨_, rfl⟩
  have hRw : w.heap.size ≤ RB := by omega
  rw [hRB] at br
  simp only [hRB]
  clear hW1 hRB
  go_upto_region 2 with fail
  generalize hW2 : World.alloc W1 _ = W2
  have bp := bk_of hW2
  have hx2 := ext_of_alloc hW2
  obtain ⟨PB, hPB⟩ : ∃ B, W1.heap.size = B := ⟨_, rfl⟩
  have hPw : W1.heap.size ≤ PB := by omega
  rw [hPB] at bp
  simp only [hPB]
  clear hW2 hPB
  go_upto_if 24 with fail
  go_cut [] (fun w' => Hid (Bk w' PB 45 #[.int .i64 sh.1, .int .i64 sh.2]) ∧ Ext W1 w')
  case first => as_aux_lemma =>
    by_cases g0 : L = 0
    · have e1 := H00.out g0
      subst g0
      go_wp2_with fail
      go_meet
      refine ⟨?_, hx2⟩
      show Bk _ _ _ _
      rw [e1]; exact bp
    · have g0' : decide ((0 : Int) < (L : Int)) = true := by simp; omega
      obtain ⟨b, o, rfl, hb, hc⟩ := (HS.out.ext (hx.trans hx2)) (by omega)
      have hrd : Rd W2 (some ⟨b, o + 1, none⟩) (L - 1) (fun k => .int .i64 (nth s (1 + k))) := fun _ => ⟨b, o + 1, rfl, hb, fun k hk => by
        rw [Nat.add_assoc]
        exact hc (1 + k) (by omega)⟩
      have hrn := HR.out.ext (hx.trans hx2)
      clear hc
      go_upto_region 3 with fail
      go_wp2_with fail
      · obtain rfl : p = 1 := by omega
        with_reducible refine (CR.out g0 (some ⟨b, o, none⟩) 0 W2 (fun q => by cases q) (by omega) hrn (by rw [show L - 1 = 0 from by omega]; exact Rd.zero)).mono ?_
        rintro e w4 ⟨rfl, hx4⟩
        have bp4 := bp.ext hx4
        have z0 := bp4.cell 0
        have z1 := bp4.cell 1
        have f0 := bp4.frozen 0
        have f1 := bp4.frozen 1
        have BF := Lib.hid (bk2G (v0 := .int .i64 sh.1) (v1 := .int .i64 sh.2) bp4)
        have XF := Lib.hid (ext2G (B := PB) (hx2.trans hx4) hPw (.int .i64 sh.1) (.int .i64 sh.2))
        clear bp4 hrd hrn bp
        go_wp2_with fail
        go_meet
        exact ⟨BF, XF.out⟩
      · with_reducible refine (CR.out g0 (some ⟨b, o + 1, none⟩) (p - 1) W2 (fun q => by cases q) (by omega) hrn hrd).mono ?_
        rintro e w4 ⟨rfl, hx4⟩
        have bp4 := bp.ext hx4
        have z0 := bp4.cell 0
        have z1 := bp4.cell 1
        have f0 := bp4.frozen 0
        have f1 := bp4.frozen 1
        have BF := Lib.hid (bk2G (v0 := .int .i64 sh.1) (v1 := .int .i64 sh.2) bp4)
        have XF := Lib.hid (ext2G (B := PB) (hx2.trans hx4) hPw (.int .i64 sh.1) (.int .i64 sh.2))
        clear bp4 hrd hrn bp
        go_wp2_with fail
        go_meet
        exact ⟨BF, XF.out⟩
  case rest => as_aux_lemma =>
    obtain ⟨HPB, hx3⟩ := hcut
    have hx04 := hx.trans hx3
    have cb := CB.out wc (HR.out.ext hx04) (HS.out.ext hx04)
    clear CB CR H00
    go_wp2_with fail
    with_reducible refine cb.mono ?_
    rintro e w5 ⟨ZA, zc, rfl, _, hZ, hx5⟩
    have HBP := Lib.hid (HPB.out.ext hx5)
    have BR := Lib.hid (br.ext (hx3.trans hx5))
    have HXR := Lib.hid hZ
    have hx05 := hx04.trans hx5
    clear cb HPB hx3 hx04 hx5 hZ bp hx2 br
    go_wp2_with fail
    go_loopw [35, 12, 13, 14] (fun vi vo va vk wr => ∃ i : Nat, vi = .int .i64 i ∧ vo = .int .i64 (oP i : Nat) ∧ va = .int .i64 (aP i : Nat) ∧ vk = .int .i64 (kP i : Nat) ∧ i ≤ M ∧ Ext w5 wr) (fun vi _ _ _ _ => M - (intOf vi).toNat)
    case atStart => exact ⟨0, rfl, by rw [O0.out]; rfl, by rw [A0.out]; rfl, by rw [K0.out]; rfl, Nat.zero_le _, Ext.refl _⟩
    case round => as_aux_lemma =>
      obtain ⟨i, rfl, rfl, rfl, rfl, hi', hxr⟩ := hrel
      by_cases g : i < M
      · obtain ⟨bX, oX, rfl, hbX, hcX⟩ := (HXR.out.ext hxr) (by omega)
        have p1 := hcX i g
        dsimp only at p1
        have hz := HZ.out i g
        have hp := HPP.out i g
        obtain ⟨x, hxx'⟩ : ∃ x, nth xs i = x := ⟨_, rfl⟩
        rw [hxx'] at p1 hz hp
        have HZi := Lib.hid hz; have HPi := Lib.hid hp
        clear hcX hxx' hz hp
        by_cases g1 : x = 0
        · obtain ⟨e1, e2, e3⟩ := HZi.out g1
          subst g1
          go_wp2_with fail
          refine ⟨⟨i + 1, by go_num, by rw [e1], by rw [e2], by rw [e3], by omega, hxr⟩, by simp [intOf]; omega⟩
        · have g1' : (x == 0) = false := by simp [g1]
          obtain ⟨e1, e2, e3⟩ := HPi.out g1
          have hP2 := hP
          have hsr := HS.out.ext (hx05.trans hxr)
          have hsz := hxr.size
          go_wp2_with (at_builtin; refine wpList_appAll (w := wr) (by rfl) _ _ 24 rfl w5.heap.size 3 ii (.int .i64 0) 8 Tryz.underlying24 hi hj0 hj1 hj2 rfl _ 0 [] rfl (own_nil _ _ _ _) P L p (fun k => .int .i64 (nth s k)) rfl hP hsr (fun _ _ => rfl) (by omega) (by omega) (by omega) hsz ?_)
          intro v1 w4 ho4 hg4
          have hx4' : Ext wr w4 := (Ext.refl wr).grown hg4 (fun k hk => by cases hk)
          have hsz4 : w5.heap.size ≤ w4.heap.size := (hxr.trans hx4').size
          go_wp2_with (at_builtin; refine wpList_app1 (by rfl) _ _ 24 rfl w5.heap.size 3 ii (.int .i64 0) 8 Tryz.underlying24 hi hj0 hj1 hj2 rfl _ L _ rfl w4 (.int .i64 x) 3 rfl ho4 rfl rfl ?d1 ?d2 hsz4 ?_)
          case d1 => omega
          case d2 => omega
          intro gb cap w7 ho5 hg5
          have hx7 := (hxr.trans hx4').grown hg5 (fun k hk => (own_row_ge ho4 k hk).1)
          have e0 : (s ++ [x]).length = L + 1 := by rw [List.length_append, HLL.out]; rfl
          have hrd : Rd w7 (some ⟨gb, 0, none⟩) (s ++ [x]).length (fun j => .int .i64 (nth (s ++ [x]) j)) := by
            have e2 : (List.range L).map (fun k => Value.int .i64 (nth s k)) = s.map (Value.int .i64) := by
              rw [← HLL.out]
              refine List.ext_getElem (by simp) fun k h1 h2 => ?_
              simp at h1 h2
              simp [nth, h1]
            rw [e2] at ho5
            exact rdI_own (xs := s ++ [x]) (w := w7) (A := some ⟨gb, 0, none⟩) (c := cap) (by rw [e0, List.map_append]; exact ho5)
          have HRD := Lib.hid hrd
          have hx07 := hx05.trans hx7
          have cp := CP.out x (some ⟨gb, 0, none⟩) cap w7 (HR.out.ext hx07) hrd
          unfold RetInts at cp
          rw [e0] at cp
          have hnn := HNN.out x
          have hnb := HNB.out x
          obtain ⟨np, hnp⟩ : ∃ np, (places l (s ++ [x])).length = np := ⟨_, rfl⟩
          rw [hnp] at cp hnn
          clear p1 hsr ho4 hg4 ho5 hg5 hx4' hsz hsz4 hrd hnp
          have hab := HBD.out i
          obtain ⟨y, hy⟩ : ∃ y, nn l s longest x = y := ⟨_, rfl⟩
          rw [hy] at hnn e1 e2 hnb
          have hw : IntKind.i64.wrap ((aP i : Int) + y) = (aP i : Int) + y := IntWalk.i64_in _ (by omega)
          have hw2 : IntKind.i64.wrap ((kP i : Int) + 1) = (kP i : Int) + 1 := IntWalk.i64_in _ (by omega)
          have ea : ((aP (i + 1) : Nat) : Int) = (aP i : Int) + y := by rw [e2]; omega
          have ek : ((kP (i + 1) : Nat) : Int) = (kP i : Int) + 1 := by rw [e3]; omega
          clear hy hab
          go_wp2_with fail
          with_reducible refine cp.mono ?_
          rintro e w8 ⟨Z8, z8, rfl, _, _, hx8⟩
          have hx78 := hx7.trans hx8
          cases longest with
          | true =>
            have hyc : np = y := by rw [hnn]; rfl
            clear hnn
            subst hyc
            by_cases g2 : x = sign
            · have g2' : (x == sign) = true := by simpa using g2
              rw [if_pos g2] at e1
              clear g2
              go_wp2_with fail
              refine ⟨⟨i + 1, by go_num, by rw [e1], by rw [ea], by rw [ek], by omega, hx78⟩, by simp [intOf]; omega⟩
            · have g2' : (x == sign) = false := by simpa using g2
              rw [if_neg g2] at e1
              clear g2
              go_wp2_with fail
              refine ⟨⟨i + 1, by go_num, by rw [e1], by rw [ea], by rw [ek], by omega, hx78⟩, by simp [intOf]; omega⟩
          | false =>
            have cf := CF.out x (some ⟨gb, 0, none⟩) cap w8 (HR.out.ext (hx07.trans hx8)) (HRD.out.ext hx8)
            unfold RetZs at cf
            rw [e0] at cf
            have hyc : (befs l (s ++ [x])).length = y := by rw [hnn]; rfl
            rw [hyc] at cf
            clear hnn hyc
            go_wp2_with fail
            with_reducible refine cf.mono ?_
            rintro e w9 ⟨Z9, z9, rfl, _, _, hx9⟩
            have hx79 := hx78.trans hx9
            by_cases g2 : x = sign
            · have g2' : (x == sign) = true := by simpa using g2
              rw [if_pos g2] at e1
              clear g2
              go_wp2_with fail
              refine ⟨⟨i + 1, by go_num, by rw [e1], by rw [ea], by rw [ek], by omega, hx79⟩, by simp [intOf]; omega⟩
            · have g2' : (x == sign) = false := by simpa using g2
              rw [if_neg g2] at e1
              clear g2
              go_wp2_with fail
              refine ⟨⟨i + 1, by go_num, by rw [e1], by rw [ea], by rw [ek], by omega, hx79⟩, by simp [intOf]; omega⟩
      · obtain rfl : i = M := by omega
        rw [WN2.out, WA2.out, WK2.out]
        have hx0r := hx.trans (Ext.refl _)
        have bp := HBP.out.ext hxr
        have br := BR.out.ext hxr
        have hxw := hx05.trans hxr
        have hsd := HSH.out.d
        have hsn := HSH.out.n
        have hsb := HSH.out.b
        have hff := HFF.out
        clear CP CF HXR HZ HPP HBD O0 A0 K0 HNN HNB WN2 WA2 WK2 HBP BR HS HR HSH HFF HLL HM hx0r
        by_cases ga : al = 0
        · have ga' : (((al : Nat) : Int) == 0) = true := by simp; omega
          have hv : sh = F := by rw [← hff, if_pos ga]
          have p0 := bp.cell 0
          have p1 := bp.cell 1
          have z0 := br.cell 0
          have z1 := br.cell 1
          have f0 := br.frozen 0
          have f1 := br.frozen 1
          have BF := Lib.hid (bk2G (v0 := .int .i64 sh.1) (v1 := .int .i64 sh.2) br)
          have HXF := Lib.hid (ext2G (B := RB) hxw hRw (.int .i64 sh.1) (.int .i64 sh.2))
          have HVK := Lib.hid hv
          clear bp br hv hff
          go_wp2_with fail
          clear z0 z1 f0 f1 p0 p1
          have bF := BF.out
          have hxF := HXF.out
          generalize (wr.setCell _ _).setCell _ _ = wF at *
          have z0 := bF.cell 0
          have z1 := bF.cell 1
          exact bodyPost_ret (v := .agg #[.int .i64 sh.1, .int .i64 sh.2]) (by simp [results, Tryz.results40, go_sem, z0, z1]) rfl ⟨by rw [HVK.out], hxF⟩
        · have ga' : (((al : Nat) : Int) == 0) = false := by simp; omega
          rw [if_neg ga] at hff
          have ct1 := fun w => rpart_calls (4 * ow - 3) (4 * al) (by omega) (by omega) (by omega) w
          have ct2 := fun w => rpart_calls (3 * kk) (4 * al) (by omega) (by omega) (by omega) w
          have hpa1 := partF_le (4 * ow - 3) (4 * al)
          have hpa2 := partF_le (3 * kk) (4 * al)
          have hpp1 := partF_pos (n := 4 * ow - 3) (d := 4 * al) (by omega)
          have hpp2 := partF_pos (n := 3 * kk) (d := 4 * al) (by omega)
          obtain ⟨SE, hSE⟩ : ∃ SE, partF (4 * ow - 3) (4 * al) = SE := ⟨_, rfl⟩
          obtain ⟨TI, hTI⟩ : ∃ TI, partF (3 * kk) (4 * al) = TI := ⟨_, rfl⟩
          rw [hSE] at ct1 hpa1 hpp1 hff
          rw [hTI] at ct2 hpa2 hpp2 hff
          have m1 : TI.1 * sh.1 ≤ 404 * sh.2 := Nat.mul_le_mul (by omega) hsn
          have m2' : TI.2 * sh.2 ≤ 404 * sh.2 := Nat.mul_le_mul (by omega) (Nat.le_refl _)
          have m3 : 0 < TI.2 * sh.2 := Nat.mul_pos hpp2 hsd
          have cti := fun w => rtimes_calls TI sh (by omega) (by omega) m3 w
          have hpt : timesF TI sh = partF (TI.1 * sh.1) (TI.2 * sh.2) := rfl
          have hpa3 := partF_le (TI.1 * sh.1) (TI.2 * sh.2)
          have hpp3 := partF_pos (n := TI.1 * sh.1) (d := TI.2 * sh.2) m3
          rw [← hpt] at hpa3 hpp3
          obtain ⟨TM, hTM⟩ : ∃ TM, timesF TI sh = TM := ⟨_, rfl⟩
          rw [hTM] at cti hpa3 hpp3 hff
          have hb1 : TM.2 ≤ 404 * sh.2 := by omega
          have hb2 : TM.1 ≤ 404 * sh.2 := by omega
          have hS1 : SE.1 ≤ 404 := by omega
          have hS2 : SE.2 ≤ 404 := by omega
          have n1 : SE.1 * TM.2 ≤ 404 * (404 * sh.2) := Nat.mul_le_mul hS1 hb1
          have n2 : TM.1 * SE.2 ≤ (404 * sh.2) * 404 := Nat.mul_le_mul hb2 hS2
          have n3 : SE.2 * TM.2 ≤ 404 * (404 * sh.2) := Nat.mul_le_mul hS2 hb1
          have n4 : 0 < SE.2 * TM.2 := Nat.mul_pos hpp1 hpp3
          have cad := fun w => rsum_calls SE TM (by omega) (by omega) n4 w
          rw [hff] at cad
          obtain ⟨k3, hk3⟩ : ∃ k3, 3 * kk = k3 := ⟨_, rfl⟩
          obtain ⟨a4, ha4⟩ : ∃ a4, 4 * al = a4 := ⟨_, rfl⟩
          obtain ⟨o4, ho4⟩ : ∃ o4, 4 * ow - 3 = o4 := ⟨_, rfl⟩
          rw [ho4, ha4] at ct1
          rw [hk3, ha4] at ct2
          have w1 : IntKind.i64.wrap (3 * ((kk : Nat) : Int)) = (k3 : Int) := by rw [IntWalk.i64_in _ (by omega)]; omega
          have w2 : IntKind.i64.wrap (4 * ((al : Nat) : Int)) = (a4 : Int) := by rw [IntWalk.i64_in _ (by omega)]; omega
          have w3' : IntKind.i64.wrap (4 * ((ow : Nat) : Int)) = 4 * ((ow : Nat) : Int) := IntWalk.i64_in _ (by omega)
          have w4' : IntKind.i64.wrap (4 * ((ow : Nat) : Int) - 3) = 4 * ((ow : Nat) : Int) - 3 := IntWalk.i64_in _ (by omega)
          have w5' : max (0 : Int) (4 * ((ow : Nat) : Int) - 3) = (o4 : Int) := by omega
          unfold RetPart at ct1 ct2 cti cad
          have CT1 := Lib.hid ct1; have CT2 := Lib.hid ct2; have CTI := Lib.hid cti; have CAD := Lib.hid cad
          clear ct1 ct2 cti cad hff hSE hTI hTM hpt hpa1 hpa2 hpa3 hpp1 hpp2 hpp3 hk3 ha4 ho4 m1 m2' m3 n1 n2 n3 n4 hb1 hb2 hS1 hS2 hsd hsn hsb ho0 hk0 ha0
          go_upto_region 20 with fail
          have p0 := bp.cell 0
          have p1 := bp.cell 1
          have BR := Lib.hid br
          clear bp br
          refine wp_region_N (fun w' => w'.cell? ⟨PB, 0, none⟩ = some (.int .i64 sh.1) ∧ w'.cell? ⟨PB, 1, none⟩ = some (.int .i64 sh.2)) 15 (by kernel_rfl) ?_
          simp only [List.length_cons, List.length_nil, Nat.zero_add, Nat.reduceAdd]
          have hxw0 : Ext wr wr.drew := (Ext.refl wr).drew
          generalize wr.drew = w0 at *
          have hSS : w0.cell? ⟨PB, 0, none⟩ = some (.int .i64 sh.1) ∧ w0.cell? ⟨PB, 1, none⟩ = some (.int .i64 sh.2) := ⟨ecell p0 hxw0, ecell p1 hxw0⟩
          refine pure_N (i := 0) (.int .i64 (ow : Nat)) rfl (by kernel_rfl) (fun _ _ _ h => h) rfl hSS (fun w' => by go_simp) #[true, false, false, false, false, false, false, false, false, false, false, false, false, false, false, false] (by rfl) ?_
          try simp only [Act.put, List.setIfInBounds_toArray, List.set_cons_zero, List.set_cons_succ]
          refine pure_N (i := 1) (.int .i64 (4 * (ow : Nat))) rfl (by kernel_rfl) (fun _ _ _ h => h) rfl hSS (fun w' => by go_simp) #[true, true, false, false, false, false, false, false, false, false, false, false, false, false, false, false] (by rfl) ?_
          try simp only [Act.put, List.setIfInBounds_toArray, List.set_cons_zero, List.set_cons_succ]
          refine pure_N (i := 2) (.int .i64 (4 * (ow : Nat) - 3)) rfl (by kernel_rfl) (fun _ _ _ h => h) rfl hSS (fun w' => by go_simp) #[true, true, true, false, false, false, false, false, false, false, false, false, false, false, false, false] (by rfl) ?_
          try simp only [Act.put, List.setIfInBounds_toArray, List.set_cons_zero, List.set_cons_succ]
          refine pure_N (i := 3) (.int .i64 (o4 : Nat)) rfl (by kernel_rfl) (fun _ _ _ h => h) rfl hSS (fun w' => by go_simp) #[true, true, true, true, false, false, false, false, false, false, false, false, false, false, false, false] (by rfl) ?_
          try simp only [Act.put, List.setIfInBounds_toArray, List.set_cons_zero, List.set_cons_succ]
          refine pure_N (i := 4) (.int .i64 (al : Nat)) rfl (by kernel_rfl) (fun _ _ _ h => h) rfl hSS (fun w' => by go_simp) #[true, true, true, true, true, false, false, false, false, false, false, false, false, false, false, false] (by rfl) ?_
          try simp only [Act.put, List.setIfInBounds_toArray, List.set_cons_zero, List.set_cons_succ]
          refine pure_N (i := 5) (.int .i64 (a4 : Nat)) rfl (by kernel_rfl) (fun _ _ _ h => h) rfl hSS (fun w' => by go_simp) #[true, true, true, true, true, true, false, false, false, false, false, false, false, false, false, false] (by rfl) ?_
          try simp only [Act.put, List.setIfInBounds_toArray, List.set_cons_zero, List.set_cons_succ]
          refine pure_N (i := 7) (.int .i64 (kk : Nat)) rfl (by kernel_rfl) (fun _ _ _ h => h) rfl hSS (fun w' => by go_simp) #[true, true, true, true, true, true, false, true, false, false, false, false, false, false, false, false] (by rfl) ?_
          try simp only [Act.put, List.setIfInBounds_toArray, List.set_cons_zero, List.set_cons_succ]
          refine pure_N (i := 8) (.int .i64 (k3 : Nat)) rfl (by kernel_rfl) (fun _ _ _ h => h) rfl hSS (fun w' => by go_simp) #[true, true, true, true, true, true, false, true, true, false, false, false, false, false, false, false] (by rfl) ?_
          try simp only [Act.put, List.setIfInBounds_toArray, List.set_cons_zero, List.set_cons_succ]
          refine pure_N (i := 9) (.int .i64 (al : Nat)) rfl (by kernel_rfl) (fun _ _ _ h => h) rfl hSS (fun w' => by go_simp) #[true, true, true, true, true, true, false, true, true, true, false, false, false, false, false, false] (by rfl) ?_
          try simp only [Act.put, List.setIfInBounds_toArray, List.set_cons_zero, List.set_cons_succ]
          refine pure_N (i := 10) (.int .i64 (a4 : Nat)) rfl (by kernel_rfl) (fun _ _ _ h => h) rfl hSS (fun w' => by go_simp) #[true, true, true, true, true, true, false, true, true, true, true, false, false, false, false, false] (by rfl) ?_
          try simp only [Act.put, List.setIfInBounds_toArray, List.set_cons_zero, List.set_cons_succ]
          refine take_N (i := 12) (.agg #[.int .i64 sh.1, .int .i64 sh.2]) rfl (by kernel_rfl) (fun _ _ _ h => h) rfl hSS (fun w' hw' => by obtain ⟨k0, k1⟩ := hw'; go_simp) #[true, true, true, true, true, true, false, true, true, true, true, false, true, false, false, false] (by rfl) ?_
          try simp only [Act.put, List.setIfInBounds_toArray, List.set_cons_zero, List.set_cons_succ]
          refine all_N [6] (by kernel_rfl) (by simp) ?_
          rintro i6 hi6
          obtain rfl := List.mem_singleton.1 hi6
          refine step_N (i := 6) #[true, true, true, true, true, true, true, true, true, true, true, false, true, false, false, false] rfl rfl (by rfl) (fun K' hK' => ?_)
          go_simp
          refine (CT1.out w0).mono ?_
          rintro e wa ⟨rfl, hn6⟩
          have hxwa := hxw0.trans hn6
          refine hK' _ _ ⟨ecell p0 hxwa, ecell p1 hxwa⟩ ?_
          clear K' hK'
          try simp only [Act.put, List.setIfInBounds_toArray, List.set_cons_zero, List.set_cons_succ]
          refine all_N [11] (by kernel_rfl) (by simp) ?_
          rintro i11 hi11
          obtain rfl := List.mem_singleton.1 hi11
          refine step_N (i := 11) #[true, true, true, true, true, true, true, true, true, true, true, true, true, false, false, false] rfl rfl (by rfl) (fun K' hK' => ?_)
          go_simp
          refine (CT2.out wa).mono ?_
          rintro e wb ⟨rfl, hn11⟩
          have hxwb := hxwa.trans hn11
          refine hK' _ _ ⟨ecell p0 hxwb, ecell p1 hxwb⟩ ?_
          clear K' hK'
          try simp only [Act.put, List.setIfInBounds_toArray, List.set_cons_zero, List.set_cons_succ]
          refine all_N [13] (by kernel_rfl) (by simp) ?_
          rintro i13 hi13
          obtain rfl := List.mem_singleton.1 hi13
          refine step_N (i := 13) #[true, true, true, true, true, true, true, true, true, true, true, true, true, true, false, false] rfl rfl (by rfl) (fun K' hK' => ?_)
          go_simp
          refine (CTI.out wb).mono ?_
          rintro e wd ⟨rfl, hn13⟩
          have hxwd := hxwb.trans hn13
          refine hK' _ _ ⟨ecell p0 hxwd, ecell p1 hxwd⟩ ?_
          clear K' hK'
          try simp only [Act.put, List.setIfInBounds_toArray, List.set_cons_zero, List.set_cons_succ]
          refine all_N [14] (by kernel_rfl) (by simp) ?_
          rintro i14 hi14
          obtain rfl := List.mem_singleton.1 hi14
          refine step_N (i := 14) #[true, true, true, true, true, true, true, true, true, true, true, true, true, true, true, false] rfl rfl (by rfl) (fun K' hK' => ?_)
          go_simp
          refine (CAD.out wd).mono ?_
          rintro e wf ⟨rfl, hn14⟩
          have hxwf := hxwd.trans hn14
          refine hK' _ _ ⟨ecell p0 hxwf, ecell p1 hxwf⟩ ?_
          clear K' hK'
          try simp only [Act.put, List.setIfInBounds_toArray, List.set_cons_zero, List.set_cons_succ]
          refine wpAnyN_tail 15 _ rfl rfl (by kernel_rfl) (by kernel_rfl) ?_
          have brd := BR.out.ext hxwf
          have z0 := brd.cell 0
          have z1 := brd.cell 1
          have f0 := brd.frozen 0
          have f1 := brd.frozen 1
          have BF := Lib.hid (bk2G (v0 := .int .i64 F.1) (v1 := .int .i64 F.2) brd)
          have HXF := Lib.hid (ext2G (B := RB) (hxw.trans hxwf) hRw (.int .i64 F.1) (.int .i64 F.2))
          clear brd p0 p1 hSS
          go_wp2_with fail
          clear z0 z1 f0 f1
          have bF := BF.out
          have hxF := HXF.out
          generalize (wf.setCell _ _).setCell _ _ = wF at *
          have z0 := bF.cell 0
          have z1 := bF.cell 1
          exact bodyPost_ret (v := .agg #[.int .i64 F.1, .int .i64 F.2]) (by simp [results, Tryz.results40, go_sem, z0, z1]) rfl ⟨rfl, hxF⟩
/-! ### likely, by its own call -/
theorem likeF_cons (l : List Int) (signs : Nat) (sign : Int) (x : Int) (s : List Int) (b : Bool) : likeF l signs sign (x :: s) b = if allF l (x :: s) b = 0 then likeF l signs sign s false else stepF l (x :: s) b sign (likeF l signs sign s false) := by rw [likeF]
theorem likeF_nil (l : List Int) (signs : Nat) (sign : Int) (b : Bool) : likeF l signs sign [] b = if allF l [] b = 0 then (1, max 1 signs) else stepF l [] b sign (1, max 1 signs) := by rw [likeF]
theorem likeF_pt (l : List Int) (hl : l.length ≤ 101) (signs : Nat) (hsg : signs ≤ 101) (sign : Int) (t : List Int) (ht : t.length ≤ 1) : Pt (likeF l signs sign t false) 2700000000000 := by
  have h := VF_pt l signs sign t hl hsg (t.length + 1) (Nat.le_refl _)
  rw [Nat.sub_self] at h
  have e : VF l signs sign t 0 = likeF l signs sign t false := by
    unfold VF
    have : lgF t 0 = false := by unfold lgF; exact decide_eq_false (fun q => by omega)
    rw [if_pos (Nat.zero_le _), this]; rfl
  rw [e] at h
  refine pt_mono h ?_
  have h2 : 163216 ^ (t.length + 1) ≤ 163216 ^ 2 := Nat.pow_le_pow_right (by omega) (by omega)
  omega
theorem rlikely_calls (l : List Int) (hl : l.length ≤ 101) (signs : Nat) (hsg : signs ≤ 101) (sign : Int) : ∀ (s : List Int) (longest : Bool), s.length ≤ 2 → ∀ (A P : Option Addr) (c p : Nat) (w : World), (P = none → p = 0) → s.length ≤ p →
    Rd w A l.length (fun k => .int .i64 (nth l k)) → Rd w P s.length (fun k => .int .i64 (nth s k)) →
    Calls Tryz.prog 40 #[.slice A l.length c, .slice P s.length p, .int .i64 sign, .int .i64 signs, .bool longest] w (RetPart (likeF l signs sign s longest) w)
  | [], longest, hs2, A, P, c, p, w, hP, hcp, hr, hs => by
    refine rlike_walk l [] A P c p sign signs longest (1, max 1 signs) _ hl hs2 hsg hP hcp ⟨by show 0 < max 1 signs; omega, by show 1 ≤ max 1 signs; omega, by show max 1 signs ≤ _; omega⟩ (fun _ => rfl) (likeF_nil l signs sign longest).symm (fun q => absurd rfl q) w hr hs
  | x :: t, longest, hs2, A, P, c, p, w, hP, hcp, hr, hs => by
    have ht : t.length ≤ 1 := by simp only [List.length_cons] at hs2; omega
    refine rlike_walk l (x :: t) A P c p sign signs longest (likeF l signs sign t false) _ hl hs2 hsg hP hcp (likeF_pt l hl signs hsg sign t ht) (fun q => by simp at q) (likeF_cons l signs sign x t longest).symm (fun _ P' p' w' hP' hp' hr' hs' => ?_) w hr hs
    have e : (x :: t).length - 1 = t.length := by simp
    rw [e] at hp' hs' ⊢
    refine rlikely_calls l hl signs hsg sign t false (by omega) A P' c p' w' hP' hp' hr' (hs'.congr fun k hk => ?_)
    have : nth (x :: t) (1 + k) = nth t k := by unfold nth; rw [Nat.add_comm, List.getElem?_cons_succ]
    rw [this]
set_option maxHeartbeats 8000000 in
set_option maxRecDepth 100000 in
theorem rlikelyOf_walk (n L : Nat) (A P : Option Addr) (c p : Nat) (sign : Int) (signs : Nat) (F : Nat × Nat) (f : Nat → Int) (hL : L ≤ 1000000000) (hP : P = none → p = 0) (hcp : L ≤ p) (w : World) (R : World → Prop) (hR : ∀ w w', Ext w w' → R w → R w') (h0 : R w)
    (hs : Rd w P L (fun k => .int .i64 (f k)))
    (cl : ¬ (sign < 1 ∨ (signs : Int) < sign) → ∀ P' M p' w, R w → M = min L 2 → (P' = none → p' = 0) → M ≤ p' → Rd w P' M (fun k => .int .i64 (f (L - 2 + k))) →
      Calls Tryz.prog 40 #[.slice A n c, .slice P' M p', .int .i64 sign, .int .i64 signs, .bool (decide (2 ≤ L))] w (RetPart F w))
    (hno : sign < 1 ∨ (signs : Int) < sign → F = (0, 1)) :
    Calls Tryz.prog 22 #[.slice A n c, .slice P L p, .int .i64 sign, .int .i64 signs] w (RetPart F w) := by
  unfold RetPart at cl
  have CL := Lib.hid cl; have HR := Lib.hid hR; have HS := Lib.hid hs; have HN := Lib.hid hno
  clear cl hR hs hno
  go_enter Tryz.func22, Tryz.ntmps22
  go_upto_region 1 with fail
  generalize hW1 : World.alloc w _ = W1
  have br := bk_of hW1
  have hx := ext_of_alloc hW1
  have hr := HR.out _ _ hx h0
  obtain ⟨RB, hRB⟩ : ∃ B, w.heap.size = B := ⟨_, rfl⟩
  have hRw : w.heap.size ≤ RB := by omega
  rw [hRB] at br
  simp only [hRB]
  clear hW1 hRB h0
  by_cases h1 : sign < 1 ∨ (signs : Int) < sign
  · obtain rfl := HN.out h1
    have z0 := br.cell 0
    have z1 := br.cell 1
    have f0 := br.frozen 0
    have f1 := br.frozen 1
    have BF := Lib.hid (bk2G (v0 := .int .i64 0) (v1 := .int .i64 1) br)
    have HXF := Lib.hid (ext2G (B := RB) hx hRw (.int .i64 0) (.int .i64 1))
    clear br CL
    by_cases h2 : sign < 1
    · have h2' : decide (sign < 1) = true := by simpa using h2
      go_wp2_with fail
      clear z0 z1 f0 f1
      have bF := BF.out
      have hxF := HXF.out
      generalize (W1.setCell _ _).setCell _ _ = wF at *
      have z0 := bF.cell 0
      have z1 := bF.cell 1
      exact bodyPost_ret (v := .agg #[.int .i64 0, .int .i64 1]) (by simp [results, Tryz.results22, go_sem, z0, z1]) rfl ⟨rfl, hxF⟩
    · have h2' : decide (sign < 1) = false := by simpa using h2
      have h3' : decide ((signs : Int) < sign) = true := by simp; omega
      go_wp2_with fail
      clear z0 z1 f0 f1
      have bF := BF.out
      have hxF := HXF.out
      generalize (W1.setCell _ _).setCell _ _ = wF at *
      have z0 := bF.cell 0
      have z1 := bF.cell 1
      exact bodyPost_ret (v := .agg #[.int .i64 0, .int .i64 1]) (by simp [results, Tryz.results22, go_sem, z0, z1]) rfl ⟨rfl, hxF⟩
  · have h2' : decide (sign < 1) = false := by simp; omega
    have h3' : decide ((signs : Int) < sign) = false := by simp; omega
    have cl := CL.out h1
    obtain ⟨M, hM⟩ : ∃ M, min L 2 = M := ⟨_, rfl⟩
    obtain ⟨lg, hlg⟩ : ∃ lg, decide (2 ≤ L) = lg := ⟨_, rfl⟩
    rw [hlg] at cl
    have cl := Lib.hid cl
    have BR := Lib.hid br; have HX := Lib.hid hx; have HRR := Lib.hid hr; have HL := Lib.hid hlg; have HM := Lib.hid hM
    clear CL HN br hx hr hlg hM
    go_upto_if 19 with fail
    obtain ⟨K, hK⟩ : ∃ K, L - 2 = K := ⟨_, rfl⟩
    have HK := Lib.hid hK
    clear hK
    go_cut [1] (fun v w' => ∃ P' p', v = .slice P' M p' ∧ Hid ((P' = none → p' = 0) ∧ M ≤ p' ∧ Rd W1 P' M (fun k => .int .i64 (f (L - 2 + k)))) ∧ w' = W1)
    case first => as_aux_lemma =>
      have hs1 := HS.out.ext HX.out
      clear HS HX cl BR
      by_cases g : 2 < L
      · obtain ⟨b, o, rfl, hb, hc⟩ := hs1 (by omega)
        obtain rfl : M = 2 := by have := HM.out; omega
        obtain rfl : lg = true := by rw [← HL.out]; exact decide_eq_true (by omega)
        have hK := HK.out
        have hsub : IntKind.i64.wrap ((L : Int) - 2) = (K : Int) := by rw [IntWalk.i64_in _ (by omega)]; omega
        have g' : decide ((2 : Int) < (L : Int)) = true := by simp; omega
        have hrd : Rd W1 (some ⟨b, o + K, none⟩) 2 (fun k => .int .i64 (f (L - 2 + k))) := fun _ => ⟨b, o + K, rfl, hb, fun k hk => by
          rw [Nat.add_assoc, hK]
          exact hc (K + k) (by omega)⟩
        obtain rfl : L = K + 2 := by omega
        have HRD := Lib.hid hrd
        clear hc hs1 hK hrd
        go_wp2_with fail
        all_goals go_meet
        all_goals first
          | (exfalso; omega)
          | exact ⟨_, _, rfl, ⟨(fun q => by cases q), by omega, HRD.out⟩, rfl⟩
      · have g' : decide ((2 : Int) < (L : Int)) = false := by simp; omega
        obtain rfl : L = M := by have := HM.out; omega
        go_wp2_with fail
        go_meet
        refine ⟨P, p, rfl, ⟨hP, hcp, hs1.congr fun k hk => ?_⟩, rfl⟩
        rw [show L - 2 + k = k from by omega]
    case rest => as_aux_lemma =>
      obtain ⟨P', p', rfl, HP, rfl⟩ := hcut
      obtain ⟨hP', hp', hrd⟩ := HP.out
      have cl := cl.out P' M p' wc HRR.out HM.out.symm hP' hp' hrd
      have hlg : ((M : Int) == 2) = lg := by
        have h1 := HM.out
        have h2 := HL.out
        by_cases g : 2 ≤ L
        · rw [decide_eq_true g] at h2; rw [← h2]; simp; omega
        · rw [decide_eq_false g] at h2; rw [← h2]; simp; omega
      clear HP hP' hrd HM HL HS HRR
      cases lg with
      | true =>
        go_wp2_with fail
        with_reducible refine cl.mono ?_
        rintro e w5 ⟨rfl, hx5⟩
        have brd := BR.out.ext hx5
        have z0 := brd.cell 0
        have z1 := brd.cell 1
        have f0 := brd.frozen 0
        have f1 := brd.frozen 1
        have BF := Lib.hid (bk2G (v0 := .int .i64 F.1) (v1 := .int .i64 F.2) brd)
        have HXF := Lib.hid (ext2G (B := RB) (HX.out.trans hx5) hRw (.int .i64 F.1) (.int .i64 F.2))
        clear brd BR cl
        go_wp2_with fail
        clear z0 z1 f0 f1
        have bF := BF.out
        have hxF := HXF.out
        generalize (w5.setCell _ _).setCell _ _ = wF at *
        have z0 := bF.cell 0
        have z1 := bF.cell 1
        exact bodyPost_ret (v := .agg #[.int .i64 F.1, .int .i64 F.2]) (by simp [results, Tryz.results22, go_sem, z0, z1]) rfl ⟨rfl, hxF⟩
      | false =>
        go_wp2_with fail
        with_reducible refine cl.mono ?_
        rintro e w5 ⟨rfl, hx5⟩
        have brd := BR.out.ext hx5
        have z0 := brd.cell 0
        have z1 := brd.cell 1
        have f0 := brd.frozen 0
        have f1 := brd.frozen 1
        have BF := Lib.hid (bk2G (v0 := .int .i64 F.1) (v1 := .int .i64 F.2) brd)
        have HXF := Lib.hid (ext2G (B := RB) (HX.out.trans hx5) hRw (.int .i64 F.1) (.int .i64 F.2))
        clear brd BR cl
        go_wp2_with fail
        clear z0 z1 f0 f1
        have bF := BF.out
        have hxF := HXF.out
        generalize (w5.setCell _ _).setCell _ _ = wF at *
        have z0 := bF.cell 0
        have z1 := bF.cell 1
        exact bodyPost_ret (v := .agg #[.int .i64 F.1, .int .i64 F.2]) (by simp [results, Tryz.results22, go_sem, z0, z1]) rfl ⟨rfl, hxF⟩
theorem rlikelyOf_calls (l s : List Int) (hl : l.length ≤ 101) (hsl : s.length ≤ 1000000000) (signs : Nat) (hsg : signs ≤ 101) (sign : Int) (A P : Option Addr) (c p : Nat) (hP : P = none → p = 0) (hcp : s.length ≤ p) (w : World)
    (hr : Rd w A l.length (fun k => .int .i64 (nth l k))) (hs : Rd w P s.length (fun k => .int .i64 (nth s k))) :
    Calls Tryz.prog 22 #[.slice A l.length c, .slice P s.length p, .int .i64 sign, .int .i64 signs] w (RetPart (if sign < 1 ∨ (signs : Int) < sign then (0, 1) else likeF l signs sign (s.drop (s.length - 2)) (decide ((s.drop (s.length - 2)).length = 2))) w) := by
  have hbl : (s.drop (s.length - 2)).length = s.length - (s.length - 2) := List.length_drop
  have e : decide ((s.drop (s.length - 2)).length = 2) = decide (2 ≤ s.length) := by
    rw [hbl]; exact decide_eq_decide.2 ⟨fun h => by omega, fun h => by omega⟩
  rw [e]
  refine rlikelyOf_walk l.length s.length A P c p sign signs _ (nth s) hsl hP hcp w (fun w => Rd w A l.length (fun k => .int .i64 (nth l k))) (fun _ _ hx r => Rd.ext r hx) hr hs (fun hn P' M p' w' r hM hP' hp' hs' => ?_) (fun h => by rw [if_pos h])
  rw [if_neg hn]
  have eM : (s.drop (s.length - 2)).length = M := by rw [hbl]; omega
  rw [← eM] at hp' hs' ⊢
  refine rlikely_calls l hl signs hsg sign (s.drop (s.length - 2)) _ (by omega) A P' c p' w' hP' hp' r (hs'.congr fun k hk => ?_)
  have : nth (s.drop (s.length - 2)) k = nth s (s.length - 2 + k) := by unfold nth; rw [List.getElem?_drop]
  rw [this]
end Go.Proofs.YtjfdlibceldanabGreatDoor
