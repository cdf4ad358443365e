/- wave.Kinds: the walks, on a wave that is made. -/
import Derived.Test.YtjfdlibceldanabGreatDoorWvCount
import Derived.Test.YtjfdlibceldanabGreatDoorWvRf
import Derived.Test.YtjfdlibceldanabGreatDoorWvPl
namespace Go.Proofs.YtjfdlibceldanabGreatDoor
open Go.RowKit Wv

theorem kindsT_nil {d : Nat} {l : List Nat} {f t k p : Nat} (h : C d l (d - k) p t ≤ C d l (d - k) p f) : kindsT d l f t k p = [] := by
  cases k with
  | zero => rw [kindsT]; exact if_pos h
  | succ k => rw [kindsT, if_pos h]
theorem kindsT_zero {d : Nat} {l : List Nat} {f t p : Nat} (h : ¬ C d l d p t ≤ C d l d p f) : kindsT d l f t 0 p = [p] := by rw [kindsT, if_neg h]
theorem kindsT_succ {d : Nat} {l : List Nat} {f t k p : Nat} (h : ¬ C d l (d - (k + 1)) p t ≤ C d l (d - (k + 1)) p f) : kindsT d l f t (k + 1) p = kindsT d l f t k (2 * p) ++ kindsT d l f t k (2 * p + 1) := by rw [kindsT, if_neg h]
theorem kindsT_len (d : Nat) (l : List Nat) (f t k p : Nat) (hk : k ≤ d) (hd : d ≤ 16) : (kindsT d l f t k p).length ≤ 65536 := by
  rw [kindsT_eq f t k p hk]
  refine Nat.le_trans (List.length_filter_le ..) ?_
  rw [List.length_map, List.length_range]
  exact pow16 (Nat.le_trans hk hd)

/-- What kinds is called with. -/
abbrev kargs (l : List Nat) (d : Nat) (A : Option Addr) (c f t L p : Nat) : Array Value :=
  #[.agg #[.int .i64 l.length, .int .i64 d, .slice A d c], .int .i64 L, .int .i64 p, .agg #[.int .i64 (F d l L p : Nat), .int .i64 (F d l L (p + 1) : Nat)], .int .i64 (C d l L p f : Nat), .int .i64 (C d l L p t : Nat)]

set_option maxHeartbeats 2000000 in
set_option maxRecDepth 100000 in
theorem kinds_none (l : List Nat) (d : Nat) (A : Option Addr) (c f t L p : Nat) (w : World) (h : C d l L p t ≤ C d l L p f) :
    Calls Tryz.prog 160 (kargs l d A c f t L p) w (RetInts [] w) := by
  obtain ⟨x, hx⟩ : ∃ x, C d l L p t = x := ⟨_, rfl⟩
  obtain ⟨y, hy⟩ : ∃ y, C d l L p f = y := ⟨_, rfl⟩
  unfold kargs
  rw [hx, hy] at h ⊢
  clear hx hy
  go_enter Tryz.func160, Tryz.ntmps160
  go_wp2_with fail
  go_ret
  exact ⟨none, 0, rfl, fun _ => rfl, Rd.zero, ((Ext.refl _).alloc _).alloc _⟩
set_option maxHeartbeats 2000000 in
set_option maxRecDepth 100000 in
theorem kinds_leaf (l : List Nat) (d : Nat) (A : Option Addr) (c f t p : Nat) (w : World) (h : ¬ C d l d p t ≤ C d l d p f) :
    Calls Tryz.prog 160 (kargs l d A c f t d p) w (RetInts [p] w) := by
  obtain ⟨x, hx⟩ : ∃ x, C d l d p t = x := ⟨_, rfl⟩
  obtain ⟨y, hy⟩ : ∃ y, C d l d p f = y := ⟨_, rfl⟩
  unfold kargs
  rw [hx, hy] at h ⊢
  clear hx hy
  have h' : decide (x ≤ y) = false := by simpa using h
  clear h
  go_enter Tryz.func160, Tryz.ntmps160
  go_wp2_with fail
  generalize hW1 : World.alloc w _ = W1
  generalize hW : World.alloc W1 _ = W
  generalize hW2 : World.alloc W _ = W2
  have hs1 : W1.heap.size = w.heap.size + 1 := by rw [← hW1]; simp
  have hs2 : W.heap.size = w.heap.size + 1 + 1 := by rw [← hW]; simp [hs1]
  have b2 := bk_of hW2
  rw [hs2] at b2
  have hx2 : Ext w W2 := ((ext_of_alloc hW1).trans (ext_of_alloc hW)).trans (ext_of_alloc hW2)
  clear hW hW1 hW2 hs1 hs2
  go_ret
  refine ⟨some ⟨w.heap.size + 1 + 1, 0, none⟩, 1, rfl, (fun h => by cases h), (fun _ => ⟨_, 0, rfl, b2.lt, fun k hk => ?_⟩), hx2⟩
  have : k = 0 := by simpa using hk
  subst this
  exact b2.cell 0

set_option maxHeartbeats 8000000 in
set_option maxRecDepth 100000 in
theorem kinds_node (l : List Nat) (d : Nat) (hd : 1 ≤ d ∧ d ≤ 16) (hl : l.length ≤ 17592186044416) (hf : ∀ x ∈ l, x < 2 ^ d) (A : Option Addr) (c f t k L p : Nat) (hk : L + (k + 1) = d) (hp : p < 2 ^ L) (w : World) (h : ¬ C d l L p t ≤ C d l L p f) (hr : RdL w A (waveOf l d).L)
    (ih : ∀ p, p < 2 ^ (L + 1) → ∀ w, RdL w A (waveOf l d).L → Calls Tryz.prog 160 (kargs l d A c f t (L + 1) p) w (RetInts (kindsT d l f t k p) w)) :
    Calls Tryz.prog 160 (kargs l d A c f t L p) w (RetInts (kindsT d l f t k (2 * p) ++ kindsT d l f t k (2 * p + 1)) w) := by
  obtain ⟨ii, hi, hj0, hj1, hj2⟩ := info_parts info_int
  have hlen : (waveOf l d).L.length = d := levelsOf_length l d d
  have hL : L < d := by omega
  have hat := waveOf_at l d (L := L) hL
  have hp16 : p < 65536 := Nat.lt_of_lt_of_le hp (pow16 (by omega))
  have dn1 := fun one A1 A2 c1 c2 w hr => wdown_calls d l hl hf L p hL hp f one A1 A2 c1 c2 w hr
  have dn2 := fun one A1 A2 c1 c2 w hr => wdown_calls d l hl hf L p hL hp t one A1 A2 c1 c2 w hr
  have hk0 := kindsT_len d l f t k (2 * p) (by omega) (by omega)
  have hk1 := kindsT_len d l f t k (2 * p + 1) (by omega) (by omega)
  have ih0 := ih (2 * p) (by rw [Nat.pow_succ]; omega)
  have ih1 := ih (2 * p + 1) (by rw [Nat.pow_succ]; omega)
  obtain ⟨X, hX⟩ : ∃ X, (waveOf l d).L = X := ⟨_, rfl⟩
  rw [hX] at hr hlen hat ih0 ih1
  obtain ⟨bb, hbb⟩ : ∃ b, bitsAt d l L = b := ⟨_, rfl⟩
  rw [hbb] at hat dn1 dn2
  have hbl : bb.length = l.length := by rw [← hbb]; exact bitsAt_length hf (Nat.le_of_lt hL)
  obtain ⟨K0, hK0⟩ : ∃ K, kindsT d l f t k (2 * p) = K := ⟨_, rfl⟩
  obtain ⟨K1, hK1⟩ : ∃ K, kindsT d l f t k (2 * p + 1) = K := ⟨_, rfl⟩
  rw [hK0] at ih0 hk0 ⊢
  rw [hK1] at ih1 hk1 ⊢
  clear hK0 hK1 hX hbb ih
  unfold kargs at ih0 ih1 ⊢
  obtain ⟨F0, hF0⟩ : ∃ x, F d l L p = x := ⟨_, rfl⟩
  obtain ⟨F1, hF1⟩ : ∃ x, F d l L (p + 1) = x := ⟨_, rfl⟩
  obtain ⟨Cf, hCf⟩ : ∃ x, C d l L p f = x := ⟨_, rfl⟩
  obtain ⟨Ct, hCt⟩ : ∃ x, C d l L p t = x := ⟨_, rfl⟩
  rw [hF0, hF1, hCf] at dn1
  rw [hF0, hF1, hCt] at dn2
  rw [hCf, hCt] at h
  rw [hF0, hF1, hCf, hCt]
  have h' : decide (Ct ≤ Cf) = false := by simpa using h
  have hLd : ((L : Int) == (d : Int)) = false := by rw [beq_eq_false_iff_ne]; omega
  have DN1 := Lib.hid dn1; have DN2 := Lib.hid dn2; have IH0 := Lib.hid ih0; have IH1 := Lib.hid ih1; have HR := Lib.hid hr; have HAT := Lib.hid hat; have HLEN := Lib.hid hlen
  obtain ⟨hd1, hd2⟩ := hd
  clear dn1 dn2 ih0 ih1 hF0 hF1 hCf hCt h hf hr hat hlen
  go_enter Tryz.func160, Tryz.ntmps160
  go_wp2_with fail
  generalize hW1 : World.alloc w _ = W1
  generalize hW2 : World.alloc W1 _ = W2
  generalize hW : World.alloc W2 _ = W
  have hs1 : W1.heap.size = w.heap.size + 1 := by rw [← hW1]; simp
  have hs2 : W2.heap.size = w.heap.size + 1 + 1 := by rw [← hW2]; simp [hs1]
  have hx2 := ext_of_alloc hW2
  have hx3 := ext_of_alloc hW
  have bx := (bx3_of hW1).ext (hx2.trans hx3)
  have bn := (bk_of hW2).ext hx3
  have bl := bk_of hW
  rw [hs1] at bn
  rw [hs2] at bl
  have hxW : Ext w W := (ext_of_alloc hW1).trans (hx2.trans hx3)
  have hrW := Lib.hid (HR.out.ext hxW)
  have HBX := Lib.hid bx; have HBN := Lib.hid bn; have HBL := Lib.hid bl
  clear hW hW1 hW2 hs1 hs2 hx2 hx3 bx bn bl HR
  generalize w.heap.size + 1 + 1 = BL at *
  generalize w.heap.size + 1 = BN at *
  obtain ⟨acc, hacc⟩ : ∃ acc : Nat → List Nat, acc = fun h => if h = 0 then [] else if h = 1 then K0 else K0 ++ K1 := ⟨_, rfl⟩
  have hA0 : acc 0 = [] := by rw [hacc]; rfl
  have hA2 : acc 2 = K0 ++ K1 := by rw [hacc]; rfl
  have hAl : ∀ h, (acc h).length ≤ 131072 := fun h => by
    rw [hacc]
    show (if h = 0 then [] else if h = 1 then K0 else K0 ++ K1).length ≤ _
    split
    · simp
    · split
      · omega
      · rw [List.length_append]; omega
  obtain ⟨KK, hKK⟩ : ∃ KK : Nat → List Nat, KK = fun h => if h = 0 then K0 else K1 := ⟨_, rfl⟩
  have hAs : ∀ h, h < 2 → acc (h + 1) = acc h ++ KK h := fun h hh => by
    rcases (show h = 0 ∨ h = 1 by omega) with rfl | rfl
    · rw [hacc, hKK]; rfl
    · rw [hacc, hKK]; rfl
  have hKl : ∀ h, (KK h).length ≤ 65536 := fun h => by
    rw [hKK]
    show (if h = 0 then K0 else K1).length ≤ _
    split <;> omega
  have ihK : ∀ h, h < 2 → ∀ w, RdL w A X → Calls Tryz.prog 160 (kargs l d A c f t (L + 1) (2 * p + h)) w (RetInts (KK h) w) := fun h hh => by
    rcases (show h = 0 ∨ h = 1 by omega) with rfl | rfl
    · rw [hKK]; exact IH0.out
    · rw [hKK]; exact IH1.out
  have HA0 := Lib.hid hA0; have HA2 := Lib.hid hA2; have HAL := Lib.hid hAl; have HAS := Lib.hid hAs; have HKL := Lib.hid hKl; have IHK := Lib.hid ihK
  clear hacc hA0 hA2 hAl hKK hAs hKl ihK IH0 IH1 hk0 hk1
  go_loopw [13, 31] (fun vl vh wr => ∃ (h : Nat) (B : Option Addr) (e : Nat), vh = .int .i64 h ∧ h ≤ 2 ∧ vl = .slice B (acc h).length e ∧ Hid (wr.ownsRow W.heap.size 3 1 (.slice B (acc h).length e) (acc h).length ((acc h).map fun x => Value.int .i64 (x : Nat))) ∧ Ext W wr) (fun _ vh _ => 2 - (intOf vh).toNat)
  case atStart =>
    refine ⟨0, none, 0, rfl, by omega, by rw [HA0.out]; rfl, ?_, Ext.refl _⟩
    show World.ownsRow _ _ _ _ _ _ _
    rw [HA0.out]; exact own_nil ..
  case round =>
    obtain ⟨h, B, e, rfl, hh, rfl, HO, hx⟩ := hrel
    by_cases g1 : h < 2
    · obtain ⟨one, hone⟩ : ∃ one, decide (h = 1) = one := ⟨_, rfl⟩
      have pb : wr.cell? ⟨BL, h, none⟩ = some (.bool one) := by
        rw [← hone, (HBL.out.ext hx).cell h]
        rcases (show h = 0 ∨ h = 1 by omega) with rfl | rfl <;> rfl
      have hnx : nx p one = 2 * p + h := by
        rw [← hone]; unfold nx
        rcases (show h = 0 ∨ h = 1 by omega) with rfl | rfl <;> rfl
      have HNX := Lib.hid hnx
      clear hone hnx
      go_upto_region 9 with fail
      have hrr := hrW.out.ext hx
      obtain ⟨b1, o1, hA, hb1, hc1⟩ := hrr (by rw [HLEN.out]; omega)
      subst hA
      obtain ⟨A1, A2, c1, c2, p1, p2, p3, hrb⟩ := hc1 L (by rw [HLEN.out]; exact hL)
      rw [HAT.out] at p1 p2 p3 hrb
      clear hc1 pb
      obtain ⟨vf, hvf⟩ : ∃ v, C d l (L + 1) (nx p one) f = v := ⟨_, rfl⟩
      obtain ⟨vt, hvt⟩ : ∃ v, C d l (L + 1) (nx p one) t = v := ⟨_, rfl⟩
      obtain ⟨n0, hn0⟩ : ∃ v, F d l (L + 1) (nx p one) = v := ⟨_, rfl⟩
      obtain ⟨n1, hn1⟩ : ∃ v, F d l (L + 1) (nx p one + 1) = v := ⟨_, rfl⟩
      have dn1 := DN1.out one A1 A2 c1 c2
      have dn2 := DN2.out one A1 A2 c1 c2
      rw [hvf, hn0, hn1] at dn1
      rw [hvt, hn0, hn1] at dn2
      have D1 := Lib.hid dn1; have D2 := Lib.hid dn2
      have HVF := Lib.hid hvf; have HVT := Lib.hid hvt; have HN0 := Lib.hid hn0; have HN1 := Lib.hid hn1
      clear dn1 dn2 hvf hvt hn0 hn1
      go_cut [16, 17] (fun v16 v17 w' => ∃ By, v16 = .pointer (some ⟨By, 0, none⟩) ∧ v17 = .int .i64 (vf : Nat) ∧ Hid (Bk w' By 182 #[.int .i64 n0, .int .i64 n1]) ∧ Ext wr w')
      case first => as_aux_lemma =>
        obtain ⟨x0, x1, x2⟩ := HBX.out.ext hx
        have y0 := (HBN.out.ext hx).cell 0
        have y1 := (HBN.out.ext hx).cell 1
        have hcur : Ext wr wr.drew := (Ext.refl wr).drew
        have bz : Bk (wr.drew.alloc (.cells #[.int .i64 0, .int .i64 0] 182)) wr.heap.size 182 #[.int .i64 0, .int .i64 0] := Bk.new ..
        have BZ := Lib.hid bz
        clear bz
        go_region_held3 (fun w' => (w'.cell? ⟨BN, 0, none⟩ = some (.int .i64 F0) ∧ w'.cell? ⟨BN, 1, none⟩ = some (.int .i64 F1) ∧ w'.cell? ⟨w.heap.size, 2, none⟩ = some (.slice (some ⟨b1, o1, none⟩) d c)) ∧ w'.cell? ⟨b1, o1 + L * 3, none⟩ = some (.int .i64 (bitsOf bb).N) ∧ w'.cell? ⟨b1, o1 + L * 3 + 1, none⟩ = some (.slice A1 (bitsOf bb).P.length c1) ∧ w'.cell? ⟨b1, o1 + L * 3 + 2, none⟩ = some (.slice A2 (bitsOf bb).A.length c2))
          (first | (exact ⟨⟨ecell y0 hcur, ecell y1 hcur, ecell x2 hcur⟩, ecell p1 hcur, ecell p2 hcur, ecell p3 hcur⟩) | (exact ⟨⟨ecell y0 (hcur.alloc _), ecell y1 (hcur.alloc _), ecell x2 (hcur.alloc _)⟩, ecell p1 (hcur.alloc _), ecell p2 (hcur.alloc _), ecell p3 (hcur.alloc _)⟩) | (exact ⟨⟨ecell y0 hfin, ecell y1 hfin, ecell x2 hfin⟩, ecell p1 hfin, ecell p2 hfin, ecell p3 hfin⟩) | go_keep)
          (first
            | (go_at_call 159; refine (D1.out _ (hrb.ext hcur)).mono ?_; rintro e wn ⟨rfl, hxn⟩; replace hcur := hcur.trans hxn)
            | (go_at_call 159; refine (D1.out _ (hrb.ext (hcur.alloc _))).mono ?_; rintro e wn ⟨rfl, hxn⟩; replace hcur := (hcur.alloc _).trans hxn; have BZ2 := Lib.hid (BZ.out.ext hxn); have z0 := BZ2.out.cell 0; have z1 := BZ2.out.cell 1; have g0 := BZ2.out.frozen 0; have g1 := BZ2.out.frozen 1; have hfin := (hcur.setCell (p := ⟨wr.heap.size, 0, none⟩) (Nat.le_refl _) (.int .i64 n0)).setCell (p := ⟨wr.heap.size, 1, none⟩) (Nat.le_refl _) (.int .i64 n1)))
        all_goals
          go_wp2_with fail
          go_meet
          first
            | exact ⟨_, rfl, rfl, Lib.hid (Bk.new ..), hcur.alloc _⟩
            | exact ⟨_, rfl, rfl, Lib.hid ((BZ2.out.set 0 _).set 1 _), hfin⟩
      case rest => as_aux_lemma =>
        obtain ⟨By, rfl, rfl, HBY, hxc⟩ := hcut
        go_upto_region 10 with fail
        obtain ⟨wb, rfl⟩ : ∃ wb, wb = wc := ⟨_, rfl⟩
        go_cut [19] (fun v19 w' => v19 = .int .i64 (vt : Nat) ∧ Ext wb w')
        case first => as_aux_lemma =>
          have hxq := hx.trans hxc
          obtain ⟨x0, x1, x2⟩ := HBX.out.ext hxq
          have y0 := (HBN.out.ext hxq).cell 0
          have y1 := (HBN.out.ext hxq).cell 1
          have hrb2 := hrb.ext hxc
          replace p1 := ecell p1 hxc
          replace p2 := ecell p2 hxc
          replace p3 := ecell p3 hxc
          have hcur : Ext wb wb.drew := (Ext.refl wb).drew
          have bz : Bk (wb.drew.alloc (.cells #[.int .i64 0, .int .i64 0] 182)) wb.heap.size 182 #[.int .i64 0, .int .i64 0] := Bk.new ..
          have BZ := Lib.hid bz
          clear bz
          go_region_held3 (fun w' => (w'.cell? ⟨BN, 0, none⟩ = some (.int .i64 F0) ∧ w'.cell? ⟨BN, 1, none⟩ = some (.int .i64 F1) ∧ w'.cell? ⟨w.heap.size, 2, none⟩ = some (.slice (some ⟨b1, o1, none⟩) d c)) ∧ w'.cell? ⟨b1, o1 + L * 3, none⟩ = some (.int .i64 (bitsOf bb).N) ∧ w'.cell? ⟨b1, o1 + L * 3 + 1, none⟩ = some (.slice A1 (bitsOf bb).P.length c1) ∧ w'.cell? ⟨b1, o1 + L * 3 + 2, none⟩ = some (.slice A2 (bitsOf bb).A.length c2))
            (first | (exact ⟨⟨ecell y0 hcur, ecell y1 hcur, ecell x2 hcur⟩, ecell p1 hcur, ecell p2 hcur, ecell p3 hcur⟩) | (exact ⟨⟨ecell y0 (hcur.alloc _), ecell y1 (hcur.alloc _), ecell x2 (hcur.alloc _)⟩, ecell p1 (hcur.alloc _), ecell p2 (hcur.alloc _), ecell p3 (hcur.alloc _)⟩) | (exact ⟨⟨ecell y0 hfin, ecell y1 hfin, ecell x2 hfin⟩, ecell p1 hfin, ecell p2 hfin, ecell p3 hfin⟩) | go_keep)
            (first
              | (go_at_call 159; refine (D2.out _ (hrb2.ext hcur)).mono ?_; rintro e wn ⟨rfl, hxn⟩; replace hcur := hcur.trans hxn)
              | (go_at_call 159; refine (D2.out _ (hrb2.ext (hcur.alloc _))).mono ?_; rintro e wn ⟨rfl, hxn⟩; replace hcur := (hcur.alloc _).trans hxn; have BZ2 := Lib.hid (BZ.out.ext hxn); have z0 := BZ2.out.cell 0; have z1 := BZ2.out.cell 1; have g0 := BZ2.out.frozen 0; have g1 := BZ2.out.frozen 1; have hfin := (hcur.setCell (p := ⟨wb.heap.size, 0, none⟩) (Nat.le_refl _) (.int .i64 n0)).setCell (p := ⟨wb.heap.size, 1, none⟩) (Nat.le_refl _) (.int .i64 n1)))
          all_goals
            go_wp2_with fail
            go_meet
            first
              | exact ⟨rfl, hcur.alloc _⟩
              | exact ⟨rfl, hfin⟩
        case rest => as_aux_lemma =>
          obtain ⟨rfl, hxc2⟩ := hcut
          have hxq := hx.trans (hxc.trans hxc2)
          obtain ⟨x0, x1, x2⟩ := HBX.out.ext hxq
          have y0 := (HBY.out.ext hxc2).cell 0
          have y1 := (HBY.out.ext hxc2).cell 1
          have hrX := hrr.ext (hxc.trans hxc2)
          have HO2 := Lib.hid (own_ext HO.out (hxc.trans hxc2))
          have hkl := HKL.out h
          have hal := HAL.out h
          have ihh := IHK.out h g1 wc hrX
          unfold kargs at ihh
          rw [show ((2 * p + h : Nat) : Int) = 2 * (p : Int) + (h : Int) from by omega, ← HNX.out, HVF.out, HVT.out, HN0.out, HN1.out, show ((L + 1 : Nat) : Int) = (L : Int) + 1 from by omega] at ihh
          have IHH := Lib.hid ihh
          clear ihh hrX hxc hxc2 hrr hrb p1 p2 p3 D1 D2
          go_wp2_with fail
          with_reducible refine IHH.out.mono ?_
          rintro ee we ⟨G, cg, rfl, hG, hRG, hxe⟩
          have HO3 := Lib.hid (own_ext HO2.out hxe)
          have hxr := hxq.trans hxe
          have hbs : W.heap.size ≤ we.heap.size := hxr.size
          have HAS2 := HAS.out h g1
          have hla : (acc (h + 1)).length = (acc h).length + (KK h).length := by rw [HAS2, List.length_append]
          have HLA := Lib.hid hla; have HAS3 := Lib.hid HAS2
          clear HO2 HO x0 x1 x2 y0 y1 hla HAS2
          go_wp2_with (at_builtin; refine wpList_appAll (by rfl) _ _ 24 rfl W.heap.size 3 ii (.int .i64 0) 8 Tryz.underlying24 hi hj0 hj1 hj2 rfl _ (acc h).length _ rfl HO3.out G (KK h).length cg (fun j => .int .i64 (nth (KK h) j : Nat)) rfl hG hRG (fun _ _ => rfl) (by omega) (by omega) (by omega) hbs ?_)
          intro v1 w1 own1 hg1
          have hx1 := hxr.grown hg1 (fun k hk => (own_row_ge HO3.out k hk).1)
          obtain ⟨B1, e1, hv1⟩ := own_form own1
          subst hv1
          have HO4 : Hid (w1.ownsRow W.heap.size 3 1 (.slice B1 (acc (h + 1)).length e1) (acc (h + 1)).length ((acc (h + 1)).map fun x => Value.int .i64 (x : Nat))) := by
            show World.ownsRow _ _ _ _ _ _ _
            rw [HLA.out, HAS3.out, List.map_append, ← map_nth' (fun x => Value.int .i64 (x : Nat)) (KK h)]; exact own1
          rw [← HLA.out]
          clear own1 hg1 HO3
          go_wp2_with fail
          refine ⟨⟨h + 1, B1, e1, by go_num, by omega, rfl, HO4, hx1⟩, by simp [intOf]; omega⟩
    · obtain rfl : h = 2 := by omega
      go_wp2_with fail
      go_ret
      have ho := HO.out
      rw [HA2.out] at ho ⊢
      exact ⟨B, e, rfl, own_none ho, rd_ints ho, hxW.trans hx⟩

theorem kinds_calls (l : List Nat) (d : Nat) (hd : 1 ≤ d ∧ d ≤ 16) (hl : l.length ≤ 17592186044416) (hf : ∀ x ∈ l, x < 2 ^ d) (A : Option Addr) (c f t : Nat) : ∀ (k L p : Nat), L + k = d → p < 2 ^ L → ∀ (w : World), RdL w A (waveOf l d).L →
    Calls Tryz.prog 160 (kargs l d A c f t L p) w (RetInts (kindsT d l f t k p) w)
  | 0, L, p, hk, hp, w, hr => by
    obtain rfl : L = d := by omega
    by_cases g : C L l L p t ≤ C L l L p f
    · rw [kindsT_nil (k := 0) g]; exact kinds_none l L A c f t L p w g
    · rw [kindsT_zero g]; exact kinds_leaf l L A c f t p w g
  | k + 1, L, p, hk, hp, w, hr => by
    have e : d - (k + 1) = L := by omega
    by_cases g : C d l L p t ≤ C d l L p f
    · rw [kindsT_nil (k := k + 1) (by rw [e]; exact g)]; exact kinds_none l d A c f t L p w g
    · rw [kindsT_succ (by rw [e]; exact g)]
      exact kinds_node l d hd hl hf A c f t k L p hk hp w g hr fun p hp w hr => kinds_calls l d hd hl hf A c f t k (L + 1) p (by omega) hp w hr

set_option maxHeartbeats 2000000 in
set_option maxRecDepth 100000 in
theorem wkinds_calls (l : List Nat) (d : Nat) (hd : 1 ≤ d ∧ d ≤ 16) (hl : l.length ≤ 17592186044416) (hf : ∀ x ∈ l, x < 2 ^ d) (A : Option Addr) (c : Nat) (f0 t0 : Int) (w : World) (hr : RdL w A (waveOf l d).L) :
    Calls Tryz.prog 126 #[.agg #[.int .i64 l.length, .int .i64 d, .slice A (waveOf l d).L.length c], .int .i64 f0, .int .i64 t0] w (RetInts (kindsT d l (cl f0 l.length) (cl t0 l.length) d 0) w) := by
  have hg := fun w hr => wgood_calls (waveOf l d) (waveOf_ok l d hd.2 hl hf) A c w hr
  rw [goodW_made l d hd hf] at hg
  have hlen : (waveOf l d).L.length = d := levelsOf_length l d d
  have hkk := fun w hr => kinds_calls l d hd hl hf A c (cl f0 l.length) (cl t0 l.length) d 0 0 (by omega) (by simp) w hr
  have hcf := cl_max f0 l.length
  have hct := cl_max t0 l.length
  have hF0 : F d l 0 0 = 0 := F_zero 0
  have hF1 : F d l 0 (0 + 1) = l.length := F_all fun y hy => by rw [pre_zero (hf y hy)]; omega
  have hC0 : C d l 0 0 (cl f0 l.length) = cl f0 l.length := by rw [C_zero hf]; exact Nat.min_eq_left (Nat.min_le_right _ _)
  have hC1 : C d l 0 0 (cl t0 l.length) = cl t0 l.length := by rw [C_zero hf]; exact Nat.min_eq_left (Nat.min_le_right _ _)
  unfold kargs at hkk
  rw [hF0, hF1, hC0, hC1, ← hcf, ← hct] at hkk
  obtain ⟨K, hK⟩ : ∃ K, kindsT d l (cl f0 l.length) (cl t0 l.length) d 0 = K := ⟨_, rfl⟩
  rw [hK] at hkk ⊢
  obtain ⟨X, hX⟩ : ∃ X, waveOf l d = X := ⟨_, rfl⟩
  have hN : X.N = l.length := by rw [← hX]; rfl
  have hD : X.Deep = d := by rw [← hX]; rfl
  rw [hX] at hg hr hlen hkk ⊢
  rw [hN, hD] at hg
  rw [hlen] at hg ⊢
  obtain ⟨m1, hm1⟩ : ∃ m, max 0 (min f0 (l.length : Int)) = m := ⟨_, rfl⟩
  obtain ⟨m2, hm2⟩ : ∃ m, max 0 (min t0 (l.length : Int)) = m := ⟨_, rfl⟩
  rw [hm1, hm2] at hkk
  have HG := Lib.hid hg; have HK := Lib.hid hkk
  clear hX hN hD hg hf hlen hK hkk hcf hct hF0 hF1 hC0 hC1 hd
  go_enter Tryz.func126, Tryz.ntmps126
  go_wp2_with fail
  generalize hW : World.alloc w _ = W
  have bx := bx3_of hW
  have hxW := ext_of_alloc hW
  have hrW := hr.ext hxW
  clear hW
  with_reducible refine (HG.out W hrW).mono ?_
  rintro e w1 ⟨rfl, hx1⟩
  obtain ⟨x0, x1, x2⟩ := bx.ext hx1
  go_wp2_with fail
  refine (HK.out w1 (hrW.ext hx1)).mono ?_
  rintro e w2 ⟨G, cg, rfl, hG, hRG, hx2⟩
  go_wp2_with fail
  go_ret
  exact ⟨G, cg, rfl, hG, hRG, (hxW.trans hx1).trans hx2⟩
end Go.Proofs.YtjfdlibceldanabGreatDoor
