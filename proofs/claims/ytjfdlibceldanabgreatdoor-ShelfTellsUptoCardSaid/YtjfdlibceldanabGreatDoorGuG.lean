/- guess.weigh: the walk. -/
import Derived.Test.YtjfdlibceldanabGreatDoorGuP
namespace Go.Proofs.YtjfdlibceldanabGreatDoor
open Go.RowKit Go.Sort En Wv Gu Ri

set_option maxHeartbeats 8000000 in
set_option maxRecDepth 100000 in
theorem weigh_walk (n m2 : Nat) (E B D : Option Addr) (ec bc dc : Nat) (s : List Int) (A : Option Addr) (c : Nat) (sign : Int) (longest : Bool) (w : World) (R : World → Prop) (hR : ∀ w w', Ext w w' → R w → R w') (hr : R w) (hsl : s.length ≤ 1000) (hA : A = none → c = 0)
    (hs : Rd w A s.length (fun k => .int .i64 (nth s k))) (xs : List Nat) (N : Nat) (hN : xs.length = N) (hN4 : N ≤ 4096) (hx4 : ∀ k, k < N → nth xs k ≤ 4096) (cn bn : Nat → Nat) (nv : Nat → Nat) (hnv : ∀ x, nv x = if longest then cn x else bn x) (hcn : ∀ x, cn x ≤ 4096) (hbn : ∀ x, bn x ≤ 4096)
    (oP aP kP : Nat → Nat) (o0 : oP 0 = 0) (a0 : aP 0 = 0) (k0 : kP 0 = 0) (aB : ∀ i, aP i ≤ 100000000)
    (hz : ∀ i, i < N → nth xs i = 0 → oP (i + 1) = oP i ∧ aP (i + 1) = aP i ∧ kP (i + 1) = kP i)
    (hp : ∀ i, i < N → nth xs i ≠ 0 → oP (i + 1) = (if ((nth xs i : Nat) : Int) = sign then nv (nth xs i) else oP i) ∧ aP (i + 1) = aP i + nv (nth xs i) ∧ kP (i + 1) = kP i + 1) (kB : ∀ i, kP i ≤ 4096)
    (cB : ∀ w, R w → Rd w A s.length (fun k => .int .i64 (nth s k)) → Calls Tryz.prog 96 #[combV n m2 E B D ec bc dc, .slice A s.length c] w (RetInts xs w))
    (cC : ∀ (k : Nat) P p w, k ≤ 4096 → R w → Rd w P (s.length + 1) (fun j => .int .i64 (nth (s ++ [(k : Int)]) j)) → Calls Tryz.prog 32 #[combV n m2 E B D ec bc dc, .slice P (s.length + 1) p] w fun e w' => e = .returned (.int .i64 (cn k : Nat)) ∧ Ext w w')
    (cF : ∀ (k : Nat) P p w, k ≤ 4096 → R w → Rd w P (s.length + 1) (fun j => .int .i64 (nth (s ++ [(k : Int)]) j)) → Calls Tryz.prog 97 #[combV n m2 E B D ec bc dc, .slice P (s.length + 1) p] w fun e w' => ∃ Q q, e = .returned (.slice Q (bn k) q) ∧ Ext w w') :
    Calls Tryz.prog 59 #[combV n m2 E B D ec bc dc, .slice A s.length c, .int .i64 sign, .bool longest] w fun e w' => e = .returned (.tuple #[.int .i64 (oP N : Nat), .int .i64 (aP N : Nat), .int .i64 (kP N : Nat)]) ∧ Ext w w' := by
  obtain ⟨ii, hi, hj0, hj1, hj2⟩ := info_parts info_int
  have CB := Lib.hid cB; have CC := Lib.hid cC; have CF := Lib.hid cF; have HR := Lib.hid hR; have HS := Lib.hid hs; have HX4 := Lib.hid hx4; have HNV := Lib.hid hnv; have HCN := Lib.hid hcn; have HBN := Lib.hid hbn
  have AB := Lib.hid aB; have KB := Lib.hid kB; have HZ := Lib.hid hz; have HP := Lib.hid hp; have O0 := Lib.hid o0; have A0 := Lib.hid a0; have K0 := Lib.hid k0
  obtain ⟨L, hL⟩ : ∃ L, s.length = L := ⟨_, rfl⟩
  rw [hL] at CB CC CF HS hsl ⊢
  have HLL := Lib.hid hL; have HNN := Lib.hid hN
  unfold combV RetInts at CB
  unfold combV at CC CF ⊢
  clear cB cC cF hR hs hx4 hnv hcn hbn aB kB hz hp o0 a0 k0 hL
  go_enter Tryz.func59, Tryz.ntmps59
  go_wp2_with fail
  generalize hW : World.alloc w _ = W
  have bq := bk_of hW
  have hx := ext_of_alloc hW
  have hrW := HR.out _ _ hx hr
  generalize w.heap.size = Q at *
  have BQ := Lib.hid bq
  clear hW hr
  have x0 := bq.cell 0
  have x1 := bq.cell 1
  have x2 := bq.cell 2
  have x3 := bq.cell 3
  have x4 := bq.cell 4
  clear bq
  go_wp2_with fail
  with_reducible refine (CB.out W hrW (HS.out.ext hx)).mono ?_
  rintro e w3 ⟨XA, xc, rfl, _, hXr, hx3⟩
  rw [hN] at hXr
  have HXR := Lib.hid hXr
  have hrw3 := HR.out _ _ hx3 hrW
  have hxx := hx.trans hx3
  have BQ3 := Lib.hid (BQ.out.ext hx3)
  clear x0 x1 x2 x3 x4 BQ hXr hrW hx hx3 CB
  rw [hN]
  go_wp2_with fail
  go_loopw [22, 11, 12, 13] (fun vi vo va vk wr => ∃ i : Nat, vi = .int .i64 i ∧ vo = .int .i64 (oP i : Nat) ∧ va = .int .i64 (aP i : Nat) ∧ vk = .int .i64 (kP i : Nat) ∧ i ≤ N ∧ Ext w3 wr) (fun vi _ _ _ _ => N - (intOf vi).toNat)
  case atStart => exact ⟨0, rfl, by rw [O0.out]; rfl, by rw [A0.out]; rfl, by rw [K0.out]; rfl, Nat.zero_le _, Ext.refl _⟩
  case round => as_aux_lemma =>
    obtain ⟨i, rfl, rfl, rfl, rfl, hi', hxr⟩ := hrel
    by_cases g : i < N
    · obtain ⟨bX, oX, rfl, hbX, hcX⟩ := (HXR.out.ext hxr) (by omega)
      have p1 := hcX i g
      dsimp only at p1
      have hx4 := HX4.out i g
      have hz := HZ.out i g
      have hp := HP.out i g
      obtain ⟨x, hxx'⟩ : ∃ x, nth xs i = x := ⟨_, rfl⟩
      rw [hxx'] at p1 hx4 hz hp
      have HZi := Lib.hid hz; have HPi := Lib.hid hp
      clear hcX hxx' hz hp
      by_cases g1 : x = 0
      · obtain ⟨e1, e2, e3⟩ := HZi.out g1
        subst g1
        go_wp2_with fail
        refine ⟨⟨i + 1, by go_num, by rw [e1], by rw [e2], by rw [e3], by omega, hxr⟩, by simp [intOf]; omega⟩
      · have g1' : (((x : Nat) : Int) == 0) = false := by simp; omega
        obtain ⟨e1, e2, e3⟩ := HPi.out g1
        have hA2 := hA
        have hsr := HS.out.ext (hxx.trans hxr)
        have hsz := hxr.size
        go_wp2_with (at_builtin; refine wpList_appAll (w := wr) (by rfl) _ _ 24 rfl w3.heap.size 3 ii (.int .i64 0) 8 Tryz.underlying24 hi hj0 hj1 hj2 rfl _ 0 [] rfl (own_nil _ _ _ _) A L c (fun k => .int .i64 (nth s k)) rfl hA hsr (fun _ _ => rfl) (by omega) (by omega) (by omega) hsz ?_)
        intro v1 w4 ho4 hg4
        have hx4' : Ext wr w4 := (Ext.refl wr).grown hg4 (fun k hk => by cases hk)
        have hsz4 : w3.heap.size ≤ w4.heap.size := (hxr.trans hx4').size
        go_wp2_with (at_builtin; refine wpList_app1 (by rfl) _ _ 24 rfl w3.heap.size 3 ii (.int .i64 0) 8 Tryz.underlying24 hi hj0 hj1 hj2 rfl _ L _ rfl w4 (.int .i64 x) 3 rfl ho4 rfl rfl ?d1 ?d2 hsz4 ?_)
        case d1 => omega
        case d2 => omega
        intro gb cap w5 ho5 hg5
        have hx5 := (hxr.trans hx4').grown hg5 (fun k hk => (own_row_ge ho4 k hk).1)
        have hrd : Rd w5 (some ⟨gb, 0, none⟩) (L + 1) (fun j => .int .i64 (nth (s ++ [(x : Int)]) j)) := by
          have e : (s ++ [(x : Int)]).length = L + 1 := by rw [List.length_append, HLL.out]; rfl
          have e2 : (List.range L).map (fun k => Value.int .i64 (nth s k)) = s.map (Value.int .i64) := by
            rw [← HLL.out]
            refine List.ext_getElem (by simp) fun k h1 h2 => ?_
            simp at h1 h2
            simp [nth, h1]
          rw [e2] at ho5
          have := rdI_own (xs := s ++ [(x : Int)]) (w := w5) (A := some ⟨gb, 0, none⟩) (c := cap) (by rw [e, List.map_append]; exact ho5)
          rw [e] at this
          exact this
        have HRD := Lib.hid hrd
        have hr5 := HR.out _ _ hx5 hrw3
        have b5 := BQ3.out.ext hx5
        clear p1 hsr ho4 hg4 ho5 hg5 hx4' hsz hsz4 hrd
        have x0 := b5.cell 0
        have x1 := b5.cell 1
        have x2 := b5.cell 2
        have x3 := b5.cell 3
        have x4 := b5.cell 4
        have cc := CC.out x (some ⟨gb, 0, none⟩) cap w5 hx4 hr5 HRD.out
        obtain ⟨z, hzz⟩ : ∃ z, cn x = z := ⟨_, rfl⟩
        rw [hzz] at cc
        have HZZ := Lib.hid hzz
        clear hzz
        go_wp2_with fail
        with_reducible refine cc.mono ?_
        rintro e w6 ⟨rfl, hx6⟩
        have hx56 := hx5.trans hx6
        have b6 := BQ3.out.ext hx56
        clear x0 x1 x2 x3 x4 cc b5
        have x0 := b6.cell 0
        have x1 := b6.cell 1
        have x2 := b6.cell 2
        have x3 := b6.cell 3
        have x4 := b6.cell 4
        have hnv := HNV.out x
        have hcn := HCN.out x
        have hbn := HBN.out x
        have hab := AB.out i
        have hkb := KB.out i
        obtain ⟨y, hy⟩ : ∃ y, nv x = y := ⟨_, rfl⟩
        rw [hy] at hnv e1 e2
        have hy4 : y ≤ 4096 := by rw [hnv]; split <;> omega
        have hw : IntKind.i64.wrap ((aP i : Int) + y) = (aP i : Int) + y := IntWalk.i64_in _ (by omega)
        have hw2 : IntKind.i64.wrap ((kP i : Int) + 1) = (kP i : Int) + 1 := IntWalk.i64_in _ (by omega)
        have ea : ((aP (i + 1) : Nat) : Int) = (aP i : Int) + y := by rw [e2]; omega
        have ek : ((kP (i + 1) : Nat) : Int) = (kP i : Int) + 1 := by rw [e3]; omega
        cases longest with
        | true =>
          have hyc : z = y := by rw [hnv, ← HZZ.out]; rfl
          clear hnv
          subst hyc
          by_cases g2 : (x : Int) = sign
          · have g2' : ((x : Int) == sign) = true := by simpa using g2
            rw [if_pos g2] at e1
            go_wp2_with fail
            refine ⟨⟨i + 1, by go_num, by rw [e1], by rw [ea], by rw [ek], by omega, hx56⟩, by simp [intOf]; omega⟩
          · have g2' : ((x : Int) == sign) = false := by simpa using g2
            rw [if_neg g2] at e1
            go_wp2_with fail
            refine ⟨⟨i + 1, by go_num, by rw [e1], by rw [ea], by rw [ek], by omega, hx56⟩, by simp [intOf]; omega⟩
        | false =>
          have hyc : bn x = y := by rw [hnv]; rfl
          have cf := CF.out x (some ⟨gb, 0, none⟩) cap w6 hx4 (HR.out _ _ hx6 hr5) (HRD.out.ext hx6)
          rw [hyc] at cf
          clear hnv hyc
          go_wp2_with fail
          with_reducible refine cf.mono ?_
          rintro e w7 ⟨Q7, q7, rfl, hx7⟩
          have hx67 := hx56.trans hx7
          by_cases g2 : (x : Int) = sign
          · have g2' : ((x : Int) == sign) = true := by simpa using g2
            rw [if_pos g2] at e1
            go_wp2_with fail
            refine ⟨⟨i + 1, by go_num, by rw [e1], by rw [ea], by rw [ek], by omega, hx67⟩, by simp [intOf]; omega⟩
          · have g2' : ((x : Int) == sign) = false := by simpa using g2
            rw [if_neg g2] at e1
            go_wp2_with fail
            refine ⟨⟨i + 1, by go_num, by rw [e1], by rw [ea], by rw [ek], by omega, hx67⟩, by simp [intOf]; omega⟩
    · obtain rfl : i = N := by omega
      go_wp2_with fail
      go_ret3
      exact ⟨rfl, hxx.trans hxr⟩

/-! ### What weigh answers -/
def upN (xs : List Nat) (i : Nat) : List Nat := (xs.take i).filter fun x => decide (x ≠ 0)
theorem upN_succ {xs : List Nat} {i : Nat} (h : i < xs.length) : upN xs (i + 1) = if nth xs i = 0 then upN xs i else upN xs i ++ [nth xs i] := by
  unfold upN
  rw [List.take_succ_eq_append_getElem h, List.filter_append, nth_lt h, List.filter_cons, List.filter_nil]
  by_cases g : xs[i] = 0
  · simp [g]
  · simp [g]
theorem sum_bound (f : Nat → Nat) (h : ∀ x, f x ≤ 4096) : ∀ xs : List Nat, (xs.map f).sum ≤ xs.length * 4096
  | [] => by simp
  | a :: xs => by
    have := sum_bound f h xs
    have h1 := h a
    simp only [List.map_cons, List.sum_cons, List.length_cons]
    omega
theorem upN_le (xs : List Nat) (i : Nat) : (upN xs i).length ≤ xs.length := by
  unfold upN
  refine Nat.le_trans (List.length_filter_le _ _) ?_
  rw [List.length_take]; omega
theorem upN_kn {l s : List Int} {xs : List Nat} (h : xs.map Int.ofNat = behs l s) : (upN xs xs.length).map Int.ofNat = kn l s := by
  unfold upN kn
  rw [List.take_length, ← h, List.filter_map]
  congr 1
  refine List.filter_congr fun x _ => ?_
  simp
theorem nn_le4 {l : List Int} (hok : combOk l) (s : List Int) (b : Bool) (x : Int) : nn l s b x ≤ 4096 :=
  Nat.le_trans (nn_le l s b x) (Nat.le_trans (places_le l _) hok.2.2)
theorem weigh_calls (l : List Int) (hok : combOk l) (E B D : Option Addr) (ec bc dc : Nat) (s : List Int) (hs : signOk s) (hsl : s.length ≤ 1000) (A : Option Addr) (c : Nat) (hA : A = none → c = 0) (sign : Int) (longest : Bool) (w : World) (h : CombIn w l E B D) (hr : Rd w A s.length (fun k => .int .i64 (nth s k))) :
    Calls Tryz.prog 59 #[combV l.length ((mostI l).toNat + 2) E B D ec bc dc, .slice A s.length c, .int .i64 sign, .bool longest] w fun e w' => e = .returned (.tuple #[.int .i64 (ownF l s longest sign : Nat), .int .i64 (allF l s longest : Nat), .int .i64 ((kn l s).length : Nat)]) ∧ Ext w w' := by
  have h0 := isLB_nonneg hok.1
  have hm : (mostI l).toNat < 1024 := by have := hok.2.1; have := mostI_ge l; omega
  have hbs := behs_sel h0 s
  have hxs4 := selN_le (fun k => (places l (s ++ [(k : Int)])).length) ((mostI l).toNat + 1)
  have hmem : ∀ x ∈ selN (fun k => (places l (s ++ [(k : Int)])).length) ((mostI l).toNat + 1), x ≤ 4096 := fun x hx => by
    have := List.mem_range.1 (List.mem_filter.1 hx).1; omega
  have hB := fun w h hr => behinds_calls l hok E B D ec bc dc s hs hsl A c w h hr
  generalize selN (fun k => (places l (s ++ [(k : Int)])).length) ((mostI l).toNat + 1) = xs at *
  have hkn := upN_kn hbs
  have sg : ∀ k : Nat, k ≤ 4096 → signOk (s ++ [(k : Int)]) := fun k hk x hx => by
    rcases List.mem_append.1 hx with q | q
    · exact hs x q
    · rw [List.mem_singleton.1 q]; omega
  have el : ∀ k : Nat, (s ++ [(k : Int)]).length = s.length + 1 := fun k => by simp
  have key := weigh_walk l.length ((mostI l).toNat + 2) E B D ec bc dc s A c sign longest w (fun w => CombIn w l E B D) (fun _ _ hx r => r.ext hx) h hsl hA hr xs xs.length rfl (by omega) (fun k hk => hmem _ (nth_mem hk))
    (fun x => (places l (s ++ [(x : Int)])).length) (fun x => (befs l (s ++ [(x : Int)])).length) (fun x => nn l s longest (x : Int)) (fun x => rfl) (fun x => Nat.le_trans (places_le l _) hok.2.2) (fun x => nn_le4 hok s false x)
    (fun i => if sign ∈ (upN xs i).map Int.ofNat then nn l s longest sign else 0) (fun i => ((upN xs i).map fun x : Nat => nn l s longest (x : Int)).sum) (fun i => (upN xs i).length)
    (by simp [upN]) (by simp [upN]) (by simp [upN]) (fun i => by
      have h1 := sum_bound (fun x : Nat => nn l s longest (x : Int)) (fun x => nn_le4 hok s longest x) (upN xs i)
      have h2 := upN_le xs i
      omega) ?_ ?_ (fun i => by have := upN_le xs i; omega) hB ?_ ?_
  · rw [hkn] at key
    have e1 : (if sign ∈ kn l s then nn l s longest sign else 0) = ownF l s longest sign := rfl
    have e2 : ((upN xs xs.length).map fun x : Nat => nn l s longest (x : Int)).sum = allF l s longest := by
      unfold allF; rw [← hkn, List.map_map]; rfl
    have e3 : (upN xs xs.length).length = (kn l s).length := by rw [← hkn, List.length_map]
    rw [e1, e2, e3] at key
    exact key
  · intro i hi hx
    rw [upN_succ hi, if_pos hx]
    exact ⟨rfl, rfl, rfl⟩
  · intro i hi hx
    rw [upN_succ hi, if_neg hx]
    refine ⟨?_, by simp, by simp⟩
    by_cases g : ((nth xs i : Nat) : Int) = sign
    · rw [if_pos g, if_pos (by rw [List.map_append]; exact List.mem_append_right _ (by simp [← g])), g]
    · rw [if_neg g]
      have : sign ∈ (upN xs i ++ [nth xs i]).map Int.ofNat ↔ sign ∈ (upN xs i).map Int.ofNat := by
        rw [List.map_append, List.mem_append]
        constructor
        · rintro (q | q)
          · exact q
          · exact absurd (List.mem_singleton.1 q).symm g
        · exact Or.inl
      by_cases g2 : sign ∈ (upN xs i).map Int.ofNat
      · rw [if_pos g2, if_pos (this.2 g2)]
      · rw [if_neg g2, if_neg fun q => g2 (this.1 q)]
  · intro k P p w hk r hrP
    have hc := count_nat l (s ++ [(k : Int)]) hok E B D ec bc dc (sg k hk) (by rw [el]; omega) P p w r (by rw [el]; exact hrP)
    rw [el] at hc
    exact hc
  · intro k P p w hk r hrP
    have hc := befores_calls l hok E B D ec bc dc (s ++ [(k : Int)]) (sg k hk) (by rw [el]; omega) P p w r (by rw [el]; exact hrP)
    rw [el] at hc
    exact hc
end Go.Proofs.YtjfdlibceldanabGreatDoor
