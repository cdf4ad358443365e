/- The walks of comb and guess over an index of whatever numbers. -/
import Derived.Test.YtjfdlibceldanacGreatDoorGuA
import Derived.Test.YtjfdlibceldanacGreatDoorCombPlace
import Derived.Test.YtjfdlibceldanacGreatDoorRawP1
namespace Go.Proofs.YtjfdlibceldanacGreatDoor.Raw
open Go.Proofs.YtjfdlibceldanacGreatDoor Go.RowKit Go.Sort En Wv Gu Ri

/-- An index as a value: its wave's N, Deep and levels are letters. -/
abbrev combV (wN wD : Int) (nl n m2 : Nat) (E B D : Option Addr) (ec bc dc : Nat) : Value := .agg #[.slice E n ec, .int .i64 wN, .int .i64 wD, .slice B nl bc, .slice D m2 dc]
/-- What Find has ahead of a round. -/
structure CfR (wN wD : Int) (nl n m2 : Nat) (E B D : Option Addr) (ec bc dc : Nat) (w : World) (SB : Nat) (f t : Nat) (wr : World) : Prop where
  c : Bk wr w.heap.size 30 #[.slice E n ec, .int .i64 wN, .int .i64 wD, .slice B nl bc, .slice D m2 dc]
  r : Bk wr (w.heap.size + 1) 59 #[.int .i64 0, .int .i64 0]
  s : Bk wr SB 59 #[.int .i64 f, .int .i64 t]
  x : Ext w wr
theorem CfR.ext {wN wD : Int} {nl n m2 : Nat} {E B D : Option Addr} {ec bc dc : Nat} {w wr wr' : World} {SB f t : Nat} (h : CfR wN wD nl n m2 E B D ec bc dc w SB f t wr) (hx : Ext wr wr') : CfR wN wD nl n m2 E B D ec bc dc w SB f t wr' := ⟨h.c.ext hx, h.r.ext hx, h.s.ext hx, h.x.trans hx⟩
theorem CfR.set {wN wD : Int} {nl n m2 : Nat} {E B D : Option Addr} {ec bc dc : Nat} {w wr : World} {SB f t : Nat} (h : CfR wN wD nl n m2 E B D ec bc dc w SB f t wr) (hb : SB = w.heap.size + 1 + 1) (f' t' : Nat) : CfR wN wD nl n m2 E B D ec bc dc w SB f' t' ((wr.setCell ⟨SB, 0, none⟩ (.int .i64 f')).setCell ⟨SB, 1, none⟩ (.int .i64 t')) :=
  ⟨(h.c.far (p := ⟨SB, 0, none⟩) (by show _ ≠ SB; omega) _).far (p := ⟨SB, 1, none⟩) (by show _ ≠ SB; omega) _, (h.r.far (p := ⟨SB, 0, none⟩) (by show _ ≠ SB; omega) _).far (p := ⟨SB, 1, none⟩) (by show _ ≠ SB; omega) _,
    (h.s.set 0 _).set 1 _, (h.x.setCell (p := ⟨SB, 0, none⟩) (by show _ ≤ SB; omega) _).setCell (p := ⟨SB, 1, none⟩) (by show _ ≤ SB; omega) _⟩
set_option maxHeartbeats 8000000 in
set_option maxRecDepth 100000 in
theorem cfind_walk (wN wD : Int) (nl n m2 : Nat) (E B D : Option Addr) (ec bc dc : Nat) (s : List Int) (A : Option Addr) (c : Nat) (w : World) (R : World → Prop) (hR : ∀ w w', Ext w w' → R w → R w') (sp : Nat → Nat × Nat) (_hn : n ≤ 1048576) (hsl : s.length ≤ 17592186044416) (h0 : R w) (hr : Rd w A s.length (fun k => .int .i64 (nth s k)))
    (s0 : sp s.length = (0, n)) (sle : ∀ k, (sp k).1 ≤ (sp k).2 ∧ (sp k).2 ≤ n) (sz : ∀ k, ¬ (sp k).1 < (sp k).2 → sp k = (0, 0)) (snone : ∀ k, ¬ (sp k).1 < (sp k).2 → sp 0 = (0, 0)) (slast : ∀ i, i + 1 < s.length → nth s i = 0 → sp 0 = (0, 0))
    (sstep : ∀ i w, i < s.length → (sp (i + 1)).1 < (sp (i + 1)).2 → ¬ (nth s i = 0 ∧ i + 1 < s.length) → R w → Calls Tryz.prog 32 #[combV wN wD nl n m2 E B D ec bc dc, .agg #[.int .i64 ((sp (i + 1)).1 : Nat), .int .i64 ((sp (i + 1)).2 : Nat)], .int .i64 (nth s i)] w (RetSpan (sp i) w)) :
    Calls Tryz.prog 19 #[combV wN wD nl n m2 E B D ec bc dc, .slice A s.length c] w (RetSpan (sp 0) w) := by
  have HR := Lib.hid hR; have S0 := Lib.hid s0; have SLE := Lib.hid sle; have SZ := Lib.hid sz; have SN := Lib.hid snone; have SL := Lib.hid slast; have SS := Lib.hid sstep; have H0 := Lib.hid h0; have HRD := Lib.hid hr
  clear hR s0 sle sz snone slast sstep h0 hr
  unfold combV
  go_enter Tryz.func19, Tryz.ntmps19
  go_upto_region 2 with fail
  generalize hW1 : World.alloc w _ = W1
  generalize hW2 : World.alloc W1 _ = W2
  generalize hW : World.alloc W2 _ = W
  have hs1 : W1.heap.size = w.heap.size + 1 := by rw [← hW1]; simp
  have hs2 : W2.heap.size = w.heap.size + 1 + 1 := by rw [← hW2]; simp [hs1]
  have hx2 := ext_of_alloc hW2
  have hx3 := ext_of_alloc hW
  have hx1 := ext_of_alloc hW1
  have bq := (bk_of hW1).ext (hx2.trans hx3)
  have br := (bk_of hW2).ext hx3
  have bs := bk_of hW
  rw [hs1] at br
  rw [hs2] at bs
  obtain ⟨SB, hSB⟩ : ∃ b, b = w.heap.size + 1 + 1 := ⟨_, rfl⟩
  rw [← hSB] at bs ⊢
  have L0 : Hid (CfR wN wD nl n m2 E B D ec bc dc w SB (sp s.length).1 (sp s.length).2 W) := Lib.hid (by rw [S0.out]; exact ⟨bq, br, bs, hx1.trans (hx2.trans hx3)⟩)
  have HSB := Lib.hid hSB
  clear hW hW1 hW2 hs1 hs2 hx1 hx2 hx3 bq br bs hSB
  go_wp2_with fail
  go_loopw [6] (fun vi wr => ∃ k : Nat, vi = .int .i64 ((k : Int) - 1) ∧ k ≤ s.length ∧ Hid (CfR wN wD nl n m2 E B D ec bc dc w SB (sp k).1 (sp k).2 wr)) (fun vi _ => (intOf vi + 1).toNat)
  case atStart => exact ⟨s.length, rfl, Nat.le_refl _, L0⟩
  case round => as_aux_lemma =>
    clear L0
    obtain ⟨k, hvi, hk, HF⟩ := hrel
    have le := SLE.out k
    have hz := SZ.out k
    have hno := SN.out k
    obtain ⟨f, hf⟩ : ∃ f, (sp k).1 = f := ⟨_, rfl⟩
    obtain ⟨t, ht⟩ : ∃ t, (sp k).2 = t := ⟨_, rfl⟩
    rw [hf, ht] at HF le hz hno
    have bs := HF.out.s
    have y0 := bs.cell 0
    have y1 := bs.cell 1
    have br := HF.out.r
    have r0 := br.cell 0
    have r1 := br.cell 1
    have r2 := br.frozen 0
    have r3 := br.frozen 1
    by_cases g : f < t
    · cases k with
      | zero =>
        rw [show ((0 : Nat) : Int) - 1 = -1 from rfl] at hvi
        subst hvi
        have BF := Lib.hid ((br.set 0 (.int .i64 f)).set 1 (.int .i64 t))
        have XF := Lib.hid ((HF.out.x.setCell (p := ⟨w.heap.size + 1, 0, none⟩) (by show w.heap.size ≤ w.heap.size + 1; omega) (.int .i64 f)).setCell (p := ⟨w.heap.size + 1, 1, none⟩) (by show w.heap.size ≤ w.heap.size + 1; omega) (.int .i64 t))
        clear br bs
        go_wp2_with fail
        clear y0 y1 r0 r1 r2 r3
        have bF := BF.out
        have xF := XF.out
        generalize (wr.setCell _ _).setCell _ _ = wF at *
        have z0 : wF.cell? ⟨w.heap.size + 1, 0, none⟩ = some (.int .i64 f) := bF.cell 0
        have z1 : wF.cell? ⟨w.heap.size + 1, 1, none⟩ = some (.int .i64 t) := bF.cell 1
        exact bodyPost_ret (v := .agg #[.int .i64 f, .int .i64 t]) (by simp [results, Tryz.results19, go_sem, z0, z1]) rfl ⟨by rw [hf, ht], xF⟩
      | succ j =>
        rw [show ((j + 1 : Nat) : Int) - 1 = (j : Int) from by omega] at hvi
        subst hvi
        obtain ⟨b1, o1, rfl, hb1, hc1⟩ := (HRD.out.ext HF.out.x) (by omega)
        have p1 := hc1 j (by omega)
        dsimp only at p1
        clear hc1
        have sl := SL.out j
        have ss := fun w => SS.out j w (by omega)
        rw [hf, ht] at ss
        obtain ⟨x, hx⟩ : ∃ x, nth s j = x := ⟨_, rfl⟩
        rw [hx] at p1 sl ss
        by_cases q0 : x = 0 ∧ j + 1 < s.length
        · have h0 := sl q0.2 q0.1
          have q1 : (x == 0) = true := by rw [beq_iff_eq]; exact q0.1
          have q2 : decide ((j : Int) < (s.length : Int) - 1) = true := by simp; omega
          clear ss sl
          have BF := Lib.hid ((br.set 0 (.int .i64 0)).set 1 (.int .i64 0))
          have XF := Lib.hid ((HF.out.x.setCell (p := ⟨w.heap.size + 1, 0, none⟩) (by show w.heap.size ≤ w.heap.size + 1; omega) (.int .i64 0)).setCell (p := ⟨w.heap.size + 1, 1, none⟩) (by show w.heap.size ≤ w.heap.size + 1; omega) (.int .i64 0))
          clear br bs
          go_wp2_with fail
          clear y0 y1 r0 r1 r2 r3
          have bF := BF.out
          have xF := XF.out
          generalize (wr.setCell _ _).setCell _ _ = wF at *
          have z0 : wF.cell? ⟨w.heap.size + 1, 0, none⟩ = some (.int .i64 0) := bF.cell 0
          have z1 : wF.cell? ⟨w.heap.size + 1, 1, none⟩ = some (.int .i64 0) := bF.cell 1
          exact bodyPost_ret (v := .agg #[.int .i64 0, .int .i64 0]) (by simp [results, Tryz.results19, go_sem, z0, z1]) rfl ⟨by rw [h0]; rfl, xF⟩
        · have SJ := Lib.hid (fun w => ss w g q0)
          clear ss sl
          go_upto_region 5 with fail
          go_cut [36] (fun v w' => v = .bool false ∧ w' = wr)
          case first =>
            by_cases q1 : x = 0
            · have q2 : decide ((j : Int) < (s.length : Int) - 1) = false := by
                have : ¬ j + 1 < s.length := fun r => q0 ⟨q1, r⟩
                simp; omega
              have q3 : (x == 0) = true := by rw [beq_iff_eq]; exact q1
              subst q1
              go_wp2_with fail
              go_meet
              exact ⟨rfl, rfl⟩
            · have q3 : (x == 0) = false := by rw [beq_eq_false_iff_ne]; exact q1
              go_wp2_with fail
              go_meet
              exact ⟨rfl, rfl⟩
          case rest =>
            obtain ⟨rfl, rfl⟩ := hcut
            go_upto_region 7 with fail
            have HFS : ∀ w', Ext wc w' → ∀ f' t', Hid (CfR wN wD nl n m2 E B D ec bc dc w SB f' t' ((w'.setCell ⟨SB, 0, none⟩ (.int .i64 f')).setCell ⟨SB, 1, none⟩ (.int .i64 t'))) := fun w' hx f' t' => Lib.hid ((HF.out.ext hx).set HSB.out f' t')
            obtain ⟨f', hf'⟩ : ∃ x, (sp j).1 = x := ⟨_, rfl⟩
            obtain ⟨t', ht'⟩ : ∃ x, (sp j).2 = x := ⟨_, rfl⟩
            have SJ2 : Hid (∀ w, R w → Calls Tryz.prog 32 #[combV wN wD nl n m2 E B D ec bc dc, .agg #[.int .i64 (f : Nat), .int .i64 (t : Nat)], .int .i64 x] w fun e w' => e = .returned (.agg #[.int .i64 (f' : Nat), .int .i64 (t' : Nat)]) ∧ Ext w w') := Lib.hid (by
              have := SJ.out
              unfold RetSpan at this
              rw [hf', ht'] at this
              exact this)
            have bq := HF.out.c
            have c0 := bq.cell 0
            have c1 := bq.cell 1
            have c2 := bq.cell 2
            have c3 := bq.cell 3
            have c4 := bq.cell 4
            have f0 := bs.frozen 0
            have f1 := bs.frozen 1
            have hR' := HR.out _ _ HF.out.x H0.out
            clear bq bs br r0 r1 r2 r3 SJ
            have hj : j < s.length := by omega
            refine wp_region_N (fun w' => w'.cell? ⟨w.heap.size, 0, none⟩ = some (.slice E n ec) ∧ w'.cell? ⟨w.heap.size, 1, none⟩ = some (.int .i64 wN) ∧ w'.cell? ⟨w.heap.size, 2, none⟩ = some (.int .i64 wD) ∧ w'.cell? ⟨w.heap.size, 3, none⟩ = some (.slice B nl bc) ∧ w'.cell? ⟨w.heap.size, 4, none⟩ = some (.slice D m2 dc) ∧ w'.cell? ⟨SB, 0, none⟩ = some (.int .i64 f) ∧ w'.cell? ⟨SB, 1, none⟩ = some (.int .i64 t) ∧ w'.cell? ⟨b1, o1 + j, none⟩ = some (.int .i64 x)) 7 (by kernel_rfl) ?_
            simp only [List.length_cons, List.length_nil, Nat.zero_add, Nat.reduceAdd]
            have hcur : Ext wc wc.drew := (Ext.refl wc).drew
            have HBS := Lib.hid HF.out.s
            have hSS : wc.drew.cell? ⟨w.heap.size, 0, none⟩ = some (.slice E n ec) ∧ wc.drew.cell? ⟨w.heap.size, 1, none⟩ = some (.int .i64 wN) ∧ wc.drew.cell? ⟨w.heap.size, 2, none⟩ = some (.int .i64 wD) ∧ wc.drew.cell? ⟨w.heap.size, 3, none⟩ = some (.slice B nl bc) ∧ wc.drew.cell? ⟨w.heap.size, 4, none⟩ = some (.slice D m2 dc) ∧ wc.drew.cell? ⟨SB, 0, none⟩ = some (.int .i64 f) ∧ wc.drew.cell? ⟨SB, 1, none⟩ = some (.int .i64 t) ∧ wc.drew.cell? ⟨b1, o1 + j, none⟩ = some (.int .i64 x) := ⟨ecell c0 hcur, ecell c1 hcur, ecell c2 hcur, ecell c3 hcur, ecell c4 hcur, ecell y0 hcur, ecell y1 hcur, ecell p1 hcur⟩
            have hR2 := HR.out _ _ hcur hR'
            generalize wc.drew = w0 at *
            refine take_N (i := 0) (.agg #[.slice E n ec, .int .i64 wN, .int .i64 wD, .slice B nl bc, .slice D m2 dc]) rfl (by kernel_rfl) (fun _ _ _ h => h) rfl hSS (fun w' hw' => by obtain ⟨k0, k1, k2, k3, k4, k5, k6, k7⟩ := hw'; go_simp) #[true, false, false, false, false, false, false, false] (by rfl) ?_
            try simp only [Act.put, List.setIfInBounds_toArray, List.set_cons_zero, List.set_cons_succ]
            refine take_N (i := 1) (.agg #[.int .i64 f, .int .i64 t]) rfl (by kernel_rfl) (fun _ _ _ h => h) rfl hSS (fun w' hw' => by obtain ⟨k0, k1, k2, k3, k4, k5, k6, k7⟩ := hw'; go_simp) #[true, true, false, false, false, false, false, false] (by rfl) ?_
            try simp only [Act.put, List.setIfInBounds_toArray, List.set_cons_zero, List.set_cons_succ]
            refine pure_N (i := 2) (.slice (some ⟨b1, o1, none⟩) s.length c) rfl (by kernel_rfl) (fun _ _ _ h => h) rfl hSS (fun w' => by go_simp) #[true, true, true, false, false, false, false, false] (by rfl) ?_
            try simp only [Act.put, List.setIfInBounds_toArray, List.set_cons_zero, List.set_cons_succ]
            refine pure_N (i := 3) (.int .i64 j) rfl (by kernel_rfl) (fun _ _ _ h => h) rfl hSS (fun w' => by go_simp) #[true, true, true, true, false, false, false, false] (by rfl) ?_
            try simp only [Act.put, List.setIfInBounds_toArray, List.set_cons_zero, List.set_cons_succ]
            refine pure_N (i := 4) (.pointer (some ⟨b1, o1 + j, none⟩)) rfl (by kernel_rfl) (fun _ _ _ h => h) rfl hSS (fun w' => by go_simp) #[true, true, true, true, true, false, false, false] (by rfl) ?_
            try simp only [Act.put, List.setIfInBounds_toArray, List.set_cons_zero, List.set_cons_succ]
            refine take_N (i := 5) (.int .i64 x) rfl (by kernel_rfl) (fun _ _ _ h => h) rfl hSS (fun w' hw' => by obtain ⟨k0, k1, k2, k3, k4, k5, k6, k7⟩ := hw'; go_simp) #[true, true, true, true, true, true, false, false] (by rfl) ?_
            try simp only [Act.put, List.setIfInBounds_toArray, List.set_cons_zero, List.set_cons_succ]
            refine all_N [6] (by kernel_rfl) (by simp) ?_
            rintro i hi'
            obtain rfl := List.mem_singleton.1 hi'
            refine step_N (i := 6) #[true, true, true, true, true, true, true, false] rfl rfl (by rfl) (fun K' hK' => ?_)
            go_simp
            refine (SJ2.out _ hR2).mono ?_
            rintro e wn ⟨rfl, hxn⟩
            have hx2 := hcur.trans hxn
            have HF2 := HFS _ hx2 f' t'
            refine hK' _ _ ⟨ecell hSS.1 hxn, ecell hSS.2.1 hxn, ecell hSS.2.2.1 hxn, ecell hSS.2.2.2.1 hxn, ecell hSS.2.2.2.2.1 hxn, ecell hSS.2.2.2.2.2.1 hxn, ecell hSS.2.2.2.2.2.2.1 hxn, ecell hSS.2.2.2.2.2.2.2 hxn⟩ ?_
            have z0 := ecell y0 hx2
            have z1 := ecell y1 hx2
            have g0 := (HBS.out.ext hx2).frozen 0
            have g1 := (HBS.out.ext hx2).frozen 1
            clear K' hK' hi' hSS hR2 hcur hxn hx2 y0 y1 c0 c1 c2 c3 c4 p1 f0 f1 HBS hR'
            try simp only [Act.put, List.setIfInBounds_toArray, List.set_cons_zero, List.set_cons_succ]
            refine wpAnyN_tail 7 _ rfl rfl (by kernel_rfl) (by kernel_rfl) ?_
            go_wp2_with fail
            refine ⟨⟨j, by go_num, by omega, by rw [hf', ht']; exact HF2⟩, by simp [intOf]⟩
    · have h0 := hno g
      obtain ⟨rfl, rfl⟩ : f = 0 ∧ t = 0 := by
        have := hz g
        rw [this] at hf ht
        exact ⟨hf.symm, ht.symm⟩
      have BF := Lib.hid ((br.set 0 (.int .i64 0)).set 1 (.int .i64 0))
      have XF := Lib.hid ((HF.out.x.setCell (p := ⟨w.heap.size + 1, 0, none⟩) (by show w.heap.size ≤ w.heap.size + 1; omega) (.int .i64 0)).setCell (p := ⟨w.heap.size + 1, 1, none⟩) (by show w.heap.size ≤ w.heap.size + 1; omega) (.int .i64 0))
      clear br bs
      by_cases g0 : k = 0
      · subst g0
        rw [show ((0 : Nat) : Int) - 1 = -1 from rfl] at hvi
        subst hvi
        go_wp2_with fail
        clear y0 y1 r0 r1 r2 r3
        have bF := BF.out
        have xF := XF.out
        generalize (wr.setCell _ _).setCell _ _ = wF at *
        have z0 : wF.cell? ⟨w.heap.size + 1, 0, none⟩ = some (.int .i64 0) := bF.cell 0
        have z1 : wF.cell? ⟨w.heap.size + 1, 1, none⟩ = some (.int .i64 0) := bF.cell 1
        exact bodyPost_ret (v := .agg #[.int .i64 0, .int .i64 0]) (by simp [results, Tryz.results19, go_sem, z0, z1]) rfl ⟨by rw [h0]; rfl, xF⟩
      · obtain ⟨j, rfl⟩ : ∃ j, k = j + 1 := ⟨k - 1, by omega⟩
        rw [show ((j + 1 : Nat) : Int) - 1 = (j : Int) from by omega] at hvi
        subst hvi
        go_wp2_with fail
        clear y0 y1 r0 r1 r2 r3
        have bF := BF.out
        have xF := XF.out
        generalize (wr.setCell _ _).setCell _ _ = wF at *
        have z0 : wF.cell? ⟨w.heap.size + 1, 0, none⟩ = some (.int .i64 0) := bF.cell 0
        have z1 : wF.cell? ⟨w.heap.size + 1, 1, none⟩ = some (.int .i64 0) := bF.cell 1
        exact bodyPost_ret (v := .agg #[.int .i64 0, .int .i64 0]) (by simp [results, Tryz.results19, go_sem, z0, z1]) rfl ⟨by rw [h0]; rfl, xF⟩
set_option maxHeartbeats 8000000 in
set_option maxRecDepth 100000 in
theorem behinds_walk (wN wD : Int) (nl n m2 : Nat) (E B D : Option Addr) (ec bc dc : Nat) (s : List Int) (A : Option Addr) (c : Nat) (w : World) (R : World → Prop) (hR : ∀ w w', Ext w w' → R w → R w') (hm : 1 ≤ m2) (hm2 : m2 ≤ 1048576) (hsl : s.length ≤ 1000) (cn : Nat → Nat) (hcn : ∀ k, cn k ≤ 1048576)
    (hr : R w) (hs : Rd w A s.length (fun k => .int .i64 (nth s k)))
    (cc : ∀ k P p w, k + 1 < m2 → R w → Rd w P (s.length + 1) (fun j => .int .i64 (nth (s ++ [(k : Int)]) j)) → Calls Tryz.prog 10 #[combV wN wD nl n m2 E B D ec bc dc, .slice P (s.length + 1) p] w fun e w' => e = .returned (.int .i64 (cn k : Nat)) ∧ Ext w w') :
    Calls Tryz.prog 35 #[combV wN wD nl n m2 E B D ec bc dc, .slice A s.length c] w (RetInts (selN cn (m2 - 1)) w) := by
  obtain ⟨ii, hi, hj0, hj1, hj2⟩ := info_parts info_int
  have hcl := fun w (h : Rd w A s.length (fun k => .int .i64 (nth s k))) => cloneG_calls s A c w (by omega) h
  have hsu := selN_succ cn; have hsle := selN_le cn
  have CC := Lib.hid cc; have HR := Lib.hid hR; have HS := Lib.hid hs; have CL := Lib.hid hcl; have HSU := Lib.hid hsu; have HLE := Lib.hid hsle; have HCN := Lib.hid hcn
  obtain ⟨L, hL⟩ : ∃ L, s.length = L := ⟨_, rfl⟩
  rw [hL] at CC HS CL hsl ⊢
  have HLL := Lib.hid hL
  unfold combV at CC ⊢
  clear cc hR hs hcl hsu hsle hcn hL
  go_enter Tryz.func35, Tryz.ntmps35
  go_wp2_with fail
  generalize hW : World.alloc w _ = W
  have bq := bk_of hW
  have hx := ext_of_alloc hW
  have hrW := HR.out _ _ hx hr
  have BQ := Lib.hid bq
  generalize w.heap.size = Q at *
  clear hW hr bq
  obtain ⟨m1, hm1⟩ : ∃ m1, m2 - 1 = m1 := ⟨_, rfl⟩
  have hmi : (m2 : Int) - 1 = (m1 : Int) := by omega
  have hmw : IntKind.i64.wrap ((m2 : Int) - 1) = (m2 : Int) - 1 := IntWalk.i64_in _ (by omega)
  have hm14 : m1 ≤ 1048576 := by omega
  have HMI := Lib.hid hmi; have HM1 := Lib.hid hm1
  rw [hm1]
  clear hmi hm1
  have c2 := BQ.out.cell 4
  go_wp2_with fail
  clear c2
  go_loopw [11, 5] (fun vi v5 wr => ∃ i : Nat, vi = .int .i64 i ∧ i ≤ m1 ∧ Hid (wr.ownsRow W.heap.size 3 1 v5 (selN cn i).length ((selN cn i).map fun x => Value.int .i64 (x : Nat))) ∧ Ext W wr) (fun vi _ _ => m1 - (intOf vi).toNat)
  case atStart => exact ⟨0, rfl, Nat.zero_le _, own_nil _ _ _ _, Ext.refl _⟩
  case round => as_aux_lemma =>
    obtain ⟨i, rfl, hi', HO, hxr⟩ := hrel
    by_cases g : i < m1
    · have gt : decide ((i : Int) < (m2 : Int) - 1) = true := by have := HMI.out; simp; omega
      have bx := BQ.out.ext hxr
      have x0 := bx.cell 0
      have x1 := bx.cell 1
      have x2 := bx.cell 2
      have x3 := bx.cell 3
      have x4 := bx.cell 4
      have hrr := HR.out _ _ hxr hrW
      have hsr := HS.out.ext (hx.trans hxr)
      have cc := fun P p w => CC.out i P p w (by have := HM1.out; omega)
      have hsu := HSU.out i
      have hle := HLE.out i
      have hcn := HCN.out i
      obtain ⟨y, hy⟩ : ∃ y, cn i = y := ⟨_, rfl⟩
      rw [hy] at cc hsu hcn
      have CCi := Lib.hid cc; have HSi := Lib.hid hsu; have HRR := Lib.hid hrr; have HSR := Lib.hid hsr
      have HO1 := HO
      clear cc hsu hy bx hrr hsr
      go_upto_region 5 with fail
      go_cut [21] (fun v21 w' => v21 = .bool (decide (0 < y)) ∧ Ext wr w')
      case first => as_aux_lemma =>
        clear HO HO1
        refine wp_region_N (fun w' => w'.cell? ⟨Q, 0, none⟩ = some (.slice E n ec) ∧ w'.cell? ⟨Q, 1, none⟩ = some (.int .i64 wN) ∧ w'.cell? ⟨Q, 2, none⟩ = some (.int .i64 wD) ∧ w'.cell? ⟨Q, 3, none⟩ = some (.slice B nl bc) ∧ w'.cell? ⟨Q, 4, none⟩ = some (.slice D m2 dc)) 6 (by kernel_rfl) ?_
        simp only [List.length_cons, List.length_nil, Nat.zero_add, Nat.reduceAdd]
        have hcur : Ext wr wr.drew := (Ext.refl wr).drew
        generalize wr.drew = w0 at *
        have hSS : w0.cell? ⟨Q, 0, none⟩ = some (.slice E n ec) ∧ w0.cell? ⟨Q, 1, none⟩ = some (.int .i64 wN) ∧ w0.cell? ⟨Q, 2, none⟩ = some (.int .i64 wD) ∧ w0.cell? ⟨Q, 3, none⟩ = some (.slice B nl bc) ∧ w0.cell? ⟨Q, 4, none⟩ = some (.slice D m2 dc) := ⟨ecell x0 hcur, ecell x1 hcur, ecell x2 hcur, ecell x3 hcur, ecell x4 hcur⟩
        refine take_N (i := 0) (.agg #[.slice E n ec, .int .i64 wN, .int .i64 wD, .slice B nl bc, .slice D m2 dc]) rfl (by kernel_rfl) (fun _ _ _ h => h) rfl hSS (fun w' hw' => by obtain ⟨k0, k1, k2, k3, k4⟩ := hw'; go_simp) #[true, false, false, false, false, false, false, false] (by rfl) ?_
        try simp only [Act.put, List.setIfInBounds_toArray, List.set_cons_zero, List.set_cons_succ]
        refine pure_N (i := 1) (.slice A L c) rfl (by kernel_rfl) (fun _ _ _ h => h) rfl hSS (fun w' => by go_simp) #[true, true, false, false, false, false, false, false] (by rfl) ?_
        try simp only [Act.put, List.setIfInBounds_toArray, List.set_cons_zero, List.set_cons_succ]
        refine pure_N (i := 3) (.int .i64 i) rfl (by kernel_rfl) (fun _ _ _ h => h) rfl hSS (fun w' => by go_simp) #[true, true, false, true, false, false, false, false] (by rfl) ?_
        try simp only [Act.put, List.setIfInBounds_toArray, List.set_cons_zero, List.set_cons_succ]
        refine all_N [2, 4] (by kernel_rfl) (by simp) ?_
        rintro i0 hi0
        rcases List.mem_cons.1 hi0 with rfl | hi0
        · refine step_N (i := 2) #[true, true, true, true, false, false, false, false] rfl rfl (by rfl) (fun K' hK' => ?_)
          go_simp
          refine (CL.out w0 (HSR.out.ext hcur)).mono ?_
          rintro e wn ⟨v, rfl, hv, hxn⟩
          have hxn' := hcur.trans hxn
          refine hK' _ _ ⟨ecell x0 hxn', ecell x1 hxn', ecell x2 hxn', ecell x3 hxn', ecell x4 hxn'⟩ ?_
          clear K' hK'
          try simp only [Act.put, List.setIfInBounds_toArray, List.set_cons_zero, List.set_cons_succ]
          refine all_N [4] (by kernel_rfl) (by simp) ?_
          rintro i1 hi1
          obtain rfl := List.mem_singleton.1 hi1
          · refine step_N (i := 4) #[true, true, true, true, true, false, false, false] rfl rfl (by rfl) (fun K' hK' => ?_)
            go_simp
            have bP := Bk.new wn 3 #[(.int .i64 i)]
            have hx1 := (Ext.refl wn).alloc (.cells #[(.int .i64 i)] 3)
            have hv1 := own_ext hv hx1
            generalize World.alloc wn _ = w1 at *
            have hx01 := hxn.trans hx1
            have hxw1 := hxn'.trans hx1
            refine hK' _ _ ⟨ecell x0 hxw1, ecell x1 hxw1, ecell x2 hxw1, ecell x3 hxw1, ecell x4 hxw1⟩ ?_
            clear K' hK'
            try simp only [Act.put, List.setIfInBounds_toArray, List.set_cons_zero, List.set_cons_succ]
            refine all_N [5] (by kernel_rfl) (by simp) ?_
            rintro i1 hi1
            obtain rfl := List.mem_singleton.1 hi1
            refine step_N (i := 5) #[true, true, true, true, true, true, false, false] rfl rfl (by rfl) (fun K' hK' => ?_)
            refine wp_app _ _ 23 rfl w0.heap.size 3 ii _ Tryz.underlying23 hi hj0 hj1 hj2 rfl _ L _ (by rfl) hv1 (.int .i64 i) _ _ (by rfl) bP rfl (by omega) hx01.size ?_
            intro gA cA w4 own4 hgr4
            have hx4 := (hx01).grown hgr4 (fun k hk => (own_row_ge hv1 k hk).1)
            have hxw4 := hcur.trans hx4
            refine hK' _ _ ⟨ecell x0 hxw4, ecell x1 hxw4, ecell x2 hxw4, ecell x3 hxw4, ecell x4 hxw4⟩ ?_
            try simp only [Act.put, List.setIfInBounds_toArray, List.set_cons_zero, List.set_cons_succ]
            refine wpAnyN_tail 6 _ rfl rfl (by kernel_rfl) (by kernel_rfl) ?_
            have hrd : Rd w4 (some ⟨gA, 0, none⟩) (L + 1) (fun j => .int .i64 (nth (s ++ [(i : Int)]) j)) := by
              have e : (s ++ [(i : Int)]).length = L + 1 := by rw [List.length_append, HLL.out]; rfl
              have := rdI_own (xs := s ++ [(i : Int)]) (w := w4) (A := some ⟨gA, 0, none⟩) (c := cA) (by rw [e, List.map_append]; exact own4)
              rw [e] at this
              exact this
            have cc := CCi.out (some ⟨gA, 0, none⟩) cA w4 (HR.out _ _ hxw4 HRR.out) hrd
            clear K' hK'
            go_wp2_with fail
            with_reducible refine cc.mono ?_
            rintro e w5 ⟨rfl, hx5⟩
            go_wp2_with fail
            go_meet
            exact ⟨by simp, hxw4.trans hx5⟩
        · obtain rfl := List.mem_singleton.1 hi0
          refine step_N (i := 4) #[true, true, false, true, true, false, false, false] rfl rfl (by rfl) (fun K' hK' => ?_)
          go_simp
          have bP0 := Bk.new w0 3 #[(.int .i64 i)]
          have hx1 := (Ext.refl w0).alloc (.cells #[(.int .i64 i)] 3)
          have hge : w0.heap.size = w0.heap.size := rfl
          generalize World.alloc w0 _ = w1 at *
          have hxw1 := hcur.trans hx1
          refine hK' _ _ ⟨ecell x0 hxw1, ecell x1 hxw1, ecell x2 hxw1, ecell x3 hxw1, ecell x4 hxw1⟩ ?_
          clear K' hK'
          try simp only [Act.put, List.setIfInBounds_toArray, List.set_cons_zero, List.set_cons_succ]
          refine all_N [2] (by kernel_rfl) (by simp) ?_
          rintro i1 hi1
          obtain rfl := List.mem_singleton.1 hi1
          · refine step_N (i := 2) #[true, true, true, true, true, false, false, false] rfl rfl (by rfl) (fun K' hK' => ?_)
            go_simp
            refine (CL.out w1 (HSR.out.ext hxw1)).mono ?_
            rintro e wn ⟨v, rfl, hv, hxn⟩
            have hxn' := hxw1.trans hxn
            have bP := bP0.ext hxn
            refine hK' _ _ ⟨ecell x0 hxn', ecell x1 hxn', ecell x2 hxn', ecell x3 hxn', ecell x4 hxn'⟩ ?_
            clear K' hK'
            try simp only [Act.put, List.setIfInBounds_toArray, List.set_cons_zero, List.set_cons_succ]
            refine all_N [5] (by kernel_rfl) (by simp) ?_
            rintro i1 hi1
            obtain rfl := List.mem_singleton.1 hi1
            refine step_N (i := 5) #[true, true, true, true, true, true, false, false] rfl rfl (by rfl) (fun K' hK' => ?_)
            refine wp_app _ _ 23 rfl w1.heap.size 3 ii _ Tryz.underlying23 hi hj0 hj1 hj2 rfl _ L _ (by rfl) hv (.int .i64 i) _ _ (by rfl) bP rfl (by omega) hxn.size ?_
            intro gA cA w4 own4 hgr4
            have hx4 := (hxn).grown hgr4 (fun k hk => (own_row_ge hv k hk).1)
            have hxw4 := hxw1.trans hx4
            refine hK' _ _ ⟨ecell x0 hxw4, ecell x1 hxw4, ecell x2 hxw4, ecell x3 hxw4, ecell x4 hxw4⟩ ?_
            try simp only [Act.put, List.setIfInBounds_toArray, List.set_cons_zero, List.set_cons_succ]
            refine wpAnyN_tail 6 _ rfl rfl (by kernel_rfl) (by kernel_rfl) ?_
            have hrd : Rd w4 (some ⟨gA, 0, none⟩) (L + 1) (fun j => .int .i64 (nth (s ++ [(i : Int)]) j)) := by
              have e : (s ++ [(i : Int)]).length = L + 1 := by rw [List.length_append, HLL.out]; rfl
              have := rdI_own (xs := s ++ [(i : Int)]) (w := w4) (A := some ⟨gA, 0, none⟩) (c := cA) (by rw [e, List.map_append]; exact own4)
              rw [e] at this
              exact this
            have cc := CCi.out (some ⟨gA, 0, none⟩) cA w4 (HR.out _ _ hxw4 HRR.out) hrd
            clear K' hK'
            go_wp2_with fail
            with_reducible refine cc.mono ?_
            rintro e w5 ⟨rfl, hx5⟩
            go_wp2_with fail
            go_meet
            exact ⟨by simp, hxw4.trans hx5⟩
      case rest => as_aux_lemma =>
        obtain ⟨rfl, hx2⟩ := hcut
        have HO2 : Hid (wc.ownsRow W.heap.size 3 1 u5 (selN cn i).length ((selN cn i).map fun x => Value.int .i64 (x : Nat))) := own_ext HO1.out hx2
        have hxc := hxr.trans hx2
        have hsz := hxc.size
        clear HO HO1 x0 x1 x2 x3 x4 hx2
        by_cases g2 : 0 < y
        · have g2' : decide (0 < y) = true := decide_eq_true g2
          have hs1 : selN cn (i + 1) = selN cn i ++ [i] := by rw [HSi.out, if_pos g2]
          rw [g2']
          go_wp2_with (at_builtin; refine wpList_app1 (by rfl) _ _ 23 rfl W.heap.size 3 ii (.int .i64 0) 8 Tryz.underlying23 hi hj0 hj1 hj2 rfl _ (selN cn i).length _ rfl wc (.int .i64 i) 3 rfl HO2.out rfl rfl ?d1 ?d2 hsz ?_)
          case d1 => omega
          case d2 => omega
          intro gb cap w5 own5 hgr5
          have hx5 := hxc.grown hgr5 (fun k hk => (own_row_ge HO2.out k hk).1)
          have HO5 : Hid (w5.ownsRow W.heap.size 3 1 (.slice (some ⟨gb, 0, none⟩) ((selN cn i).length + 1) cap) (selN cn (i + 1)).length ((selN cn (i + 1)).map fun x => Value.int .i64 (x : Nat))) := by
            show World.ownsRow _ _ _ _ _ _ _
            rw [hs1, List.length_append, List.map_append]; exact own5
          clear own5 hgr5 HO2 hxc
          go_wp2_with fail
          refine ⟨⟨i + 1, by go_num, by omega, HO5, hx5⟩, by simp [intOf]; omega⟩
        · have g2' : decide (0 < y) = false := decide_eq_false g2
          have hs1 : selN cn (i + 1) = selN cn i := by rw [HSi.out, if_neg g2]
          rw [g2']
          rw [← hs1] at HO2
          go_wp2_with fail
          refine ⟨⟨i + 1, by go_num, by omega, HO2, hxc⟩, by simp [intOf]; omega⟩
    · have gt : decide ((i : Int) < (m2 : Int) - 1) = false := by have := HMI.out; simp; omega
      obtain rfl : i = m1 := by omega
      obtain ⟨P, p, rfl⟩ := own_form HO.out
      go_wp2_with fail
      go_ret
      rw [HM1.out]
      exact ⟨P, p, rfl, own_noneG HO.out, (rd_ints HO.out), hx.trans hxr⟩
set_option maxHeartbeats 4000000 in
set_option maxRecDepth 100000 in
theorem befores_walk (wN wD : Int) (nl n m2 : Nat) (E B D : Option Addr) (ec bc dc : Nat) (L : Nat) (A : Option Addr) (c : Nat) (w : World) (R : World → Prop) (hR : ∀ w w', Ext w w' → R w → R w') (hr : R w) (f t K : Nat)
    (cf : ∀ w, R w → Calls Tryz.prog 19 #[combV wN wD nl n m2 E B D ec bc dc, .slice A L c] w (RetSpan (f, t) w))
    (ck : ∀ w, R w → Calls Tryz.prog 68 #[.agg #[.int .i64 wN, .int .i64 wD, .slice B nl bc], .int .i64 f, .int .i64 t] w fun e w' => ∃ P p, e = .returned (.slice P K p) ∧ Ext w w') :
    Calls Tryz.prog 36 #[combV wN wD nl n m2 E B D ec bc dc, .slice A L c] w fun e w' => ∃ P p, e = .returned (.slice P K p) ∧ Ext w w' := by
  have CF := Lib.hid cf; have CK := Lib.hid ck; have HR := Lib.hid hR
  unfold combV RetSpan at CF
  unfold combV
  clear cf ck hR
  go_enter Tryz.func36, Tryz.ntmps36
  go_wp2_with fail
  generalize hW : World.alloc w _ = W
  have bq := bk_of hW
  have hx := ext_of_alloc hW
  have hrW := HR.out _ _ hx hr
  generalize w.heap.size = Q at *
  clear hW hr
  have x0 := bq.cell 0
  have x1 := bq.cell 1
  have x2 := bq.cell 2
  have x3 := bq.cell 3
  have x4 := bq.cell 4
  go_wp2_with fail
  with_reducible refine (CF.out W hrW).mono ?_
  rintro e w2 ⟨rfl, hx2⟩
  go_upto_region 2 with fail
  generalize hW2 : World.alloc w2 _ = W2
  have bs := bk_of hW2
  have hx3 := hx2.trans (ext_of_alloc hW2)
  have bq2 := bq.ext hx3
  have hrW2 := HR.out _ _ hx3 hrW
  clear x0 x1 x2 x3 x4 hW2 hx2
  have x0 := bq2.cell 0
  have x1 := bq2.cell 1
  have x2 := bq2.cell 2
  have x3 := bq2.cell 3
  have y0 := bs.cell 0
  have y1 := bs.cell 1
  go_wp2_with fail
  with_reducible refine (CK.out W2 hrW2).mono ?_
  rintro e w3 ⟨P, p, rfl, hx4⟩
  go_wp2_with fail
  go_ret
  exact ⟨P, p, rfl, (hx.trans hx3).trans hx4⟩
set_option maxHeartbeats 8000000 in
set_option maxRecDepth 100000 in
theorem weigh_walk (wN wD : Int) (nl n m2 : Nat) (E B D : Option Addr) (ec bc dc : Nat) (s : List Int) (A : Option Addr) (c : Nat) (sign : Int) (longest : Bool) (w : World) (R : World → Prop) (hR : ∀ w w', Ext w w' → R w → R w') (hr : R w) (hsl : s.length ≤ 1000) (hA : A = none → c = 0)
    (hs : Rd w A s.length (fun k => .int .i64 (nth s k))) (xs : List Nat) (N : Nat) (hN : xs.length = N) (hN4 : N ≤ 1048576) (hx4 : ∀ k, k < N → nth xs k ≤ 1048576) (cn bn : Nat → Nat) (nv : Nat → Nat) (hnv : ∀ x, nv x = if longest then cn x else bn x) (hcn : ∀ x, cn x ≤ 1048576) (hbn : ∀ x, bn x ≤ 1048576)
    (oP aP kP : Nat → Nat) (o0 : oP 0 = 0) (a0 : aP 0 = 0) (k0 : kP 0 = 0) (aB : ∀ i, aP i ≤ 1099511627776)
    (hz : ∀ i, i < N → nth xs i = 0 → oP (i + 1) = oP i ∧ aP (i + 1) = aP i ∧ kP (i + 1) = kP i)
    (hp : ∀ i, i < N → nth xs i ≠ 0 → oP (i + 1) = (if ((nth xs i : Nat) : Int) = sign then nv (nth xs i) else oP i) ∧ aP (i + 1) = aP i + nv (nth xs i) ∧ kP (i + 1) = kP i + 1) (kB : ∀ i, kP i ≤ 1048576)
    (cB : ∀ w, R w → Rd w A s.length (fun k => .int .i64 (nth s k)) → Calls Tryz.prog 35 #[combV wN wD nl n m2 E B D ec bc dc, .slice A s.length c] w (RetInts xs w))
    (cC : ∀ (k : Nat) P p w, k ≤ 1048576 → R w → Rd w P (s.length + 1) (fun j => .int .i64 (nth (s ++ [(k : Int)]) j)) → Calls Tryz.prog 10 #[combV wN wD nl n m2 E B D ec bc dc, .slice P (s.length + 1) p] w fun e w' => e = .returned (.int .i64 (cn k : Nat)) ∧ Ext w w')
    (cF : ∀ (k : Nat) P p w, k ≤ 1048576 → R w → Rd w P (s.length + 1) (fun j => .int .i64 (nth (s ++ [(k : Int)]) j)) → Calls Tryz.prog 36 #[combV wN wD nl n m2 E B D ec bc dc, .slice P (s.length + 1) p] w fun e w' => ∃ Q q, e = .returned (.slice Q (bn k) q) ∧ Ext w w') :
    Calls Tryz.prog 23 #[combV wN wD nl n m2 E B D ec bc dc, .slice A s.length c, .int .i64 sign, .bool longest] w fun e w' => e = .returned (.tuple #[.int .i64 (oP N : Nat), .int .i64 (aP N : Nat), .int .i64 (kP N : Nat)]) ∧ Ext w w' := by
  obtain ⟨ii, hi, hj0, hj1, hj2⟩ := info_parts info_int
  have CB := Lib.hid cB; have CC := Lib.hid cC; have CF := Lib.hid cF; have HR := Lib.hid hR; have HS := Lib.hid hs; have HX4 := Lib.hid hx4; have HNV := Lib.hid hnv; have HCN := Lib.hid hcn; have HBN := Lib.hid hbn
  have AB := Lib.hid aB; have KB := Lib.hid kB; have HZ := Lib.hid hz; have HP := Lib.hid hp; have O0 := Lib.hid o0; have A0 := Lib.hid a0; have K0 := Lib.hid k0
  obtain ⟨L, hL⟩ : ∃ L, s.length = L := ⟨_, rfl⟩
  rw [hL] at CB CC CF HS hsl ⊢
  have HLL := Lib.hid hL; have HNN := Lib.hid hN
  unfold combV RetInts at CB
  unfold combV at CC CF ⊢
  clear cB cC cF hR hs hx4 hnv hcn hbn aB kB hz hp o0 a0 k0 hL
  go_enter Tryz.func23, Tryz.ntmps23
  go_wp2_with fail
  generalize hW : World.alloc w _ = W
  have bq := bk_of hW
  have hx := ext_of_alloc hW
  have hrW := HR.out _ _ hx hr
  generalize w.heap.size = Q at *
  have BQ := Lib.hid bq
  clear hW hr
  have x0 := bq.cell 0
  have x1 := bq.cell 1
  have x2 := bq.cell 2
  have x3 := bq.cell 3
  have x4 := bq.cell 4
  clear bq
  go_wp2_with fail
  with_reducible refine (CB.out W hrW (HS.out.ext hx)).mono ?_
  rintro e w3 ⟨XA, xc, rfl, _, hXr, hx3⟩
  rw [hN] at hXr
  have HXR := Lib.hid hXr
  have hrw3 := HR.out _ _ hx3 hrW
  have hxx := hx.trans hx3
  have BQ3 := Lib.hid (BQ.out.ext hx3)
  clear x0 x1 x2 x3 x4 BQ hXr hrW hx hx3 CB
  rw [hN]
  go_wp2_with fail
  go_loopw [22, 11, 12, 13] (fun vi vo va vk wr => ∃ i : Nat, vi = .int .i64 i ∧ vo = .int .i64 (oP i : Nat) ∧ va = .int .i64 (aP i : Nat) ∧ vk = .int .i64 (kP i : Nat) ∧ i ≤ N ∧ Ext w3 wr) (fun vi _ _ _ _ => N - (intOf vi).toNat)
  case atStart => exact ⟨0, rfl, by rw [O0.out]; rfl, by rw [A0.out]; rfl, by rw [K0.out]; rfl, Nat.zero_le _, Ext.refl _⟩
  case round => as_aux_lemma =>
    obtain ⟨i, rfl, rfl, rfl, rfl, hi', hxr⟩ := hrel
    by_cases g : i < N
    · obtain ⟨bX, oX, rfl, hbX, hcX⟩ := (HXR.out.ext hxr) (by omega)
      have p1 := hcX i g
      dsimp only at p1
      have hx4 := HX4.out i g
      have hz := HZ.out i g
      have hp := HP.out i g
      obtain ⟨x, hxx'⟩ : ∃ x, nth xs i = x := ⟨_, rfl⟩
      rw [hxx'] at p1 hx4 hz hp
      have HZi := Lib.hid hz; have HPi := Lib.hid hp
      clear hcX hxx' hz hp
      by_cases g1 : x = 0
      · obtain ⟨e1, e2, e3⟩ := HZi.out g1
        subst g1
        go_wp2_with fail
        refine ⟨⟨i + 1, by go_num, by rw [e1], by rw [e2], by rw [e3], by omega, hxr⟩, by simp [intOf]; omega⟩
      · have g1' : (((x : Nat) : Int) == 0) = false := by simp; omega
        obtain ⟨e1, e2, e3⟩ := HPi.out g1
        have hA2 := hA
        have hsr := HS.out.ext (hxx.trans hxr)
        have hsz := hxr.size
        go_wp2_with (at_builtin; refine wpList_appAll (w := wr) (by rfl) _ _ 23 rfl w3.heap.size 3 ii (.int .i64 0) 8 Tryz.underlying23 hi hj0 hj1 hj2 rfl _ 0 [] rfl (own_nil _ _ _ _) A L c (fun k => .int .i64 (nth s k)) rfl hA hsr (fun _ _ => rfl) (by omega) (by omega) (by omega) hsz ?_)
        intro v1 w4 ho4 hg4
        have hx4' : Ext wr w4 := (Ext.refl wr).grown hg4 (fun k hk => by cases hk)
        have hsz4 : w3.heap.size ≤ w4.heap.size := (hxr.trans hx4').size
        go_wp2_with (at_builtin; refine wpList_app1 (by rfl) _ _ 23 rfl w3.heap.size 3 ii (.int .i64 0) 8 Tryz.underlying23 hi hj0 hj1 hj2 rfl _ L _ rfl w4 (.int .i64 x) 3 rfl ho4 rfl rfl ?d1 ?d2 hsz4 ?_)
        case d1 => omega
        case d2 => omega
        intro gb cap w5 ho5 hg5
        have hx5 := (hxr.trans hx4').grown hg5 (fun k hk => (own_row_ge ho4 k hk).1)
        have hrd : Rd w5 (some ⟨gb, 0, none⟩) (L + 1) (fun j => .int .i64 (nth (s ++ [(x : Int)]) j)) := by
          have e : (s ++ [(x : Int)]).length = L + 1 := by rw [List.length_append, HLL.out]; rfl
          have e2 : (List.range L).map (fun k => Value.int .i64 (nth s k)) = s.map (Value.int .i64) := by
            rw [← HLL.out]
            refine List.ext_getElem (by simp) fun k h1 h2 => ?_
            simp at h1 h2
            simp [nth, h1]
          rw [e2] at ho5
          have := rdI_own (xs := s ++ [(x : Int)]) (w := w5) (A := some ⟨gb, 0, none⟩) (c := cap) (by rw [e, List.map_append]; exact ho5)
          rw [e] at this
          exact this
        have HRD := Lib.hid hrd
        have hr5 := HR.out _ _ hx5 hrw3
        have b5 := BQ3.out.ext hx5
        clear p1 hsr ho4 hg4 ho5 hg5 hx4' hsz hsz4 hrd
        have x0 := b5.cell 0
        have x1 := b5.cell 1
        have x2 := b5.cell 2
        have x3 := b5.cell 3
        have x4 := b5.cell 4
        have cc := CC.out x (some ⟨gb, 0, none⟩) cap w5 hx4 hr5 HRD.out
        obtain ⟨z, hzz⟩ : ∃ z, cn x = z := ⟨_, rfl⟩
        rw [hzz] at cc
        have HZZ := Lib.hid hzz
        clear hzz
        go_wp2_with fail
        with_reducible refine cc.mono ?_
        rintro e w6 ⟨rfl, hx6⟩
        have hx56 := hx5.trans hx6
        have b6 := BQ3.out.ext hx56
        clear x0 x1 x2 x3 x4 cc b5
        have x0 := b6.cell 0
        have x1 := b6.cell 1
        have x2 := b6.cell 2
        have x3 := b6.cell 3
        have x4 := b6.cell 4
        have hnv := HNV.out x
        have hcn := HCN.out x
        have hbn := HBN.out x
        have hab := AB.out i
        have hkb := KB.out i
        obtain ⟨y, hy⟩ : ∃ y, nv x = y := ⟨_, rfl⟩
        rw [hy] at hnv e1 e2
        have hy4 : y ≤ 1048576 := by rw [hnv]; split <;> omega
        have hw : IntKind.i64.wrap ((aP i : Int) + y) = (aP i : Int) + y := IntWalk.i64_in _ (by omega)
        have hw2 : IntKind.i64.wrap ((kP i : Int) + 1) = (kP i : Int) + 1 := IntWalk.i64_in _ (by omega)
        have ea : ((aP (i + 1) : Nat) : Int) = (aP i : Int) + y := by rw [e2]; omega
        have ek : ((kP (i + 1) : Nat) : Int) = (kP i : Int) + 1 := by rw [e3]; omega
        cases longest with
        | true =>
          have hyc : z = y := by rw [hnv, ← HZZ.out]; rfl
          clear hnv
          subst hyc
          by_cases g2 : (x : Int) = sign
          · have g2' : ((x : Int) == sign) = true := by simpa using g2
            rw [if_pos g2] at e1
            go_wp2_with fail
            refine ⟨⟨i + 1, by go_num, by rw [e1], by rw [ea], by rw [ek], by omega, hx56⟩, by simp [intOf]; omega⟩
          · have g2' : ((x : Int) == sign) = false := by simpa using g2
            rw [if_neg g2] at e1
            go_wp2_with fail
            refine ⟨⟨i + 1, by go_num, by rw [e1], by rw [ea], by rw [ek], by omega, hx56⟩, by simp [intOf]; omega⟩
        | false =>
          have hyc : bn x = y := by rw [hnv]; rfl
          have cf := CF.out x (some ⟨gb, 0, none⟩) cap w6 hx4 (HR.out _ _ hx6 hr5) (HRD.out.ext hx6)
          rw [hyc] at cf
          clear hnv hyc
          go_wp2_with fail
          with_reducible refine cf.mono ?_
          rintro e w7 ⟨Q7, q7, rfl, hx7⟩
          have hx67 := hx56.trans hx7
          by_cases g2 : (x : Int) = sign
          · have g2' : ((x : Int) == sign) = true := by simpa using g2
            rw [if_pos g2] at e1
            go_wp2_with fail
            refine ⟨⟨i + 1, by go_num, by rw [e1], by rw [ea], by rw [ek], by omega, hx67⟩, by simp [intOf]; omega⟩
          · have g2' : ((x : Int) == sign) = false := by simpa using g2
            rw [if_neg g2] at e1
            go_wp2_with fail
            refine ⟨⟨i + 1, by go_num, by rw [e1], by rw [ea], by rw [ek], by omega, hx67⟩, by simp [intOf]; omega⟩
    · obtain rfl : i = N := by omega
      go_wp2_with fail
      go_ret3
      exact ⟨rfl, hxx.trans hxr⟩
end Go.Proofs.YtjfdlibceldanacGreatDoor.Raw
