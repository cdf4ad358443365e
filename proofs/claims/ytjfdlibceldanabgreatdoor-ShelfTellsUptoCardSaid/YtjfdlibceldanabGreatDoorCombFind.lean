/- comb.Find and comb.Count: the walks. -/
import Derived.Test.YtjfdlibceldanabGreatDoorCombLong
namespace Go.Proofs.YtjfdlibceldanabGreatDoor
open Go.RowKit En Wv

/-- Signs that can be asked for. -/
def signOk (s : List Int) : Prop := ∀ x ∈ s, -9223372036854775808 ≤ x ∧ x < 9223372036854775807
/-- What Find has ahead of a round. -/
structure CfR (n m2 : Nat) (E B D : Option Addr) (ec bc dc : Nat) (w : World) (SB : Nat) (f t : Nat) (wr : World) : Prop where
  c : Bk wr w.heap.size 31 #[.slice E n ec, .int .i64 n, .int .i64 10, .slice B 10 bc, .slice D m2 dc]
  r : Bk wr (w.heap.size + 1) 92 #[.int .i64 0, .int .i64 0]
  s : Bk wr SB 92 #[.int .i64 f, .int .i64 t]
  x : Ext w wr
theorem CfR.ext {n m2 : Nat} {E B D : Option Addr} {ec bc dc : Nat} {w wr wr' : World} {SB f t : Nat} (h : CfR n m2 E B D ec bc dc w SB f t wr) (hx : Ext wr wr') : CfR n m2 E B D ec bc dc w SB f t wr' := ⟨h.c.ext hx, h.r.ext hx, h.s.ext hx, h.x.trans hx⟩
theorem CfR.set {n m2 : Nat} {E B D : Option Addr} {ec bc dc : Nat} {w wr : World} {SB f t : Nat} (h : CfR n m2 E B D ec bc dc w SB f t wr) (hb : SB = w.heap.size + 1 + 1) (f' t' : Nat) : CfR n m2 E B D ec bc dc w SB f' t' ((wr.setCell ⟨SB, 0, none⟩ (.int .i64 f')).setCell ⟨SB, 1, none⟩ (.int .i64 t')) :=
  ⟨(h.c.far (p := ⟨SB, 0, none⟩) (by show _ ≠ SB; omega) _).far (p := ⟨SB, 1, none⟩) (by show _ ≠ SB; omega) _, (h.r.far (p := ⟨SB, 0, none⟩) (by show _ ≠ SB; omega) _).far (p := ⟨SB, 1, none⟩) (by show _ ≠ SB; omega) _,
    (h.s.set 0 _).set 1 _, (h.x.setCell (p := ⟨SB, 0, none⟩) (by show _ ≤ SB; omega) _).setCell (p := ⟨SB, 1, none⟩) (by show _ ≤ SB; omega) _⟩

set_option maxHeartbeats 8000000 in
set_option maxRecDepth 100000 in
theorem cfind_walk (n m2 : Nat) (E B D : Option Addr) (ec bc dc : Nat) (s : List Int) (A : Option Addr) (c : Nat) (w : World) (R : World → Prop) (hR : ∀ w w', Ext w w' → R w → R w') (sp : Nat → Nat × Nat) (_hn : n ≤ 4096) (hsl : s.length ≤ 17592186044416) (h0 : R w) (hr : Rd w A s.length (fun k => .int .i64 (nth s k)))
    (s0 : sp s.length = (0, n)) (sle : ∀ k, (sp k).1 ≤ (sp k).2 ∧ (sp k).2 ≤ n) (sz : ∀ k, ¬ (sp k).1 < (sp k).2 → sp k = (0, 0)) (snone : ∀ k, ¬ (sp k).1 < (sp k).2 → sp 0 = (0, 0)) (slast : ∀ i, i + 1 < s.length → nth s i = 0 → sp 0 = (0, 0))
    (sstep : ∀ i w, i < s.length → (sp (i + 1)).1 < (sp (i + 1)).2 → ¬ (nth s i = 0 ∧ i + 1 < s.length) → R w → Calls Tryz.prog 94 #[combV n m2 E B D ec bc dc, .agg #[.int .i64 ((sp (i + 1)).1 : Nat), .int .i64 ((sp (i + 1)).2 : Nat)], .int .i64 (nth s i)] w (RetSpan (sp i) w)) :
    Calls Tryz.prog 56 #[combV n m2 E B D ec bc dc, .slice A s.length c] w (RetSpan (sp 0) w) := by
  have HR := Lib.hid hR; have S0 := Lib.hid s0; have SLE := Lib.hid sle; have SZ := Lib.hid sz; have SN := Lib.hid snone; have SL := Lib.hid slast; have SS := Lib.hid sstep; have H0 := Lib.hid h0; have HRD := Lib.hid hr
  clear hR s0 sle sz snone slast sstep h0 hr
  unfold combV
  go_enter Tryz.func56, Tryz.ntmps56
  go_upto_region 2 with fail
  generalize hW1 : World.alloc w _ = W1
  generalize hW2 : World.alloc W1 _ = W2
  generalize hW : World.alloc W2 _ = W
  have hs1 : W1.heap.size = w.heap.size + 1 := by rw [← hW1]; simp
  have hs2 : W2.heap.size = w.heap.size + 1 + 1 := by rw [← hW2]; simp [hs1]
  have hx2 := ext_of_alloc hW2
  have hx3 := ext_of_alloc hW
  have hx1 := ext_of_alloc hW1
  have bq := (bk_of hW1).ext (hx2.trans hx3)
  have br := (bk_of hW2).ext hx3
  have bs := bk_of hW
  rw [hs1] at br
  rw [hs2] at bs
  obtain ⟨SB, hSB⟩ : ∃ b, b = w.heap.size + 1 + 1 := ⟨_, rfl⟩
  rw [← hSB] at bs ⊢
  have L0 : Hid (CfR n m2 E B D ec bc dc w SB (sp s.length).1 (sp s.length).2 W) := Lib.hid (by rw [S0.out]; exact ⟨bq, br, bs, hx1.trans (hx2.trans hx3)⟩)
  have HSB := Lib.hid hSB
  clear hW hW1 hW2 hs1 hs2 hx1 hx2 hx3 bq br bs hSB
  go_wp2_with fail
  go_loopw [6] (fun vi wr => ∃ k : Nat, vi = .int .i64 ((k : Int) - 1) ∧ k ≤ s.length ∧ Hid (CfR n m2 E B D ec bc dc w SB (sp k).1 (sp k).2 wr)) (fun vi _ => (intOf vi + 1).toNat)
  case atStart => exact ⟨s.length, rfl, Nat.le_refl _, L0⟩
  case round => as_aux_lemma =>
    clear L0
    obtain ⟨k, hvi, hk, HF⟩ := hrel
    have le := SLE.out k
    have hz := SZ.out k
    have hno := SN.out k
    obtain ⟨f, hf⟩ : ∃ f, (sp k).1 = f := ⟨_, rfl⟩
    obtain ⟨t, ht⟩ : ∃ t, (sp k).2 = t := ⟨_, rfl⟩
    rw [hf, ht] at HF le hz hno
    have bs := HF.out.s
    have y0 := bs.cell 0
    have y1 := bs.cell 1
    have br := HF.out.r
    have r0 := br.cell 0
    have r1 := br.cell 1
    have r2 := br.frozen 0
    have r3 := br.frozen 1
    by_cases g : f < t
    · cases k with
      | zero =>
        rw [show ((0 : Nat) : Int) - 1 = -1 from rfl] at hvi
        subst hvi
        have BF := Lib.hid ((br.set 0 (.int .i64 f)).set 1 (.int .i64 t))
        have XF := Lib.hid ((HF.out.x.setCell (p := ⟨w.heap.size + 1, 0, none⟩) (by show w.heap.size ≤ w.heap.size + 1; omega) (.int .i64 f)).setCell (p := ⟨w.heap.size + 1, 1, none⟩) (by show w.heap.size ≤ w.heap.size + 1; omega) (.int .i64 t))
        clear br bs
        go_wp2_with fail
        clear y0 y1 r0 r1 r2 r3
        have bF := BF.out
        have xF := XF.out
        generalize (wr.setCell _ _).setCell _ _ = wF at *
        have z0 : wF.cell? ⟨w.heap.size + 1, 0, none⟩ = some (.int .i64 f) := bF.cell 0
        have z1 : wF.cell? ⟨w.heap.size + 1, 1, none⟩ = some (.int .i64 t) := bF.cell 1
        exact bodyPost_ret (v := .agg #[.int .i64 f, .int .i64 t]) (by simp [results, Tryz.results56, go_sem, z0, z1]) rfl ⟨by rw [hf, ht], xF⟩
      | succ j =>
        rw [show ((j + 1 : Nat) : Int) - 1 = (j : Int) from by omega] at hvi
        subst hvi
        obtain ⟨b1, o1, rfl, hb1, hc1⟩ := (HRD.out.ext HF.out.x) (by omega)
        have p1 := hc1 j (by omega)
        dsimp only at p1
        clear hc1
        have sl := SL.out j
        have ss := fun w => SS.out j w (by omega)
        rw [hf, ht] at ss
        obtain ⟨x, hx⟩ : ∃ x, nth s j = x := ⟨_, rfl⟩
        rw [hx] at p1 sl ss
        by_cases q0 : x = 0 ∧ j + 1 < s.length
        · have h0 := sl q0.2 q0.1
          have q1 : (x == 0) = true := by rw [beq_iff_eq]; exact q0.1
          have q2 : decide ((j : Int) < (s.length : Int) - 1) = true := by simp; omega
          clear ss sl
          have BF := Lib.hid ((br.set 0 (.int .i64 0)).set 1 (.int .i64 0))
          have XF := Lib.hid ((HF.out.x.setCell (p := ⟨w.heap.size + 1, 0, none⟩) (by show w.heap.size ≤ w.heap.size + 1; omega) (.int .i64 0)).setCell (p := ⟨w.heap.size + 1, 1, none⟩) (by show w.heap.size ≤ w.heap.size + 1; omega) (.int .i64 0))
          clear br bs
          go_wp2_with fail
          clear y0 y1 r0 r1 r2 r3
          have bF := BF.out
          have xF := XF.out
          generalize (wr.setCell _ _).setCell _ _ = wF at *
          have z0 : wF.cell? ⟨w.heap.size + 1, 0, none⟩ = some (.int .i64 0) := bF.cell 0
          have z1 : wF.cell? ⟨w.heap.size + 1, 1, none⟩ = some (.int .i64 0) := bF.cell 1
          exact bodyPost_ret (v := .agg #[.int .i64 0, .int .i64 0]) (by simp [results, Tryz.results56, go_sem, z0, z1]) rfl ⟨by rw [h0]; rfl, xF⟩
        · have SJ := Lib.hid (fun w => ss w g q0)
          clear ss sl
          go_upto_region 5 with fail
          go_cut [36] (fun v w' => v = .bool false ∧ w' = wr)
          case first =>
            by_cases q1 : x = 0
            · have q2 : decide ((j : Int) < (s.length : Int) - 1) = false := by
                have : ¬ j + 1 < s.length := fun r => q0 ⟨q1, r⟩
                simp; omega
              have q3 : (x == 0) = true := by rw [beq_iff_eq]; exact q1
              subst q1
              go_wp2_with fail
              go_meet
              exact ⟨rfl, rfl⟩
            · have q3 : (x == 0) = false := by rw [beq_eq_false_iff_ne]; exact q1
              go_wp2_with fail
              go_meet
              exact ⟨rfl, rfl⟩
          case rest =>
            obtain ⟨rfl, rfl⟩ := hcut
            go_upto_region 7 with fail
            have HFS : ∀ w', Ext wc w' → ∀ f' t', Hid (CfR n m2 E B D ec bc dc w SB f' t' ((w'.setCell ⟨SB, 0, none⟩ (.int .i64 f')).setCell ⟨SB, 1, none⟩ (.int .i64 t'))) := fun w' hx f' t' => Lib.hid ((HF.out.ext hx).set HSB.out f' t')
            obtain ⟨f', hf'⟩ : ∃ x, (sp j).1 = x := ⟨_, rfl⟩
            obtain ⟨t', ht'⟩ : ∃ x, (sp j).2 = x := ⟨_, rfl⟩
            have SJ2 : Hid (∀ w, R w → Calls Tryz.prog 94 #[combV n m2 E B D ec bc dc, .agg #[.int .i64 (f : Nat), .int .i64 (t : Nat)], .int .i64 x] w fun e w' => e = .returned (.agg #[.int .i64 (f' : Nat), .int .i64 (t' : Nat)]) ∧ Ext w w') := Lib.hid (by
              have := SJ.out
              unfold RetSpan at this
              rw [hf', ht'] at this
              exact this)
            have bq := HF.out.c
            have c0 := bq.cell 0
            have c1 := bq.cell 1
            have c2 := bq.cell 2
            have c3 := bq.cell 3
            have c4 := bq.cell 4
            have f0 := bs.frozen 0
            have f1 := bs.frozen 1
            have hR' := HR.out _ _ HF.out.x H0.out
            clear bq bs br r0 r1 r2 r3 SJ
            have hj : j < s.length := by omega
            refine wp_region_N (fun w' => w'.cell? ⟨w.heap.size, 0, none⟩ = some (.slice E n ec) ∧ w'.cell? ⟨w.heap.size, 1, none⟩ = some (.int .i64 n) ∧ w'.cell? ⟨w.heap.size, 2, none⟩ = some (.int .i64 10) ∧ w'.cell? ⟨w.heap.size, 3, none⟩ = some (.slice B 10 bc) ∧ w'.cell? ⟨w.heap.size, 4, none⟩ = some (.slice D m2 dc) ∧ w'.cell? ⟨SB, 0, none⟩ = some (.int .i64 f) ∧ w'.cell? ⟨SB, 1, none⟩ = some (.int .i64 t) ∧ w'.cell? ⟨b1, o1 + j, none⟩ = some (.int .i64 x)) 7 (by kernel_rfl) ?_
            simp only [List.length_cons, List.length_nil, Nat.zero_add, Nat.reduceAdd]
            have hcur : Ext wc wc.drew := (Ext.refl wc).drew
            have HBS := Lib.hid HF.out.s
            have hSS : wc.drew.cell? ⟨w.heap.size, 0, none⟩ = some (.slice E n ec) ∧ wc.drew.cell? ⟨w.heap.size, 1, none⟩ = some (.int .i64 n) ∧ wc.drew.cell? ⟨w.heap.size, 2, none⟩ = some (.int .i64 10) ∧ wc.drew.cell? ⟨w.heap.size, 3, none⟩ = some (.slice B 10 bc) ∧ wc.drew.cell? ⟨w.heap.size, 4, none⟩ = some (.slice D m2 dc) ∧ wc.drew.cell? ⟨SB, 0, none⟩ = some (.int .i64 f) ∧ wc.drew.cell? ⟨SB, 1, none⟩ = some (.int .i64 t) ∧ wc.drew.cell? ⟨b1, o1 + j, none⟩ = some (.int .i64 x) := ⟨ecell c0 hcur, ecell c1 hcur, ecell c2 hcur, ecell c3 hcur, ecell c4 hcur, ecell y0 hcur, ecell y1 hcur, ecell p1 hcur⟩
            have hR2 := HR.out _ _ hcur hR'
            generalize wc.drew = w0 at *
            refine take_N (i := 0) (.agg #[.slice E n ec, .int .i64 n, .int .i64 10, .slice B 10 bc, .slice D m2 dc]) rfl (by kernel_rfl) (fun _ _ _ h => h) rfl hSS (fun w' hw' => by obtain ⟨k0, k1, k2, k3, k4, k5, k6, k7⟩ := hw'; go_simp) #[true, false, false, false, false, false, false, false] (by rfl) ?_
            try simp only [Act.put, List.setIfInBounds_toArray, List.set_cons_zero, List.set_cons_succ]
            refine take_N (i := 1) (.agg #[.int .i64 f, .int .i64 t]) rfl (by kernel_rfl) (fun _ _ _ h => h) rfl hSS (fun w' hw' => by obtain ⟨k0, k1, k2, k3, k4, k5, k6, k7⟩ := hw'; go_simp) #[true, true, false, false, false, false, false, false] (by rfl) ?_
            try simp only [Act.put, List.setIfInBounds_toArray, List.set_cons_zero, List.set_cons_succ]
            refine pure_N (i := 2) (.slice (some ⟨b1, o1, none⟩) s.length c) rfl (by kernel_rfl) (fun _ _ _ h => h) rfl hSS (fun w' => by go_simp) #[true, true, true, false, false, false, false, false] (by rfl) ?_
            try simp only [Act.put, List.setIfInBounds_toArray, List.set_cons_zero, List.set_cons_succ]
            refine pure_N (i := 3) (.int .i64 j) rfl (by kernel_rfl) (fun _ _ _ h => h) rfl hSS (fun w' => by go_simp) #[true, true, true, true, false, false, false, false] (by rfl) ?_
            try simp only [Act.put, List.setIfInBounds_toArray, List.set_cons_zero, List.set_cons_succ]
            refine pure_N (i := 4) (.pointer (some ⟨b1, o1 + j, none⟩)) rfl (by kernel_rfl) (fun _ _ _ h => h) rfl hSS (fun w' => by go_simp) #[true, true, true, true, true, false, false, false] (by rfl) ?_
            try simp only [Act.put, List.setIfInBounds_toArray, List.set_cons_zero, List.set_cons_succ]
            refine take_N (i := 5) (.int .i64 x) rfl (by kernel_rfl) (fun _ _ _ h => h) rfl hSS (fun w' hw' => by obtain ⟨k0, k1, k2, k3, k4, k5, k6, k7⟩ := hw'; go_simp) #[true, true, true, true, true, true, false, false] (by rfl) ?_
            try simp only [Act.put, List.setIfInBounds_toArray, List.set_cons_zero, List.set_cons_succ]
            refine all_N [6] (by kernel_rfl) (by simp) ?_
            rintro i hi'
            obtain rfl := List.mem_singleton.1 hi'
            refine step_N (i := 6) #[true, true, true, true, true, true, true, false] rfl rfl (by rfl) (fun K' hK' => ?_)
            go_simp
            refine (SJ2.out _ hR2).mono ?_
            rintro e wn ⟨rfl, hxn⟩
            have hx2 := hcur.trans hxn
            have HF2 := HFS _ hx2 f' t'
            refine hK' _ _ ⟨ecell hSS.1 hxn, ecell hSS.2.1 hxn, ecell hSS.2.2.1 hxn, ecell hSS.2.2.2.1 hxn, ecell hSS.2.2.2.2.1 hxn, ecell hSS.2.2.2.2.2.1 hxn, ecell hSS.2.2.2.2.2.2.1 hxn, ecell hSS.2.2.2.2.2.2.2 hxn⟩ ?_
            have z0 := ecell y0 hx2
            have z1 := ecell y1 hx2
            have g0 := (HBS.out.ext hx2).frozen 0
            have g1 := (HBS.out.ext hx2).frozen 1
            clear K' hK' hi' hSS hR2 hcur hxn hx2 y0 y1 c0 c1 c2 c3 c4 p1 f0 f1 HBS hR'
            try simp only [Act.put, List.setIfInBounds_toArray, List.set_cons_zero, List.set_cons_succ]
            refine wpAnyN_tail 7 _ rfl rfl (by kernel_rfl) (by kernel_rfl) ?_
            go_wp2_with fail
            refine ⟨⟨j, by go_num, by omega, by rw [hf', ht']; exact HF2⟩, by simp [intOf]⟩
    · have h0 := hno g
      obtain ⟨rfl, rfl⟩ : f = 0 ∧ t = 0 := by
        have := hz g
        rw [this] at hf ht
        exact ⟨hf.symm, ht.symm⟩
      have BF := Lib.hid ((br.set 0 (.int .i64 0)).set 1 (.int .i64 0))
      have XF := Lib.hid ((HF.out.x.setCell (p := ⟨w.heap.size + 1, 0, none⟩) (by show w.heap.size ≤ w.heap.size + 1; omega) (.int .i64 0)).setCell (p := ⟨w.heap.size + 1, 1, none⟩) (by show w.heap.size ≤ w.heap.size + 1; omega) (.int .i64 0))
      clear br bs
      by_cases g0 : k = 0
      · subst g0
        rw [show ((0 : Nat) : Int) - 1 = -1 from rfl] at hvi
        subst hvi
        go_wp2_with fail
        clear y0 y1 r0 r1 r2 r3
        have bF := BF.out
        have xF := XF.out
        generalize (wr.setCell _ _).setCell _ _ = wF at *
        have z0 : wF.cell? ⟨w.heap.size + 1, 0, none⟩ = some (.int .i64 0) := bF.cell 0
        have z1 : wF.cell? ⟨w.heap.size + 1, 1, none⟩ = some (.int .i64 0) := bF.cell 1
        exact bodyPost_ret (v := .agg #[.int .i64 0, .int .i64 0]) (by simp [results, Tryz.results56, go_sem, z0, z1]) rfl ⟨by rw [h0]; rfl, xF⟩
      · obtain ⟨j, rfl⟩ : ∃ j, k = j + 1 := ⟨k - 1, by omega⟩
        rw [show ((j + 1 : Nat) : Int) - 1 = (j : Int) from by omega] at hvi
        subst hvi
        go_wp2_with fail
        clear y0 y1 r0 r1 r2 r3
        have bF := BF.out
        have xF := XF.out
        generalize (wr.setCell _ _).setCell _ _ = wF at *
        have z0 : wF.cell? ⟨w.heap.size + 1, 0, none⟩ = some (.int .i64 0) := bF.cell 0
        have z1 : wF.cell? ⟨w.heap.size + 1, 1, none⟩ = some (.int .i64 0) := bF.cell 1
        exact bodyPost_ret (v := .agg #[.int .i64 0, .int .i64 0]) (by simp [results, Tryz.results56, go_sem, z0, z1]) rfl ⟨by rw [h0]; rfl, xF⟩

theorem span_zero {l : List Int} {e : List Nat} {s : List Int} (h : ¬ (spanF l e s).1 < (spanF l e s).2) : ¬ lo l e s < hi l e s ∧ spanF l e s = (0, 0) := by
  by_cases g : lo l e s < hi l e s
  · exact absurd (by unfold spanF; rw [if_pos g]; exact g) h
  · exact ⟨g, by unfold spanF; rw [if_neg g]⟩
theorem cfind_calls (l : List Int) (hok : combOk l) (E B D : Option Addr) (ec bc dc : Nat) (s : List Int) (hs : signOk s) (hsl : s.length ≤ 17592186044416) (A : Option Addr) (c : Nat) (w : World) (h : CombIn w l E B D) (hr : Rd w A s.length (fun k => .int .i64 (nth s k))) :
    Calls Tryz.prog 56 #[combV l.length ((mostI l).toNat + 2) E B D ec bc dc, .slice A s.length c] w (RetSpan (spanF l (endsF l) s) w) := by
  have hE := endsF_is l
  have hL := (isLB_IsL l).1 hok.1
  have key := cfind_walk l.length ((mostI l).toNat + 2) E B D ec bc dc s A c w (fun w => CombIn w l E B D) (fun _ _ hx r => r.ext hx) (fun k => spanF l (endsF l) (s.drop k)) hok.2.2 hsl h hr
    (by rw [List.drop_length]; exact spanF_nil hE hL)
    (fun k => spanF_le hE _)
    (fun k g => (span_zero g).2)
    (fun k g => by rw [List.drop_zero]; exact span_drop hE hL (span_zero g).1)
    (fun i hi h0 => by rw [List.drop_zero]; exact find_last hE hL hi h0)
    (fun i w hi g hw hc => by
      have q := longer_calls l hok E B D ec bc dc (spanF l (endsF l) (s.drop (i + 1))).1 (spanF l (endsF l) (s.drop (i + 1))).2 (nth s i) w (spanF_le hE _).1 (spanF_le hE _).2 (hs _ (nth_mem hi)) hc
      rw [find_round hE hL hi (f := (spanF l (endsF l) (s.drop (i + 1))).1) (t := (spanF l (endsF l) (s.drop (i + 1))).2) rfl g hw] at q
      exact q)
  rw [List.drop_zero] at key
  exact key
set_option maxRecDepth 100000 in
theorem ccount_calls (l : List Int) (hok : combOk l) (E B D : Option Addr) (ec bc dc : Nat) (s : List Int) (hs : signOk s) (hsl : s.length ≤ 17592186044416) (A : Option Addr) (c : Nat) (w : World) (h : CombIn w l E B D) (hr : Rd w A s.length (fun k => .int .i64 (nth s k))) :
    Calls Tryz.prog 32 #[combV l.length ((mostI l).toNat + 2) E B D ec bc dc, .slice A s.length c] w fun e w' => e = .returned (.int .i64 (((spanF l (endsF l) s).2 - (spanF l (endsF l) s).1 : Nat) : Int)) ∧ Ext w w' := by
  have cf := fun w h hr => cfind_calls l hok E B D ec bc dc s hs hsl A c w h hr
  obtain ⟨h1, h2⟩ := spanF_le (endsF_is l) s
  have hl := hok.2.2
  unfold RetSpan at cf
  obtain ⟨f, hf⟩ : ∃ f, (spanF l (endsF l) s).1 = f := ⟨_, rfl⟩
  obtain ⟨t, ht⟩ : ∃ t, (spanF l (endsF l) s).2 = t := ⟨_, rfl⟩
  obtain ⟨m2, hm2⟩ : ∃ m, (mostI l).toNat + 2 = m := ⟨_, rfl⟩
  obtain ⟨n, hn⟩ : ∃ m, l.length = m := ⟨_, rfl⟩
  rw [hf, ht, hm2, hn] at cf
  rw [hf, ht] at h1
  rw [ht, hn] at h2
  rw [hn] at hl
  rw [hf, ht, hm2, hn]
  have e : ((t - f : Nat) : Int) = (t : Int) - (f : Int) := by omega
  rw [e]
  have CF := Lib.hid cf; have HC := Lib.hid h; have HR := Lib.hid hr
  unfold combV
  clear cf h hr hf ht hm2 hn hok hs
  go_enter Tryz.func32, Tryz.ntmps32
  go_upto_region 1 with fail
  generalize hW : World.alloc w _ = W
  have bq := bk_of hW
  have hx := ext_of_alloc hW
  clear hW
  have c0 := bq.cell 0
  have c1 := bq.cell 1
  have c2 := bq.cell 2
  have c3 := bq.cell 3
  have c4 := bq.cell 4
  clear bq
  go_wp2_with (go_at_call 56; with_reducible refine (CF.out _ (HC.out.ext hx) (HR.out.ext hx)).mono ?_; rintro e wn ⟨rfl, hxn⟩)
  go_ret
  exact ⟨rfl, (hx.trans hxn).alloc _⟩
end Go.Proofs.YtjfdlibceldanabGreatDoor
