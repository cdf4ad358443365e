/- ShelfTells: the shelf of no text, and whether shelf answers at all. ShelfTells: the law's walk. ShelfTells: the law over opened arguments. -/
import Derived.Test.YtjfdlibceldanabGreatDoorShO
import Derived.Test.YtjfdlibceldanabGreatDoorRdC
import Derived.Test.YtjfdlibceldanabGreatDoorRdS
import Derived.Test.YtjfdlibceldanabGreatDoorRfD
import Derived.Test.YtjfdlibceldanabGreatDoorUpB
import Derived.Lib.SmallJoins
/-! ShelfTells: the shelf of no text, and whether shelf answers at all. -/
namespace Go.Proofs.YtjfdlibceldanabGreatDoor
open Go.RowKit Go.Sort Tx En Wv Gu Ri

set_option maxHeartbeats 4000000 in
set_option maxRecDepth 100000 in
theorem shelves_calls (m : Int) (w : World) (hm : w.cell? ⟨0, 0, none⟩ = some (.int .i64 m)) : Calls Tryz.prog 15 #[] w fun e w' => e = .returned (.bool true) ∧ Ext w w' := by
  have co : Calls Tryz.prog 9 #[.string ⟨#[97, 32, 98, 10, 97, 32, 98]⟩] w fun e w' => ∃ WA TA E B D wc tc ec bc dc, e = .returned (.tuple #[shV WA TA 2 wc 7 tc E B D 5 ec bc dc, .int .i64 0]) ∧ ShR m sA WA TA E B D wc tc ec bc dc w' ∧ Ext w w' := by
    refine (open_calls sA (by decide) m w hm).mono ?_
    rintro e w' (⟨h, _⟩ | ⟨_, WA, TA, E, B, D, wc, tc, ec, bc, dc, rfl, hs, hx⟩)
    · exact absurd err_sA h
    · unfold shOf
      rw [bT_sA, words_sA]
      exact ⟨WA, TA, E, B, D, wc, tc, ec, bc, dc, rfl, ⟨ecell hm hx, hs⟩, hx⟩
  have cg : ∀ WA TA E B D wc tc ec bc dc w, ShR m sA WA TA E B D wc tc ec bc dc w → Calls Tryz.prog 18 #[shV WA TA 2 wc 7 tc E B D 5 ec bc dc, .string ⟨#[97]⟩] w fun e w' => e = .returned (.tuple #[.string ⟨#[98]⟩, .int .i64 0]) ∧ Ext w w' := by
    intro WA TA E B D wc tc ec bc dc w r
    have h := sguess_calls err_sA [97] (by decide) m w r
    unfold shOf at h
    rw [bT_sA, words_sA, gs_sA, gse_sA] at h
    exact h
  have cc : ∀ WA TA E B D wc tc ec bc dc w, ShR m sA WA TA E B D wc tc ec bc dc w → Calls Tryz.prog 12 #[shV WA TA 2 wc 7 tc E B D 5 ec bc dc, .string ⟨#[97, 32, 98]⟩] w fun e w' => e = .returned (.int .i64 2) ∧ Ext w w' := by
    intro WA TA E B D wc tc ec bc dc w r
    have h := scount_calls err_sA [97, 32, 98] (by decide) m w r
    unfold shOf at h
    rw [bT_sA, words_sA, cnt_sA] at h
    exact h
  have CO := Lib.hid co; have CG := Lib.hid cg; have CC := Lib.hid cc
  clear co cg cc hm
  go_enter Tryz.func15, Tryz.ntmps15
  go_wp2_with fail
  with_reducible refine CO.out.mono ?_
  rintro e w1 ⟨WA, TA, E, B, D, wc, tc, ec, bc, dc, rfl, hr, hx1⟩
  go_wp2_with fail
  generalize hW : World.alloc w1 _ = W
  have bx := bk_of hW
  have hxW := hx1.trans (ext_of_alloc hW)
  have hr2 := hr.ext m (ext_of_alloc hW)
  generalize w1.heap.size = g at *
  have z0 := bx.cell 0
  have z1 := bx.cell 1
  have z2 := bx.cell 2
  have z3 := bx.cell 3
  have z4 := bx.cell 4
  have z5 := bx.cell 5
  have z6 := bx.cell 6
  clear hW hr hx1
  have cg := CG.out _ _ _ _ _ _ _ _ _ _ _ hr2
  go_wp2_with fail
  refine cg.mono ?_
  rintro e w2 ⟨rfl, hx2⟩
  have bx2 := bx.ext hx2
  have cc := CC.out _ _ _ _ _ _ _ _ _ _ _ (hr2.ext m hx2)
  clear z0 z1 z2 z3 z4 z5 z6 bx cg
  have z0 := bx2.cell 0
  have z1 := bx2.cell 1
  have z2 := bx2.cell 2
  have z3 := bx2.cell 3
  have z4 := bx2.cell 4
  have z5 := bx2.cell 5
  have z6 := bx2.cell 6
  go_wp2_with fail
  refine cc.mono ?_
  rintro e w3 ⟨rfl, hx3⟩
  go_wp2_with fail
  go_ret
  exact ⟨rfl, (hxW.trans hx2).trans hx3⟩
set_option maxHeartbeats 4000000 in
set_option maxRecDepth 100000 in
theorem xguess_no (ws : List UInt8) (hws : ws.length ≤ 16777216) (m : Int) (w : World) (hm : w.cell? ⟨0, 0, none⟩ = some (.int .i64 m)) :
    Calls Tryz.prog 18 #[noShelf, str ws] w fun e w' => e = .returned (.tuple #[.string ⟨#[]⟩, .int .i64 3]) ∧ Ext w w' := by
  have CS := Lib.hid (fun w hm => signs_no ws hws m w hm); have HM := Lib.hid hm
  clear hm hws
  go_enter Tryz.func18, Tryz.ntmps18
  go_upto_region 1 with fail
  generalize hW : World.alloc w _ = W
  have bx := bk_of hW
  have hx := ext_of_alloc hW
  generalize w.heap.size = g at *
  clear hW
  have z0 := bx.cell 0
  have z1 := bx.cell 1
  have cs := CS.out W (ecell HM.out hx)
  go_wp2_with fail
  with_reducible refine cs.mono ?_
  rintro e w1 ⟨b, P, L, p, rfl, hL, y1, y2, y3, y4, hx1⟩
  clear y1 y2 y3 y4
  have hb1 := bx.ext hx1
  clear z0 z1
  have z1 := hb1.cell 1
  cases b with
  | true =>
    go_wp2_with fail
    go_ret2
    exact ⟨rfl, hx.trans hx1⟩
  | false =>
    go_wp2_with fail
    go_ret2
    exact ⟨rfl, hx.trans hx1⟩
set_option maxHeartbeats 2000000 in
set_option maxRecDepth 100000 in
theorem gsigns_no (w : World) : Calls Tryz.prog 58 #[noComb] w fun e w' => e = .returned (.int .i64 (-2)) ∧ Ext w w' := by
  go_enter Tryz.func58, Tryz.ntmps58
  go_wp2_with fail
  go_ret
  exact ⟨rfl, (Ext.refl w).alloc _⟩
set_option maxHeartbeats 4000000 in
set_option maxRecDepth 100000 in
theorem glikely_no (L : Nat) (A : Option Addr) (c : Nat) (sign : Int) (w : World) :
    Calls Tryz.prog 36 #[noComb, .slice A L c, .int .i64 sign] w (RetPart (0, 1) w) := by
  have cS := fun w => gsigns_no w
  have CS := Lib.hid cS
  clear cS
  by_cases h1 : sign < 1
  · have h1' : decide (sign < 1) = true := by simpa using h1
    go_enter Tryz.func36, Tryz.ntmps36
    go_wp2_with fail
    generalize hW1 : World.alloc w _ = W1
    have hs1 : W1.heap.size = w.heap.size + 1 := by rw [← hW1]; simp
    generalize hW : World.alloc W1 _ = W
    have bl := bk_of hW
    rw [hs1] at bl
    have hx : Ext w W := (ext_of_alloc hW1).trans (ext_of_alloc hW)
    clear hW hW1 hs1
    have z0 := bl.cell 0
    have z1 := bl.cell 1
    exact bodyPost_ret (v := .agg #[.int .i64 0, .int .i64 1]) (by simp [results, Tryz.results36, go_sem, z0, z1]) rfl ⟨rfl, hx⟩
  · have h1' : decide (sign < 1) = false := by simpa using h1
    have h2' : decide ((-2 : Int) < sign) = true := by simp; omega
    go_enter Tryz.func36, Tryz.ntmps36
    go_upto_region 1 with fail
    generalize hW1 : World.alloc w _ = W1
    have hs1 : W1.heap.size = w.heap.size + 1 := by rw [← hW1]; simp
    have bq := bk_of hW1
    generalize hW : World.alloc W1 _ = W
    have bl := bk_of hW
    rw [hs1] at bl
    have hx : Ext w W := (ext_of_alloc hW1).trans (ext_of_alloc hW)
    have hB : w.heap.size ≤ w.heap.size + 1 := by omega
    have bqW := bq.ext (ext_of_alloc hW)
    clear hW hW1 hs1 bq
    have x0 := bqW.cell 0
    have x1 := bqW.cell 1
    have x2 := bqW.cell 2
    have x3 := bqW.cell 3
    have x4 := bqW.cell 4
    go_wp2_with fail
    with_reducible refine (CS.out W).mono ?_
    rintro e w2 ⟨rfl, hx2⟩
    have br := bl.ext hx2
    have z0 := br.cell 0
    have z1 := br.cell 1
    have f0 := br.frozen 0
    have f1 := br.frozen 1
    have BF := Lib.hid (bk2G (v0 := .int .i64 0) (v1 := .int .i64 1) br)
    have HXF := Lib.hid (ext2G (B := w.heap.size + 1) (hx.trans hx2) hB (.int .i64 0) (.int .i64 1))
    clear x0 x1 x2 x3 x4 br bl bqW
    go_wp2_with fail
    clear z0 z1 f0 f1
    have bF := BF.out
    have hxF := HXF.out
    generalize (w2.setCell _ _).setCell _ _ = wF at *
    have z0 := bF.cell 0
    have z1 := bF.cell 1
    exact bodyPost_ret (v := .agg #[.int .i64 0, .int .i64 1]) (by simp [results, Tryz.results36, go_sem, z0, z1]) rfl ⟨rfl, hxF⟩
set_option maxHeartbeats 8000000 in
set_option maxRecDepth 100000 in
theorem slikely_no_walk (b1 b2 : Bool) (ws wd : List UInt8) (L1 L2 : Nat) (w : World) (R : World → Prop) (RP1 RP2 : World → Option Addr → Nat → Prop) (x : Int) (q pr : Nat × Nat) (er : Nat)
    (hR : ∀ w w', Ext w w' → R w → R w') (h1 : ∀ w w' P p, Ext w w' → RP1 w P p → RP1 w' P p) (h0 : R w)
    (cs1 : ∀ w, R w → Calls Tryz.prog 10 #[noBook, str ws] w (SgRet b1 L1 RP1 w))
    (cs2 : ∀ w, R w → Calls Tryz.prog 10 #[noBook, str wd] w (SgRet b2 L2 RP2 w))
    (hx : ∀ w P p, RP2 w P p → L2 = 1 → ∃ b o, P = some ⟨b, o, none⟩ ∧ w.cell? ⟨b, o, none⟩ = some (.int .i64 x))
    (cl : b1 = true → b2 = true → L2 = 1 → ∀ P p w, RP1 w P p → R w → Calls Tryz.prog 36 #[.agg #[.slice none 0 0, .int .i64 0, .int .i64 0, .slice none 0 0, .slice none 0 0], .slice P L1 p, .int .i64 x] w (RetPart q w))
    (hyes : b1 = true → b2 = true → L2 = 1 → pr = q ∧ er = 0) (hno : ¬ (b1 = true ∧ b2 = true ∧ L2 = 1) → pr = (0, 0) ∧ er = 3) :
    Calls Tryz.prog 17 #[noShelf, str ws, str wd] w fun e w' => e = .returned (.tuple #[.agg #[.int .i64 pr.1, .int .i64 pr.2], .int .i64 (er : Nat)]) ∧ Ext w w' := by
  unfold RetPart at cl
  have CS1 := Lib.hid cs1; have CS2 := Lib.hid cs2; have CL := Lib.hid cl; have HR := Lib.hid hR; have H1 := Lib.hid h1; have HX := Lib.hid hx; have HY := Lib.hid hyes; have HN := Lib.hid hno
  clear cs1 cs2 cl hR h1 hx hyes hno
  go_enter Tryz.func17, Tryz.ntmps17
  go_upto_region 1 with fail
  generalize hW1 : World.alloc w _ = W1
  have hs1 : W1.heap.size = w.heap.size + 1 := by rw [← hW1]; simp
  have bq := bk_of hW1
  generalize hW : World.alloc W1 _ = W
  have bl := bk_of hW
  rw [hs1] at bl
  have hx : Ext w W := (ext_of_alloc hW1).trans (ext_of_alloc hW)
  have hB : w.heap.size ≤ w.heap.size + 1 := by omega
  have bqW := bq.ext (ext_of_alloc hW)
  have hr := HR.out _ _ hx h0
  clear hW hW1 bq h0
  obtain ⟨PB, hPB⟩ : ∃ PB, w.heap.size + 1 = PB := ⟨_, rfl⟩
  rw [hPB] at bl hB hs1
  simp only [hPB]
  have z0 := bqW.cell 0
  have z1 := bqW.cell 1
  have cs1 := CS1.out W hr
  clear hs1
  go_wp2_with fail
  with_reducible refine cs1.mono ?_
  rintro e w1 h1
  obtain ⟨v8, v9, P, p, rfl, hb9, hP, hx1⟩ : ∃ (v8 v9 : Value) (P : Option Addr) (p : Nat), e = .returned (.tuple #[v8, v9]) ∧ v9 = .bool b1 ∧ (b1 = true → v8 = .slice P L1 p ∧ RP1 w1 P p) ∧ Ext W w1 := by
    rcases h1 with ⟨h, P, p, rfl, hP, hx1⟩ | ⟨h, rfl, hx1⟩
    · exact ⟨_, _, P, p, rfl, by rw [h], fun _ => ⟨rfl, hP⟩, hx1⟩
    · exact ⟨_, _, none, 0, rfl, by rw [h], (fun q => by rw [h] at q; cases q), hx1⟩
  subst hb9
  have bq1 := bqW.ext hx1
  have hr1 := HR.out _ _ hx1 hr
  have cs2 := CS2.out w1 hr1
  clear z0 z1 bqW cs1 h1
  have z0 := bq1.cell 0
  have z1 := bq1.cell 1
  go_wp2_with fail
  with_reducible refine cs2.mono ?_
  rintro e w2 h2
  obtain ⟨L3, P2, p2, rfl, hP2, hx2⟩ : ∃ (L3 : Nat) (P2 : Option Addr) (p2 : Nat), e = .returned (.tuple #[.slice P2 L3 p2, .bool b2]) ∧ (b2 = true → L3 = L2 ∧ RP2 w2 P2 p2) ∧ Ext w1 w2 := by
    rcases h2 with ⟨h, P, p, rfl, hP, hx1⟩ | ⟨h, rfl, hx1⟩
    · exact ⟨_, P, p, by rw [h], fun _ => ⟨rfl, hP⟩, hx1⟩
    · exact ⟨_, none, 0, by rw [h], (fun q => by rw [h] at q; cases q), hx1⟩
  have bq2 := bq1.ext hx2
  have hx12 := hx1.trans hx2
  have bl2 := bl.ext hx12
  have hxx := hx.trans hx12
  have hr2 := HR.out _ _ hx12 hr
  clear z0 z1 bq1 cs2 h2 bl hx hr
  by_cases hyes : b1 = true ∧ b2 = true ∧ L2 = 1
  · obtain ⟨rfl, rfl, rfl⟩ := hyes
    obtain ⟨rfl, hp1⟩ := hP rfl
    obtain ⟨rfl, hp2⟩ := hP2 rfl
    obtain ⟨b, o, rfl, hc⟩ := HX.out _ _ _ hp2 rfl
    obtain ⟨rfl, rfl⟩ := HY.out rfl rfl rfl
    have cl := CL.out rfl rfl rfl
    go_upto_region 5 with fail
    have hr1 := HR.out _ _ hx2 hr1
    have hp1' := H1.out _ _ _ _ hx2 hp1
    have c2 := bq2.cell 2
    have c3 := bq2.cell 3
    have c4 := bq2.cell 4
    have c5 := bq2.cell 5
    have c6 := bq2.cell 6
    obtain ⟨Q, hQ⟩ : ∃ Q, w.heap.size = Q := ⟨_, rfl⟩
    rw [hQ] at c2 c3 c4 c5 c6 bq2 hB
    simp only [hQ]
    refine wp_region_N (fun w' => w'.cell? ⟨Q, 2, none⟩ = some (.slice none 0 0) ∧ w'.cell? ⟨Q, 3, none⟩ = some (.int .i64 0) ∧ w'.cell? ⟨Q, 4, none⟩ = some (.int .i64 0) ∧ w'.cell? ⟨Q, 5, none⟩ = some (.slice none 0 0) ∧ w'.cell? ⟨Q, 6, none⟩ = some (.slice none 0 0) ∧ w'.cell? ⟨b, o, none⟩ = some (.int .i64 x)) 7 (by kernel_rfl) ?_
    simp only [List.length_cons, List.length_nil, Nat.zero_add, Nat.reduceAdd]
    have hcur : Ext w2 w2.drew := (Ext.refl w2).drew
    have hSS : w2.drew.cell? ⟨Q, 2, none⟩ = some (.slice none 0 0) ∧ w2.drew.cell? ⟨Q, 3, none⟩ = some (.int .i64 0) ∧ w2.drew.cell? ⟨Q, 4, none⟩ = some (.int .i64 0) ∧ w2.drew.cell? ⟨Q, 5, none⟩ = some (.slice none 0 0) ∧ w2.drew.cell? ⟨Q, 6, none⟩ = some (.slice none 0 0) ∧ w2.drew.cell? ⟨b, o, none⟩ = some (.int .i64 x) := ⟨ecell c2 hcur, ecell c3 hcur, ecell c4 hcur, ecell c5 hcur, ecell c6 hcur, ecell hc hcur⟩
    have hR2 := HR.out _ _ hcur hr2
    have hP3 := H1.out _ _ _ _ hcur hp1'
    have bl3 := bl2.ext hcur
    have hx3 := hxx.trans hcur
    clear c2 c3 c4 c5 c6 hc hp1 hp1' bl2 hxx
    generalize w2.drew = w0 at *
    refine pure_N (i := 0) (.pointer (some ⟨Q, 2, none⟩)) rfl (by kernel_rfl) (fun _ _ _ h => h) rfl hSS (fun w' => by go_simp) #[true, false, false, false, false, false, false, false, false] (by rfl) ?_
    try simp only [Act.put, List.setIfInBounds_toArray, List.set_cons_zero, List.set_cons_succ]
    refine take_N (i := 1) (.agg #[.slice none 0 0, .int .i64 0, .int .i64 0, .slice none 0 0, .slice none 0 0]) rfl (by kernel_rfl) (fun _ _ _ h => h) rfl hSS (fun w' hw' => by obtain ⟨k0, k1, k2, k3, k4, k5⟩ := hw'; go_simp) #[true, true, false, false, false, false, false, false, false] (by rfl) ?_
    try simp only [Act.put, List.setIfInBounds_toArray, List.set_cons_zero, List.set_cons_succ]
    refine pure_N (i := 2) (.slice P L1 p) rfl (by kernel_rfl) (fun _ _ _ h => h) rfl hSS (fun w' => by go_simp) #[true, true, true, false, false, false, false, false, false] (by rfl) ?_
    try simp only [Act.put, List.setIfInBounds_toArray, List.set_cons_zero, List.set_cons_succ]
    refine pure_N (i := 3) (.slice (some ⟨b, o, none⟩) 1 p2) rfl (by kernel_rfl) (fun _ _ _ h => h) rfl hSS (fun w' => by go_simp) #[true, true, true, true, false, false, false, false, false] (by rfl) ?_
    try simp only [Act.put, List.setIfInBounds_toArray, List.set_cons_zero, List.set_cons_succ]
    refine pure_N (i := 4) (.pointer (some ⟨b, o, none⟩)) rfl (by kernel_rfl) (fun _ _ _ h => h) rfl hSS (fun w' => by go_simp) #[true, true, true, true, true, false, false, false, false] (by rfl) ?_
    try simp only [Act.put, List.setIfInBounds_toArray, List.set_cons_zero, List.set_cons_succ]
    refine take_N (i := 5) (.int .i64 x) rfl (by kernel_rfl) (fun _ _ _ h => h) rfl hSS (fun w' hw' => by obtain ⟨k0, k1, k2, k3, k4, k5⟩ := hw'; go_simp) #[true, true, true, true, true, true, false, false, false] (by rfl) ?_
    try simp only [Act.put, List.setIfInBounds_toArray, List.set_cons_zero, List.set_cons_succ]
    refine all_N [6] (by kernel_rfl) (by simp) ?_
    rintro i hi'
    obtain rfl := List.mem_singleton.1 hi'
    refine step_N (i := 6) #[true, true, true, true, true, true, true, false, false] rfl rfl (by rfl) (fun K' hK' => ?_)
    go_simp
    refine (cl P p w0 hP3 hR2).mono ?_
    rintro e wn ⟨rfl, hxn⟩
    refine hK' _ _ ⟨ecell hSS.1 hxn, ecell hSS.2.1 hxn, ecell hSS.2.2.1 hxn, ecell hSS.2.2.2.1 hxn, ecell hSS.2.2.2.2.1 hxn, ecell hSS.2.2.2.2.2 hxn⟩ ?_
    have bl4 := bl3.ext hxn
    have hx4 := hx3.trans hxn
    clear K' hK' hi' hSS hR2 hxn hx3 bl3 cl hP3
    have z0 := bl4.cell 0
    have z1 := bl4.cell 1
    have f0 := bl4.frozen 0
    have f1 := bl4.frozen 1
    have BF := Lib.hid (bk2G (v0 := .int .i64 pr.1) (v1 := .int .i64 pr.2) bl4)
    have HXF := Lib.hid (ext2G (B := PB) hx4 (by rw [hQ]; exact hB) (.int .i64 pr.1) (.int .i64 pr.2))
    clear bl4
    try simp only [Act.put, List.setIfInBounds_toArray, List.set_cons_zero, List.set_cons_succ]
    refine wpAnyN_tail 7 _ rfl rfl (by kernel_rfl) (by kernel_rfl) ?_
    go_wp2_with fail
    clear z0 z1 f0 f1
    have bF := BF.out
    have hxF := HXF.out
    generalize (wn.setCell _ _).setCell _ _ = wF at *
    have z0 := bF.cell 0
    have z1 := bF.cell 1
    exact bodyPost_ret (v := .tuple #[.agg #[.int .i64 pr.1, .int .i64 pr.2], .int .i64 0]) (by simp [results, Tryz.results17, go_sem, z0, z1]) rfl ⟨rfl, hxF⟩
  · obtain ⟨rfl, rfl⟩ := HN.out hyes
    have z0 := bl2.cell 0
    have z1 := bl2.cell 1
    have f0 := bl2.frozen 0
    have f1 := bl2.frozen 1
    have BF := Lib.hid (bk2G (v0 := .int .i64 0) (v1 := .int .i64 0) bl2)
    have HXF := Lib.hid (ext2G (B := PB) hxx hB (.int .i64 0) (.int .i64 0))
    clear bl2 bq2
    cases b1 with
    | false =>
      go_wp2_with fail
      clear z0 z1 f0 f1
      have bF := BF.out
      have hxF := HXF.out
      generalize (w2.setCell _ _).setCell _ _ = wF at *
      have z0 := bF.cell 0
      have z1 := bF.cell 1
      exact bodyPost_ret (v := .tuple #[.agg #[.int .i64 0, .int .i64 0], .int .i64 3]) (by simp [results, Tryz.results17, go_sem, z0, z1]) rfl ⟨rfl, hxF⟩
    | true =>
      cases b2 with
      | false =>
        go_wp2_with fail
        clear z0 z1 f0 f1
        have bF := BF.out
        have hxF := HXF.out
        generalize (w2.setCell _ _).setCell _ _ = wF at *
        have z0 := bF.cell 0
        have z1 := bF.cell 1
        exact bodyPost_ret (v := .tuple #[.agg #[.int .i64 0, .int .i64 0], .int .i64 3]) (by simp [results, Tryz.results17, go_sem, z0, z1]) rfl ⟨rfl, hxF⟩
      | true =>
        obtain ⟨rfl, hp2⟩ := hP2 rfl
        have hL : (((L3 : Nat) : Int) != 1) = true := by
          rw [bne_iff_ne]; intro q; exact hyes ⟨rfl, rfl, by omega⟩
        go_wp2_with fail
        clear z0 z1 f0 f1
        have bF := BF.out
        have hxF := HXF.out
        generalize (w2.setCell _ _).setCell _ _ = wF at *
        have z0 := bF.cell 0
        have z1 := bF.cell 1
        exact bodyPost_ret (v := .tuple #[.agg #[.int .i64 0, .int .i64 0], .int .i64 3]) (by simp [results, Tryz.results17, go_sem, z0, z1]) rfl ⟨rfl, hxF⟩
theorem slikely_no (ws wd : List UInt8) (hws : ws.length ≤ 16777216) (hwd : wd.length ≤ 16777216) (m : Int) (w : World) (hm : w.cell? ⟨0, 0, none⟩ = some (.int .i64 m)) :
    Calls Tryz.prog 17 #[noShelf, str ws, str wd] w fun e w' => ∃ (p : Nat × Nat) (er : Nat), e = .returned (.tuple #[.agg #[.int .i64 p.1, .int .i64 p.2], .int .i64 (er : Nat)]) ∧ Ext w w' := by
  have key : ∀ (u : List UInt8), u.length ≤ 16777216 → ∀ w, w.cell? ⟨0, 0, none⟩ = some (.int .i64 m) → Calls Tryz.prog 10 #[noBook, str u] w (SgRet (decide (∀ t ∈ toks u, t = [10])) (toks u).length (fun w P _ => Rd w P (toks u).length (fun _ => .int .i64 1)) w) := fun u hu w hm => by
    refine (signs_walkC [] (by simp) (by simp) none none 0 0 0 u hu m w hm Rd.zero).mono ?_
    unfold SgRet
    rintro e w' (⟨h1, P, p, rfl, _, h3, h4, _⟩ | ⟨⟨t, ht, hbad⟩, rfl, hx⟩)
    · have e1 : (sigs [] (toks u) (toks u).length).length = (toks u).length := sigs_len (Nat.le_refl _)
      have hall : ∀ t ∈ toks u, t = [10] := fun t ht => (h1 t ht).resolve_right (by simp)
      refine Or.inl ⟨decide_eq_true hall, P, p, by rw [e1], ?_, h4⟩
      rw [← e1]
      refine h3.congr fun k hk => ?_
      have : nth (sigs [] (toks u) (toks u).length) k = 1 := by
        have hm := nth_mem hk
        unfold sigs at hm ⊢
        rw [List.take_length] at hm ⊢
        obtain ⟨t, ht, he⟩ := List.mem_map.1 hm
        rw [← he, hall t ht]; rfl
      rw [this]; rfl
    · exact Or.inr ⟨decide_eq_false (fun q => hbad (Or.inl (q t ht))), rfl, hx⟩
  obtain ⟨pr, hpr⟩ : ∃ pr : Nat × Nat, (if decide (∀ t ∈ toks ws, t = [10]) = true ∧ decide (∀ t ∈ toks wd, t = [10]) = true ∧ (toks wd).length = 1 then (0, 1) else (0, 0)) = pr := ⟨_, rfl⟩
  obtain ⟨er, her⟩ : ∃ er : Nat, (if decide (∀ t ∈ toks ws, t = [10]) = true ∧ decide (∀ t ∈ toks wd, t = [10]) = true ∧ (toks wd).length = 1 then 0 else 3) = er := ⟨_, rfl⟩
  refine (slikely_no_walk (decide (∀ t ∈ toks ws, t = [10])) (decide (∀ t ∈ toks wd, t = [10])) ws wd (toks ws).length (toks wd).length w (fun w => w.cell? ⟨0, 0, none⟩ = some (.int .i64 m)) (fun w P _ => Rd w P (toks ws).length (fun _ => .int .i64 1)) (fun w P _ => Rd w P (toks wd).length (fun _ => .int .i64 1)) 1 (0, 1) pr er
    (fun _ _ hx r => ecell r hx) (fun _ _ P p hx r => Rd.ext r hx) hm (fun w r => key ws hws w r) (fun w r => key wd hwd w r) (fun w P p hP hl => ?_) (fun _ _ _ P p w _ _ => glikely_no _ P p 1 w) (fun h1 h2 h3 => ?_) (fun hn => ?_)).mono ?_
  · obtain ⟨b, o, hA, _, hc⟩ := hP (by omega)
    exact ⟨b, o, hA, hc 0 (by omega)⟩
  · rw [← hpr, ← her, if_pos ⟨h1, h2, h3⟩, if_pos ⟨h1, h2, h3⟩]
    exact ⟨rfl, rfl⟩
  · rw [← hpr, ← her, if_neg hn, if_neg hn]
    exact ⟨rfl, rfl⟩
  · rintro e w' ⟨rfl, hx⟩
    exact ⟨pr, er, rfl, hx⟩
end Go.Proofs.YtjfdlibceldanabGreatDoor

/-! ShelfTells: the law's walk. -/
namespace Go.Proofs.YtjfdlibceldanabGreatDoor
open Go.RowKit Go.Sort Tx En Wv Gu Ri

set_option maxHeartbeats 4000000 in
set_option maxRecDepth 100000 in
theorem tshelf_no (s ws own : List UInt8) (er : Nat) (her : er ≠ 0) (w : World) (R : World → Prop) (hR : ∀ w w', Ext w w' → R w → R w') (h0 : R w)
    (co : ∀ w, R w → Calls Tryz.prog 9 #[str s] w fun e w' => e = .returned (.tuple #[noShelf, .int .i64 (er : Nat)]) ∧ Ext w w')
    (cr : ∀ w, R w → Calls Tryz.prog 13 #[str s] w fun e w' => e = .returned (.tuple #[noBook, .int .i64 (er : Nat)]) ∧ Ext w w')
    (cb : ∀ w, Calls Tryz.prog 14 #[noBook, noBook] w fun e w' => e = .returned (.bool true) ∧ Ext w w')
    (ca : ∀ w, R w → Calls Tryz.prog 15 #[] w fun e w' => e = .returned (.bool true) ∧ Ext w w')
    (c1 : ∀ w, R w → Calls Tryz.prog 16 #[noBook, str ws] w fun e w' => ∃ v b, e = .returned (.tuple #[v, .bool b]) ∧ Ext w w')
    (c2 : ∀ w, R w → Calls Tryz.prog 16 #[noBook, str own] w fun e w' => ∃ v b, e = .returned (.tuple #[v, .bool b]) ∧ Ext w w')
    (cl : ∀ w, R w → Calls Tryz.prog 17 #[noShelf, str ws, str own] w fun e w' => ∃ (p : Nat × Nat) (er : Nat), e = .returned (.tuple #[.agg #[.int .i64 p.1, .int .i64 p.2], .int .i64 (er : Nat)]) ∧ Ext w w')
    (cg : ∀ w, R w → Calls Tryz.prog 18 #[noShelf, str ws] w fun e w' => e = .returned (.tuple #[.string ⟨#[]⟩, .int .i64 3]) ∧ Ext w w') :
    Calls Tryz.prog 4 #[str s, str ws, str own] w fun e w' => e = .returned (.bool true) ∧ Ext w w' := by
  have CO := Lib.hid co; have CR := Lib.hid cr; have CB := Lib.hid cb; have CA := Lib.hid ca; have C1 := Lib.hid c1; have C2 := Lib.hid c2; have CL := Lib.hid cl; have CG := Lib.hid cg; have HR := Lib.hid hR
  have her' : (((er : Nat) : Int) != 0) = true := by simp; omega
  clear co cr cb ca c1 c2 cl cg hR
  go_enter Tryz.func4, Tryz.ntmps4
  have co := CO.out w h0
  go_wp2_with fail
  with_reducible refine co.mono ?_
  rintro e w1 ⟨rfl, hx1⟩
  go_upto_region 2 with fail
  generalize hW2 : World.alloc w1 _ = W2
  have bx := bk_of hW2
  have hx2 := hx1.trans (ext_of_alloc hW2)
  have hr2 := HR.out _ _ hx2 h0
  obtain ⟨XB, hXB⟩ : ∃ Z, w1.heap.size = Z := ⟨_, rfl⟩
  rw [hXB] at bx
  simp only [hXB]
  clear hW2 hXB co hx1 h0
  have cr := CR.out W2 hr2
  go_wp2_with fail
  with_reducible refine cr.mono ?_
  rintro e w3 ⟨rfl, hx3⟩
  go_upto_region 3 with fail
  generalize hW4 : World.alloc w3 _ = W4
  have by4 := bk_of hW4
  have hx34 := hx3.trans (ext_of_alloc hW4)
  have hr4 := HR.out _ _ hx34 hr2
  obtain ⟨YB, hYB⟩ : ∃ Z, w3.heap.size = Z := ⟨_, rfl⟩
  rw [hYB] at by4
  simp only [hYB]
  have bx4 := bx.ext hx34
  have hx04 := hx2.trans hx34
  clear hW4 hYB cr hx2 hx3 hx34 hr2 bx
  have x0 := bx4.cell 0
  have x1 := bx4.cell 1
  have y0 := by4.cell 0
  have y1 := by4.cell 1
  go_wp2_with fail
  with_reducible refine (CB.out W4).mono ?_
  rintro e w5 ⟨rfl, hx5⟩
  have hr5 := HR.out _ _ hx5 hr4
  have ca := CA.out w5 hr5
  clear x0 x1 y0 y1
  go_wp2_with fail
  with_reducible refine ca.mono ?_
  rintro e w6 ⟨rfl, hx6⟩
  have hx46 := hx5.trans hx6
  have hr6 := HR.out _ _ hx6 hr5
  have bx6 := bx4.ext hx46
  have by6 := by4.ext hx46
  have hx06 := hx04.trans hx46
  clear hx5 hx6 hx46 hr5 hr4 bx4 by4 hx04 ca
  have y0 := by6.cell 0
  have y1 := by6.cell 1
  have c1 := C1.out w6 hr6
  go_wp2_with fail
  with_reducible refine c1.mono ?_
  rintro e w7 ⟨v7, b7, rfl, hx7⟩
  have hr7 := HR.out _ _ hx7 hr6
  have by7 := by6.ext hx7
  clear y0 y1 c1
  have y0 := by7.cell 0
  have y1 := by7.cell 1
  have c2 := C2.out w7 hr7
  go_wp2_with fail
  with_reducible refine c2.mono ?_
  rintro e w8 ⟨v8, b8, rfl, hx8⟩
  have hx68 := hx7.trans hx8
  have hr8 := HR.out _ _ hx8 hr7
  have bx8 := bx6.ext hx68
  have hx08 := hx06.trans hx68
  clear y0 y1 c2 by6 by7 hr7 hr6 hx7 hx8 hx68 bx6 hx06
  have x0 := bx8.cell 0
  have x1 := bx8.cell 1
  have x2 := bx8.cell 2
  have x3 := bx8.cell 3
  have x4 := bx8.cell 4
  have x5 := bx8.cell 5
  have x6 := bx8.cell 6
  have cl := CL.out w8 hr8
  go_wp2_with fail
  with_reducible refine cl.mono ?_
  rintro e w9 ⟨p9, er9, rfl, hx9⟩
  clear x0 x1 x2 x3 x4 x5 x6 cl
  go_upto_region 8 with fail
  generalize hW10 : World.alloc w9 _ = W10
  have hx10 := hx9.trans (ext_of_alloc hW10)
  have hr10 := HR.out _ _ hx10 hr8
  have bx10 := bx8.ext hx10
  have hx010 := hx08.trans hx10
  generalize w9.heap.size = PB at *
  clear hW10 hx9 hx10 hr8 bx8 hx08
  have x0 := bx10.cell 0
  have x1 := bx10.cell 1
  have x2 := bx10.cell 2
  have x3 := bx10.cell 3
  have x4 := bx10.cell 4
  have x5 := bx10.cell 5
  have x6 := bx10.cell 6
  have cg := CG.out W10 hr10
  go_wp2_with fail
  with_reducible refine cg.mono ?_
  rintro e w11 ⟨rfl, hx11⟩
  have bx11 := bx10.ext hx11
  clear x0 x1 x2 x3 x4 x5 x6 cg
  have x2 := bx11.cell 2
  go_wp2_with fail
  go_ret
  exact ⟨rfl, hx010.trans hx11⟩

/-- The word that is wanted, by the number of the likeliest. -/
def wantF (W : List (List UInt8)) (g : Nat) : List UInt8 := if g = 0 then [10] else nth W (g - 1)
set_option maxHeartbeats 16000000 in
set_option maxRecDepth 100000 in
theorem tshelf_yes (s ws own : List UInt8) (N n1 m2 LX LY cn : Nat) (W : List (List UInt8)) (T X Y : List Int) (b1 b2 : Bool) (pl : List Nat) (pr : Nat × Nat) (ge er1 : Nat) (gs : List UInt8) (f : Nat → Nat × Nat) (w : World) (hN : W.length = N) (hN4 : N ≤ 1000)
    (R : World → Prop) (hR : ∀ w w', Ext w w' → R w → R w') (h0 : R w)
    (RS : World → Option Addr → Option Addr → Option Addr → Option Addr → Option Addr → Nat → Nat → Nat → Nat → Nat → Prop)
    (hRS : ∀ w w' a b c d e f g h i j, Ext w w' → RS w a b c d e f g h i j → RS w' a b c d e f g h i j)
    (hRW : ∀ w a b c d e f g h i j, RS w a b c d e f g h i j → RdS w a W ∧ Rd w b n1 (fun k => .int .i64 (nth T k)))
    (co : ∀ w, R w → Calls Tryz.prog 9 #[str s] w fun e w' => ∃ WA TA E B D wc tc ec bc dc, e = .returned (.tuple #[shV WA TA N wc n1 tc E B D m2 ec bc dc, .int .i64 0]) ∧ RS w' WA TA E B D wc tc ec bc dc ∧ Ext w w')
    (cr : ∀ w, R w → Calls Tryz.prog 13 #[str s] w fun e w' => ∃ WA TA wc tc, e = .returned (.tuple #[bookV WA TA N wc n1 tc, .int .i64 0]) ∧ RdS w' WA W ∧ Rd w' TA n1 (fun k => .int .i64 (nth T k)) ∧ Ext w w')
    (cb : ∀ WA TA WA' TA' wc tc wc' tc' w, RdS w WA W → RdS w WA' W → Rd w TA n1 (fun k => .int .i64 (nth T k)) → Rd w TA' n1 (fun k => .int .i64 (nth T k)) → Calls Tryz.prog 14 #[bookV WA TA N wc n1 tc, bookV WA' TA' N wc' n1 tc'] w fun e w' => e = .returned (.bool true) ∧ Ext w w')
    (ca : ∀ w, R w → Calls Tryz.prog 15 #[] w fun e w' => e = .returned (.bool true) ∧ Ext w w')
    (c1 : ∀ WA TA wc tc w, R w → RdS w WA W → Calls Tryz.prog 16 #[bookV WA TA N wc n1 tc, str ws] w fun e w' => ∃ P p, e = .returned (.tuple #[.slice P LX p, .bool b1]) ∧ ((P = none → p = 0) ∧ LX ≤ p) ∧ Rd w' P LX (fun k => .int .i64 (nth X k)) ∧ Ext w w')
    (c2 : ∀ WA TA wc tc w, R w → RdS w WA W → Calls Tryz.prog 16 #[bookV WA TA N wc n1 tc, str own] w fun e w' => ∃ P p, e = .returned (.tuple #[.slice P LY p, .bool b2]) ∧ Rd w' P LY (fun k => .int .i64 (nth Y k)) ∧ Ext w w')
    (cl : ∀ WA TA E B D wc tc ec bc dc w, RS w WA TA E B D wc tc ec bc dc → R w → Calls Tryz.prog 17 #[shV WA TA N wc n1 tc E B D m2 ec bc dc, str ws, str own] w fun e w' => e = .returned (.tuple #[.agg #[.int .i64 pr.1, .int .i64 pr.2], .int .i64 (er1 : Nat)]) ∧ Ext w w')
    (cg : ∀ WA TA E B D wc tc ec bc dc w, RS w WA TA E B D wc tc ec bc dc → R w → Calls Tryz.prog 18 #[shV WA TA N wc n1 tc E B D m2 ec bc dc, str ws] w fun e w' => e = .returned (.tuple #[str gs, .int .i64 (ge : Nat)]) ∧ Ext w w')
    (cc : ∀ WA TA E B D wc tc ec bc dc w, RS w WA TA E B D wc tc ec bc dc → R w → Calls Tryz.prog 12 #[shV WA TA N wc n1 tc E B D m2 ec bc dc, str ws] w fun e w' => e = .returned (.int .i64 (cn : Nat)) ∧ Ext w w')
    (cp : ∀ WA TA E B D wc tc ec bc dc w, RS w WA TA E B D wc tc ec bc dc → R w → Calls Tryz.prog 19 #[shV WA TA N wc n1 tc E B D m2 ec bc dc, str ws] w (RetInts pl w))
    (crp : b1 = true → ∀ A P c p w, Rd w A n1 (fun k => .int .i64 (nth T k)) → Rd w P LX (fun k => .int .i64 (nth X k)) → Calls Tryz.prog 20 #[.slice A n1 c, .slice P LX p] w (RetInts pl w))
    (csi : ∀ A B c d w, Rd w A pl.length (fun k => .int .i64 (nth pl k : Nat)) → Rd w B pl.length (fun k => .int .i64 (nth pl k : Nat)) → Calls Tryz.prog 21 #[.slice A pl.length c, .slice B pl.length d] w fun e w' => e = .returned (.bool true) ∧ Ext w w')
    (crl : b1 = true → ∀ i, i ≤ N → ∀ A P c p w, (P = none → p = 0) ∧ LX ≤ p → Rd w A n1 (fun k => .int .i64 (nth T k)) → Rd w P LX (fun k => .int .i64 (nth X k)) → Calls Tryz.prog 22 #[.slice A n1 c, .slice P LX p, .int .i64 ((i : Int) + 1), .int .i64 ((N : Int) + 1)] w (RetPart (f i) w))
    (crl2 : b1 = true → b2 = true → LY = 1 → ∀ A P c p w, (P = none → p = 0) ∧ LX ≤ p → Rd w A n1 (fun k => .int .i64 (nth T k)) → Rd w P LX (fun k => .int .i64 (nth X k)) → Calls Tryz.prog 22 #[.slice A n1 c, .slice P LX p, .int .i64 (nth Y 0), .int .i64 ((N : Int) + 1)] w (RetPart pr w))
    (hno : b1 = false → cn = 0 ∧ pl = [] ∧ er1 = 3 ∧ pr = (0, 0) ∧ ge = 3 ∧ gs = [])
    (hyes : b1 = true → cn = pl.length ∧ ge = 0 ∧ gF f 1 = (0, f 0) ∧ gs = wantF W (gF f (N + 1)).1) (hgl : ∀ i, (gF f (i + 1)).1 ≤ i)
    (hlk : b1 = true → (b2 = true ∧ LY = 1 → er1 = 0) ∧ (¬ (b2 = true ∧ LY = 1) → er1 = 3 ∧ pr = (0, 0))) :
    Calls Tryz.prog 4 #[str s, str ws, str own] w fun e w' => e = .returned (.bool true) ∧ Ext w w' := by
  have CO := Lib.hid co; have CR := Lib.hid cr; have CB := Lib.hid cb; have CA := Lib.hid ca; have C1 := Lib.hid c1; have C2 := Lib.hid c2; have CL := Lib.hid cl; have CG := Lib.hid cg; have CC := Lib.hid cc; have CP := Lib.hid cp; have CRP := Lib.hid crp; have CSI := Lib.hid csi; have CRL := Lib.hid crl; have CRL2 := Lib.hid crl2; have HR := Lib.hid hR; have HRS := Lib.hid hRS; have HRW := Lib.hid hRW
  have HNO := Lib.hid hno; have HY := Lib.hid hyes; have HGL := Lib.hid hgl; have HLK := Lib.hid hlk; have HNW := Lib.hid hN
  clear co cr cb ca c1 c2 cl cg cc cp crp csi crl crl2 hR hRS hRW hno hyes hgl hlk hN
  go_enter Tryz.func4, Tryz.ntmps4
  have co := CO.out w h0
  go_wp2_with fail
  with_reducible refine co.mono ?_
  rintro e w1 ⟨WA, TA, E, B, D, wc, tc, ec, bc, dc, rfl, hS1, hx1⟩
  go_upto_region 2 with fail
  generalize hW2 : World.alloc w1 _ = W2
  have bx := bk_of hW2
  have hx2 := hx1.trans (ext_of_alloc hW2)
  have hr2 := HR.out _ _ hx2 h0
  have hS2 := HRS.out _ _ _ _ _ _ _ _ _ _ _ _ (ext_of_alloc hW2) hS1
  obtain ⟨XB, hXB⟩ : ∃ Z, w1.heap.size = Z := ⟨_, rfl⟩
  rw [hXB] at bx
  simp only [hXB]
  clear hW2 hXB co hx1 h0 hS1
  have cr := CR.out W2 hr2
  go_wp2_with fail
  with_reducible refine cr.mono ?_
  rintro e w3 ⟨WA', TA', wc', tc2, rfl, hW', hT', hx3⟩
  go_upto_region 3 with fail
  generalize hW4 : World.alloc w3 _ = W4
  have by4 := bk_of hW4
  have hx4 := ext_of_alloc hW4
  have hx34 := hx3.trans hx4
  have hr4 := HR.out _ _ hx34 hr2
  have hS4 := HRS.out _ _ _ _ _ _ _ _ _ _ _ _ hx34 hS2
  have hW4' := hW'.ext hx4
  have hT4' := Rd.ext hT' hx4
  obtain ⟨YB, hYB⟩ : ∃ Z, w3.heap.size = Z := ⟨_, rfl⟩
  rw [hYB] at by4
  simp only [hYB]
  have bx4 := bx.ext hx34
  have hx04 := hx2.trans hx34
  clear hW4 hYB cr hx2 hx3 hx34 hr2 bx hx4 hS2 hW' hT'
  have x0 := bx4.cell 0
  have x1 := bx4.cell 1
  have y0 := by4.cell 0
  have y1 := by4.cell 1
  obtain ⟨hw4, ht4⟩ := HRW.out _ _ _ _ _ _ _ _ _ _ _ hS4
  have cb := CB.out WA TA WA' TA' wc tc wc' tc2 W4 hw4 hW4' ht4 hT4'
  clear hw4 ht4
  go_wp2_with fail
  with_reducible refine cb.mono ?_
  rintro e w5 ⟨rfl, hx5⟩
  have hr5 := HR.out _ _ hx5 hr4
  have ca := CA.out w5 hr5
  clear x0 x1 y0 y1 cb
  go_wp2_with fail
  with_reducible refine ca.mono ?_
  rintro e w6 ⟨rfl, hx6⟩
  have hx46 := hx5.trans hx6
  have hr6 := HR.out _ _ hx6 hr5
  have bx6 := bx4.ext hx46
  have by6 := by4.ext hx46
  have hx06 := hx04.trans hx46
  have hS6 := HRS.out _ _ _ _ _ _ _ _ _ _ _ _ hx46 hS4
  have hW6 := hW4'.ext hx46
  have hT6 := Rd.ext hT4' hx46
  clear hx5 hx6 hx46 hr5 hr4 bx4 by4 hx04 ca hS4 hW4' hT4'
  have y0 := by6.cell 0
  have y1 := by6.cell 1
  have c1 := C1.out WA' TA' wc' tc2 w6 hr6 hW6
  go_wp2_with fail
  with_reducible refine c1.mono ?_
  rintro e w7 ⟨P, p, rfl, hPp, hP7, hx7⟩
  have HPP := Lib.hid hPp
  clear hPp
  have hr7 := HR.out _ _ hx7 hr6
  have by7 := by6.ext hx7
  clear y0 y1 c1
  have y0 := by7.cell 0
  have y1 := by7.cell 1
  have c2 := C2.out WA' TA' wc' tc2 w7 hr7 (hW6.ext hx7)
  go_wp2_with fail
  with_reducible refine c2.mono ?_
  rintro e w8 ⟨Q, q, rfl, hQ8, hx8⟩
  have hx68 := hx7.trans hx8
  have hr8 := HR.out _ _ hx8 hr7
  have bx8 := bx6.ext hx68
  have by8 := by6.ext hx68
  have hx08 := hx06.trans hx68
  have hS8 := HRS.out _ _ _ _ _ _ _ _ _ _ _ _ hx68 hS6
  have hT8 := Rd.ext hT6 hx68
  have hW8 := hW6.ext hx68
  have hP8 := Rd.ext hP7 hx8
  clear y0 y1 c2 by6 by7 hr7 hr6 hx7 hx8 hx68 bx6 hx06 hS6 hT6 hW6 hP7
  have x0 := bx8.cell 0
  have x1 := bx8.cell 1
  have x2 := bx8.cell 2
  have x3 := bx8.cell 3
  have x4 := bx8.cell 4
  have x5 := bx8.cell 5
  have x6 := bx8.cell 6
  have cl := CL.out _ _ _ _ _ _ _ _ _ _ w8 hS8 hr8
  go_wp2_with fail
  with_reducible refine cl.mono ?_
  rintro e w9 ⟨rfl, hx9⟩
  clear x0 x1 x2 x3 x4 x5 x6 cl
  go_upto_region 8 with fail
  generalize hW10 : World.alloc w9 _ = W10
  have bp10 := bk_of hW10
  have hx10 := hx9.trans (ext_of_alloc hW10)
  have hr10 := HR.out _ _ hx10 hr8
  have bx10 := bx8.ext hx10
  have by10 := by8.ext hx10
  have hx010 := hx08.trans hx10
  have hS10 := HRS.out _ _ _ _ _ _ _ _ _ _ _ _ hx10 hS8
  have hT10 := Rd.ext hT8 hx10
  have hW10' := hW8.ext hx10
  have hP10 := Rd.ext hP8 hx10
  have hQ10 := Rd.ext hQ8 hx10
  obtain ⟨PB, hPB⟩ : ∃ Z, w9.heap.size = Z := ⟨_, rfl⟩
  rw [hPB] at bp10
  simp only [hPB]
  clear hW10 hPB hx9 hx10 hr8 bx8 hx08 by8 hS8 hT8 hW8 hP8 hQ8
  have x0 := bx10.cell 0
  have x1 := bx10.cell 1
  have x2 := bx10.cell 2
  have x3 := bx10.cell 3
  have x4 := bx10.cell 4
  have x5 := bx10.cell 5
  have x6 := bx10.cell 6
  have cg := CG.out _ _ _ _ _ _ _ _ _ _ W10 hS10 hr10
  go_wp2_with fail
  with_reducible refine cg.mono ?_
  rintro e w11 ⟨rfl, hx11⟩
  have hr11 := HR.out _ _ hx11 hr10
  have bx11 := bx10.ext hx11
  have by11 := by10.ext hx11
  have bp11 := bp10.ext hx11
  have hx011 := hx010.trans hx11
  have hS11 := HRS.out _ _ _ _ _ _ _ _ _ _ _ _ hx11 hS10
  have HT := Lib.hid (Rd.ext hT10 hx11); have HW := Lib.hid (hW10'.ext hx11); have HP := Lib.hid (Rd.ext hP10 hx11); have HQ := Lib.hid (Rd.ext hQ10 hx11)
  clear x0 x1 x2 x3 x4 x5 x6 cg hx11 hx010 hS10 hr10 bx10 by10 bp10 hT10 hW10' hP10 hQ10
  cases b1 with
  | false =>
    obtain ⟨rfl, rfl, rfl, rfl, rfl, rfl⟩ := HNO.out rfl
    have x0 := bx11.cell 0
    have x1 := bx11.cell 1
    have x2 := bx11.cell 2
    have x3 := bx11.cell 3
    have x4 := bx11.cell 4
    have x5 := bx11.cell 5
    have x6 := bx11.cell 6
    have cc := CC.out _ _ _ _ _ _ _ _ _ _ w11 hS11 hr11
    go_wp2_with fail
    with_reducible refine cc.mono ?_
    rintro e w12 ⟨rfl, hx12⟩
    have bx12 := bx11.ext hx12
    have hS12 := HRS.out _ _ _ _ _ _ _ _ _ _ _ _ hx12 hS11
    have cp := CP.out _ _ _ _ _ _ _ _ _ _ w12 hS12 (HR.out _ _ hx12 hr11)
    unfold RetInts at cp
    rw [List.length_nil] at cp
    clear x0 x1 x2 x3 x4 x5 x6 cc
    have x0 := bx12.cell 0
    have x1 := bx12.cell 1
    have x2 := bx12.cell 2
    have x3 := bx12.cell 3
    have x4 := bx12.cell 4
    have x5 := bx12.cell 5
    have x6 := bx12.cell 6
    go_wp2_with fail
    with_reducible refine cp.mono ?_
    rintro e w13 ⟨Z, z, rfl, _, _, hx13⟩
    have bp13 := bp11.ext (hx12.trans hx13)
    clear x0 x1 x2 x3 x4 x5 x6 cp
    have p0 := bp13.cell 0
    have p1 := bp13.cell 1
    go_wp2_with fail
    go_ret
    exact ⟨rfl, hx011.trans (hx12.trans hx13)⟩
  | true =>
    obtain ⟨hcn, rfl, hg1, rfl⟩ := HY.out rfl
    subst hcn
    have hlk := HLK.out rfl
    have HLKT := Lib.hid hlk; have HG1 := Lib.hid hg1
    clear hlk hg1 HNO HY HLK
    have y0 := by11.cell 0
    have y1 := by11.cell 1
    have crp := CRP.out rfl TA' P tc2 p w11 HT.out HP.out
    unfold RetInts at crp
    obtain ⟨LP, hLP⟩ : ∃ LP, pl.length = LP := ⟨_, rfl⟩
    unfold RetInts at CP
    rw [hLP] at crp CC CP CSI
    go_wp2_with fail
    with_reducible refine crp.mono ?_
    rintro e w12 ⟨Z, z, rfl, _, hZ12, hx12⟩
    clear y0 y1 crp
    have bx12 := bx11.ext hx12
    have x0 := bx12.cell 0
    have x1 := bx12.cell 1
    have x2 := bx12.cell 2
    have x3 := bx12.cell 3
    have x4 := bx12.cell 4
    have x5 := bx12.cell 5
    have x6 := bx12.cell 6
    have hS12 := HRS.out _ _ _ _ _ _ _ _ _ _ _ _ hx12 hS11
    have hr12 := HR.out _ _ hx12 hr11
    have cc := CC.out _ _ _ _ _ _ _ _ _ _ w12 hS12 hr12
    have hLPe : (((LP : Nat) : Int) != (LP : Nat)) = false := by simp
    go_wp2_with fail
    with_reducible refine cc.mono ?_
    rintro e w13 ⟨rfl, hx13⟩
    have bx13 := bx12.ext hx13
    have hS13 := HRS.out _ _ _ _ _ _ _ _ _ _ _ _ hx13 hS12
    have hr13 := HR.out _ _ hx13 hr12
    have cp := CP.out _ _ _ _ _ _ _ _ _ _ w13 hS13 hr13
    clear x0 x1 x2 x3 x4 x5 x6 cc bx12 hS12 hr12
    have x0 := bx13.cell 0
    have x1 := bx13.cell 1
    have x2 := bx13.cell 2
    have x3 := bx13.cell 3
    have x4 := bx13.cell 4
    have x5 := bx13.cell 5
    have x6 := bx13.cell 6
    go_wp2_with fail
    with_reducible refine cp.mono ?_
    rintro e w14 ⟨Z2, z2, rfl, _, hZ14, hx14⟩
    have csi := CSI.out Z2 Z z2 z w14 hZ14 (Rd.ext hZ12 (hx13.trans hx14))
    clear x0 x1 x2 x3 x4 x5 x6 cp bx13 hS13 hr13 hZ14
    go_wp2_with fail
    with_reducible refine csi.mono ?_
    rintro e w15 ⟨rfl, hx15⟩
    have hx115 := ((hx12.trans hx13).trans hx14).trans hx15
    have BY := Lib.hid (by11.ext hx115); have BP := Lib.hid (bp11.ext hx115)
    have hx015 := hx011.trans hx115
    have HT2 := Lib.hid (Rd.ext HT.out hx115); have HW2 := Lib.hid (HW.out.ext hx115); have HP2 := Lib.hid (Rd.ext HP.out hx115); have HQ2 := Lib.hid (Rd.ext HQ.out hx115)
    clear csi hx12 hx13 hx14 hx15 hx115 hZ12 hS11 hr11 bx11 by11 bp11 HT HW HP HQ hx011 CC CP CSI CRP hLPe hLP C1 C2 CB CA CG CL CO CR
    have y0 := BY.out.cell 0
    have y1 := BY.out.cell 1
    have hwN : IntKind.i64.wrap ((N : Int) + 1) = (N : Int) + 1 := IntWalk.i64_in _ (by omega)
    obtain ⟨bb, hb1, hb2⟩ : ∃ bb : Bool, (b2 = true ∧ LY = 1 → bb = false) ∧ (¬ (b2 = true ∧ LY = 1) → bb = true) := by
      by_cases g : b2 = true ∧ LY = 1
      · exact ⟨false, fun _ => rfl, fun q => absurd g q⟩
      · exact ⟨true, fun q => absurd q g, fun _ => rfl⟩
    have HB1 := Lib.hid hb1; have HB2 := Lib.hid hb2
    clear hb1 hb2
    go_upto_region 17 with fail
    clear y0 y1
    go_cut [148] (fun v w' => v = .bool bb ∧ w15 = w')
    case first => as_aux_lemma =>
      clear HLKT CRL CRL2 BY BP HT2 HW2 HP2 HQ2
      by_cases g : b2 = true ∧ LY = 1
      · obtain rfl := HB1.out g
        obtain ⟨rfl, rfl⟩ := g
        go_wp2_with fail
        go_meet
        exact ⟨rfl, rfl⟩
      · obtain rfl := HB2.out g
        cases b2 with
        | false =>
          go_wp2_with fail
          go_meet
          exact ⟨rfl, rfl⟩
        | true =>
          have hLY : (((LY : Nat) : Int) != 1) = true := by
            rw [bne_iff_ne]; intro q; exact g ⟨rfl, by omega⟩
          go_wp2_with fail
          go_meet
          exact ⟨rfl, rfl⟩
    case rest =>
    obtain ⟨rfl, rfl⟩ := hcut
    go_upto_if 148 with fail
    go_cut [] (fun w' => Ext w15 w')
    case first => as_aux_lemma =>
      have p0 := BP.out.cell 0
      have p1 := BP.out.cell 1
      by_cases g : b2 = true ∧ LY = 1
      · obtain rfl := HB1.out g
        obtain ⟨rfl, rfl⟩ := g
        obtain rfl := HLKT.out.1 ⟨rfl, rfl⟩
        obtain ⟨bQ, oQ, rfl, hbQ, hcQ⟩ := HQ2.out (by omega)
        have q0 := hcQ 0 (by omega)
        dsimp only at q0
        rw [Nat.add_zero] at q0
        have y0 := BY.out.cell 0
        have y1 := BY.out.cell 1
        obtain ⟨sg, hsg⟩ : ∃ sg, nth Y 0 = sg := ⟨_, rfl⟩
        rw [hsg] at q0 CRL2
        clear hcQ hsg
        go_upto_region 20 with fail
        have hcur : Ext w15 w15.drew := (Ext.refl w15).drew
        go_region_held3 (fun w' => w'.cell? ⟨PB, 0, none⟩ = some (.int .i64 pr.1) ∧ w'.cell? ⟨PB, 1, none⟩ = some (.int .i64 pr.2) ∧ w'.cell? ⟨YB, 0, none⟩ = some (.slice WA' N wc') ∧ w'.cell? ⟨YB, 1, none⟩ = some (.slice TA' n1 tc2) ∧ w'.cell? ⟨bQ, oQ, none⟩ = some (.int .i64 sg))
          (first | (exact ⟨ecell p0 hcur, ecell p1 hcur, ecell y0 hcur, ecell y1 hcur, ecell q0 hcur⟩) | go_keep)
          (first
            | (go_at_call 22; have cz := CRL2.out (by trivial) (by trivial) (by trivial) TA' P tc2 p _ HPP.out (Rd.ext HT2.out hcur) (Rd.ext HP2.out hcur); unfold RetPart at cz; with_reducible refine cz.mono ?_; rintro e wn ⟨rfl, hxn⟩; replace hcur := hcur.trans hxn))
        all_goals
          go_wp2_with fail
          go_meet
          exact hcur
      · obtain rfl := HB2.out g
        obtain ⟨rfl, rfl⟩ := HLKT.out.2 g
        go_wp2_with fail
        go_meet
        exact Ext.refl _
    case rest => as_aux_lemma =>
      have hcut' : Ext w15 wc := hcut
      have by2 := BY.out.ext hcut'
      have hx0c := hx015.trans hcut'
      have HY2 := Lib.hid by2
      have HT3 := Lib.hid (Rd.ext HT2.out hcut'); have HW3 := Lib.hid (HW2.out.ext hcut'); have HP3 := Lib.hid (Rd.ext HP2.out hcut')
      have y0 := by2.cell 0
      have y1 := by2.cell 1
      have crl := CRL.out (by trivial) 0 (Nat.zero_le _) TA' P tc2 p wc HPP.out HT3.out HP3.out
      unfold RetPart at crl
      rw [show (((0 : Nat) : Int) + 1) = 1 from rfl] at crl
      clear hcut hcut' BY BP HT2 HW2 HP2 HQ2 by2 CRL2
      go_wp2_with fail
      with_reducible refine crl.mono ?_
      rintro e w17 ⟨rfl, hx17⟩
      clear y0 y1 crl
      go_upto_region 23 with fail
      generalize hW18 : World.alloc w17 _ = w18
      have bm := bk_of hW18
      have hx18 := hx17.trans (ext_of_alloc hW18)
      have hpg : wc.heap.size ≤ w17.heap.size := hx17.size
      obtain ⟨MB, hMB⟩ : ∃ Z, w17.heap.size = Z := ⟨_, rfl⟩
      rw [hMB] at bm hpg
      simp only [hMB]
      have BM : Hid (Bk w18 MB 45 #[.int .i64 (gF f (0 + 1)).2.1, .int .i64 (gF f (0 + 1)).2.2]) := by
        show Bk _ _ _ _
        rw [HG1.out]; exact bm
      have e0 : Value.string ⟨#[10]⟩ = str (wantF W (gF f (0 + 1)).1) := by rw [HG1.out]; rfl
      have HE0 := Lib.hid e0
      have y0 := (HY2.out.ext hx18).cell 0
      have y1 := (HY2.out.ext hx18).cell 1
      clear hW18 hMB hx17 bm e0
      go_wp2_with fail
      clear y0 y1
      go_loopw [178, 21] (fun vi vs wr => ∃ i : Nat, vi = .int .i64 i ∧ vs = str (wantF W (gF f (i + 1)).1) ∧ i ≤ N ∧ Hid (Bk wr MB 45 #[.int .i64 (gF f (i + 1)).2.1, .int .i64 (gF f (i + 1)).2.2]) ∧ Ext wc wr) (fun vi _ _ => N - (intOf vi).toNat)
      case atStart => exact ⟨0, rfl, HE0.out, Nat.zero_le _, BM, hx18⟩
      case round => as_aux_lemma =>
        clear BM HE0 hx18
        obtain ⟨i, rfl, rfl, hi, BP, hxr⟩ := hrel
        by_cases gi : i < N
        · obtain ⟨bW, oW, rfl, hbW, hcW⟩ := (HW3.out.ext hxr) (by rw [HNW.out]; omega)
          have p1 := hcW i (by rw [HNW.out]; exact gi)
          dsimp only at p1
          have byr := HY2.out.ext hxr
          have y0 := byr.cell 0
          have y1 := byr.cell 1
          have crl := CRL.out (by trivial) (i + 1) (by omega) TA' P tc2 p wr HPP.out (Rd.ext HT3.out hxr) (Rd.ext HP3.out hxr)
          unfold RetPart at crl
          have hw2 : IntKind.i64.wrap ((i : Int) + 2) = (i : Int) + 2 := IntWalk.i64_in _ (by omega)
          rw [show (((i + 1 : Nat) : Int) + 1) = (i : Int) + 2 from by omega] at crl
          have hstep : gF f (i + 1 + 1) = if IntKind.i64.wrap (((gF f (i + 1)).2.1 : Int) * ((f (i + 1)).2 : Int)) < IntKind.i64.wrap (((f (i + 1)).1 : Int) * ((gF f (i + 1)).2.2 : Int)) then (i + 1, f (i + 1)) else gF f (i + 1) := rfl
          obtain ⟨G, hG⟩ : ∃ G, gF f (i + 1) = G := ⟨_, rfl⟩
          obtain ⟨F, hF⟩ : ∃ F, f (i + 1) = F := ⟨_, rfl⟩
          obtain ⟨wd, hwd⟩ : ∃ wd, nth W i = wd := ⟨_, rfl⟩
          rw [hG, hF] at hstep
          rw [hG] at BP ⊢
          rw [hF] at crl
          rw [hwd] at p1
          have HST := Lib.hid hstep; have HWD := Lib.hid hwd
          obtain ⟨u, hu⟩ : ∃ u, wantF W G.1 = u := ⟨_, rfl⟩
          have HU := Lib.hid hu
          rw [hu]
          clear hcW hstep hG hF hwd byr hu CRL
          go_wp2_with fail
          with_reducible refine crl.mono ?_
          rintro e w5 ⟨rfl, hx5⟩
          clear y0 y1 p1 crl
          go_upto_region 27 with fail
          generalize hW6 : World.alloc w5 _ = W6
          have bz := bk_of hW6
          have hx6 := hx5.trans (ext_of_alloc hW6)
          have bp6 := BP.out.ext hx6
          have hx06 := hxr.trans hx6
          have hzp : MB < w5.heap.size := Nat.lt_of_lt_of_le BP.out.lt hx5.size
          obtain ⟨zB, hzB⟩ : ∃ Z, w5.heap.size = Z := ⟨_, rfl⟩
          rw [hzB] at bz hzp
          simp only [hzB]
          clear hW6 hzB BP hx5 hx6 hxr
          have q0 := bp6.cell 0
          have q1 := bp6.cell 1
          have q2 := bp6.frozen 0
          have q3 := bp6.frozen 1
          have z0 := bz.cell 0
          have z1 := bz.cell 1
          obtain ⟨xa, hxa⟩ : ∃ xa, IntKind.i64.wrap ((G.2.1 : Int) * (F.2 : Int)) = xa := ⟨_, rfl⟩
          obtain ⟨xb, hxb⟩ : ∃ xb, IntKind.i64.wrap ((F.1 : Int) * (G.2.2 : Int)) = xb := ⟨_, rfl⟩
          have HST' : Hid (gF f (i + 1 + 1) = if xa < xb then (i + 1, F) else G) := by
            show _ = _
            rw [HST.out, hxa, hxb]
          clear HST
          by_cases gl : xa < xb
          · have gl' : decide (xa < xb) = true := decide_eq_true gl
            have HS1 : Hid (gF f (i + 1 + 1) = (i + 1, F)) := by
              show _ = _
              rw [HST'.out, if_pos gl]
            have hwt : wd = wantF W (i + 1) := by
              unfold wantF
              rw [if_neg (by omega), Nat.add_sub_cancel, HWD.out]
            have HWT := Lib.hid hwt
            clear gl hwt
            go_upto_region 28 with fail
            go_region
            all_goals
              go_wp2_with fail
              refine ⟨⟨i + 1, by go_num, by rw [HS1.out, ← HWT.out], by omega, ?_, ?_⟩, by simp [intOf]; omega⟩
              · show Bk _ _ _ _
                rw [HS1.out]
                exact (bk2G bp6).ext ((Ext.refl _).drew)
              · exact (ext2G hx06 hpg _ _).drew
          · have gl' : decide (xa < xb) = false := decide_eq_false gl
            have HS1 : Hid (gF f (i + 1 + 1) = G) := by
              show _ = _
              rw [HST'.out, if_neg gl]
            clear gl
            go_wp2_with fail
            refine ⟨⟨i + 1, by go_num, by rw [HS1.out, HU.out], by omega, ?_, hx06⟩, by simp [intOf]; omega⟩
            show Bk _ _ _ _
            rw [HS1.out]
            exact bp6
        · obtain rfl : i = N := by omega
          obtain ⟨u, hu⟩ : ∃ u, wantF W (gF f (i + 1)).1 = u := ⟨_, rfl⟩
          rw [hu]
          have huu : (u == u) = true := by simp
          clear BP
          go_wp2_with fail
          go_ret
          exact ⟨by simp, hx0c.trans hxr⟩
end Go.Proofs.YtjfdlibceldanabGreatDoor

/-! ShelfTells: the law over opened arguments. -/
namespace Go.Proofs.YtjfdlibceldanabGreatDoor
open Go.RowKit Go.Sort Tx En Wv Gu Ri

/-! ### Plain laws -/
theorem partF_n {n d : Nat} (h : 0 < n) : 0 < (partF n d).1 := Nat.div_pos (Nat.le_of_dvd h (Nat.gcd_dvd_left n d)) (Nat.gcd_pos_of_pos_left _ h)
theorem addF_n {a b : Nat × Nat} (h1 : 0 < b.1) (h2 : 0 < a.2) : 0 < (addF a b).1 := partF_n (Nat.add_pos_right _ (Nat.mul_pos h1 h2))
theorem stepF_n {l s : List Int} {b : Bool} {sign : Int} {p : Nat × Nat} (h : allF l s b ≠ 0) (hp : 0 < p.1) : 0 < (stepF l s b sign p).1 := by
  have hk : 0 < (kn l s).length := List.length_pos_iff.2 fun e => h (all_zero.2 e)
  exact addF_n (partF_n (Nat.mul_pos (partF_n (by omega)) hp)) (partF_pos (by omega))
theorem likeF_n (l : List Int) (signs : Nat) (sign : Int) : ∀ (s : List Int) (b : Bool), 0 < (likeF l signs sign s b).1
  | [], b => by
    rw [likeF_nil]
    split
    · exact Nat.one_pos
    · rename_i h; exact stepF_n h Nat.one_pos
  | x :: s, b => by
    rw [likeF_cons]
    split
    · exact likeF_n l signs sign s false
    · rename_i h; exact stepF_n h (likeF_n l signs sign s false)
theorem gF_one {f : Nat → Nat × Nat} (h1 : 0 < (f 0).1) (h2 : (f 0).1 < 9223372036854775807) : gF f 1 = (0, f 0) := by
  have e : gF f 1 = if IntKind.i64.wrap (((0 : Nat) : Int) * ((f 0).2 : Int)) < IntKind.i64.wrap (((f 0).1 : Int) * ((1 : Nat) : Int)) then (0, f 0) else gF f 0 := rfl
  rw [e, if_pos]
  have e1 : ((0 : Nat) : Int) * ((f 0).2 : Int) = 0 := by simp
  have e2 : ((f 0).1 : Int) * ((1 : Nat) : Int) = ((f 0).1 : Int) := by simp
  rw [e1, e2, IntWalk.i64_in _ (by omega), IntWalk.i64_in _ (by omega)]
  omega
theorem gF_lt (f : Nat → Nat × Nat) : ∀ i, (gF f (i + 1)).1 ≤ i := fun i => by
  have := gF_le f i
  rw [gF]
  split
  · exact Nat.le_refl _
  · exact this
/-- What is asked for, as the document spells it. -/
theorem likG_ref (s : List UInt8) (X : List Int) (sg : Int) :
    (if sg < 1 ∨ (((wordsF s).length + 1 : Nat) : Int) < sg then (0, 1) else likeF (bT s) ((wordsF s).length + 1) sg (X.drop (X.length - 2)) (decide ((X.drop (X.length - 2)).length = 2))) = likG (bT s) X sg := by
  have hmo := bT_most s
  unfold likG
  rw [hmo]
  by_cases g : sg < 1 ∨ (((wordsF s).length + 1 : Nat) : Int) < sg
  · rw [if_pos g, if_pos g]
  · rw [if_neg g, if_neg g]
    unfold VF lgF
    rw [if_pos (Nat.zero_le _), List.drop_zero, Int.toNat_natCast]
    congr 1
    simp
section
variable {s : List UInt8} (h : errF s = 0) (ws : List UInt8)
include h in
theorem lkA_zero : 0 < (lkA s ws 0).1 ∧ (lkA s ws 0).1 < 9223372036854775807 := by
  have hmo := bT_most s
  have h1 := swords_le h
  have h2 := (serr_ok h).2.2
  have e : lkA s ws 0 = VF (bT s) ((wordsF s).length + 1) 1 ((sgI s ws).drop ((sgI s ws).length - 2)) 0 := by
    unfold lkA likG
    rw [hmo, if_neg (by omega), Int.toNat_natCast]
    rfl
  obtain ⟨b, hb⟩ : ∃ b, (sgI s ws).drop ((sgI s ws).length - 2) = b := ⟨_, rfl⟩
  have hbl : b.length ≤ 2 := by rw [← hb, List.length_drop]; omega
  rw [hb] at e
  have hp := VF_pt (bT s) ((wordsF s).length + 1) 1 b (by rw [bT_len]; omega) (by omega) (b.length + 1) (Nat.le_refl _)
  rw [Nat.sub_self] at hp
  have h3 : 163216 ^ (b.length + 1) ≤ 163216 ^ 3 := Nat.pow_le_pow_right (by omega) (by omega)
  have h4 := hp.n
  have h5 := hp.b
  have h6 : 163216 ^ (b.length + 1) * 101 ≤ 163216 ^ 3 * 101 := Nat.mul_le_mul_right _ h3
  rw [e]
  refine ⟨?_, by omega⟩
  unfold VF
  rw [if_pos (Nat.zero_le _)]
  exact likeF_n _ _ _ _ _
end
/-- Words' signs, or none. -/
def sgX (s ws : List UInt8) : List Int := if inB s ws then sgI s ws else []
theorem sgI_nb {s ws : List UInt8} (h : inB s ws) : (toks ws).map (nbF (wordsF s)) = sgI s ws := by
  rw [sigs_nb h]
  unfold sgI sigs
  rw [List.take_length, List.map_map]
  rfl
theorem sgX_calls (s ws : List UInt8) (hW : (wordsF s).length ≤ 1000) (WA TA : Option Addr) (wc tn tc : Nat) (hs : ws.length ≤ 16777216) (m : Int) (w : World) (hm : w.cell? ⟨0, 0, none⟩ = some (.int .i64 m)) (hr : RdS w WA (wordsF s)) :
    Calls Tryz.prog 16 #[bookV WA TA (wordsF s).length wc tn tc, str ws] w fun e w' => ∃ P p, e = .returned (.tuple #[.slice P (sgX s ws).length p, .bool (decide (inB s ws))]) ∧ ((P = none → p = 0) ∧ (sgX s ws).length ≤ p) ∧ Rd w' P (sgX s ws).length (fun k => .int .i64 (nth (sgX s ws) k)) ∧ Ext w w' := by
  refine (rsigns_callsC (wordsF s) (ordW_sorted _) (by omega) WA TA wc tn tc ws hs m w hm hr).mono ?_
  unfold sgX
  rintro e w' (⟨h1, P, p, rfl, hc, hP, hx⟩ | ⟨h1, rfl, hx⟩)
  · have hok : inB s ws := h1
    have el : (sgI s ws).length = (toks ws).length := sgI_len s ws
    rw [sgI_nb hok] at hP
    rw [if_pos hok, decide_eq_true hok, el]
    exact ⟨P, p, rfl, hc, hP, hx⟩
  · have hno : ¬ inB s ws := fun q => by
      obtain ⟨t, ht, hn⟩ := h1
      exact hn (q t ht)
    rw [if_neg hno, decide_eq_false hno]
    exact ⟨none, 0, rfl, ⟨fun _ => rfl, Nat.le_refl _⟩, Rd.zero, hx⟩

/-! ### The law -/
theorem tshelf_calls (s ws own : List UInt8) (hs : s.length + ws.length + own.length ≤ 1048576) (m : Int) (w : World) (hm : w.cell? ⟨0, 0, none⟩ = some (.int .i64 m)) :
    Calls Tryz.prog 4 #[str s, str ws, str own] w fun e w' => e = .returned (.bool true) ∧ Ext w w' := by
  by_cases h : errF s = 0
  · have h1 := swords_le h
    have h2 := (serr_ok h).2.2
    have hlen : (bT s).length ≤ 101 := by rw [bT_len]; omega
    have hwl : (wordsF s).length ≤ 100 := by omega
    have hXl : ∀ u : List UInt8, u.length ≤ 16777216 → (sgX s u).length ≤ 1000000000 := fun u hu => by
      unfold sgX
      split
      · rw [sgI_len]; have := stoks_len hu; omega
      · simp
    have hX : inB s ws → sgX s ws = sgI s ws := fun q => by unfold sgX; rw [if_pos q]
    have hY : inB s own → sgX s own = sgI s own := fun q => by unfold sgX; rw [if_pos q]
    refine tshelf_yes s ws own (wordsF s).length (bT s).length ((wordsF s).length + 3) (sgX s ws).length (sgX s own).length (cntF s ws) (wordsF s) (bT s) (sgX s ws) (sgX s own) (decide (inB s ws)) (decide (inB s own)) (plcF s ws) (lkF s ws own) (gsE s ws) (lkE s ws own) (gsF s ws) (lkA s ws) w rfl (by omega)
      (fun w => w.cell? ⟨0, 0, none⟩ = some (.int .i64 m)) (fun _ _ hx r => ecell r hx) hm
      (fun w WA TA E B D wc tc ec bc dc => ShR m s WA TA E B D wc tc ec bc dc w) (fun _ _ _ _ _ _ _ _ _ _ _ _ hx r => ShR.ext m hx r) (fun _ _ _ _ _ _ _ _ _ _ _ r => ⟨r.2.wd, r.2.tx⟩)
      (fun w r => ?_) (fun w r => ?_) (fun WA TA WA' TA' wc tc wc' tc' w a1 a2 a3 a4 => ?_) (fun w r => shelves_calls m w r)
      (fun WA TA wc tc w r hr => sgX_calls s ws (by omega) WA TA wc (bT s).length tc (by omega) m w r hr) (fun WA TA wc tc w r hr => (sgX_calls s own (by omega) WA TA wc (bT s).length tc (by omega) m w r hr).mono fun e w' ⟨P, p, g1, _, g3, g4⟩ => ⟨P, p, g1, g3, g4⟩)
      (fun WA TA E B D wc tc ec bc dc w r _ => slikely_calls h ws (by omega) m own (by omega) w r) (fun WA TA E B D wc tc ec bc dc w r _ => sguess_calls h ws (by omega) m w r)
      (fun WA TA E B D wc tc ec bc dc w r _ => scount_calls h ws (by omega) m w r) (fun WA TA E B D wc tc ec bc dc w r _ => splaces_calls h ws (by omega) m w r)
      (fun hb A P c p w a1 a2 => ?_) (fun A B c d w a1 a2 => ?_) (fun hb i hi A P c p w hc a1 a2 => ?_) (fun hb hb2 hl A P c p w hc a1 a2 => ?_) (fun hb => ?_) (fun hb => ?_) (gF_lt _) (fun hb => ?_)
    · refine (open_calls s (by omega) m w r).mono ?_
      rintro e w' (⟨h', _⟩ | ⟨_, WA, TA, E, B, D, wc, tc, ec, bc, dc, rfl, hs, hx⟩)
      · exact absurd h h'
      · exact ⟨WA, TA, E, B, D, wc, tc, ec, bc, dc, rfl, ⟨ecell r hx, hs⟩, hx⟩
    · refine (rread_calls s (by omega) w).mono ?_
      rintro e w' (⟨h', _⟩ | ⟨_, WA, TA, wc, tc, rfl, _, _, _, hS, hT, hx⟩)
      · exact absurd h h'
      · have el : (bT s).length = (textN (wordsF s) (linesF s) ++ [0]).length := by unfold bT; rw [List.length_map]
        rw [el]
        refine ⟨WA, TA, wc, tc, rfl, hS, hT.congr fun k hk => ?_, hx⟩
        unfold bT
        rw [nth_lt hk, nth_lt (by rw [List.length_map]; exact hk), List.getElem_map]
        rfl
    · exact sameBook_calls (wordsF s) (bT s) WA TA WA' TA' wc tc wc' tc' w (by omega) (by omega) a1 a2 a3 a4
    · have hin : inB s ws := of_decide_eq_true hb
      have hc := rplaces_calls (bT s) (sgX s ws) A P c p (by omega) (hXl ws (by omega)) w a1 a2
      have ep : places (bT s) (sgX s ws) = plcF s ws := by unfold plcF; rw [if_pos hin, hX hin]
      rw [ep] at hc
      exact hc
    · have el : ((plcF s ws).map Int.ofNat).length = (plcF s ws).length := List.length_map _
      have hn : ∀ k, k < (plcF s ws).length → nth ((plcF s ws).map Int.ofNat) k = ((nth (plcF s ws) k : Nat) : Int) := fun k hk => by
        rw [nth_lt hk, nth_lt (by rw [List.length_map]; exact hk), List.getElem_map]; rfl
      have hpl : (plcF s ws).length ≤ 101 := by
        unfold plcF
        split
        · exact Nat.le_trans (places_le _ _) hlen
        · simp
      have hc := sameInts_calls ((plcF s ws).map Int.ofNat) ((plcF s ws).map Int.ofNat) A B c d w (by omega) (by rw [el]; exact a1.congr fun k hk => by rw [hn k hk]) (by rw [el]; exact a2.congr fun k hk => by rw [hn k hk])
      rw [el, decide_eq_true rfl] at hc
      exact hc.mono fun e w' g => ⟨g.1, g.2.ext⟩
    · have hin : inB s ws := of_decide_eq_true hb
      have hc' := rlikelyOf_calls (bT s) (sgX s ws) hlen (hXl ws (by omega)) ((wordsF s).length + 1) (by omega) ((i : Int) + 1) A P c p hc.1 hc.2 w a1 a2
      rw [likG_ref] at hc'
      have e1 : likG (bT s) (sgX s ws) ((i : Int) + 1) = lkA s ws i := by unfold lkA; rw [hX hin]
      rw [e1] at hc'
      exact hc'
    · have hin : inB s ws := of_decide_eq_true hb
      have hin2 : inB s own := of_decide_eq_true hb2
      have hc' := rlikelyOf_calls (bT s) (sgX s ws) hlen (hXl ws (by omega)) ((wordsF s).length + 1) (by omega) (nth (sgX s own) 0) A P c p hc.1 hc.2 w a1 a2
      rw [likG_ref] at hc'
      have e1 : likG (bT s) (sgX s ws) (nth (sgX s own) 0) = lkF s ws own := by
        unfold lkF
        rw [if_pos (show lkOk s ws own from ⟨hin, hin2, by rw [← hY hin2]; exact hl⟩), hX hin, hY hin2]
      rw [e1] at hc'
      exact hc'
    · have hin : ¬ inB s ws := of_decide_eq_false hb
      have hlk : ¬ lkOk s ws own := fun q => hin q.1
      unfold cntF plcF lkE lkF gsE gsF
      rw [if_neg hin, if_neg hin, if_neg hlk, if_neg hlk, if_neg hin, if_neg hin]
      exact ⟨rfl, rfl, rfl, rfl, rfl, rfl⟩
    · have hin : inB s ws := of_decide_eq_true hb
      have hz := lkA_zero h ws
      refine ⟨by unfold cntF plcF; rw [if_pos hin, if_pos hin], by unfold gsE; rw [if_pos hin], gF_one hz.1 hz.2, ?_⟩
      have hle := gF_lt (lkA s ws) (wordsF s).length
      unfold gsF wantF bestF
      rw [if_pos hin]
      by_cases g : (gF (lkA s ws) ((wordsF s).length + 1)).1 = 0
      · rw [if_pos (Or.inl g), if_pos g]
      · rw [if_neg (by omega), if_neg g]
    · have hin : inB s ws := of_decide_eq_true hb
      refine ⟨fun q => ?_, fun q => ?_⟩
      · have hin2 : inB s own := of_decide_eq_true q.1
        unfold lkE
        rw [if_pos (show lkOk s ws own from ⟨hin, hin2, by rw [← hY hin2]; exact q.2⟩)]
      · have hlk : ¬ lkOk s ws own := fun g => q ⟨decide_eq_true g.2.1, by rw [hY g.2.1]; exact g.2.2⟩
        unfold lkE lkF
        rw [if_neg hlk, if_neg hlk]
        exact ⟨rfl, rfl⟩
  · refine tshelf_no s ws own (errF s) h w (fun w => w.cell? ⟨0, 0, none⟩ = some (.int .i64 m)) (fun _ _ hx r => ecell r hx) hm
      (fun w r => ?_) (fun w r => ?_) (fun w => ?_) (fun w r => shelves_calls m w r) (fun w r => ?_) (fun w r => ?_) (fun w r => slikely_no ws own (by omega) (by omega) m w r) (fun w r => xguess_no ws (by omega) m w r)
    · refine (open_calls s (by omega) m w r).mono ?_
      rintro e w' (⟨_, h1, h2⟩ | ⟨h', _⟩)
      · exact ⟨h1, h2⟩
      · exact absurd h' h
    · refine (rread_calls s (by omega) w).mono ?_
      rintro e w' (⟨_, h1, h2⟩ | ⟨h', _⟩)
      · exact ⟨h1, h2⟩
      · exact absurd h' h
    · exact sameBook_calls [] [] none none none none 0 0 0 0 w (by simp) (by simp) Rd.zero Rd.zero Rd.zero Rd.zero
    · refine (rsigns_callsC [] List.Pairwise.nil (by simp) none none 0 0 0 ws (by omega) m w r Rd.zero).mono ?_
      rintro e w' (⟨_, P, p, rfl, _, _, hx⟩ | ⟨_, rfl, hx⟩)
      · exact ⟨_, _, rfl, hx⟩
      · exact ⟨_, _, rfl, hx⟩
    · refine (rsigns_callsC [] List.Pairwise.nil (by simp) none none 0 0 0 own (by omega) m w r Rd.zero).mono ?_
      rintro e w' (⟨_, P, p, rfl, _, _, hx⟩ | ⟨_, rfl, hx⟩)
      · exact ⟨_, _, rfl, hx⟩
      · exact ⟨_, _, rfl, hx⟩
section
open Go.ChangeShapes Go.WideShapes Go.ChangeAt Go.ChangeMaps
variable {H : Type} {enc : TypeId × Value → H} {W : World}
set_option maxRecDepth 100000 in
theorem shelfTells_calls {r : Reach} {base : Nat} {v0 v1 v2 : Value} {d0 d1 d2 : DataW H} {p0 p1 p2 : List MemPlace} (hsh : W.ShapedOpen Tryz.prog) (hk : Rows.uptoSmall H ([d0, d1, d2] ++ []) = true)
    (_hsz : (DataW.weightsEach Tryz.prog [9, 9, 9] [d0, d1, d2]).all (· ≤ reachBytes) = true)
    (hv0 : Value.okWide Tryz.prog W r base 9 v0) (h0 : DataW.Trod enc Tryz.prog W 0 (fun _ => true) true 9 v0 d0 p0)
    (hv1 : Value.okWide Tryz.prog W r base 9 v1) (h1 : DataW.Trod enc Tryz.prog W 0 (fun _ => true) true 9 v1 d1 p1)
    (hv2 : Value.okWide Tryz.prog W r base 9 v2) (h2 : DataW.Trod enc Tryz.prog W 0 (fun _ => true) true 9 v2 d2 p2) :
    Calls Tryz.prog 4 #[v0, v1, v2] W fun e w' => e = .returned (.bool true) ∧ Ext W w' := by
  obtain ⟨a, b, c, rfl, rfl, rfl, hb⟩ := open_three hk hv0 h0 hv1 h1 hv2 h2
  obtain ⟨m, hm⟩ := Tryz.laysM146.s1_3 W hsh
  exact tshelf_calls a b c (by omega) m W hm
end
end Go.Proofs.YtjfdlibceldanabGreatDoor
