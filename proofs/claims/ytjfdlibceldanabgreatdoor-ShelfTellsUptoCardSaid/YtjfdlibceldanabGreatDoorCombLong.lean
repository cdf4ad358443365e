/- comb.Longer: the walk. -/
import Derived.Test.YtjfdlibceldanabGreatDoorCombMake
import Derived.Test.YtjfdlibceldanabGreatDoorPlainE
import Derived.Test.YtjfdlibceldanabGreatDoorWvCalls
namespace Go.Proofs.YtjfdlibceldanabGreatDoor
open Go.RowKit En Wv

/-- An index as a value. -/
abbrev combV (n m2 : Nat) (E B D : Option Addr) (ec bc dc : Nat) : Value := .agg #[.slice E n ec, .int .i64 n, .int .i64 10, .slice B 10 bc, .slice D m2 dc]
def RetSpan (p : Nat × Nat) (w : World) (e : Ending) (w' : World) : Prop := e = .returned (.agg #[.int .i64 p.1, .int .i64 p.2]) ∧ Ext w w'

/-- Nothing stands behind the last one. -/
theorem longer_last (n m2 : Nat) (E B D : Option Addr) (ec bc dc f t : Nat) (w : World) (hg : ¬ (f = 0 ∧ t = n)) :
    Calls Tryz.prog 94 #[combV n m2 E B D ec bc dc, .agg #[.int .i64 f, .int .i64 t], .int .i64 0] w (RetSpan (0, 0) w) := by
  unfold combV
  go_enter Tryz.func94, Tryz.ntmps94
  go_wp2_with fail
  all_goals
    generalize hW1 : World.alloc w _ = W1
    generalize hW2 : World.alloc W1 _ = W2
    generalize hW : World.alloc W2 _ = W
    have hs1 : W1.heap.size = w.heap.size + 1 := by rw [← hW1]; simp
    have hs2 : W2.heap.size = w.heap.size + 1 + 1 := by rw [← hW2]; simp [hs1]
    have bl := bk_of hW
    rw [hs2] at bl
    have hx : Ext w W := (ext_of_alloc hW1).trans ((ext_of_alloc hW2).trans (ext_of_alloc hW))
    clear hW hW1 hW2 hs1 hs2
    have z0 := bl.cell 0
    have z1 := bl.cell 1
    exact bodyPost_ret (v := .agg #[.int .i64 0, .int .i64 0]) (by simp [results, Tryz.results94, go_sem, z0, z1]) rfl ⟨rfl, hx⟩
theorem longer_out (n m2 : Nat) (E B D : Option Addr) (ec bc dc f t : Nat) (c : Int) (w : World) (_hn : n ≤ 4096) (_hm : m2 ≤ 4096) (_hft : f ≤ t) (_htn : t ≤ n) (hc : -9223372036854775808 ≤ c ∧ c < 9223372036854775807) (h0 : ¬ c = 0) (hg : c < 0 ∨ m2 ≤ c + 1) :
    Calls Tryz.prog 94 #[combV n m2 E B D ec bc dc, .agg #[.int .i64 f, .int .i64 t], .int .i64 c] w (RetSpan (0, 0) w) := by
  unfold combV
  go_enter Tryz.func94, Tryz.ntmps94
  go_wp2_with fail
  all_goals
    generalize hW1 : World.alloc w _ = W1
    generalize hW2 : World.alloc W1 _ = W2
    generalize hW : World.alloc W2 _ = W
    have hs1 : W1.heap.size = w.heap.size + 1 := by rw [← hW1]; simp
    have hs2 : W2.heap.size = w.heap.size + 1 + 1 := by rw [← hW2]; simp [hs1]
    have bl := bk_of hW
    rw [hs2] at bl
    have hx : Ext w W := (ext_of_alloc hW1).trans ((ext_of_alloc hW2).trans (ext_of_alloc hW))
    clear hW hW1 hW2 hs1 hs2
    have z0 := bl.cell 0
    have z1 := bl.cell 1
    exact bodyPost_ret (v := .agg #[.int .i64 0, .int .i64 0]) (by simp [results, Tryz.results94, go_sem, z0, z1]) rfl ⟨rfl, hx⟩

set_option maxHeartbeats 8000000 in
set_option maxRecDepth 100000 in
theorem longer_in (n m2 x y cf ct : Nat) (E B D : Option Addr) (ec bc dc f t : Nat) (w : World) (R : World → Prop) (hR : ∀ w w', Ext w w' → R w → R w') (hn : n ≤ 4096) (hm : m2 ≤ 4096) (hx : x + 1 < m2) (hft : f ≤ t) (htn : t ≤ n) (h0 : x = 0 → f = 0 ∧ t = n) (hy : y ≤ n) (hf : cf ≤ n) (ht : ct ≤ n) (hyt : y + ct ≤ n)
    (hr : R w) (b1 o1 : Nat) (hd : D = some ⟨b1, o1, none⟩) (p1 : w.cell? ⟨b1, o1 + x, none⟩ = some (.int .i64 y))
    (c1 : ∀ w, R w → Calls Tryz.prog 125 #[.agg #[.int .i64 n, .int .i64 10, .slice B 10 bc], .int .i64 x, .int .i64 f] w fun e w' => e = .returned (.int .i64 cf) ∧ Ext w w')
    (c2 : ∀ w, R w → Calls Tryz.prog 125 #[.agg #[.int .i64 n, .int .i64 10, .slice B 10 bc], .int .i64 x, .int .i64 t] w fun e w' => e = .returned (.int .i64 ct) ∧ Ext w w') :
    Calls Tryz.prog 94 #[combV n m2 E B D ec bc dc, .agg #[.int .i64 f, .int .i64 t], .int .i64 x] w (RetSpan (if y + ct ≤ y + cf then (0, 0) else (y + cf, y + ct)) w) := by
  have C1 := Lib.hid c1; have C2 := Lib.hid c2; have HR := Lib.hid hR
  subst hd
  obtain ⟨z, hz⟩ : ∃ z, y + cf = z := ⟨_, rfl⟩
  obtain ⟨v, hv⟩ : ∃ v, y + ct = v := ⟨_, rfl⟩
  have hzI : (y : Int) + (cf : Int) = (z : Int) := by omega
  have hvI : (y : Int) + (ct : Int) = (v : Int) := by omega
  have HZ := Lib.hid hzI; have HV := Lib.hid hvI
  have HZW : Hid (IntKind.i64.wrap ((y : Int) + (cf : Int)) = (z : Int)) := Lib.hid (by rw [IntWalk.i64_in _ (by omega)]; omega)
  have HVW : Hid (IntKind.i64.wrap ((y : Int) + (ct : Int)) = (v : Int)) := Lib.hid (by rw [IntWalk.i64_in _ (by omega)]; omega)
  rw [hz, hv]
  obtain ⟨p, hp⟩ : ∃ p, (if v ≤ z then (0, 0) else (z, v)) = p := ⟨_, rfl⟩
  rw [hp]
  have HP := Lib.hid hp
  unfold combV
  clear c1 c2 hR hzI hvI hz hp
  go_enter Tryz.func94, Tryz.ntmps94
  go_upto_region 1 with fail
  generalize hW1 : World.alloc w _ = W1
  generalize hW2 : World.alloc W1 _ = W2
  generalize hW : World.alloc W2 _ = W
  have hs1 : W1.heap.size = w.heap.size + 1 := by rw [← hW1]; simp
  have hs2 : W2.heap.size = w.heap.size + 1 + 1 := by rw [← hW2]; simp [hs1]
  have hx2 := ext_of_alloc hW2
  have hx3 := ext_of_alloc hW
  have hx1 := ext_of_alloc hW1
  have bq := (bk_of hW1).ext (hx2.trans hx3)
  have bs := (bk_of hW2).ext hx3
  have bl := bk_of hW
  rw [hs1] at bs
  rw [hs2] at bl
  have HBLL : Hid (w.heap.size ≤ w.heap.size + 1 + 1) := Lib.hid (by omega)
  have hxW : Ext w W := hx1.trans (hx2.trans hx3)
  replace p1 := ecell p1 hxW
  replace hr := HR.out _ _ hxW hr
  clear hW hW1 hW2 hs1 hs2 hx1 hx2 hx3
  generalize w.heap.size + 1 + 1 = BL at *
  generalize w.heap.size + 1 = BS at *
  have x0 := bq.cell 0
  have x1 := bq.cell 1
  have x2 := bq.cell 2
  have x3 := bq.cell 3
  have x4 := bq.cell 4
  have y0 := bs.cell 0
  have y1 := bs.cell 1
  have HBC := Lib.hid bq; have HBS := Lib.hid bs; have HBL := Lib.hid bl
  clear bq bs bl
  go_cut [18] (fun v18 w' => v18 = .bool false ∧ w' = W)
  case first =>
    by_cases q : x = 0
    · obtain ⟨rfl, rfl⟩ := h0 q
      subst q
      go_wp2_with fail
      go_meet
      exact ⟨rfl, rfl⟩
    · have q' : ((x : Int) == 0) = false := by rw [beq_eq_false_iff_ne]; omega
      clear q h0
      go_wp2_with fail
      go_meet
      exact ⟨rfl, rfl⟩
  case rest =>
    obtain ⟨rfl, rfl⟩ := hcut
    clear h0
    go_upto_region 6 with fail
    clear x0 x4 p1
    go_cut [8] (fun v8 w' => ∃ By, v8 = .pointer (some ⟨By, 0, none⟩) ∧ Hid (Bk w' By 92 #[.int .i64 z, .int .i64 v]) ∧ Ext wc w')
    case first => as_aux_lemma =>
      have hcur : Ext wc wc.drew := (Ext.refl wc).drew
      go_region_held3 (fun w' => w'.cell? ⟨w.heap.size, 1, none⟩ = some (.int .i64 n) ∧ w'.cell? ⟨w.heap.size, 2, none⟩ = some (.int .i64 10) ∧ w'.cell? ⟨w.heap.size, 3, none⟩ = some (.slice B 10 bc) ∧ w'.cell? ⟨BS, 0, none⟩ = some (.int .i64 f) ∧ w'.cell? ⟨BS, 1, none⟩ = some (.int .i64 t))
        (first | (exact ⟨ecell x1 hcur, ecell x2 hcur, ecell x3 hcur, ecell y0 hcur, ecell y1 hcur⟩) | (exact ⟨ecell x1 (hcur.alloc _), ecell x2 (hcur.alloc _), ecell x3 (hcur.alloc _), ecell y0 (hcur.alloc _), ecell y1 (hcur.alloc _)⟩) | (exact ⟨ecell x1 (((Ext.refl wc).alloc _).drew), ecell x2 (((Ext.refl wc).alloc _).drew), ecell x3 (((Ext.refl wc).alloc _).drew), ecell y0 (((Ext.refl wc).alloc _).drew), ecell y1 (((Ext.refl wc).alloc _).drew)⟩) | (exact ⟨ecell x1 ((hcur.setCell (p := ⟨_, 0, none⟩) hge _).setCell (p := ⟨_, 1, none⟩) hge _), ecell x2 ((hcur.setCell (p := ⟨_, 0, none⟩) hge _).setCell (p := ⟨_, 1, none⟩) hge _), ecell x3 ((hcur.setCell (p := ⟨_, 0, none⟩) hge _).setCell (p := ⟨_, 1, none⟩) hge _), ecell y0 ((hcur.setCell (p := ⟨_, 0, none⟩) hge _).setCell (p := ⟨_, 1, none⟩) hge _), ecell y1 ((hcur.setCell (p := ⟨_, 0, none⟩) hge _).setCell (p := ⟨_, 1, none⟩) hge _)⟩) | go_keep)
        (first
            | (go_at_call 125; with_reducible refine (C1.out _ (HR.out _ _ hcur hr)).mono ?_; rintro e wn ⟨rfl, hxn⟩; replace hcur := hcur.trans hxn; first | (replace BZ2 := Lib.hid (BZ2.out.ext hxn); have z0 := BZ2.out.cell 0; have z1 := BZ2.out.cell 1; have g0 := BZ2.out.frozen 0; have g1 := BZ2.out.frozen 1) | skip)
            | (go_at_call 125; with_reducible refine (C2.out _ (HR.out _ _ hcur hr)).mono ?_; rintro e wn ⟨rfl, hxn⟩; replace hcur := hcur.trans hxn; first | (replace BZ2 := Lib.hid (BZ2.out.ext hxn); have z0 := BZ2.out.cell 0; have z1 := BZ2.out.cell 1; have g0 := BZ2.out.frozen 0; have g1 := BZ2.out.frozen 1) | skip)
            | (go_at_call 125; with_reducible refine (C1.out (wc.alloc _).drew (HR.out _ _ ((Ext.refl wc).alloc _).drew hr)).mono ?_; rintro e wn ⟨rfl, hxn⟩; have BZ2 := Lib.hid ((Bk.new .. : Bk (wc.alloc (.cells #[.int .i64 0, .int .i64 0] 92)) wc.heap.size 92 #[.int .i64 0, .int .i64 0]).ext ((Ext.refl _).drew.trans hxn)); have hge : wc.heap.size ≤ wc.heap.size := Nat.le_refl _; replace hcur := (((Ext.refl wc).alloc _).drew).trans hxn; have z0 := BZ2.out.cell 0; have z1 := BZ2.out.cell 1; have g0 := BZ2.out.frozen 0; have g1 := BZ2.out.frozen 1)
            | (go_at_call 125; with_reducible refine (C2.out (wc.alloc _).drew (HR.out _ _ ((Ext.refl wc).alloc _).drew hr)).mono ?_; rintro e wn ⟨rfl, hxn⟩; have BZ2 := Lib.hid ((Bk.new .. : Bk (wc.alloc (.cells #[.int .i64 0, .int .i64 0] 92)) wc.heap.size 92 #[.int .i64 0, .int .i64 0]).ext ((Ext.refl _).drew.trans hxn)); have hge : wc.heap.size ≤ wc.heap.size := Nat.le_refl _; replace hcur := (((Ext.refl wc).alloc _).drew).trans hxn; have z0 := BZ2.out.cell 0; have z1 := BZ2.out.cell 1; have g0 := BZ2.out.frozen 0; have g1 := BZ2.out.frozen 1)
            | (go_at_call 125; with_reducible refine (C1.out _ (HR.out _ _ (hcur.alloc _) hr)).mono ?_; rintro e wm ⟨rfl, hxm⟩; have BZ2 := Lib.hid ((Bk.new .. : Bk (wn.alloc (.cells #[.int .i64 0, .int .i64 0] 92)) wn.heap.size 92 #[.int .i64 0, .int .i64 0]).ext hxm); have hge := hcur.size; replace hcur := (hcur.alloc _).trans hxm; have z0 := BZ2.out.cell 0; have z1 := BZ2.out.cell 1; have g0 := BZ2.out.frozen 0; have g1 := BZ2.out.frozen 1)
            | (go_at_call 125; with_reducible refine (C2.out _ (HR.out _ _ (hcur.alloc _) hr)).mono ?_; rintro e wm ⟨rfl, hxm⟩; have BZ2 := Lib.hid ((Bk.new .. : Bk (wn.alloc (.cells #[.int .i64 0, .int .i64 0] 92)) wn.heap.size 92 #[.int .i64 0, .int .i64 0]).ext hxm); have hge := hcur.size; replace hcur := (hcur.alloc _).trans hxm; have z0 := BZ2.out.cell 0; have z1 := BZ2.out.cell 1; have g0 := BZ2.out.frozen 0; have g1 := BZ2.out.frozen 1))
      all_goals
        go_wp2_with fail
        go_meet
        first
          | exact ⟨_, rfl, Lib.hid (by rw [← HZ.out, ← HV.out]; exact Bk.new ..), hcur.alloc _⟩
          | exact ⟨_, rfl, Lib.hid (by rw [← HZW.out, ← HVW.out]; exact Bk.new ..), hcur.alloc _⟩
          | exact ⟨_, rfl, Lib.hid (by rw [← HZ.out, ← HV.out]; exact (BZ2.out.set 0 _).set 1 _), ((hcur.setCell (p := ⟨_, 0, none⟩) hge _).setCell (p := ⟨_, 1, none⟩) hge _)⟩
          | exact ⟨_, rfl, Lib.hid (by rw [← HZW.out, ← HVW.out]; exact (BZ2.out.set 0 _).set 1 _), ((hcur.setCell (p := ⟨_, 0, none⟩) hge _).setCell (p := ⟨_, 1, none⟩) hge _)⟩
    case rest => as_aux_lemma =>
      obtain ⟨By, rfl, HBY, hx6⟩ := hcut
      have bl := HBL.out.ext hx6
      have q0 := HBY.out.cell 0
      have q1 := HBY.out.cell 1
      have e0 := (HBC.out.ext hx6).cell 0
      have l0 := bl.cell 0
      have l1 := bl.cell 1
      have l2 := bl.frozen 0
      have l3 := bl.frozen 1
      by_cases g : v ≤ z
      · have g' : decide (v ≤ z) = true := by simpa using g
        have hp : p = (0, 0) := by rw [← HP.out, if_pos g]
        have BF := Lib.hid ((bl.set 0 (.int .i64 0)).set 1 (.int .i64 0))
        have XF := Lib.hid (((hxW.trans hx6).setCell (p := ⟨BL, 0, none⟩) HBLL.out (.int .i64 0)).setCell (p := ⟨BL, 1, none⟩) HBLL.out (.int .i64 0))
        subst hp
        clear bl
        go_wp2_with fail
        clear l0 l1 l2 l3 q0 q1 e0
        have bF := BF.out
        have xF := XF.out
        generalize (wc.setCell _ _).setCell _ _ = wF at *
        have z0 : wF.cell? ⟨BL, 0, none⟩ = some (.int .i64 0) := bF.cell 0
        have z1 : wF.cell? ⟨BL, 1, none⟩ = some (.int .i64 0) := bF.cell 1
        exact bodyPost_ret (v := .agg #[.int .i64 0, .int .i64 0]) (by simp [results, Tryz.results94, go_sem, z0, z1]) rfl ⟨rfl, xF⟩
      · have g' : decide (v ≤ z) = false := by simpa using g
        have hp : p = (z, v) := by rw [← HP.out, if_neg g]
        have BF := Lib.hid ((bl.set 0 (.int .i64 z)).set 1 (.int .i64 v))
        have XF := Lib.hid (((hxW.trans hx6).setCell (p := ⟨BL, 0, none⟩) HBLL.out (.int .i64 z)).setCell (p := ⟨BL, 1, none⟩) HBLL.out (.int .i64 v))
        subst hp
        clear bl
        go_wp2_with fail
        clear l0 l1 l2 l3 q0 q1 e0
        have bF := BF.out
        have xF := XF.out
        generalize (wc.setCell _ _).setCell _ _ = wF at *
        have z0 : wF.cell? ⟨BL, 0, none⟩ = some (.int .i64 z) := bF.cell 0
        have z1 : wF.cell? ⟨BL, 1, none⟩ = some (.int .i64 v) := bF.cell 1
        exact bodyPost_ret (v := .agg #[.int .i64 z, .int .i64 v]) (by simp [results, Tryz.results94, go_sem, z0, z1]) rfl ⟨rfl, xF⟩

theorem long_le {l : List Int} (hL : isLB l = true) (x t : Nat) : lessF l x + (((endsF l).take t).countP fun a => decide (En.ahead l a = (x : Int))) ≤ l.length := by
  have hE := endsF_is l
  have hw : 0 < (x : Int) ∨ (x : Int) = 0 ∧ ([] : List Int) = [] := by
    rcases Nat.eq_zero_or_pos x with q | q
    · exact .inr ⟨by omega, rfl⟩
    · left; omega
  have h := hi_stepW hE ((isLB_IsL l).1 hL) (c := (x : Int)) [] hw
  have h2 := hi_le hE [(x : Int)]
  rw [h, hi_nil hE, List.take_of_length_le (by rw [hE.length]; exact Nat.le_refl _)] at h2
  have h3 : (((endsF l).take t).countP fun a => decide (En.ahead l a = (x : Int))) ≤ (endsF l).countP fun a => decide (En.ahead l a = (x : Int)) := (List.take_sublist _ _).countP_le
  have h4 : lessF l x = l.countP fun y => decide (y < (x : Int)) := rfl
  omega
theorem longer_calls (l : List Int) (hok : combOk l) (E B D : Option Addr) (ec bc dc f t : Nat) (c : Int) (w : World) (hft : f ≤ t) (ht : t ≤ l.length) (hc : -9223372036854775808 ≤ c ∧ c < 9223372036854775807) (h : CombIn w l E B D) :
    Calls Tryz.prog 94 #[combV l.length ((mostI l).toNat + 2) E B D ec bc dc, .agg #[.int .i64 f, .int .i64 t], .int .i64 c] w (RetSpan (longF l (endsF l) f t c) w) := by
  obtain ⟨hL, hM, hl⟩ := hok
  have hm := mostI_ge l
  have hn := ((isLB_iff l).1 hL).1
  have hE := endsF_is l
  have h0 := isLB_nonneg hL
  unfold longF
  by_cases gA : c = 0 ∧ ¬ (f = 0 ∧ t = l.length)
  · rw [if_pos gA, gA.1]
    exact longer_last _ _ E B D ec bc dc f t w gA.2
  · rw [if_neg gA]
    by_cases gB : c < 0 ∨ mostI l + 2 ≤ c + 1
    · rw [if_pos gB]
      exact longer_out _ _ E B D ec bc dc f t c w (by omega) (by omega) hft ht hc (by omega) (by omega)
    · rw [if_neg gB]
      obtain ⟨x, rfl⟩ := Int.eq_ofNat_of_zero_le (show 0 ≤ c by omega)
      rw [Int.toNat_natCast]
      obtain ⟨b1, o1, hD, hb, hcD⟩ := h.d (by omega)
      have hln : (ahN l (endsF l)).length = l.length := by rw [ahN_length, hE.length]
      have hlt : ∀ y ∈ ahN l (endsF l), y < 2 ^ 10 := fun y hy => by
        obtain ⟨a, _, rfl⟩ := List.mem_map.1 hy
        have h1 := (mostI_lt (l := l) (b := 1024) (by omega)).1 hM _ (ahead_mem hn a)
        have : (2 : Nat) ^ 10 = 1024 := by decide
        omega
      have hX : (waveOf (ahN l (endsF l)) 10).L.length = 10 := levelsOf_length _ _ _
      have cc : ∀ i : Nat, ∀ w, RdL w B (waveOf (ahN l (endsF l)) 10).L → Calls Tryz.prog 125 #[.agg #[.int .i64 l.length, .int .i64 10, .slice B 10 bc], .int .i64 x, .int .i64 i] w fun e w' => e = .returned (.int .i64 (((endsF l).take i).countP fun a => decide (En.ahead l a = (x : Int)) : Nat)) ∧ Ext w w' := fun i w hr => by
        have q := wcount_calls (ahN l (endsF l)) 10 (by omega) (by rw [hln]; omega) hlt B bc (x : Int) (i : Int) w hr
        rw [hln, hX, Int.toNat_natCast, ← List.map_take, count_cast, ahN_count h0 hn] at q
        exact q
      have le1 := fun t => long_le hL x t
      have l1 := le1 f
      have l2 := le1 t
      exact longer_in l.length ((mostI l).toNat + 2) x (lessF l x) _ _ E B D ec bc dc f t w (fun w => RdL w B (waveOf (ahN l (endsF l)) 10).L) (fun _ _ hx r => r.ext hx) hl (by omega) (by omega) hft ht (fun q => by
        rcases Classical.em (f = 0 ∧ t = l.length) with r | r
        · exact r
        · exact absurd ⟨by omega, r⟩ gA) (by omega) (by omega) (by omega) l2 h.b b1 o1 hD (hcD x (by omega)) (cc f) (cc t)
end Go.Proofs.YtjfdlibceldanabGreatDoor
