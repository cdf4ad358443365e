/- comb.Behinds: the walk. -/
import Derived.Test.YtjfdlibceldanabGreatDoorCombPlace
import Derived.Test.YtjfdlibceldanabGreatDoorWpApp
namespace Go.Proofs.YtjfdlibceldanabGreatDoor
open Go.RowKit Go.Sort En Wv Gu

theorem cloneG_calls (s : List Int) (A : Option Addr) (c : Nat) (w : World) (hl : s.length ≤ 1000000) (hr : Rd w A s.length (fun k => .int .i64 (nth s k))) :
    Calls Tryz.prog 61 #[.slice A s.length c] w fun e w' => ∃ v, e = .returned v ∧ w'.ownsRow w.heap.size 3 1 v s.length (s.map (Value.int .i64)) ∧ Ext w w' := by
  cases A with
  | none =>
    have h0 : s.length = 0 := by
      rcases Nat.eq_zero_or_pos s.length with h | h
      · exact h
      · obtain ⟨b, o, hA, _⟩ := hr h; cases hA
    obtain rfl : s = [] := List.length_eq_zero_iff.1 h0
    refine (Tryz.slices_Clone_int_nil 0 c w).mono ?_
    rintro e w' ⟨rfl, rfl⟩
    exact ⟨_, rfl, own_nil _ _ _ _, Ext.refl _⟩
  | some a =>
    by_cases h0 : s.length = 0
    · obtain rfl : s = [] := List.length_eq_zero_iff.1 h0
      refine (Tryz.slices_Clone_int_zero a c w).mono ?_
      rintro e w' ⟨v, rfl, ho, _, hx⟩
      exact ⟨_, rfl, ho, hx⟩
    · obtain ⟨b, o, hA, hb, hc⟩ := hr (by omega)
      injection hA with hA
      subst hA
      have h := Tryz.slices_Clone_int b o s.length c s w (Nat.le_refl _) (by omega) (fun j hj => by
        rw [hc j hj, List.getD_eq_getElem?_getD]; rfl)
      rw [List.take_length] at h
      refine h.mono ?_
      rintro e w' ⟨v, rfl, ho, _, hx⟩
      exact ⟨_, rfl, ho, hx⟩
theorem rdI_own {w : World} {base : Nat} {e : TypeId} {A : Option Addr} {c : Nat} {xs : List Int} (h : w.ownsRow base e 1 (.slice A xs.length c) xs.length (xs.map (Value.int .i64))) : Rd w A xs.length (fun k => .int .i64 (nth xs k)) :=
  (Rd.of_own (d := default) h).congr fun k hk => by rw [List.getElem?_map, List.getElem?_eq_getElem hk, nth_lt hk]; rfl
theorem own_noneG {w : World} {base : Nat} {e : TypeId} {size n : Nat} {A : Option Addr} {c : Nat} {xs : List Value} (h : w.ownsRow base e size (.slice A n c) n xs) : A = none → c = 0 := fun hA => by
  rcases h.2 with ⟨hv, _⟩ | ⟨g, cap, cur, hv, _⟩
  · injection hv
  · subst hA; simp at hv
/-- The signs that are counted at all, as far as one has looked. -/
def selN (cn : Nat → Nat) (i : Nat) : List Nat := (List.range i).filter fun k => decide (0 < cn k)
theorem selN_succ (cn : Nat → Nat) (i : Nat) : selN cn (i + 1) = if 0 < cn i then selN cn i ++ [i] else selN cn i := by
  unfold selN
  rw [List.range_succ, List.filter_append, List.filter_cons, List.filter_nil]
  by_cases h : 0 < cn i
  · rw [if_pos h]; simp [h]
  · rw [if_neg h]; simp [h]
theorem selN_le (cn : Nat → Nat) (i : Nat) : (selN cn i).length ≤ i := by
  unfold selN
  have := List.length_filter_le (fun k => decide (0 < cn k)) (List.range i)
  rwa [List.length_range] at this

set_option maxHeartbeats 8000000 in
set_option maxRecDepth 100000 in
theorem behinds_walk (n m2 : Nat) (E B D : Option Addr) (ec bc dc : Nat) (s : List Int) (A : Option Addr) (c : Nat) (w : World) (R : World → Prop) (hR : ∀ w w', Ext w w' → R w → R w') (hm : 1 ≤ m2) (hm2 : m2 ≤ 4096) (hsl : s.length ≤ 1000) (cn : Nat → Nat) (hcn : ∀ k, cn k ≤ 4096)
    (hr : R w) (hs : Rd w A s.length (fun k => .int .i64 (nth s k)))
    (cc : ∀ k P p w, k + 1 < m2 → R w → Rd w P (s.length + 1) (fun j => .int .i64 (nth (s ++ [(k : Int)]) j)) → Calls Tryz.prog 32 #[combV n m2 E B D ec bc dc, .slice P (s.length + 1) p] w fun e w' => e = .returned (.int .i64 (cn k : Nat)) ∧ Ext w w') :
    Calls Tryz.prog 96 #[combV n m2 E B D ec bc dc, .slice A s.length c] w (RetInts (selN cn (m2 - 1)) w) := by
  obtain ⟨ii, hi, hj0, hj1, hj2⟩ := info_parts info_int
  have hcl := fun w (h : Rd w A s.length (fun k => .int .i64 (nth s k))) => cloneG_calls s A c w (by omega) h
  have hsu := selN_succ cn; have hsle := selN_le cn
  have CC := Lib.hid cc; have HR := Lib.hid hR; have HS := Lib.hid hs; have CL := Lib.hid hcl; have HSU := Lib.hid hsu; have HLE := Lib.hid hsle; have HCN := Lib.hid hcn
  obtain ⟨L, hL⟩ : ∃ L, s.length = L := ⟨_, rfl⟩
  rw [hL] at CC HS CL hsl ⊢
  have HLL := Lib.hid hL
  unfold combV at CC ⊢
  clear cc hR hs hcl hsu hsle hcn hL
  go_enter Tryz.func96, Tryz.ntmps96
  go_wp2_with fail
  generalize hW : World.alloc w _ = W
  have bq := bk_of hW
  have hx := ext_of_alloc hW
  have hrW := HR.out _ _ hx hr
  have BQ := Lib.hid bq
  generalize w.heap.size = Q at *
  clear hW hr bq
  obtain ⟨m1, hm1⟩ : ∃ m1, m2 - 1 = m1 := ⟨_, rfl⟩
  have hmi : (m2 : Int) - 1 = (m1 : Int) := by omega
  have hmw : IntKind.i64.wrap ((m2 : Int) - 1) = (m2 : Int) - 1 := IntWalk.i64_in _ (by omega)
  have hm14 : m1 ≤ 4096 := by omega
  have HMI := Lib.hid hmi; have HM1 := Lib.hid hm1
  rw [hm1]
  clear hmi hm1
  have c2 := BQ.out.cell 4
  go_wp2_with fail
  clear c2
  go_loopw [11, 5] (fun vi v5 wr => ∃ i : Nat, vi = .int .i64 i ∧ i ≤ m1 ∧ Hid (wr.ownsRow W.heap.size 3 1 v5 (selN cn i).length ((selN cn i).map fun x => Value.int .i64 (x : Nat))) ∧ Ext W wr) (fun vi _ _ => m1 - (intOf vi).toNat)
  case atStart => exact ⟨0, rfl, Nat.zero_le _, own_nil _ _ _ _, Ext.refl _⟩
  case round => as_aux_lemma =>
    obtain ⟨i, rfl, hi', HO, hxr⟩ := hrel
    by_cases g : i < m1
    · have gt : decide ((i : Int) < (m2 : Int) - 1) = true := by have := HMI.out; simp; omega
      have bx := BQ.out.ext hxr
      have x0 := bx.cell 0
      have x1 := bx.cell 1
      have x2 := bx.cell 2
      have x3 := bx.cell 3
      have x4 := bx.cell 4
      have hrr := HR.out _ _ hxr hrW
      have hsr := HS.out.ext (hx.trans hxr)
      have cc := fun P p w => CC.out i P p w (by have := HM1.out; omega)
      have hsu := HSU.out i
      have hle := HLE.out i
      have hcn := HCN.out i
      obtain ⟨y, hy⟩ : ∃ y, cn i = y := ⟨_, rfl⟩
      rw [hy] at cc hsu hcn
      have CCi := Lib.hid cc; have HSi := Lib.hid hsu; have HRR := Lib.hid hrr; have HSR := Lib.hid hsr
      have HO1 := HO
      clear cc hsu hy bx hrr hsr
      go_upto_region 5 with fail
      go_cut [21] (fun v21 w' => v21 = .bool (decide (0 < y)) ∧ Ext wr w')
      case first => as_aux_lemma =>
        clear HO HO1
        refine wp_region_N (fun w' => w'.cell? ⟨Q, 0, none⟩ = some (.slice E n ec) ∧ w'.cell? ⟨Q, 1, none⟩ = some (.int .i64 n) ∧ w'.cell? ⟨Q, 2, none⟩ = some (.int .i64 10) ∧ w'.cell? ⟨Q, 3, none⟩ = some (.slice B 10 bc) ∧ w'.cell? ⟨Q, 4, none⟩ = some (.slice D m2 dc)) 6 (by kernel_rfl) ?_
        simp only [List.length_cons, List.length_nil, Nat.zero_add, Nat.reduceAdd]
        have hcur : Ext wr wr.drew := (Ext.refl wr).drew
        generalize wr.drew = w0 at *
        have hSS : w0.cell? ⟨Q, 0, none⟩ = some (.slice E n ec) ∧ w0.cell? ⟨Q, 1, none⟩ = some (.int .i64 n) ∧ w0.cell? ⟨Q, 2, none⟩ = some (.int .i64 10) ∧ w0.cell? ⟨Q, 3, none⟩ = some (.slice B 10 bc) ∧ w0.cell? ⟨Q, 4, none⟩ = some (.slice D m2 dc) := ⟨ecell x0 hcur, ecell x1 hcur, ecell x2 hcur, ecell x3 hcur, ecell x4 hcur⟩
        refine take_N (i := 0) (.agg #[.slice E n ec, .int .i64 n, .int .i64 10, .slice B 10 bc, .slice D m2 dc]) rfl (by kernel_rfl) (fun _ _ _ h => h) rfl hSS (fun w' hw' => by obtain ⟨k0, k1, k2, k3, k4⟩ := hw'; go_simp) #[true, false, false, false, false, false, false, false] (by rfl) ?_
        try simp only [Act.put, List.setIfInBounds_toArray, List.set_cons_zero, List.set_cons_succ]
        refine pure_N (i := 1) (.slice A L c) rfl (by kernel_rfl) (fun _ _ _ h => h) rfl hSS (fun w' => by go_simp) #[true, true, false, false, false, false, false, false] (by rfl) ?_
        try simp only [Act.put, List.setIfInBounds_toArray, List.set_cons_zero, List.set_cons_succ]
        refine pure_N (i := 3) (.int .i64 i) rfl (by kernel_rfl) (fun _ _ _ h => h) rfl hSS (fun w' => by go_simp) #[true, true, false, true, false, false, false, false] (by rfl) ?_
        try simp only [Act.put, List.setIfInBounds_toArray, List.set_cons_zero, List.set_cons_succ]
        refine all_N [2, 4] (by kernel_rfl) (by simp) ?_
        rintro i0 hi0
        rcases List.mem_cons.1 hi0 with rfl | hi0
        · refine step_N (i := 2) #[true, true, true, true, false, false, false, false] rfl rfl (by rfl) (fun K' hK' => ?_)
          go_simp
          refine (CL.out w0 (HSR.out.ext hcur)).mono ?_
          rintro e wn ⟨v, rfl, hv, hxn⟩
          have hxn' := hcur.trans hxn
          refine hK' _ _ ⟨ecell x0 hxn', ecell x1 hxn', ecell x2 hxn', ecell x3 hxn', ecell x4 hxn'⟩ ?_
          clear K' hK'
          try simp only [Act.put, List.setIfInBounds_toArray, List.set_cons_zero, List.set_cons_succ]
          refine all_N [4] (by kernel_rfl) (by simp) ?_
          rintro i1 hi1
          obtain rfl := List.mem_singleton.1 hi1
          · refine step_N (i := 4) #[true, true, true, true, true, false, false, false] rfl rfl (by rfl) (fun K' hK' => ?_)
            go_simp
            have bP := Bk.new wn 3 #[(.int .i64 i)]
            have hx1 := (Ext.refl wn).alloc (.cells #[(.int .i64 i)] 3)
            have hv1 := own_ext hv hx1
            generalize World.alloc wn _ = w1 at *
            have hx01 := hxn.trans hx1
            have hxw1 := hxn'.trans hx1
            refine hK' _ _ ⟨ecell x0 hxw1, ecell x1 hxw1, ecell x2 hxw1, ecell x3 hxw1, ecell x4 hxw1⟩ ?_
            clear K' hK'
            try simp only [Act.put, List.setIfInBounds_toArray, List.set_cons_zero, List.set_cons_succ]
            refine all_N [5] (by kernel_rfl) (by simp) ?_
            rintro i1 hi1
            obtain rfl := List.mem_singleton.1 hi1
            refine step_N (i := 5) #[true, true, true, true, true, true, false, false] rfl rfl (by rfl) (fun K' hK' => ?_)
            refine wp_app _ _ 24 rfl w0.heap.size 3 ii _ Tryz.underlying24 hi hj0 hj1 hj2 rfl _ L _ (by rfl) hv1 (.int .i64 i) _ _ (by rfl) bP rfl (by omega) hx01.size ?_
            intro gA cA w4 own4 hgr4
            have hx4 := (hx01).grown hgr4 (fun k hk => (own_row_ge hv1 k hk).1)
            have hxw4 := hcur.trans hx4
            refine hK' _ _ ⟨ecell x0 hxw4, ecell x1 hxw4, ecell x2 hxw4, ecell x3 hxw4, ecell x4 hxw4⟩ ?_
            try simp only [Act.put, List.setIfInBounds_toArray, List.set_cons_zero, List.set_cons_succ]
            refine wpAnyN_tail 6 _ rfl rfl (by kernel_rfl) (by kernel_rfl) ?_
            have hrd : Rd w4 (some ⟨gA, 0, none⟩) (L + 1) (fun j => .int .i64 (nth (s ++ [(i : Int)]) j)) := by
              have e : (s ++ [(i : Int)]).length = L + 1 := by rw [List.length_append, HLL.out]; rfl
              have := rdI_own (xs := s ++ [(i : Int)]) (w := w4) (A := some ⟨gA, 0, none⟩) (c := cA) (by rw [e, List.map_append]; exact own4)
              rw [e] at this
              exact this
            have cc := CCi.out (some ⟨gA, 0, none⟩) cA w4 (HR.out _ _ hxw4 HRR.out) hrd
            clear K' hK'
            go_wp2_with fail
            with_reducible refine cc.mono ?_
            rintro e w5 ⟨rfl, hx5⟩
            go_wp2_with fail
            go_meet
            exact ⟨by simp, hxw4.trans hx5⟩
        · obtain rfl := List.mem_singleton.1 hi0
          refine step_N (i := 4) #[true, true, false, true, true, false, false, false] rfl rfl (by rfl) (fun K' hK' => ?_)
          go_simp
          have bP0 := Bk.new w0 3 #[(.int .i64 i)]
          have hx1 := (Ext.refl w0).alloc (.cells #[(.int .i64 i)] 3)
          have hge : w0.heap.size = w0.heap.size := rfl
          generalize World.alloc w0 _ = w1 at *
          have hxw1 := hcur.trans hx1
          refine hK' _ _ ⟨ecell x0 hxw1, ecell x1 hxw1, ecell x2 hxw1, ecell x3 hxw1, ecell x4 hxw1⟩ ?_
          clear K' hK'
          try simp only [Act.put, List.setIfInBounds_toArray, List.set_cons_zero, List.set_cons_succ]
          refine all_N [2] (by kernel_rfl) (by simp) ?_
          rintro i1 hi1
          obtain rfl := List.mem_singleton.1 hi1
          · refine step_N (i := 2) #[true, true, true, true, true, false, false, false] rfl rfl (by rfl) (fun K' hK' => ?_)
            go_simp
            refine (CL.out w1 (HSR.out.ext hxw1)).mono ?_
            rintro e wn ⟨v, rfl, hv, hxn⟩
            have hxn' := hxw1.trans hxn
            have bP := bP0.ext hxn
            refine hK' _ _ ⟨ecell x0 hxn', ecell x1 hxn', ecell x2 hxn', ecell x3 hxn', ecell x4 hxn'⟩ ?_
            clear K' hK'
            try simp only [Act.put, List.setIfInBounds_toArray, List.set_cons_zero, List.set_cons_succ]
            refine all_N [5] (by kernel_rfl) (by simp) ?_
            rintro i1 hi1
            obtain rfl := List.mem_singleton.1 hi1
            refine step_N (i := 5) #[true, true, true, true, true, true, false, false] rfl rfl (by rfl) (fun K' hK' => ?_)
            refine wp_app _ _ 24 rfl w1.heap.size 3 ii _ Tryz.underlying24 hi hj0 hj1 hj2 rfl _ L _ (by rfl) hv (.int .i64 i) _ _ (by rfl) bP rfl (by omega) hxn.size ?_
            intro gA cA w4 own4 hgr4
            have hx4 := (hxn).grown hgr4 (fun k hk => (own_row_ge hv k hk).1)
            have hxw4 := hxw1.trans hx4
            refine hK' _ _ ⟨ecell x0 hxw4, ecell x1 hxw4, ecell x2 hxw4, ecell x3 hxw4, ecell x4 hxw4⟩ ?_
            try simp only [Act.put, List.setIfInBounds_toArray, List.set_cons_zero, List.set_cons_succ]
            refine wpAnyN_tail 6 _ rfl rfl (by kernel_rfl) (by kernel_rfl) ?_
            have hrd : Rd w4 (some ⟨gA, 0, none⟩) (L + 1) (fun j => .int .i64 (nth (s ++ [(i : Int)]) j)) := by
              have e : (s ++ [(i : Int)]).length = L + 1 := by rw [List.length_append, HLL.out]; rfl
              have := rdI_own (xs := s ++ [(i : Int)]) (w := w4) (A := some ⟨gA, 0, none⟩) (c := cA) (by rw [e, List.map_append]; exact own4)
              rw [e] at this
              exact this
            have cc := CCi.out (some ⟨gA, 0, none⟩) cA w4 (HR.out _ _ hxw4 HRR.out) hrd
            clear K' hK'
            go_wp2_with fail
            with_reducible refine cc.mono ?_
            rintro e w5 ⟨rfl, hx5⟩
            go_wp2_with fail
            go_meet
            exact ⟨by simp, hxw4.trans hx5⟩
      case rest => as_aux_lemma =>
        obtain ⟨rfl, hx2⟩ := hcut
        have HO2 : Hid (wc.ownsRow W.heap.size 3 1 u5 (selN cn i).length ((selN cn i).map fun x => Value.int .i64 (x : Nat))) := own_ext HO1.out hx2
        have hxc := hxr.trans hx2
        have hsz := hxc.size
        clear HO HO1 x0 x1 x2 x3 x4 hx2
        by_cases g2 : 0 < y
        · have g2' : decide (0 < y) = true := decide_eq_true g2
          have hs1 : selN cn (i + 1) = selN cn i ++ [i] := by rw [HSi.out, if_pos g2]
          rw [g2']
          go_wp2_with (at_builtin; refine wpList_app1 (by rfl) _ _ 24 rfl W.heap.size 3 ii (.int .i64 0) 8 Tryz.underlying24 hi hj0 hj1 hj2 rfl _ (selN cn i).length _ rfl wc (.int .i64 i) 3 rfl HO2.out rfl rfl ?d1 ?d2 hsz ?_)
          case d1 => omega
          case d2 => omega
          intro gb cap w5 own5 hgr5
          have hx5 := hxc.grown hgr5 (fun k hk => (own_row_ge HO2.out k hk).1)
          have HO5 : Hid (w5.ownsRow W.heap.size 3 1 (.slice (some ⟨gb, 0, none⟩) ((selN cn i).length + 1) cap) (selN cn (i + 1)).length ((selN cn (i + 1)).map fun x => Value.int .i64 (x : Nat))) := by
            show World.ownsRow _ _ _ _ _ _ _
            rw [hs1, List.length_append, List.map_append]; exact own5
          clear own5 hgr5 HO2 hxc
          go_wp2_with fail
          refine ⟨⟨i + 1, by go_num, by omega, HO5, hx5⟩, by simp [intOf]; omega⟩
        · have g2' : decide (0 < y) = false := decide_eq_false g2
          have hs1 : selN cn (i + 1) = selN cn i := by rw [HSi.out, if_neg g2]
          rw [g2']
          rw [← hs1] at HO2
          go_wp2_with fail
          refine ⟨⟨i + 1, by go_num, by omega, HO2, hxc⟩, by simp [intOf]; omega⟩
    · have gt : decide ((i : Int) < (m2 : Int) - 1) = false := by have := HMI.out; simp; omega
      obtain rfl : i = m1 := by omega
      obtain ⟨P, p, rfl⟩ := own_form HO.out
      go_wp2_with fail
      go_ret
      rw [HM1.out]
      exact ⟨P, p, rfl, own_noneG HO.out, (rd_ints HO.out), hx.trans hxr⟩
end Go.Proofs.YtjfdlibceldanabGreatDoor
