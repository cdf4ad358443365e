/- comb.Places: the walk. -/
import Derived.Test.YtjfdlibceldanabGreatDoorCombFind
namespace Go.Proofs.YtjfdlibceldanabGreatDoor
open Go.RowKit Go.Sort En Wv Gu

/-- slices.Sort on a row of the call's own. -/
theorem sortI_calls {w : World} {base g c : Nat} {ds : List Int} (h : w.ownsRow base 3 1 (.slice (some ⟨g, 0, none⟩) ds.length c) ds.length (ds.map (Value.int .i64))) (hl : ds.length < 4611686018427387904) :
    Calls Tryz.prog 62 #[.slice (some ⟨g, 0, none⟩) ds.length c] w fun e w' => e = .returned (.tuple #[]) ∧ w'.ownsRow base 3 1 (.slice (some ⟨g, 0, none⟩) ds.length c) ds.length ((ds.mergeSort fun x y => decide (x ≤ y)).map (Value.int .i64)) ∧ w.grownBy w' (some g) := by
  have hg0 : g < w.heap.size := (own_row_ge h g rfl).2
  refine (Tryz.slices_Sort_int g 0 c ds w (own_holdsG (Value.int .i64) h) hg0 hl).mono ?_
  rintro e w' ⟨rfl, n, os, hw⟩
  obtain ⟨h1, h2⟩ := own_sortedG (Value.int .i64) (D := (ds.mergeSort fun x y => decide (x ≤ y)).toArray) (m := n) (os := os) h (by simp) hw
  exact ⟨rfl, h1, h2⟩

/-- The places, by the ends of a span, sorted. -/
theorem sort_places (l s : List Int) : ((((endsF l).take (spanF l (endsF l) s).2).drop (spanF l (endsF l) s).1).map Int.ofNat).mergeSort (fun x y => decide (x ≤ y)) = (places l s).map Int.ofNat := by
  have hE := endsF_is l
  have hf : ((endsF l).take (spanF l (endsF l) s).2).drop (spanF l (endsF l) s).1 = (endsF l).filter (stB l s) := by
    by_cases g : lo l (endsF l) s < hi l (endsF l) s
    · have : spanF l (endsF l) s = (lo l (endsF l) s, hi l (endsF l) s) := by unfold spanF; rw [if_pos g]
      rw [this]; exact span_filter hE s
    · have : spanF l (endsF l) s = (0, 0) := by unfold spanF; rw [if_neg g]
      rw [this]
      have h0 : (endsF l).countP (stB l s) = 0 := by have := lo_hi (l := l) (e := endsF l) s; omega
      symm
      simp only [List.take_zero, List.drop_nil]
      exact List.filter_eq_nil_iff.2 fun a ha => List.countP_eq_zero.1 h0 a ha
  rw [hf]
  have hp : (((endsF l).filter (stB l s)).map Int.ofNat).Perm ((places l s).map Int.ofNat) := (hE.1.filter _).map _
  have hs : ((places l s).map Int.ofNat).Pairwise (fun x y => decide (x ≤ y) = true) := by
    rw [List.pairwise_map]
    refine ((List.pairwise_lt_range (n := l.length)).sublist List.filter_sublist).imp fun {a b} h => ?_
    exact decide_eq_true (Int.ofNat_le.2 (Nat.le_of_lt h))
  refine List.Perm.eq_of_pairwise (le := fun x y => decide (x ≤ y) = true) (fun a b _ _ h1 h2 => by simp at h1 h2; omega) ?_ hs ((List.mergeSort_perm _ _).trans hp)
  exact List.pairwise_mergeSort (fun a b c h1 h2 => by simp at *; omega) (fun a b => by simp; omega) _
theorem span_places (l s : List Int) : (spanF l (endsF l) s).2 - (spanF l (endsF l) s).1 = (places l s).length := by
  have h := congrArg List.length (sort_places l s)
  obtain ⟨h1, h2⟩ := spanF_le (endsF_is l) s
  rw [List.length_mergeSort, List.length_map, List.length_map, List.length_drop, List.length_take, (endsF_is l).length] at h
  omega
theorem places_le (l s : List Int) : (places l s).length ≤ l.length := by
  have := List.length_filter_le (stB l s) (List.range l.length)
  rw [List.length_range] at this
  exact this

set_option maxHeartbeats 2000000 in
set_option maxRecDepth 100000 in
theorem cplaces_walk (n m2 : Nat) (E B D : Option Addr) (ec bc dc : Nat) (s : List Int) (A : Option Addr) (c : Nat) (w : World) (f t : Nat) (en : List Nat) (pl : List Nat) (hen : en.length = n) (hn : n ≤ 4096) (hec : n ≤ ec) (hft : f ≤ t) (htn : t ≤ n) (hfn : f < n) (hpl : t - f = pl.length)
    (hr : Rd w E n (fun k => .int .i64 (nth en k : Nat))) (hsort : (((en.take t).drop f).map Int.ofNat).mergeSort (fun x y => decide (x ≤ y)) = pl.map Int.ofNat)
    (cf : Calls Tryz.prog 56 #[combV n m2 E B D ec bc dc, .slice A s.length c] (w.alloc (.cells #[.slice E n ec, .int .i64 n, .int .i64 10, .slice B 10 bc, .slice D m2 dc] 31)) (RetSpan (f, t) (w.alloc (.cells #[.slice E n ec, .int .i64 n, .int .i64 10, .slice B 10 bc, .slice D m2 dc] 31)))) :
    Calls Tryz.prog 38 #[combV n m2 E B D ec bc dc, .slice A s.length c] w (RetInts pl w) := by
  have h0 : 0 < n := by omega
  obtain ⟨b, o, rfl, hb, hc⟩ := hr (by omega)
  unfold RetSpan at cf
  have CF := Lib.hid cf; have HS := Lib.hid hsort
  unfold combV
  clear cf hsort hr
  go_enter Tryz.func38, Tryz.ntmps38
  go_upto_region 1 with fail
  have cf := CF.out
  generalize hW : World.alloc w _ = W at *
  have bq := bk_of hW
  have hx := ext_of_alloc hW
  have CF := Lib.hid cf
  clear hW cf
  have c0 := bq.cell 0
  have c1 := bq.cell 1
  have c2 := bq.cell 2
  have c3 := bq.cell 3
  have c4 := bq.cell 4
  go_upto_region 2 with (go_at_call 56; with_reducible refine CF.out.mono ?_; rintro e wn ⟨rfl, hxn⟩)
  generalize hW2 : World.alloc wn _ = W2
  have bs := bk_of hW2
  have hx2 := hxn.trans (ext_of_alloc hW2)
  have bq2 := bq.ext hx2
  have d0 := bq2.cell 0
  have y0 := bs.cell 0
  have y1 := bs.cell 1
  have hc2 : ∀ k, k < n → W2.cell? ⟨b, o + k, none⟩ = some (.int .i64 (nth en k : Nat)) := fun k hk => ecell (hc k hk) (hx.trans hx2)
  have HC2 := Lib.hid hc2
  clear hc2 hc c0 c1 c2 c3 c4 bq bq2 bs hW2 CF
  go_wp2_with fail
  have hlen : (((en.take t).drop f).map Int.ofNat).length = pl.length := by rw [List.length_map, List.length_drop, List.length_take]; omega
  have hcl := Tryz.slices_Clone_int b (o + f) pl.length (ec - f) (((en.take t).drop f).map Int.ofNat) W2 (by omega) (by omega) (fun j hj => by
    rw [hlen] at hj
    rw [show o + f + j = o + (f + j) from by omega, HC2.out (f + j) (by omega), List.getD_eq_getElem?_getD, List.getElem?_map, List.getElem?_drop, List.getElem?_take_of_lt (by omega), List.getElem?_eq_getElem (by omega), ← nth_lt (by omega)]
    rfl)
  rw [List.take_of_length_le (by omega)] at hcl
  refine hcl.mono ?_
  rintro e w3 ⟨v', rfl, ho, _, hx3⟩
  have hx3' : Ext W2 w3 := hx3
  have hxw := (hx.trans hx2).trans hx3'
  have hs := HS.out
  clear hcl HC2 d0 y0 y1
  by_cases g : pl.length = 0
  · have hp : pl = [] := List.length_eq_zero_iff.1 g
    obtain ⟨P, p, rfl, hP⟩ : ∃ P p, v' = .slice P 0 p ∧ (P = none → p = 0) := by
      rcases ho.2 with ⟨rfl, _⟩ | ⟨gg, cap, cur, rfl, _⟩
      · exact ⟨none, 0, rfl, fun _ => rfl⟩
      · exact ⟨_, cap, by rw [g], fun q => by cases q⟩
    go_wp2_with fail
    refine (Tryz.slices_Sort_int_none P p w3).mono ?_
    rintro e w4 ⟨rfl, rfl⟩
    go_wp2_with fail
    go_ret
    exact ⟨P, p, by rw [hp]; rfl, hP, by rw [hp]; exact Rd.zero, hxw⟩
  · obtain ⟨gg, cap, rfl, _, _⟩ := ho.form (by omega)
    have hgge : W2.heap.size ≤ gg := (own_row_ge ho gg rfl).1
    have hso := sortI_calls (w := w3) (base := W2.heap.size) (g := gg) (c := cap) (ds := ((en.take t).drop f).map Int.ofNat) (by rw [hlen]; exact ho) (by rw [hlen]; omega)
    rw [hlen, hs] at hso
    clear hlen hs ho
    go_wp2_with fail
    with_reducible refine hso.mono ?_
    rintro e w4 ⟨rfl, ho4, hg4⟩
    go_wp2_with fail
    go_ret
    have hrd := rd_ints (xs := pl) (w := w4) (A := some ⟨gg, 0, none⟩) (c := cap) (e := 3) (base := W2.heap.size) (by rw [List.map_map] at ho4; exact ho4)
    exact ⟨some ⟨gg, 0, none⟩, cap, rfl, (fun q => by cases q), hrd, (hx.trans hx2).trans (hx3'.grown hg4 (fun k hk => by injection hk with hk; rw [← hk]; exact hgge))⟩
theorem places_calls (l : List Int) (hok : combOk l) (E B D : Option Addr) (ec bc dc : Nat) (hec : l.length ≤ ec) (s : List Int) (hs : signOk s) (hsl : s.length ≤ 17592186044416) (A : Option Addr) (c : Nat) (w : World) (h : CombIn w l E B D) (hr : Rd w A s.length (fun k => .int .i64 (nth s k))) :
    Calls Tryz.prog 38 #[combV l.length ((mostI l).toNat + 2) E B D ec bc dc, .slice A s.length c] w (RetInts (places l s) w) := by
  have hE := endsF_is l
  obtain ⟨h1, h2⟩ := spanF_le hE s
  have h3 := ((isLB_iff l).1 hok.1).1
  refine cplaces_walk l.length ((mostI l).toNat + 2) E B D ec bc dc s A c w (spanF l (endsF l) s).1 (spanF l (endsF l) s).2 (endsF l) (places l s) hE.length hok.2.2 hec h1 h2 ?_ (span_places l s) h.e (sort_places l s) ?_
  · by_cases g : (spanF l (endsF l) s).1 < (spanF l (endsF l) s).2
    · omega
    · rw [(span_zero g).2]; exact h3
  · have hx : Ext w (w.alloc (.cells #[.slice E l.length ec, .int .i64 l.length, .int .i64 10, .slice B 10 bc, .slice D ((mostI l).toNat + 2) dc] 31)) := (Ext.refl w).alloc _
    exact cfind_calls l hok E B D ec bc dc s hs hsl A c _ (h.ext hx) (hr.ext hx)
end Go.Proofs.YtjfdlibceldanabGreatDoor
