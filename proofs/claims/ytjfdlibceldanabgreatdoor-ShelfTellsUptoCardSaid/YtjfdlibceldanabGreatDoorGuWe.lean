/- comb.Befores, comb.Behinds and guess.weigh: walks. -/
import Derived.Test.YtjfdlibceldanabGreatDoorGuBeh
import Derived.Test.YtjfdlibceldanabGreatDoorWvKinds
namespace Go.Proofs.YtjfdlibceldanabGreatDoor
open Go.RowKit Go.Sort En Wv Gu Ri

/-! ### Befores -/
theorem span_ends (l s : List Int) : ((endsF l).take (spanF l (endsF l) s).2).drop (spanF l (endsF l) s).1 = (endsF l).filter (stB l s) := by
  have hE := endsF_is l
  by_cases g : lo l (endsF l) s < hi l (endsF l) s
  · have : spanF l (endsF l) s = (lo l (endsF l) s, hi l (endsF l) s) := by unfold spanF; rw [if_pos g]
    rw [this]; exact span_filter hE s
  · have : spanF l (endsF l) s = (0, 0) := by unfold spanF; rw [if_neg g]
    rw [this]
    have h0 : (endsF l).countP (stB l s) = 0 := by have := lo_hi (l := l) (e := endsF l) s; omega
    symm
    simp only [List.take_zero, List.drop_nil]
    exact List.filter_eq_nil_iff.2 fun a ha => List.countP_eq_zero.1 h0 a ha
theorem kinds_befs {l : List Int} (h0 : ∀ x ∈ l, 0 ≤ x) (hn : 0 < l.length) (h10 : ∀ x ∈ ahN l (endsF l), x < 2 ^ 10) (s : List Int) :
    (kindsT 10 (ahN l (endsF l)) (spanF l (endsF l) s).1 (spanF l (endsF l) s).2 10 0).map Int.ofNat = befs l s := by
  have hE := endsF_is l
  obtain ⟨hft, htl⟩ := spanF_le hE s
  have hln : (ahN l (endsF l)).length = l.length := by rw [ahN_length, hE.length]
  rw [kinds_all]
  have key : ∀ a, (∃ i, i < l.length ∧ nth (endsF l) i = a ∧ (spanF l (endsF l) s).1 ≤ i ∧ i < (spanF l (endsF l) s).2) ↔ a ∈ places l s := by
    intro a
    have hp : a ∈ places l s ↔ a ∈ ((endsF l).take (spanF l (endsF l) s).2).drop (spanF l (endsF l) s).1 := by
      rw [span_ends, places_mem, List.mem_filter]
      exact ⟨fun ⟨h1, h2⟩ => ⟨hE.mem h1, h2⟩, fun ⟨h1, h2⟩ => ⟨hE.lt h1, h2⟩⟩
    rw [hp, List.mem_iff_getElem]
    constructor
    · rintro ⟨i, hi, rfl, h1, h2⟩
      refine ⟨i - (spanF l (endsF l) s).1, by simp; rw [hE.length]; omega, ?_⟩
      rw [List.getElem_drop, List.getElem_take, nth_lt (by rw [hE.length]; exact hi)]
      congr 1; omega
    · rintro ⟨k, hk, rfl⟩
      have hk' := hk
      rw [List.length_drop, List.length_take, hE.length] at hk'
      refine ⟨(spanF l (endsF l) s).1 + k, by omega, ?_, by omega, by omega⟩
      rw [List.getElem_drop, List.getElem_take, nth_lt (by rw [hE.length]; omega)]
  refine rise_eq ?_ fun x => ?_
  · unfold Up
    rw [List.pairwise_map]
    refine (List.pairwise_lt_range.sublist List.filter_sublist).imp fun {a b} h => ?_
    exact Int.ofNat_lt.2 h
  · rw [List.mem_map, List.mem_map]
    constructor
    · rintro ⟨v, hv, rfl⟩
      obtain ⟨_, hv⟩ := List.mem_filter.1 hv
      obtain ⟨i, hi, he, h1, h2⟩ := (count_iff _ _ _ _).1 (of_decide_eq_true hv)
      rw [hln] at hi
      refine ⟨nth (endsF l) i, (key _).1 ⟨i, hi, rfl, h1, h2⟩, ?_⟩
      have := nth_ahN h0 hn (e := endsF l) (i := i) (by rw [hE.length]; exact hi)
      rw [he] at this
      exact this.symm
    · rintro ⟨a, ha, rfl⟩
      obtain ⟨i, hi, rfl, h1, h2⟩ := (key a).2 ha
      have hv := nth_ahN h0 hn (e := endsF l) (i := i) (by rw [hE.length]; exact hi)
      refine ⟨nth (ahN l (endsF l)) i, List.mem_filter.2 ⟨List.mem_range.2 ?_, decide_eq_true ?_⟩, ?_⟩
      · exact h10 _ (nth_mem (by rw [hln]; exact hi))
      · exact (count_iff _ _ _ _).2 ⟨i, by rw [hln]; exact hi, rfl, h1, h2⟩
      · exact hv

set_option maxHeartbeats 4000000 in
set_option maxRecDepth 100000 in
theorem befores_walk (n m2 : Nat) (E B D : Option Addr) (ec bc dc : Nat) (L : Nat) (A : Option Addr) (c : Nat) (w : World) (R : World → Prop) (hR : ∀ w w', Ext w w' → R w → R w') (hr : R w) (f t K : Nat)
    (cf : ∀ w, R w → Calls Tryz.prog 56 #[combV n m2 E B D ec bc dc, .slice A L c] w (RetSpan (f, t) w))
    (ck : ∀ w, R w → Calls Tryz.prog 126 #[.agg #[.int .i64 n, .int .i64 10, .slice B 10 bc], .int .i64 f, .int .i64 t] w fun e w' => ∃ P p, e = .returned (.slice P K p) ∧ Ext w w') :
    Calls Tryz.prog 97 #[combV n m2 E B D ec bc dc, .slice A L c] w fun e w' => ∃ P p, e = .returned (.slice P K p) ∧ Ext w w' := by
  have CF := Lib.hid cf; have CK := Lib.hid ck; have HR := Lib.hid hR
  unfold combV RetSpan at CF
  unfold combV
  clear cf ck hR
  go_enter Tryz.func97, Tryz.ntmps97
  go_wp2_with fail
  generalize hW : World.alloc w _ = W
  have bq := bk_of hW
  have hx := ext_of_alloc hW
  have hrW := HR.out _ _ hx hr
  generalize w.heap.size = Q at *
  clear hW hr
  have x0 := bq.cell 0
  have x1 := bq.cell 1
  have x2 := bq.cell 2
  have x3 := bq.cell 3
  have x4 := bq.cell 4
  go_wp2_with fail
  with_reducible refine (CF.out W hrW).mono ?_
  rintro e w2 ⟨rfl, hx2⟩
  go_upto_region 2 with fail
  generalize hW2 : World.alloc w2 _ = W2
  have bs := bk_of hW2
  have hx3 := hx2.trans (ext_of_alloc hW2)
  have bq2 := bq.ext hx3
  have hrW2 := HR.out _ _ hx3 hrW
  clear x0 x1 x2 x3 x4 hW2 hx2
  have x0 := bq2.cell 0
  have x1 := bq2.cell 1
  have x2 := bq2.cell 2
  have x3 := bq2.cell 3
  have y0 := bs.cell 0
  have y1 := bs.cell 1
  go_wp2_with fail
  with_reducible refine (CK.out W2 hrW2).mono ?_
  rintro e w3 ⟨P, p, rfl, hx4⟩
  go_wp2_with fail
  go_ret
  exact ⟨P, p, rfl, (hx.trans hx3).trans hx4⟩
theorem comb_lt {l : List Int} (hok : combOk l) : ∀ x ∈ ahN l (endsF l), x < 2 ^ 10 := fun x hx => by
  obtain ⟨a, _, rfl⟩ := List.mem_map.1 hx
  have hn := ((isLB_iff l).1 hok.1).1
  have h1 := (mostI_lt (l := l) (b := 1024) (by omega)).1 hok.2.1 _ (ahead_mem hn a)
  have : (2 : Nat) ^ 10 = 1024 := by decide
  omega
theorem befores_calls (l : List Int) (hok : combOk l) (E B D : Option Addr) (ec bc dc : Nat) (s : List Int) (hs : signOk s) (hsl : s.length ≤ 17592186044416) (A : Option Addr) (c : Nat) (w : World) (h : CombIn w l E B D) (hr : Rd w A s.length (fun k => .int .i64 (nth s k))) :
    Calls Tryz.prog 97 #[combV l.length ((mostI l).toNat + 2) E B D ec bc dc, .slice A s.length c] w fun e w' => ∃ P p, e = .returned (.slice P (befs l s).length p) ∧ Ext w w' := by
  have hE := endsF_is l
  have hn := ((isLB_iff l).1 hok.1).1
  have h0 := isLB_nonneg hok.1
  have hln : (ahN l (endsF l)).length = l.length := by rw [ahN_length, hE.length]
  obtain ⟨h1, h2⟩ := spanF_le hE s
  refine befores_walk l.length ((mostI l).toNat + 2) E B D ec bc dc s.length A c w (fun w => CombIn w l E B D ∧ Rd w A s.length (fun k => .int .i64 (nth s k))) (fun _ _ hx r => ⟨r.1.ext hx, r.2.ext hx⟩) ⟨h, hr⟩ (spanF l (endsF l) s).1 (spanF l (endsF l) s).2 (befs l s).length (fun w r => cfind_calls l hok E B D ec bc dc s hs hsl A c w r.1 r.2) ?_
  intro w r
  have hc := wkinds_calls (ahN l (endsF l)) 10 (by decide) (by rw [hln]; have := hok.2.2; omega) (comb_lt hok) B bc ((spanF l (endsF l) s).1 : Nat) ((spanF l (endsF l) s).2 : Nat) w r.1.b
  have e2 : (waveOf (ahN l (endsF l)) 10).L.length = 10 := levelsOf_length _ _ _
  rw [hln, e2] at hc
  have c1 : cl ((spanF l (endsF l) s).1 : Nat) l.length = (spanF l (endsF l) s).1 := by unfold cl; rw [Int.toNat_natCast]; omega
  have c2 : cl ((spanF l (endsF l) s).2 : Nat) l.length = (spanF l (endsF l) s).2 := by unfold cl; rw [Int.toNat_natCast]; omega
  rw [c1, c2] at hc
  refine hc.mono ?_
  rintro e w' ⟨P, p, rfl, _, _, hx⟩
  refine ⟨P, p, ?_, hx⟩
  rw [← kinds_befs h0 hn (comb_lt hok) s, List.length_map]

/-! ### Behinds -/
theorem behs_sel {l : List Int} (h0 : ∀ x ∈ l, 0 ≤ x) (s : List Int) : (selN (fun k => (places l (s ++ [(k : Int)])).length) ((mostI l).toNat + 1)).map Int.ofNat = behs l s := by
  rw [behs_all (m := (mostI l).toNat) fun x hx => ⟨h0 x hx, by have := le_mostI hx; have := mostI_ge l; omega⟩]
  rfl
theorem count_nat (l s : List Int) (hok : combOk l) (E B D : Option Addr) (ec bc dc : Nat) (hs : signOk s) (hsl : s.length ≤ 17592186044416) (A : Option Addr) (c : Nat) (w : World) (h : CombIn w l E B D) (hr : Rd w A s.length (fun k => .int .i64 (nth s k))) :
    Calls Tryz.prog 32 #[combV l.length ((mostI l).toNat + 2) E B D ec bc dc, .slice A s.length c] w fun e w' => e = .returned (.int .i64 ((places l s).length : Nat)) ∧ Ext w w' := by
  have hc := ccount_calls l hok E B D ec bc dc s hs hsl A c w h hr
  rw [span_places] at hc
  exact hc
theorem behinds_calls (l : List Int) (hok : combOk l) (E B D : Option Addr) (ec bc dc : Nat) (s : List Int) (hs : signOk s) (hsl : s.length ≤ 1000) (A : Option Addr) (c : Nat) (w : World) (h : CombIn w l E B D) (hr : Rd w A s.length (fun k => .int .i64 (nth s k))) :
    Calls Tryz.prog 96 #[combV l.length ((mostI l).toNat + 2) E B D ec bc dc, .slice A s.length c] w (RetInts (selN (fun k => (places l (s ++ [(k : Int)])).length) ((mostI l).toNat + 1)) w) := by
  have hm : (mostI l).toNat < 1024 := by have := hok.2.1; have := mostI_ge l; omega
  have key := behinds_walk l.length ((mostI l).toNat + 2) E B D ec bc dc s A c w (fun w => CombIn w l E B D) (fun _ _ hx r => r.ext hx) (by omega) (by omega) hsl (fun k => (places l (s ++ [(k : Int)])).length) (fun k => Nat.le_trans (places_le l _) hok.2.2) h hr ?_
  · exact key
  · intro k P p w hk r hrP
    have e : (s ++ [(k : Int)]).length = s.length + 1 := by simp
    have hc := count_nat l (s ++ [(k : Int)]) hok E B D ec bc dc (fun x hx => ?_) (by omega) P p w r (by rw [e]; exact hrP)
    · rw [e] at hc
      exact hc
    · rcases List.mem_append.1 hx with q | q
      · exact hs x q
      · rw [List.mem_singleton.1 q]; omega
end Go.Proofs.YtjfdlibceldanabGreatDoor
