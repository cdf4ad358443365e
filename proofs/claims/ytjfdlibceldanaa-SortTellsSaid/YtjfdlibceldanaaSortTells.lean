/- SortTells: the law's walk. -/
import Derived.Test.YtjfdlibceldanaaSortEnds
namespace Go.Proofs.Ytjfdlibceldanaa
open Go.ChangeShapes Go.WideShapes Go.ChangeAt Go.RowKit En

theorem own_capS {w : World} {base : Nat} {e : TypeId} {size n : Nat} {A : Option Addr} {c : Nat} {xs : List Value} (h : w.ownsRow base e size (.slice A n c) n xs) : n ≤ c := by
  rcases h.2 with ⟨hv, h0⟩ | ⟨g, cap, cur, hv, hb, hg, hnc, _⟩
  · omega
  · injection hv with h1 h2 h3; omega
theorem sameN (K : List Nat) (hK : K.length ≤ 65536) (A B : Option Addr) (a b : Nat) (w : World) (h1 : Rd w A K.length (fun k => .int .i64 (nth K k : Nat))) (h2 : Rd w B K.length (fun k => .int .i64 (nth K k : Nat))) :
    Calls Try.prog 36 #[.slice A K.length a, .slice B K.length b] w fun e w' => e = .returned (.bool true) ∧ Ext w w' := by
  have h := sameInts_calls (K.map Int.ofNat) (K.map Int.ofNat) A B a b w (by rw [List.length_map]; omega) (rd_castI h1) (rd_castI h2)
  rw [List.length_map, decide_eq_true rfl] at h
  exact h.mono fun e w' ⟨he, hq⟩ => ⟨he, hq.ext⟩
theorem sameZ (K : List Int) (hK : K.length ≤ 1125899906842624) (A B : Option Addr) (a b : Nat) (w : World) (h1 : Rd w A K.length (fun k => .int .i64 (nth K k))) (h2 : Rd w B K.length (fun k => .int .i64 (nth K k))) :
    Calls Try.prog 36 #[.slice A K.length a, .slice B K.length b] w fun e w' => e = .returned (.bool true) ∧ Ext w w' := by
  have h := sameInts_calls K K A B a b w hK h1 h2
  rw [decide_eq_true rfl] at h
  exact h.mono fun e w' ⟨he, hq⟩ => ⟨he, hq.ext⟩
theorem alikeF_len (l ends : List Int) : (alikeF l ends).length ≤ l.length := by
  unfold alikeF
  split
  · rw [List.length_map, List.length_range]; exact Nat.le_refl _
  · simp

set_option maxHeartbeats 4000000 in
set_option maxRecDepth 100000 in
theorem st_big (l : List Int) (A E : Option Addr) (c n d : Nat) (w : World) (h : 200 < l.length) :
    Calls Try.prog 10 #[.slice A l.length c, .slice E n d] w fun e w' => e = .returned (.bool true) ∧ Ext w w' := by
  have g0' : decide ((200 : Int) < l.length) = true := by simp; omega
  go_enter Try.func10, Try.ntmps10
  go_wp2_with fail
  refine (sorts_calls _).mono ?_
  rintro e w1 ⟨rfl, hx⟩
  go_wp2_with fail
  go_ret
  exact ⟨rfl, hx⟩

set_option maxHeartbeats 8000000 in
set_option maxRecDepth 100000 in
theorem st_small (l ends : List Int) (A E : Option Addr) (c d : Nat) (w : World) (hl : l.length ≤ 200) (he : ends.length ≤ 17592186044416) (hA : A = none → c = 0) (hr : Rd w A l.length (fun k => .int .i64 (nth l k))) (hre : Rd w E ends.length (fun k => .int .i64 (nth ends k))) :
    Calls Try.prog 10 #[.slice A l.length c, .slice E ends.length d] w fun e w' => e = .returned (.bool true) ∧ Ext w w' := by
  obtain ⟨ii, hi, hj0, hj1, hj2⟩ := info_parts info_int
  have g0' : decide ((200 : Int) < l.length) = false := by simp; omega
  have hn := (endsF_is l).length
  have cEnds := fun C c w hr => ends_calls l C c w (by omega) hr
  have cEOf := fun w hr => endsOf_calls l A c w (by omega) hr
  have cGood := fun C c w hc hr => sgood_calls l C c w (by omega) hc hr
  have cIs := fun w hr => isList_calls l A c w (by omega) hr
  have cAl := fun C c D d w hr hre => alike_calls l ends C D c d w (by omega) (by omega) hr hre
  have cAlO := fun w hr hre => alikeOf_calls l ends A E c d w (by omega) (by omega) hr hre
  have cAh := fun C c w hr hre => sahead_calls l ends C E c d w (by omega) he hr hre
  have cAhO := fun w hr hre => aheadOf_calls l ends A E c d w (by omega) he hr hre
  have dAl := fun C c D d w hr hre => alike_yes l C D c d w (by omega) hr hre
  have dAlO := fun D d w hr hre => alikeOf_yes l A D c d w (by omega) hr hre
  obtain ⟨e, hee⟩ : ∃ e, endsF l = e := ⟨_, rfl⟩
  rw [hee] at hn cEnds cEOf dAl dAlO
  have dAh : ∀ C c D d w, Rd w C l.length (fun k => .int .i64 (nth l k)) → Rd w D e.length (fun k => .int .i64 (nth e k : Nat)) → Calls Try.prog 48 #[.slice C l.length c, .slice D e.length d] w (RetZ (aheadL l (e.map Int.ofNat)) w) := fun C c D d w h1 h2 => by
    have h := sahead_calls l (e.map Int.ofNat) C D c d w (by omega) (by rw [List.length_map]; omega) h1 (rd_castI h2)
    rw [List.length_map] at h
    exact h
  have dAhO : ∀ D d w, Rd w A l.length (fun k => .int .i64 (nth l k)) → Rd w D e.length (fun k => .int .i64 (nth e k : Nat)) → Calls Try.prog 49 #[.slice A l.length c, .slice D e.length d] w (RetZ (aheadL l (e.map Int.ofNat)) w) := fun D d w h1 h2 => by
    have h := aheadOf_calls l (e.map Int.ofNat) A D c d w (by omega) (by rw [List.length_map]; omega) h1 (rd_castI h2)
    rw [List.length_map] at h
    exact h
  rw [hn] at dAh dAhO
  have k1 := alikeF_len l ends
  have k2 : (aheadL l ends).length ≤ ends.length := by have := aheadL_len l ends ends.length; rwa [List.take_length] at this
  have k3 : (aheadL l (e.map Int.ofNat)).length ≤ 1125899906842624 := by
    have := aheadL_len l (e.map Int.ofNat) (e.map Int.ofNat).length
    rw [List.take_length, List.length_map, hn] at this
    omega
  have k4 : ((List.range l.length).map (alikeAt l e)).length ≤ 65536 := by rw [List.length_map, List.length_range]; omega
  obtain ⟨U, hU⟩ : ∃ U, alikeF l ends = U := ⟨_, rfl⟩
  obtain ⟨V, hV⟩ : ∃ V, aheadL l ends = V := ⟨_, rfl⟩
  obtain ⟨X, hX⟩ : ∃ X, aheadL l (e.map Int.ofNat) = X := ⟨_, rfl⟩
  obtain ⟨Y, hY⟩ : ∃ Y, (List.range l.length).map (alikeAt l e) = Y := ⟨_, rfl⟩
  obtain ⟨G, hG⟩ : ∃ G, isLB l = G := ⟨_, rfl⟩
  rw [hU] at cAl cAlO k1
  rw [hV] at cAh cAhO k2
  rw [hX] at dAh dAhO k3
  rw [hY] at dAl dAlO k4
  rw [hG] at cGood cIs
  have sE := fun A' B' a b w h1 h2 => sameN e (by omega) A' B' a b w h1 h2
  have sL := fun A' B' a b w h1 h2 => sameZ l (by omega) A' B' a b w h1 h2
  have sU := fun A' B' a b w h1 h2 => sameN U (by omega) A' B' a b w h1 h2
  have sV := fun A' B' a b w h1 h2 => sameZ V (by omega) A' B' a b w h1 h2
  have sX := fun A' B' a b w h1 h2 => sameZ X (by omega) A' B' a b w h1 h2
  have sY := fun A' B' a b w h1 h2 => sameN Y (by omega) A' B' a b w h1 h2
  rw [hn] at sE
  have C1 := Lib.hid cEnds; have C2 := Lib.hid cEOf; have C3 := Lib.hid cGood; have C4 := Lib.hid cIs; have C5 := Lib.hid cAl; have C6 := Lib.hid cAlO; have C7 := Lib.hid cAh; have C8 := Lib.hid cAhO
  have D1 := Lib.hid dAl; have D2 := Lib.hid dAlO; have D3 := Lib.hid dAh; have D4 := Lib.hid dAhO
  have SE := Lib.hid sE; have SL := Lib.hid sL; have SU := Lib.hid sU; have SV := Lib.hid sV; have SX := Lib.hid sX; have SY := Lib.hid sY
  have HN := Lib.hid hn; have HR := Lib.hid hr; have HRE := Lib.hid hre
  clear cEnds cEOf cGood cIs cAl cAlO cAh cAhO dAl dAlO dAh dAhO sE sL sU sV sX sY hU hV hX hY hG hee hn hre k1 k2 k3 k4
  go_enter Try.func10, Try.ntmps10
  go_wp2_with (at_builtin; refine wpList_appAll (by rfl) _ _ 24 rfl w.heap.size 3 ii (.int .i64 0) 8 Try.underlying24 hi hj0 hj1 hj2 rfl _ 0 [] rfl (own_nil w w.heap.size 3 1) A l.length c (fun j => .int .i64 (nth l j)) rfl hA hr (fun _ _ => rfl) (by omega) (by omega) (by omega) (Nat.le_refl _) ?_)
  intro v1 w1 own1 hg1
  obtain ⟨C, cc, hv1⟩ := own_form own1
  subst hv1
  have hx1 : Ext w w1 := ext_of_grown hg1
  have hcap := own_capS own1
  have hrC := rd_own own1
  have HRC := Lib.hid hrC
  clear own1 hg1 hr hrC
  go_wp2_with fail
  refine (C1.out C cc w1 HRC.out).mono ?_
  rintro e' w2 ⟨B, b, rfl, _, hB, hx2⟩
  rw [HN.out] at hB ⊢
  have HB := Lib.hid hB
  have hx12 := hx1.trans hx2
  clear hB
  go_wp2_with fail
  refine (C2.out w2 (HR.out.ext hx12)).mono ?_
  rintro e' w3 ⟨B3, b3, rfl, _, hB3, hx3⟩
  rw [HN.out] at hB3 ⊢
  have hx23 := hx2.trans hx3
  go_wp2_with fail
  with_reducible refine (SE.out B B3 b b3 w3 (HB.out.ext hx3) hB3).mono ?_
  rintro e' w4 ⟨rfl, hx4⟩
  have hy4 := hx3.trans hx4
  clear hB3 hx3 hx4 hx23
  go_wp2_with fail
  with_reducible refine (SL.out C A cc c w4 (HRC.out.ext (hx2.trans hy4)) (HR.out.ext (hx12.trans hy4))).mono ?_
  rintro e' w5 ⟨rfl, hx5⟩
  have hy5 := hy4.trans hx5
  clear hy4 hx5
  go_wp2_with fail
  with_reducible refine (C3.out C cc w5 hcap (HRC.out.ext (hx2.trans hy5))).mono ?_
  rintro e' w6 ⟨rfl, rfl⟩
  go_wp2_with fail
  with_reducible refine (C4.out _ (HR.out.ext (hx12.trans hy5))).mono ?_
  rintro e' w7 ⟨rfl, rfl⟩
  have HC5 := Lib.hid (HRC.out.ext (hx2.trans hy5)); have HA5 := Lib.hid (HR.out.ext (hx12.trans hy5)); have HB5 := Lib.hid (HB.out.ext hy5); have HE5 := Lib.hid (HRE.out.ext (hx12.trans hy5))
  have hx05 := hx12.trans hy5
  clear hy5 HRC HR HB HRE hx2 hx12 hx1
  go_wp2_with fail
  with_reducible refine (D1.out C cc B b w6 HC5.out HB5.out).mono ?_
  rintro e' w7 ⟨P1, p1, rfl, _, hP1, hx7⟩
  go_wp2_with fail
  with_reducible refine (D2.out B b w7 (HA5.out.ext hx7) (HB5.out.ext hx7)).mono ?_
  rintro e' w8 ⟨P2, p2, rfl, _, hP2, hx8⟩
  go_wp2_with fail
  with_reducible refine (SY.out P1 P2 p1 p2 w8 (hP1.ext hx8) hP2).mono ?_
  rintro e' w9 ⟨rfl, hx9⟩
  have hy9 := (hx7.trans hx8).trans hx9
  clear hP1 hP2 hx7 hx8 hx9
  go_wp2_with fail
  with_reducible refine (C5.out C cc E d w9 (HC5.out.ext hy9) (HE5.out.ext hy9)).mono ?_
  rintro e' w10 ⟨P1, p1, rfl, _, hP1, hx7⟩
  go_wp2_with fail
  with_reducible refine (C6.out w10 (HA5.out.ext (hy9.trans hx7)) (HE5.out.ext (hy9.trans hx7))).mono ?_
  rintro e' w11 ⟨P2, p2, rfl, _, hP2, hx8⟩
  go_wp2_with fail
  with_reducible refine (SU.out P1 P2 p1 p2 w11 (hP1.ext hx8) hP2).mono ?_
  rintro e' w12 ⟨rfl, hx9⟩
  have hy12 := hy9.trans ((hx7.trans hx8).trans hx9)
  clear hP1 hP2 hx7 hx8 hx9 hy9
  go_wp2_with fail
  with_reducible refine (D3.out C cc B b w12 (HC5.out.ext hy12) (HB5.out.ext hy12)).mono ?_
  rintro e' w13 ⟨P1, p1, rfl, _, hP1, hx7⟩
  go_wp2_with fail
  with_reducible refine (D4.out B b w13 (HA5.out.ext (hy12.trans hx7)) (HB5.out.ext (hy12.trans hx7))).mono ?_
  rintro e' w14 ⟨P2, p2, rfl, _, hP2, hx8⟩
  go_wp2_with fail
  with_reducible refine (SX.out P1 P2 p1 p2 w14 (hP1.ext hx8) hP2).mono ?_
  rintro e' w15 ⟨rfl, hx9⟩
  have hy15 := hy12.trans ((hx7.trans hx8).trans hx9)
  clear hP1 hP2 hx7 hx8 hx9 hy12
  go_wp2_with fail
  with_reducible refine (C7.out C cc w15 (HC5.out.ext hy15) (HE5.out.ext hy15)).mono ?_
  rintro e' w16 ⟨P1, p1, rfl, _, hP1, hx7⟩
  go_wp2_with fail
  with_reducible refine (C8.out w16 (HA5.out.ext (hy15.trans hx7)) (HE5.out.ext (hy15.trans hx7))).mono ?_
  rintro e' w17 ⟨P2, p2, rfl, _, hP2, hx8⟩
  go_wp2_with fail
  with_reducible refine (SV.out P1 P2 p1 p2 w17 (hP1.ext hx8) hP2).mono ?_
  rintro e' w18 ⟨rfl, hx9⟩
  have hy18 := hy15.trans ((hx7.trans hx8).trans hx9)
  clear hP1 hP2 hx7 hx8 hx9 hy15
  go_wp2_with fail
  refine (sorts_calls w18).mono ?_
  rintro e' w19 ⟨rfl, hx19⟩
  go_wp2_with fail
  go_ret
  exact ⟨rfl, (hx05.trans hy18).trans hx19⟩

section
variable {H : Type} {enc : TypeId × Value → H} {W : World}
set_option maxRecDepth 100000 in
theorem sortTells_calls {r : Reach} {base : Nat} {v0 v1 : Value} {d0 d1 : DataW H} {p0 p1 : List MemPlace}
    (hsz : (DataW.weightsEach Try.prog [24, 24] [d0, d1]).all (· ≤ reachBytes) = true)
    (hv0 : Value.okWide Try.prog W r base 24 v0) (h0 : DataW.Trod enc Try.prog W 0 (fun _ => true) true 24 v0 d0 p0)
    (hv1 : Value.okWide Try.prog W r base 24 v1) (h1 : DataW.Trod enc Try.prog W 0 (fun _ => true) true 24 v1 d1 p1) :
    Calls Try.prog 10 #[v0, v1] W fun e w' => e = .returned (.bool true) ∧ Ext W w' := by
  simp only [DataW.weightsEach, List.all_append, Bool.and_eq_true] at hsz
  obtain ⟨A, c, l, rfl, hr, _, hl, hA⟩ := open_ints hv0 h0 hsz.1
  obtain ⟨E, d, ends, rfl, hre, _, he, _⟩ := open_ints hv1 h1 hsz.2.1
  by_cases g : 200 < l.length
  · exact st_big l A E c ends.length d W g
  · exact st_small l ends A E c d W (by omega) he hA hr hre
end
end Go.Proofs.Ytjfdlibceldanaa
