/- WaveTells: the law's walk. -/
import Derived.Test.YtjfdlibceldanaaWvMade
import Derived.Test.YtjfdlibceldanaaOpenI
namespace Go.Proofs.Ytjfdlibceldanaa
open Go.ChangeShapes Go.WideShapes Go.ChangeAt Go.RowKit Wv

theorem make_no (l : List Int) (deep : Int) (A : Option Addr) (c : Nat) (w : World) (hl : l.length ≤ 17592186044416) (hr : Rd w A l.length (fun k => .int .i64 (nth l k))) (h : ¬ fitsP l deep) :
    Calls Try.prog 28 #[.slice A l.length c, .int .i64 deep] w (NoWave w) := by
  by_cases hd : 1 ≤ deep ∧ deep ≤ 16
  · obtain ⟨d, rfl⟩ := Int.eq_ofNat_of_zero_le (show 0 ≤ deep by omega)
    refine wmake_num l d A c w ⟨by omega, by omega⟩ hl hr fun hk => h ⟨hd, fun x hx => ?_⟩
    obtain ⟨j, hj, rfl⟩ := List.getElem_of_mem hx
    rw [← nth_lt hj, Int.toNat_natCast]; exact hk j hj
  · exact wmake_deep l deep A c w hd
theorem fits_nat {l : List Int} {deep : Int} (h : fitsP l deep) : ∃ (ln : List Nat) (d : Nat), l = ln.map Int.ofNat ∧ deep = d ∧ (1 ≤ d ∧ d ≤ 16) ∧ ∀ x ∈ ln, x < 2 ^ d := by
  obtain ⟨⟨h1, h2⟩, h3⟩ := h
  obtain ⟨d, rfl⟩ := Int.eq_ofNat_of_zero_le (show 0 ≤ deep by omega)
  refine ⟨l.map Int.toNat, d, ?_, rfl, ⟨by omega, by omega⟩, fun x hx => ?_⟩
  · rw [List.map_map]
    have : l.map (Int.ofNat ∘ Int.toNat) = l.map id := List.map_congr_left fun x hx => Int.toNat_of_nonneg (h3 x hx).1
    rw [this, List.map_id]
  · obtain ⟨y, hy, rfl⟩ := List.mem_map.1 hx
    have := h3 y hy
    rw [Int.toNat_natCast] at this
    have h4 := this.1
    have h5 : ((y.toNat : Nat) : Int) < ((2 ^ d : Nat) : Int) := by
      rw [Int.toNat_of_nonneg h4]; exact_mod_cast this.2
    exact_mod_cast h5
theorem nth_cast (ln : List Nat) (k : Nat) : nth (ln.map Int.ofNat) k = ((nth ln k : Nat) : Int) := by
  unfold nth
  rw [List.getElem?_map]
  cases ln[k]? <;> rfl
theorem rd_cast {w : World} {A : Option Addr} {ln : List Nat} (h : Rd w A ln.length (fun k => .int .i64 (nth ln k : Nat))) : Rd w A (ln.map Int.ofNat).length (fun k => .int .i64 (nth (ln.map Int.ofNat) k)) := by
  rw [List.length_map]
  exact h.congr fun k _ => by rw [nth_cast]
theorem count_cast (ln : List Nat) (x : Nat) : (ln.map Int.ofNat).count (x : Int) = ln.count x := by
  induction ln with
  | nil => rfl
  | cons a t ih =>
    rw [List.map_cons, List.count_cons, List.count_cons, ih]
    by_cases h : a = x
    · subst h; simp
    · have e1 : (Int.ofNat a == (x : Int)) = false := by rw [beq_eq_false_iff_ne]; exact fun e => h (Int.ofNat.inj e)
      have e2 : (a == x) = false := by simpa using h
      rw [e1, e2]
theorem count_out {ln : List Nat} {d : Nat} (hf : ∀ x ∈ ln, x < 2 ^ d) {n : Int} (hn : ¬ (0 ≤ n ∧ n < 2 ^ d)) (k : Nat) : ((ln.map Int.ofNat).take k).count n = 0 := by
  rw [List.count_eq_zero]
  intro h
  obtain ⟨y, hy, rfl⟩ := List.mem_map.1 (List.mem_of_mem_take h)
  refine hn ⟨Int.natCast_nonneg _, ?_⟩
  have := hf y hy
  show ((y : Nat) : Int) < 2 ^ d
  exact_mod_cast this

theorem wcount_calls (l : List Nat) (d : Nat) (hd : 1 ≤ d ∧ d ≤ 16) (hl : l.length ≤ 17592186044416) (hf : ∀ x ∈ l, x < 2 ^ d) (A : Option Addr) (c : Nat) (n i : Int) (w : World) (hr : RdL w A (waveOf l d).L) :
    Calls Try.prog 34 #[.agg #[.int .i64 l.length, .int .i64 d, .slice A (waveOf l d).L.length c], .int .i64 n, .int .i64 i] w fun e w' => e = .returned (.int .i64 (((l.map Int.ofNat).take i.toNat).count n : Nat)) ∧ Ext w w' := by
  by_cases hn : 0 ≤ n ∧ n < 2 ^ d
  · obtain ⟨x, rfl⟩ := Int.eq_ofNat_of_zero_le hn.1
    have hx : x < 2 ^ d := by exact_mod_cast hn.2
    have h := wcount_yes l d hd hl hf A c x i hx w hr
    have e : (l.take (cl i l.length)).count x = ((l.map Int.ofNat).take i.toNat).count ((x : Nat) : Int) := by
      rw [← List.map_take, count_cast]
      congr 1
      unfold cl
      rcases Nat.le_total i.toNat l.length with g | g
      · rw [Nat.min_eq_left g]
      · rw [Nat.min_eq_right g, List.take_of_length_le (Nat.le_refl _), List.take_of_length_le g]
    rw [e] at h
    exact h
  · have h := wcount_no l d hd hl hf A c n i hn w hr
    rw [count_out hf hn]
    exact h
/-- What At answers. -/
def atI (l : List Nat) (i : Int) : Int := if 0 ≤ i ∧ i < l.length then ((nth l i.toNat : Nat) : Int) else -1
theorem wat_calls (l : List Nat) (d : Nat) (hd : 1 ≤ d ∧ d ≤ 16) (hl : l.length ≤ 17592186044416) (hf : ∀ x ∈ l, x < 2 ^ d) (A : Option Addr) (c : Nat) (i : Int) (w : World) (hr : RdL w A (waveOf l d).L) :
    Calls Try.prog 33 #[.agg #[.int .i64 l.length, .int .i64 d, .slice A (waveOf l d).L.length c], .int .i64 i] w fun e w' => e = .returned (.int .i64 (atI l i)) ∧ Ext w w' := by
  unfold atI
  by_cases hi : 0 ≤ i ∧ i < l.length
  · rw [if_pos hi]
    obtain ⟨k, rfl⟩ := Int.eq_ofNat_of_zero_le hi.1
    exact wat_yes l d hd hl hf A c k (by omega) w hr
  · rw [if_neg hi]
    exact wat_no l d hd hl hf A c i hi w hr

theorem sameK (K : List Nat) (hK : K.length ≤ 65536) (A B : Option Addr) (a b : Nat) (w : World) (h1 : Rd w A K.length (fun k => .int .i64 (nth K k : Nat))) (h2 : Rd w B K.length (fun k => .int .i64 (nth K k : Nat))) :
    Calls Try.prog 36 #[.slice A K.length a, .slice B K.length b] w fun e w' => e = .returned (.bool true) ∧ Ext w w' := by
  have h := sameInts_calls (K.map Int.ofNat) (K.map Int.ofNat) A B a b w (by rw [List.length_map]; omega) (rd_cast h1) (rd_cast h2)
  rw [List.length_map, decide_eq_true rfl] at h
  exact h.mono fun e w' ⟨he, hq⟩ => ⟨he, hq.ext⟩

/-- What the law asks of a wave. -/
structure WT (X : PW) (n i k AT R : Int) (K : List Nat) : Prop where
  good : ∀ A c w, RdL w A X.L → Calls Try.prog 32 #[.agg #[.int .i64 X.N, .int .i64 X.Deep, .slice A X.L.length c]] w fun e w' => e = .returned (.bool true) ∧ Ext w w'
  at' : ∀ A c w, RdL w A X.L → Calls Try.prog 33 #[.agg #[.int .i64 X.N, .int .i64 X.Deep, .slice A X.L.length c], .int .i64 i] w fun e w' => e = .returned (.int .i64 AT) ∧ Ext w w'
  count : ∀ A c w, RdL w A X.L → Calls Try.prog 34 #[.agg #[.int .i64 X.N, .int .i64 X.Deep, .slice A X.L.length c], .int .i64 n, .int .i64 i] w fun e w' => e = .returned (.int .i64 R) ∧ Ext w w'
  kinds : ∀ A c w, RdL w A X.L → Calls Try.prog 37 #[.agg #[.int .i64 X.N, .int .i64 X.Deep, .slice A X.L.length c], .int .i64 i, .int .i64 k] w (RetInts K w)
  same : ∀ A B ca cb w, RdL w A X.L → RdL w B X.L → Calls Try.prog 30 #[.agg #[.int .i64 X.N, .int .i64 X.Deep, .slice A X.L.length ca], .agg #[.int .i64 X.N, .int .i64 X.Deep, .slice B X.L.length cb]] w fun e w' => e = .returned (.bool true) ∧ Ext w w'
  spoilt : ∀ A c w, X.L.length ≤ c → RdL w A X.L → Calls Try.prog 29 #[.agg #[.int .i64 X.N, .int .i64 X.Deep, .slice A X.L.length c]] w fun e w' => e = .returned (.bool true) ∧ Ext w w'
theorem wt_of (l : List Nat) (d : Nat) (hd : 1 ≤ d ∧ d ≤ 16) (hl : l.length ≤ 17592186044416) (hf : ∀ x ∈ l, x < 2 ^ d) (n i k : Int) :
    WT (waveOf l d) n i k (atI l i) (((l.map Int.ofNat).take i.toNat).count n : Nat) (kindsT d l (cl i l.length) (cl k l.length) d 0) where
  good A c w hr := by
    have h := wgood_calls (waveOf l d) (waveOf_ok l d hd.2 hl hf) A c w hr
    rw [goodW_made l d hd hf] at h
    exact h
  at' A c w hr := wat_calls l d hd hl hf A c i w hr
  count A c w hr := wcount_calls l d hd hl hf A c n i w hr
  kinds A c w hr := wkinds_calls l d hd hl hf A c i k w hr
  same A B ca cb w h1 h2 := sameWave_calls (waveOf l d) (waveOf_ok l d hd.2 hl hf) A B ca cb w h1 h2
  spoilt A c w hc hr := spoilt_calls (waveOf l d) (waveOf_ok l d hd.2 hl hf) (goodW_made l d hd hf) (by show (l.length : Int) ≤ _; omega) A c hc w hr

set_option maxHeartbeats 4000000 in
set_option maxRecDepth 100000 in
theorem wt_big (l : List Int) (A : Option Addr) (c : Nat) (deep n i k : Int) (w : World) (h : 200 < l.length) :
    Calls Try.prog 7 #[.slice A l.length c, .int .i64 deep, .int .i64 n, .int .i64 i, .int .i64 k] w fun e w' => e = .returned (.bool true) ∧ Ext w w' := by
  have g0' : decide ((200 : Int) < l.length) = true := by simp; omega
  go_enter Try.func7, Try.ntmps7
  go_wp2_with fail
  refine (waves_calls _).mono ?_
  rintro e w1 ⟨rfl, hx⟩
  go_wp2_with fail
  go_ret
  exact ⟨rfl, hx⟩
set_option maxHeartbeats 4000000 in
set_option maxRecDepth 100000 in
theorem wt_over (l : List Int) (A : Option Addr) (c : Nat) (deep n i k : Int) (w : World) (h : l.length ≤ 200) (hd : 11 < deep) (hf : fitsP l deep) (hr : Rd w A l.length (fun k => .int .i64 (nth l k))) :
    Calls Try.prog 7 #[.slice A l.length c, .int .i64 deep, .int .i64 n, .int .i64 i, .int .i64 k] w fun e w' => e = .returned (.bool true) ∧ Ext w w' := by
  have g0' : decide ((200 : Int) < l.length) = false := by simp; omega
  have g1' : decide ((11 : Int) < deep) = true := by simpa using hd
  have hfit := fun w hr => fits_calls l deep A c w (by omega) hr
  rw [decide_eq_true hf] at hfit
  have HFT := Lib.hid hfit
  clear hfit hf
  go_enter Try.func7, Try.ntmps7
  go_wp2_with fail
  refine (HFT.out _ hr).mono ?_
  rintro e w1 ⟨rfl, rfl⟩
  go_wp2_with fail
  refine (waves_calls _).mono ?_
  rintro e w1 ⟨rfl, hx⟩
  go_wp2_with fail
  go_ret
  exact ⟨rfl, hx⟩

theorem rd_back {w : World} {A : Option Addr} {ln : List Nat} (h : Rd w A (ln.map Int.ofNat).length (fun k => .int .i64 (nth (ln.map Int.ofNat) k))) : Rd w A ln.length (fun k => .int .i64 (nth ln k : Nat)) := by
  rw [List.length_map] at h
  exact h.congr fun k _ => by rw [nth_cast]

set_option maxHeartbeats 4000000 in
set_option maxRecDepth 100000 in
theorem wt_no (l : List Int) (A : Option Addr) (c : Nat) (deep n i k : Int) (w : World) (h : l.length ≤ 200) (hA : A = none → c = 0) (hf : ¬ fitsP l deep) (hr : Rd w A l.length (fun k => .int .i64 (nth l k))) :
    Calls Try.prog 7 #[.slice A l.length c, .int .i64 deep, .int .i64 n, .int .i64 i, .int .i64 k] w fun e w' => e = .returned (.bool true) ∧ Ext w w' := by
  obtain ⟨ii, hi, hj0, hj1, hj2⟩ := info_parts info_int
  have g0' : decide ((200 : Int) < l.length) = false := by simp; omega
  have hfit := fun w hr => fits_calls l deep A c w (by omega) hr
  rw [decide_eq_false hf] at hfit
  have hmk := fun A c w hr => make_no l deep A c w (by omega) hr hf
  have HFT := Lib.hid hfit; have HMK := Lib.hid hmk
  clear hfit hmk hf
  go_enter Try.func7, Try.ntmps7
  go_upto_region 1 with fail
  go_cut [25] (fun v w' => v = .bool false ∧ w' = w)
  case first => as_aux_lemma =>
    by_cases hd : 11 < deep
    · have g1' : decide ((11 : Int) < deep) = true := by simpa using hd
      clear hd
      go_wp2_with fail
      refine (HFT.out _ hr).mono ?_
      rintro e w1 ⟨rfl, rfl⟩
      go_wp2_with fail
      go_meet
      exact ⟨rfl, rfl⟩
    · have g1' : decide ((11 : Int) < deep) = false := by simpa using hd
      clear hd
      go_wp2_with fail
      go_meet
      exact ⟨rfl, rfl⟩
  case rest => as_aux_lemma =>
    obtain ⟨rfl, rfl⟩ := hcut
    go_wp2_with (at_builtin; refine wpList_appAll (by rfl) _ _ 24 rfl wc.heap.size 3 ii (.int .i64 0) 8 Try.underlying24 hi hj0 hj1 hj2 rfl _ 0 [] rfl (own_nil wc wc.heap.size 3 1) A l.length c (fun j => .int .i64 (nth l j)) rfl hA hr (fun _ _ => rfl) (by omega) (by omega) (by omega) (Nat.le_refl _) ?_)
    intro v1 w1 own1 hg1
    obtain ⟨A1, c1, hv1⟩ := own_form own1
    subst hv1
    have hx1 : Ext wc w1 := ext_of_grown hg1
    have hr1 := rd_own own1
    clear own1 hg1
    go_wp2_with fail
    refine (HMK.out A1 c1 w1 hr1).mono ?_
    rintro e w2 ⟨rfl, hx2⟩
    go_wp2_with fail
    generalize hW : World.alloc w2 _ = W
    have bx := bx3_of hW
    have hxW := (hx1.trans hx2).trans (ext_of_alloc hW)
    clear hW hr1
    refine (HFT.out W (hr.ext hxW)).mono ?_
    rintro e w3 ⟨rfl, rfl⟩
    obtain ⟨x0, x1, x2⟩ := bx
    go_wp2_with fail
    refine (waves_calls W).mono ?_
    rintro e w4 ⟨rfl, hx4⟩
    go_wp2_with fail
    go_ret
    exact ⟨rfl, hxW.trans hx4⟩

set_option maxHeartbeats 8000000 in
set_option maxRecDepth 100000 in
theorem wt_yes (l : List Nat) (A : Option Addr) (c d : Nat) (n i k : Int) (w : World) (h : l.length ≤ 200) (hA : A = none → c = 0) (hd : 1 ≤ d ∧ d ≤ 11) (hf : ∀ x ∈ l, x < 2 ^ d) (hr : Rd w A l.length (fun k => .int .i64 (nth l k : Nat))) :
    Calls Try.prog 7 #[.slice A l.length c, .int .i64 d, .int .i64 n, .int .i64 i, .int .i64 k] w fun e w' => e = .returned (.bool true) ∧ Ext w w' := by
  obtain ⟨ii, hi, hj0, hj1, hj2⟩ := info_parts info_int
  have g0' : decide ((200 : Int) < l.length) = false := by simp; omega
  have g1' : decide ((11 : Int) < (d : Int)) = false := by simp; omega
  have hfits : fitsP (l.map Int.ofNat) d := ⟨by omega, fun x hx => by
    obtain ⟨y, hy, rfl⟩ := List.mem_map.1 hx
    rw [Int.toNat_natCast]
    have := hf y hy
    refine ⟨Int.natCast_nonneg _, ?_⟩
    show ((y : Nat) : Int) < 2 ^ d
    exact_mod_cast this⟩
  have hfit := fun w hr => fits_calls (l.map Int.ofNat) d A c w (by rw [List.length_map]; omega) hr
  rw [decide_eq_true hfits, List.length_map] at hfit
  have hfit2 : ∀ w, Rd w A l.length (fun k => .int .i64 (nth l k : Nat)) → Calls Try.prog 26 #[.slice A l.length c, .int .i64 d] w fun e w' => e = .returned (.bool true) ∧ w = w' := fun w hr => hfit w (by have := rd_cast hr; rwa [List.length_map] at this)
  have hmk := fun A c w hA hr => wmake_yes l d A c w ⟨hd.1, by omega⟩ (by omega) hf hA hr
  have hof := fun w hr => waveOf_calls l d A c w ⟨hd.1, by omega⟩ (by omega) hf hr
  have hwt := wt_of l d ⟨hd.1, by omega⟩ (by omega) hf n i k
  have hcn : ∀ w, Rd w A l.length (fun k => .int .i64 (nth l k : Nat)) → Calls Try.prog 35 #[.slice A l.length c, .int .i64 n, .int .i64 i] w fun e w' => e = .returned (.int .i64 (((l.map Int.ofNat).take i.toNat).count n : Nat)) ∧ w = w' := fun w hr => by
    have h := countIn_calls (l.map Int.ofNat) A c n i w (by rw [List.length_map]; omega) (rd_cast hr)
    rw [List.length_map] at h
    exact h
  have hki := fun w hr => kindsIn_calls l A c i k w (by omega) hr
  rw [kindsRef_eq hf hd.2] at hki
  have hAT : atI l i = if 0 ≤ i ∧ i < l.length then ((nth l i.toNat : Nat) : Int) else -1 := rfl
  have hkl := kindsT_len d l (cl i l.length) (cl k l.length) d 0 (Nat.le_refl _) (by omega)
  obtain ⟨X, hX⟩ : ∃ X, waveOf l d = X := ⟨_, rfl⟩
  obtain ⟨R, hR⟩ : ∃ R : Nat, ((l.map Int.ofNat).take i.toNat).count n = R := ⟨_, rfl⟩
  obtain ⟨AT, hT⟩ : ∃ AT, atI l i = AT := ⟨_, rfl⟩
  obtain ⟨K, hK⟩ : ∃ K, kindsT d l (cl i l.length) (cl k l.length) d 0 = K := ⟨_, rfl⟩
  rw [hX] at hmk hof hwt
  rw [hR] at hwt hcn
  rw [hT] at hwt hAT
  rw [hK] at hwt hki hkl
  have HFT := Lib.hid hfit2; have HMK := Lib.hid hmk; have HOF := Lib.hid hof; have HWT := Lib.hid hwt; have HCN := Lib.hid hcn; have HKI := Lib.hid hki; have HAT := Lib.hid hAT
  obtain ⟨hd1, hd2⟩ := hd
  clear hfits hfit hfit2 hmk hof hwt hcn hki hAT hX hR hT hK hf
  go_enter Try.func7, Try.ntmps7
  go_wp2_with (at_builtin; refine wpList_appAll (by rfl) _ _ 24 rfl w.heap.size 3 ii (.int .i64 0) 8 Try.underlying24 hi hj0 hj1 hj2 rfl _ 0 [] rfl (own_nil w w.heap.size 3 1) A l.length c (fun j => .int .i64 (nth l j : Nat)) rfl hA hr (fun _ _ => rfl) (by omega) (by omega) (by omega) (Nat.le_refl _) ?_)
  intro v1 w1 own1 hg1
  obtain ⟨A1, c1, hv1⟩ := own_form own1
  subst hv1
  have hx1 : Ext w w1 := ext_of_grown hg1
  have hn1 := own_none own1
  have hr1 := rd_own own1
  clear own1 hg1
  go_wp2_with fail
  refine (HMK.out A1 c1 w1 hn1 hr1).mono ?_
  rintro e w2 ⟨B, b, rfl, hcap, hrB, hx2⟩
  obtain ⟨N, D, L⟩ := X
  dsimp only at hcap hrB ⊢
  go_wp2_with fail
  generalize hW : World.alloc w2 _ = W
  have bx := bx3_of hW
  have hxW := (hx1.trans hx2).trans (ext_of_alloc hW)
  have hrX := Lib.hid (hrB.ext (ext_of_alloc hW))
  have HR := Lib.hid (hr.ext hxW)
  generalize w2.heap.size = BX at *
  clear hW hr1 hn1 hrB hx1 hx2
  refine (HFT.out W HR.out).mono ?_
  rintro e w3 ⟨rfl, rfl⟩
  have HBX := Lib.hid bx
  clear bx
  obtain ⟨t1, t2, t3, t4, t5, t6⟩ := HWT.out
  dsimp only at t1 t2 t3 t4 t5 t6
  have T1 := Lib.hid t1; have T2 := Lib.hid t2; have T3 := Lib.hid t3; have T4 := Lib.hid t4; have T5 := Lib.hid t5; have T6 := Lib.hid t6
  clear t1 t2 t3 t4 t5 t6 HWT HMK
  obtain ⟨q, hq⟩ : ∃ q, decide (0 ≤ i ∧ i < (l.length : Int)) = q := ⟨_, rfl⟩
  have HQ := Lib.hid hq
  clear hq
  go_upto_region 9 with fail
  go_cut [60] (fun v w' => v = .bool q ∧ w' = W)
  case first => as_aux_lemma =>
    by_cases h1 : 0 ≤ i
    · have h1' : decide (0 ≤ i) = true := by simpa using h1
      have e : q = decide (i < (l.length : Int)) := by rw [← HQ.out]; simp [h1]
      have E := Lib.hid e
      clear h1 e
      go_wp2_with fail
      go_meet
      exact ⟨by rw [E.out], rfl⟩
    · have h1' : decide (0 ≤ i) = false := by simpa using h1
      have e : q = false := by rw [← HQ.out]; simp [h1]
      have E := Lib.hid e
      clear h1 e
      go_wp2_with fail
      go_meet
      exact ⟨by rw [E.out], rfl⟩
  case rest => as_aux_lemma =>
  obtain ⟨rfl, rfl⟩ := hcut
  go_upto_if 60 with fail
  obtain ⟨W, rfl⟩ : ∃ W, W = wc := ⟨_, rfl⟩
  go_cut [13] (fun v w' => v = .int .i64 AT ∧ w' = W)
  case first => as_aux_lemma =>
    by_cases hi : 0 ≤ i ∧ i < l.length
    · have e : q = true := by rw [← HQ.out]; exact decide_eq_true hi
      subst e
      obtain ⟨j, rfl⟩ := Int.eq_ofNat_of_zero_le hi.1
      have hj : j < l.length := by omega
      obtain ⟨b1, o1, hAA, hb1, hc1⟩ := HR.out (by omega)
      subst hAA
      have p1 := hc1 j hj
      dsimp only at p1
      have e : ((nth l j : Nat) : Int) = AT := by rw [HAT.out, if_pos hi]; rfl
      rw [e] at p1
      clear hc1 e hi
      go_wp2_with fail
      go_meet
      exact ⟨rfl, rfl⟩
    · have e : q = false := by rw [← HQ.out]; exact decide_eq_false hi
      subst e
      have e : AT = -1 := by rw [HAT.out, if_neg hi]
      have E := Lib.hid e
      clear hi e
      go_wp2_with fail
      go_meet
      exact ⟨by rw [E.out], rfl⟩
  case rest => as_aux_lemma =>
    obtain ⟨rfl, rfl⟩ := hcut
    obtain ⟨x0, x1, x2⟩ := HBX.out
    go_wp2_with fail
    refine (T6.out B b _ hcap hrX.out).mono ?_
    rintro e w4 ⟨rfl, hx4⟩
    go_upto_region 13 with fail
    have hxW4 := hxW.trans hx4
    have hrX4 := Lib.hid (hrX.out.ext hx4)
    have HR4 := Lib.hid (HR.out.ext hx4)
    clear x0 x1 x2
    obtain ⟨x0, x1, x2⟩ := HBX.out.ext hx4
    have hcur : Ext w4 w4.drew := (Ext.refl w4).drew
    go_region_held3 (fun w' => w'.cell? ⟨BX, 0, none⟩ = some (.int .i64 N) ∧ w'.cell? ⟨BX, 1, none⟩ = some (.int .i64 D) ∧ w'.cell? ⟨BX, 2, none⟩ = some (.slice B L.length b))
      (first | (exact ⟨ecell x0 hcur, ecell x1 hcur, ecell x2 hcur⟩) | go_keep)
      (first
        | (go_at_call 31; refine (HOF.out _ (HR4.out.ext hcur)).mono ?_; rintro e wn ⟨E1, e1, rfl, hrE, hxn⟩; dsimp only at hrE ⊢; replace hcur := hcur.trans hxn)
        | (go_at_call 30; refine (T5.out B E1 b e1 _ (hrX4.out.ext hcur) hrE).mono ?_; rintro e wn ⟨rfl, hxn⟩; replace hcur := hcur.trans hxn)
        | (go_at_call 32; refine (T1.out B b _ (hrX4.out.ext hcur)).mono ?_; rintro e wn ⟨rfl, hxn⟩; replace hcur := hcur.trans hxn)
        | (go_at_call 33; refine (T2.out B b _ (hrX4.out.ext hcur)).mono ?_; rintro e wn ⟨rfl, hxn⟩; replace hcur := hcur.trans hxn)
        | (go_at_call 34; refine (T3.out B b _ (hrX4.out.ext hcur)).mono ?_; rintro e wn ⟨rfl, hxn⟩; replace hcur := hcur.trans hxn)
        | (go_at_call 35; refine (HCN.out _ (HR4.out.ext hcur)).mono ?_; rintro e wn ⟨rfl, hxq⟩; subst hxq)
        | (go_at_call 37; refine (T4.out B b _ (hrX4.out.ext hcur)).mono ?_; rintro e wn ⟨G1, g1, rfl, _, hG1, hxn⟩; replace hcur := hcur.trans hxn; have hcK := Ext.refl wn)
        | (go_at_call 38; refine (HKI.out _ (HR4.out.ext hcur)).mono ?_; rintro e wn ⟨G2, g2, rfl, _, hG2, hxn⟩; replace hcur := hcur.trans hxn; have hcI := Ext.refl wn)
        | (go_at_call 36; refine (sameK K hkl G1 G2 g1 g2 _ (hG1.ext hxn) hG2).mono ?_; rintro e wn ⟨rfl, hxn⟩; replace hcur := hcur.trans hxn)
        | (go_at_call 36; refine (sameK K hkl G1 G2 g1 g2 _ hG1 (hG2.ext hxn)).mono ?_; rintro e wn ⟨rfl, hxn⟩; replace hcur := hcur.trans hxn)
        | (go_at_call 27; refine (waves_calls _).mono ?_; rintro e wn ⟨rfl, hxn⟩; replace hcur := hcur.trans hxn))
    all_goals
      go_wp2_with fail
      go_ret
      exact ⟨rfl, hxW4.trans hcur⟩

theorem waveTells_walk (l : List Int) (A : Option Addr) (c : Nat) (deep n i k : Int) (w : World) (hA : A = none → c = 0) (hr : Rd w A l.length (fun k => .int .i64 (nth l k))) :
    Calls Try.prog 7 #[.slice A l.length c, .int .i64 deep, .int .i64 n, .int .i64 i, .int .i64 k] w fun e w' => e = .returned (.bool true) ∧ Ext w w' := by
  by_cases g0 : 200 < l.length
  · exact wt_big l A c deep n i k w g0
  · by_cases hf : fitsP l deep
    · by_cases g1 : 11 < deep
      · exact wt_over l A c deep n i k w (by omega) g1 hf hr
      · obtain ⟨ln, d, rfl, rfl, hd, hln⟩ := fits_nat hf
        have h := wt_yes ln A c d n i k w (by rw [List.length_map] at g0; omega) hA ⟨hd.1, by omega⟩ hln (rd_back hr)
        rw [List.length_map]
        exact h
    · exact wt_no l A c deep n i k w (by omega) hA hf hr

section
variable {H : Type} {enc : TypeId × Value → H} {W : World}
set_option maxRecDepth 100000 in
theorem waveTells_calls {r : Reach} {base : Nat} {v0 v1 v2 v3 v4 : Value} {d0 d1 d2 d3 d4 : DataW H} {p0 p1 p2 p3 p4 : List MemPlace}
    (hsz : (DataW.weightsEach Try.prog [24, 3, 3, 3, 3] [d0, d1, d2, d3, d4]).all (· ≤ reachBytes) = true)
    (hv0 : Value.okWide Try.prog W r base 24 v0) (h0 : DataW.Trod enc Try.prog W 0 (fun _ => true) true 24 v0 d0 p0)
    (hv1 : Value.okWide Try.prog W r base 3 v1) (h1 : DataW.Trod enc Try.prog W 0 (fun _ => true) true 3 v1 d1 p1)
    (hv2 : Value.okWide Try.prog W r base 3 v2) (h2 : DataW.Trod enc Try.prog W 0 (fun _ => true) true 3 v2 d2 p2)
    (hv3 : Value.okWide Try.prog W r base 3 v3) (h3 : DataW.Trod enc Try.prog W 0 (fun _ => true) true 3 v3 d3 p3)
    (hv4 : Value.okWide Try.prog W r base 3 v4) (h4 : DataW.Trod enc Try.prog W 0 (fun _ => true) true 3 v4 d4 p4) :
    Calls Try.prog 7 #[v0, v1, v2, v3, v4] W fun e w' => e = .returned (.bool true) ∧ Ext W w' := by
  simp only [DataW.weightsEach, List.all_append, Bool.and_eq_true] at hsz
  obtain ⟨A, c, l, rfl, hr, _, hl, hA⟩ := open_ints hv0 h0 hsz.1
  obtain ⟨deep, rfl, rfl, rfl, wd⟩ := open_int Try.underlying3 hv1 h1
  obtain ⟨n, rfl, rfl, rfl, wn⟩ := open_int Try.underlying3 hv2 h2
  obtain ⟨i, rfl, rfl, rfl, wi⟩ := open_int Try.underlying3 hv3 h3
  obtain ⟨k, rfl, rfl, rfl, wk⟩ := open_int Try.underlying3 hv4 h4
  exact waveTells_walk l A c deep n i k W hA hr
end
end Go.Proofs.Ytjfdlibceldanaa
