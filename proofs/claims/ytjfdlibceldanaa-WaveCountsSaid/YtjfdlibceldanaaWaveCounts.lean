/- WaveCounts: the law's walk. -/
import Derived.Test.YtjfdlibceldanaaWaveTells
namespace Go.Proofs.Ytjfdlibceldanaa
open Go.ChangeShapes Go.WideShapes Go.ChangeAt Go.RowKit Wv

/-- What the law asks of a wave. -/
structure WC (X : PW) (l : List Nat) (d f t : Nat) (K : List Nat) : Prop where
  at' : ∀ A c (i : Nat) w, i < l.length → RdL w A X.L → Calls Try.prog 33 #[.agg #[.int .i64 X.N, .int .i64 X.Deep, .slice A X.L.length c], .int .i64 i] w fun e w' => e = .returned (.int .i64 (nth l i : Nat)) ∧ Ext w w'
  count : ∀ A c (x i : Nat) w, x < 2 ^ d → i ≤ l.length → RdL w A X.L → Calls Try.prog 34 #[.agg #[.int .i64 X.N, .int .i64 X.Deep, .slice A X.L.length c], .int .i64 x, .int .i64 i] w fun e w' => e = .returned (.int .i64 ((l.take i).count x : Nat)) ∧ Ext w w'
  kinds : ∀ A c w, RdL w A X.L → Calls Try.prog 37 #[.agg #[.int .i64 X.N, .int .i64 X.Deep, .slice A X.L.length c], .int .i64 f, .int .i64 t] w (RetInts K w)
theorem cl_in {i n : Nat} (h : i ≤ n) : cl (i : Int) n = i := by unfold cl; omega
theorem wc_of (l : List Nat) (d : Nat) (hd : 1 ≤ d ∧ d ≤ 16) (hl : l.length ≤ 17592186044416) (hf : ∀ x ∈ l, x < 2 ^ d) (f t : Nat) (h1 : f ≤ l.length) (h2 : t ≤ l.length) : WC (waveOf l d) l d f t (selK l f t (2 ^ d)) where
  at' A c i w hi hr := wat_yes l d hd hl hf A c i hi w hr
  count A c x i w hx hi hr := by
    have h := wcount_yes l d hd hl hf A c x i hx w hr
    rw [cl_in hi] at h
    exact h
  kinds A c w hr := by
    have h := wkinds_calls l d hd hl hf A c f t w hr
    rw [cl_in h1, cl_in h2, kinds_sel] at h
    exact h

set_option maxHeartbeats 4000000 in
set_option maxRecDepth 100000 in
theorem wc_no (l : List Int) (A : Option Addr) (c : Nat) (deep f0 t0 : Int) (w : World) (hl : l.length ≤ 17592186044416) (hf : ¬ fitsP l deep) (hr : Rd w A l.length (fun k => .int .i64 (nth l k))) :
    Calls Try.prog 8 #[.slice A l.length c, .int .i64 deep, .int .i64 f0, .int .i64 t0] w fun e w' => e = .returned (.bool true) ∧ Ext w w' := by
  have hmk := make_no l deep A c w hl hr hf
  have HMK := Lib.hid hmk
  clear hmk hf
  go_enter Try.func8, Try.ntmps8
  go_wp2_with fail
  refine HMK.out.mono ?_
  rintro e w1 ⟨rfl, hx1⟩
  go_wp2_with fail
  generalize hW : World.alloc w1 _ = W
  have hxW := hx1.trans (ext_of_alloc hW)
  clear hW
  refine (wavesK_calls W).mono ?_
  rintro e w2 ⟨rfl, hx2⟩
  go_wp2_with fail
  go_ret
  exact ⟨rfl, hxW.trans hx2⟩
set_option maxHeartbeats 4000000 in
set_option maxRecDepth 100000 in
theorem wc_big (l : List Nat) (A : Option Addr) (c d : Nat) (f0 t0 : Int) (w : World) (hA : A = none → c = 0) (hl : l.length ≤ 17592186044416) (h : 200 < l.length) (hd : 1 ≤ d ∧ d ≤ 16) (hf : ∀ x ∈ l, x < 2 ^ d) (hr : Rd w A l.length (fun k => .int .i64 (nth l k : Nat))) :
    Calls Try.prog 8 #[.slice A l.length c, .int .i64 d, .int .i64 f0, .int .i64 t0] w fun e w' => e = .returned (.bool true) ∧ Ext w w' := by
  have g0' : decide ((200 : Int) < l.length) = true := by simp; omega
  have hmk := wmake_yes l d A c w hd hl hf hA hr
  obtain ⟨X, hX⟩ : ∃ X, waveOf l d = X := ⟨_, rfl⟩
  rw [hX] at hmk
  obtain ⟨N, D, L⟩ := X
  have HMK := Lib.hid hmk
  clear hmk hf hX
  go_enter Try.func8, Try.ntmps8
  go_wp2_with fail
  refine HMK.out.mono ?_
  rintro e w1 ⟨B, b, rfl, _, _, hx1⟩
  dsimp only
  go_wp2_with fail
  generalize hW : World.alloc w1 _ = W
  have hxW := hx1.trans (ext_of_alloc hW)
  clear hW
  refine (wavesK_calls W).mono ?_
  rintro e w2 ⟨rfl, hx2⟩
  go_wp2_with fail
  go_ret
  exact ⟨rfl, hxW.trans hx2⟩

set_option maxHeartbeats 8000000 in
set_option maxRecDepth 100000 in
theorem wc_yes (l : List Nat) (A : Option Addr) (c d : Nat) (f0 t0 : Int) (w : World) (hA : A = none → c = 0) (hl : l.length ≤ 200) (hd : 1 ≤ d ∧ d ≤ 16) (hf : ∀ x ∈ l, x < 2 ^ d) (hr : Rd w A l.length (fun k => .int .i64 (nth l k : Nat))) :
    Calls Try.prog 8 #[.slice A l.length c, .int .i64 d, .int .i64 f0, .int .i64 t0] w fun e w' => e = .returned (.bool true) ∧ Ext w w' := by
  have g0' : decide ((200 : Int) < l.length) = false := by simp; omega
  have hmk := wmake_yes l d A c w hd (by omega) hf hA hr
  have hcf := cl_max f0 l.length
  have hct := cl_max t0 l.length
  have hf2 : cl f0 l.length ≤ l.length := Nat.min_le_right _ _
  have ht2 : cl t0 l.length ≤ l.length := Nat.min_le_right _ _
  obtain ⟨f, hfe⟩ : ∃ f, cl f0 l.length = f := ⟨_, rfl⟩
  obtain ⟨t, hte⟩ : ∃ f, cl t0 l.length = f := ⟨_, rfl⟩
  rw [hfe] at hcf hf2
  rw [hte] at hct ht2
  have hwc := wc_of l d hd (by omega) hf f t hf2 ht2
  have hup := selK_up l f t (2 ^ d)
  have hlt := selK_lt l f t (2 ^ d)
  have hme := selK_mem l f t (2 ^ d)
  have hsm := selK_sum l f t (2 ^ d) ht2 hf
  have hkl : (selK l f t (2 ^ d)).length ≤ 65536 := by
    unfold selK
    refine Nat.le_trans (List.length_filter_le ..) ?_
    rw [List.length_range]; exact pow16 hd.2
  have hp16 := pow16 hd.2
  have hmx : ∀ i, i < l.length → nth l i < 2 ^ d := fun i hi => hf _ (nth_mem hi)
  obtain ⟨K, hK⟩ : ∃ K, selK l f t (2 ^ d) = K := ⟨_, rfl⟩
  rw [hK] at hwc hup hlt hme hsm hkl
  have hs0 : sumK l f t K 0 = 0 := rfl
  have hss := sumK_succ l f t K
  have hse : sumK l f t K K.length = t - f := by unfold sumK; rw [List.take_length]; exact hsm
  have hcl : ∀ x i, (l.take i).count x ≤ 200 := fun x i => by
    have := List.count_le_length (a := x) (l := l.take i)
    rw [List.length_take] at this; omega
  have hsb : ∀ j, j ≤ K.length → sumK l f t K j ≤ 200 * j := fun j => by
    induction j with
    | zero => intro _; rw [hs0]; omega
    | succ j ih =>
      intro hj
      have h1 := ih (by omega)
      have h2 := hcl (nth K j) t
      rw [hss j (by omega)]; omega
  obtain ⟨S, hS⟩ : ∃ S, sumK l f t K = S := ⟨_, rfl⟩
  rw [hS] at hs0 hss hse hsb
  have hcs : ∀ i, i < l.length → (l.take (i + 1)).count (nth l i) = (l.take i).count (nth l i) + 1 := fun i hi => by
    rw [take_succ_nth l i hi, List.count_append]; simp
  obtain ⟨X, hX⟩ : ∃ X, waveOf l d = X := ⟨_, rfl⟩
  rw [hX] at hmk hwc
  obtain ⟨N, D, L⟩ := X
  obtain ⟨t1, t2, t3⟩ := hwc
  dsimp only at t1 t2 t3
  have hfin : ((S K.length : Int) == max 0 ((t : Int) - (f : Int))) = true := by rw [beq_iff_eq, hse]; omega
  have HMK := Lib.hid hmk; have T1 := Lib.hid t1; have T2 := Lib.hid t2; have T3 := Lib.hid t3
  have HUP := Lib.hid hup; have HLT := Lib.hid hlt; have HME := Lib.hid hme; have HS0 := Lib.hid hs0; have HSS := Lib.hid hss; have HSB := Lib.hid hsb; have HCL := Lib.hid hcl; have HCS := Lib.hid hcs; have HFIN := Lib.hid hfin; have HCF := Lib.hid hcf; have HCT := Lib.hid hct; have HMX := Lib.hid hmx; have HP := Lib.hid hp16
  clear hmk t1 t2 t3 hup hlt hme hs0 hss hsb hcl hcs hfin hcf hct hmx hsm hse hX hK hS hf hfe hte hp16
  go_enter Try.func8, Try.ntmps8
  go_wp2_with fail
  refine HMK.out.mono ?_
  rintro e w1 ⟨B, b, rfl, _, hrB, hx1⟩
  dsimp only at hrB ⊢
  go_wp2_with fail
  generalize hW : World.alloc w1 _ = W
  have bx := bx3_of hW
  have hxW := hx1.trans (ext_of_alloc hW)
  have hrX := Lib.hid (hrB.ext (ext_of_alloc hW))
  have HR := Lib.hid (hr.ext hxW)
  generalize w1.heap.size = BX at *
  clear hW hrB hx1 hr
  refine (wavesK_calls W).mono ?_
  rintro e w2 ⟨rfl, hx2⟩
  have HBX := Lib.hid (bx.ext hx2)
  obtain ⟨x0, x1, x2⟩ := bx.ext hx2
  have hxW2 := hxW.trans hx2
  have HR2 := Lib.hid (HR.out.ext hx2)
  have hrX2 := Lib.hid (hrX.out.ext hx2)
  have hcf' : max 0 (min f0 (l.length : Int)) = (f : Int) := HCF.out
  have hct' : max 0 (min t0 (l.length : Int)) = (t : Int) := HCT.out
  clear bx HR hrX
  go_wp2_with fail
  refine (T3.out B b w2 hrX2.out).mono ?_
  rintro e w3 ⟨G, cg, rfl, _, hG, hx3⟩
  have hxW3 := hxW2.trans hx3
  have HBX3 := Lib.hid (HBX.out.ext hx3)
  have HR3 := Lib.hid (HR2.out.ext hx3)
  have hrX3 := Lib.hid (hrX2.out.ext hx3)
  have HG := Lib.hid hG
  clear x0 x1 x2 hcf' hct' HBX HR2 hrX2 hG hxW2
  go_wp2_with fail
  go_loopw [11, 12, 51] (fun vn vl vj wr => ∃ (j : Nat) (la : Int), vj = .int .i64 j ∧ j ≤ K.length ∧ vn = .int .i64 (S j : Nat) ∧ vl = .int .i64 la ∧ Hid (j < K.length → la < (nth K j : Nat)) ∧ Ext w3 wr) (fun _ _ vj _ => K.length - (intOf vj).toNat)
  case atStart => exact ⟨0, -1, rfl, by omega, by rw [HS0.out]; rfl, rfl, fun _ => by omega, Ext.refl _⟩
  case round => as_aux_lemma =>
    obtain ⟨j, la, rfl, hj, rfl, rfl, HLA, hxr⟩ := hrel
    by_cases g1 : j < K.length
    · obtain ⟨b1, o1, hGG, hb1, hc1⟩ := (HG.out.ext hxr) (by omega)
      subst hGG
      have p1 := hc1 j g1
      dsimp only at p1
      clear hc1
      have hla := HLA.out g1
      have hvd := HME.out j g1
      have hlt := HLT.out j g1
      have hss := HSS.out j g1
      have hsb := HSB.out j hj
      have hup := HUP.out j
      have hc1 := HCL.out (nth K j) t
      have hc2 := HCL.out (nth K j) f
      obtain ⟨v, hv⟩ : ∃ v, nth K j = v := ⟨_, rfl⟩
      rw [hv] at p1 hla hvd hlt hss hup hc1 hc2
      have q1 := fun w hr => T2.out B b v t w hvd ht2 hr
      have q2 := fun w hr => T2.out B b v f w hvd hf2 hr
      obtain ⟨ct, hct⟩ : ∃ x, (l.take t).count v = x := ⟨_, rfl⟩
      obtain ⟨cf, hcf⟩ : ∃ x, (l.take f).count v = x := ⟨_, rfl⟩
      rw [hct] at q1 hlt hss hc1
      rw [hcf] at q2 hlt hss hc2
      have hwr : IntKind.i64.wrap ((ct : Int) - (cf : Int)) = ((ct - cf : Nat) : Int) := by rw [IntWalk.i64_in _ (by omega)]; omega
      obtain ⟨m, hm⟩ : ∃ m, ct - cf = m := ⟨_, rfl⟩
      rw [hm] at hwr hss
      have hm1 : decide ((m : Int) < 1) = false := by simp; omega
      have hla2 : decide ((v : Int) ≤ la) = false := by simp; omega
      have hadd : (S j : Int) + (m : Int) = ((S (j + 1) : Nat) : Int) := by rw [hss]; omega
      have hms : m ≤ 200 := by omega
      have hsj : S j ≤ 13107200 := by omega
      have Q1 := Lib.hid q1; have Q2 := Lib.hid q2
      have HSS1 := Lib.hid hss
      have HUP1 : Hid (j + 1 < K.length → ((v : Nat) : Int) < (nth K (j + 1) : Nat)) := fun h => by have := hup h; omega
      have HADD := Lib.hid hadd
      clear hv q1 q2 hct hcf hlt hss hup hla hc1 hc2 hm hsb hadd hvd
      obtain ⟨x0, x1, x2⟩ := HBX3.out.ext hxr
      have hrr := Lib.hid (hrX3.out.ext hxr)
      go_upto_region 10 with fail
      have hcur : Ext wr wr.drew := (Ext.refl wr).drew
      go_region_held3 (fun w' => w'.cell? ⟨BX, 0, none⟩ = some (.int .i64 N) ∧ w'.cell? ⟨BX, 1, none⟩ = some (.int .i64 D) ∧ w'.cell? ⟨BX, 2, none⟩ = some (.slice B L.length b))
        (first | (exact ⟨ecell x0 hcur, ecell x1 hcur, ecell x2 hcur⟩) | go_keep)
        (first
          | (go_at_call_of 34 (Value.int IntKind.i64 (t : Int)); refine (Q1.out _ (hrr.out.ext hcur)).mono ?_; rintro e wn ⟨rfl, hxn⟩; replace hcur := hcur.trans hxn)
          | (go_at_call 34; refine (Q2.out _ (hrr.out.ext hcur)).mono ?_; rintro e wn ⟨rfl, hxn⟩; replace hcur := hcur.trans hxn))
      all_goals
        go_wp2_with fail
        refine ⟨⟨j + 1, v, by go_num, by omega, by rw [← HADD.out], rfl, HUP1, hxr.trans hcur⟩, by simp [intOf]; omega⟩
    · obtain rfl : j = K.length := by omega
      clear HLA
      obtain ⟨w5, rfl⟩ : ∃ w5, w5 = wr := ⟨_, rfl⟩
      go_wp2_with fail
      go_loopw [78] (fun vj wr => ∃ j : Nat, vj = .int .i64 j ∧ j ≤ l.length ∧ Ext w5 wr) (fun vj _ => l.length - (intOf vj).toNat)
      case atStart => exact ⟨0, rfl, by omega, Ext.refl _⟩
      case round => as_aux_lemma =>
        obtain ⟨j, rfl, hj, hx5⟩ := hrel
        have hxr5 := hxr.trans hx5
        by_cases g1 : j < l.length
        · obtain ⟨b1, o1, hAA, hb1, hc1⟩ := (HR3.out.ext hxr5) (by omega)
          subst hAA
          have p1 := hc1 j g1
          dsimp only at p1
          clear hc1
          have hcs := HCS.out j g1
          have hvd := HMX.out j g1
          have hc1 := HCL.out (nth l j) j
          have q0 := fun w hr => T1.out B b j w g1 hr
          obtain ⟨v, hv⟩ : ∃ v, nth l j = v := ⟨_, rfl⟩
          rw [hv] at p1 hcs hvd q0 hc1
          have q1 := fun w hr => T2.out B b v (j + 1) w hvd (by omega) hr
          have q2 := fun w hr => T2.out B b v j w hvd (by omega) hr
          rw [hcs] at q1
          obtain ⟨cj, hcj⟩ : ∃ x, (l.take j).count v = x := ⟨_, rfl⟩
          rw [hcj] at q1 q2 hc1
          have e1 : ((j + 1 : Nat) : Int) = (j : Int) + 1 := by omega
          have e2 : ((cj + 1 : Nat) : Int) = (cj : Int) + 1 := by omega
          rw [e1, e2] at q1
          have Q0 := Lib.hid q0; have Q1 := Lib.hid q1; have Q2 := Lib.hid q2
          have hwj : IntKind.i64.wrap ((j : Int) + 1) = (j : Int) + 1 := IntWalk.i64_in _ (by omega)
          have hwc : IntKind.i64.wrap ((cj : Int) + 1) = (cj : Int) + 1 := IntWalk.i64_in _ (by omega)
          clear hv q0 q1 q2 hcj hcs hvd e1 e2
          obtain ⟨x0, x1, x2⟩ := HBX3.out.ext hxr5
          have hrr := Lib.hid (hrX3.out.ext hxr5)
          go_upto_region 18 with fail
          have hcur : Ext wr wr.drew := (Ext.refl wr).drew
          go_region_held3 (fun w' => w'.cell? ⟨BX, 0, none⟩ = some (.int .i64 N) ∧ w'.cell? ⟨BX, 1, none⟩ = some (.int .i64 D) ∧ w'.cell? ⟨BX, 2, none⟩ = some (.slice B L.length b))
            (first | (exact ⟨ecell x0 hcur, ecell x1 hcur, ecell x2 hcur⟩) | go_keep)
            (first
              | (go_at_call 33; refine (Q0.out _ (hrr.out.ext hcur)).mono ?_; rintro e wn ⟨rfl, hxn⟩; replace hcur := hcur.trans hxn)
              | (go_at_call_of 34 (Value.int IntKind.i64 (j : Int)); refine (Q2.out _ (hrr.out.ext hcur)).mono ?_; rintro e wn ⟨rfl, hxn⟩; replace hcur := hcur.trans hxn)
              | (go_at_call 34; refine (Q1.out _ (hrr.out.ext hcur)).mono ?_; rintro e wn ⟨rfl, hxn⟩; replace hcur := hcur.trans hxn))
          all_goals
            go_wp2_with fail
            refine ⟨⟨j + 1, by go_num, by omega, hx5.trans hcur⟩, by simp [intOf]; omega⟩
        · obtain rfl : j = l.length := by omega
          have hfin := HFIN.out
          go_wp2_with fail
          go_ret
          exact ⟨rfl, hxW3.trans hxr5⟩

theorem waveCounts_walk (l : List Int) (A : Option Addr) (c : Nat) (deep f0 t0 : Int) (w : World) (hl : l.length ≤ 17592186044416) (hA : A = none → c = 0) (hr : Rd w A l.length (fun k => .int .i64 (nth l k))) :
    Calls Try.prog 8 #[.slice A l.length c, .int .i64 deep, .int .i64 f0, .int .i64 t0] w fun e w' => e = .returned (.bool true) ∧ Ext w w' := by
  by_cases hf : fitsP l deep
  · obtain ⟨ln, d, rfl, rfl, hd, hln⟩ := fits_nat hf
    rw [List.length_map] at hl ⊢
    by_cases g0 : 200 < ln.length
    · exact wc_big ln A c d f0 t0 w hA hl g0 hd hln (rd_back hr)
    · exact wc_yes ln A c d f0 t0 w hA (by omega) hd hln (rd_back hr)
  · exact wc_no l A c deep f0 t0 w hl hf hr

section
variable {H : Type} {enc : TypeId × Value → H} {W : World}
set_option maxRecDepth 100000 in
theorem waveCounts_calls {r : Reach} {base : Nat} {v0 v1 v2 v3 : Value} {d0 d1 d2 d3 : DataW H} {p0 p1 p2 p3 : List MemPlace}
    (hsz : (DataW.weightsEach Try.prog [24, 3, 3, 3] [d0, d1, d2, d3]).all (· ≤ reachBytes) = true)
    (hv0 : Value.okWide Try.prog W r base 24 v0) (h0 : DataW.Trod enc Try.prog W 0 (fun _ => true) true 24 v0 d0 p0)
    (hv1 : Value.okWide Try.prog W r base 3 v1) (h1 : DataW.Trod enc Try.prog W 0 (fun _ => true) true 3 v1 d1 p1)
    (hv2 : Value.okWide Try.prog W r base 3 v2) (h2 : DataW.Trod enc Try.prog W 0 (fun _ => true) true 3 v2 d2 p2)
    (hv3 : Value.okWide Try.prog W r base 3 v3) (h3 : DataW.Trod enc Try.prog W 0 (fun _ => true) true 3 v3 d3 p3) :
    Calls Try.prog 8 #[v0, v1, v2, v3] W fun e w' => e = .returned (.bool true) ∧ Ext W w' := by
  simp only [DataW.weightsEach, List.all_append, Bool.and_eq_true] at hsz
  obtain ⟨A, c, l, rfl, hr, _, hl, hA⟩ := open_ints hv0 h0 hsz.1
  obtain ⟨deep, rfl, rfl, rfl, wd⟩ := open_int Try.underlying3 hv1 h1
  obtain ⟨f0, rfl, rfl, rfl, wn⟩ := open_int Try.underlying3 hv2 h2
  obtain ⟨t0, rfl, rfl, rfl, wi⟩ := open_int Try.underlying3 hv3 h3
  exact waveCounts_walk l A c deep f0 t0 W hl hA hr
end
end Go.Proofs.Ytjfdlibceldanaa
