/- text.Signs of a book of whatever words: the walk. wave.Count and Kinds of a wave of whatever numbers. -/
import Derived.Test.YtjfdlibceldanacGreatDoorTxtQ
import Derived.Test.YtjfdlibceldanacGreatDoorRawP1
import Derived.Test.YtjfdlibceldanacGreatDoorWvKinds
import Derived.Test.YtjfdlibceldanacGreatDoorWvCalls
/-! text.Signs of a book of whatever words: the walk. -/
namespace Go.Proofs.YtjfdlibceldanacGreatDoor.Raw
open Go.Proofs.YtjfdlibceldanacGreatDoor Go.RowKit Go.Sort Tx

/-- Where the search comes to. -/
def numR (W : List (List UInt8)) (x : List UInt8) : Nat := Lib.bsGo (fun t => Op.bytesLess ((if t < W.length then (⟨(nth W t).toArray⟩ : ByteArray) else ⟨x.toArray⟩)).toList (ByteArray.mk x.toArray).toList) W.length 0 W.length
def foundR (W : List (List UInt8)) (x : List UInt8) : Prop := numR W x < W.length ∧ nth W (numR W x) = x
instance (W : List (List UInt8)) (x : List UInt8) : Decidable (foundR W x) := inferInstanceAs (Decidable (_ ∧ _))
theorem bsGo_le (p : Nat → Bool) : ∀ (f i j : Nat), i ≤ j → Lib.bsGo p f i j ≤ j
  | 0, i, j, h => by unfold Lib.bsGo; exact h
  | f + 1, i, j, h => by
    unfold Lib.bsGo
    split
    · split
      · exact bsGo_le p f _ _ (by omega)
      · exact Nat.le_trans (bsGo_le p f _ _ (by omega)) (by omega)
    · exact h
theorem numR_le (W : List (List UInt8)) (x : List UInt8) : numR W x ≤ W.length := bsGo_le _ _ _ _ (Nat.zero_le _)
theorem searchS_calls (W : List (List UInt8)) (x : List UInt8) (A : Option Addr) (c : Nat) (w : World) (hl : W.length ≤ 1048576) (hr : RdS w A W) :
    Calls Tryz.prog 18 #[.slice A W.length c, str x] w fun e w' => e = .returned (.tuple #[.int .i64 (numR W x : Nat), .bool (decide (foundR W x))]) ∧ Ext w w' := by
  by_cases h0 : W.length = 0
  · obtain rfl : W = [] := List.length_eq_zero_iff.1 h0
    refine (Any2.slices_BinarySearch_string_empty Tryz.laysNm226 A c ⟨x.toArray⟩ w).mono ?_
    rintro e w' ⟨rfl, rfl⟩
    refine ⟨?_, Ext.refl _⟩
    rw [decide_eq_false (fun q : foundR [] x => absurd q.1 (Nat.not_lt_zero _))]
    rfl
  · obtain ⟨b, o, rfl, hb, hc⟩ := hr (by omega)
    have h := Any2.slices_BinarySearch_string Tryz.laysNm226 b o W.length c (fun t => if t < W.length then ⟨(nth W t).toArray⟩ else ⟨x.toArray⟩) ⟨x.toArray⟩ w (by omega) (fun j hj => by rw [hc j hj]; simp [hj])
    have key : Lib.bsGo (fun t => Op.bytesLess ((if t < W.length then (⟨(nth W t).toArray⟩ : ByteArray) else ⟨x.toArray⟩)).toList (ByteArray.mk x.toArray).toList) W.length 0 W.length = numR W x := rfl
    rw [key] at h
    have hd : decide (numR W x < W.length ∧ (if numR W x < W.length then (⟨(nth W (numR W x)).toArray⟩ : ByteArray) else ⟨x.toArray⟩) = ⟨x.toArray⟩) = decide (foundR W x) := by
      apply decide_eq_decide.2
      unfold foundR
      constructor
      · rintro ⟨h1, h2⟩
        rw [if_pos h1] at h2
        refine ⟨h1, ?_⟩
        have := congrArg (fun b : ByteArray => b.data.toList) h2
        simpa using this
      · rintro ⟨h1, h2⟩
        exact ⟨h1, by rw [if_pos h1, h2]⟩
    rw [hd] at h
    refine h.mono ?_
    rintro e w' ⟨rfl, q, rfl⟩
    exact ⟨rfl, (Ext.refl w).drewN q⟩
/-- The sign of a word, or of a line's end. -/
def signVR (W : List (List UInt8)) (t : List UInt8) : Nat := if t = [10] then 1 else numR W t + 2
def sigsR (W T : List (List UInt8)) (i : Nat) : List Nat := (T.take i).map (signVR W)
theorem sigsR_succ {W T : List (List UInt8)} {i : Nat} (h : i < T.length) : sigsR W T (i + 1) = sigsR W T i ++ [signVR W (nth T i)] := by
  unfold sigsR
  rw [List.take_succ_eq_append_getElem h, List.map_append, nth_lt h]
  rfl
theorem sigsR_len {W T : List (List UInt8)} {i : Nat} (h : i ≤ T.length) : (sigsR W T i).length = i := by
  unfold sigsR
  rw [List.length_map, List.length_take]; omega
set_option maxHeartbeats 4000000 in
set_option maxRecDepth 100000 in
theorem signs_calls (W : List (List UInt8)) (hWl : W.length ≤ 1048576) (WA TA : Option Addr) (wc tn tc : Nat) (s : List UInt8) (hs : s.length ≤ 16777216) (m : Int) (w : World) (hm : w.cell? ⟨0, 0, none⟩ = some (.int .i64 m)) (hr : RdS w WA W) :
    Calls Tryz.prog 9 #[.agg #[.slice WA W.length wc, .slice TA tn tc], str s] w fun e w' =>
      ((∀ t ∈ toks s, t = [10] ∨ foundR W t) ∧ ∃ P p, e = .returned (.tuple #[.slice P (sigsR W (toks s) (toks s).length).length p, .bool true]) ∧ (P = none → p = 0) ∧ Rd w' P (sigsR W (toks s) (toks s).length).length (fun k => .int .i64 (nth (sigsR W (toks s) (toks s).length) k : Nat)) ∧ Ext w w' ∧ (sigsR W (toks s) (toks s).length).length ≤ p) ∨
      ((∃ t ∈ toks s, ¬ (t = [10] ∨ foundR W t)) ∧ e = .returned (.tuple #[.slice none 0 0, .bool false]) ∧ Ext w w') := by
  obtain ⟨ii, hi, hj0, hj1, hj2⟩ := info_parts info_intT
  have hfl : (s.flatMap nl).length ≤ 50331648 := by
    rw [nl_count]; have := List.count_le_length (a := 10) (l := s); omega
  have htl := toks_len s
  have cR := fun w hm => replace_calls s m w hs hm
  have cF : ∀ w, Calls Tryz.prog 15 #[str (s.flatMap nl), .func (.func 17) #[] #[]] w fun e w' => ∃ A, e = .returned (.slice (some ⟨A, 0, none⟩) (toks s).length (toks s).length) ∧ RdS w' (some ⟨A, 0, none⟩) (toks s) ∧ Ext w w' := fun w => by
    refine (fields_signs (s.flatMap nl) w (by omega)).mono ?_
    rintro e w' ⟨A, rfl, ho, hx⟩
    exact ⟨A, rfl, RdS.own ho, hx⟩
  have cS := fun x c w hr => searchS_calls W x WA c w hWl hr
  obtain ⟨X, hX⟩ : ∃ X, s.flatMap nl = X := ⟨_, rfl⟩
  obtain ⟨T, hT⟩ : ∃ T, toks s = T := ⟨_, rfl⟩
  rw [hX] at cR cF hfl htl
  rw [hT] at cF htl ⊢
  obtain ⟨N, hN⟩ : ∃ N, T.length = N := ⟨_, rfl⟩
  have HSU := Lib.hid (fun i => sigsR_succ (W := W) (T := T) (i := i))
  have HSL := Lib.hid (fun i => sigsR_len (W := W) (T := T) (i := i))
  rw [hN] at cF htl HSU HSL ⊢
  have HNT := Lib.hid hN
  have CR := Lib.hid cR; have CF := Lib.hid cF; have CS := Lib.hid cS
  have HM := Lib.hid hm; have HR := Lib.hid hr
  have HB : N ≤ 50331648 := by omega
  clear cR cF cS hX hT hN hm hr htl hfl hs
  go_enter Tryz.func9, Tryz.ntmps9
  go_wp2_with fail
  generalize hW1 : World.alloc w _ = W1
  have bx := bk_of hW1
  have hx := ext_of_alloc hW1
  clear hW1
  with_reducible refine (CR.out W1 (ecell HM.out hx)).mono ?_
  rintro e w2 ⟨rfl, hx2⟩
  go_wp2_with fail
  with_reducible refine (CF.out w2).mono ?_
  rintro e w3 ⟨A, rfl, hA, hx3⟩
  have hxx := (hx.trans hx2).trans hx3
  have BX := Lib.hid (bx.ext (hx2.trans hx3))
  have HA : Hid (Rd w3 (some ⟨A, 0, none⟩) N (fun k => str (nth T k))) := by
    have h : Rd w3 (some ⟨A, 0, none⟩) T.length (fun k => str (nth T k)) := hA
    rw [HNT.out] at h
    exact h
  generalize w.heap.size = B at *
  clear hA hx hx2 hx3 bx CR CF
  go_wp2_with fail
  go_loopw [15, 6] (fun vi vs wr => ∃ i : Nat, vi = .int .i64 i ∧ i ≤ N ∧ Hid (wr.ownsRow w3.heap.size 3 1 vs i ((sigsR W T i).map fun x => Value.int .i64 (x : Nat))) ∧ Ext w3 wr ∧ Hid (∀ j, j < i → nth T j = [10] ∨ foundR W (nth T j))) (fun vi _ _ => N - (intOf vi).toNat)
  case atStart => exact ⟨0, rfl, Nat.zero_le _, own_nil _ _ _ _, Ext.refl _, fun j hj => absurd hj (Nat.not_lt_zero _)⟩
  case round => as_aux_lemma =>
    obtain ⟨i, rfl, hi', HO, hxr, HJ⟩ := hrel
    by_cases g : i < N
    · have b0 := (BX.out.ext hxr).cell 0
      obtain ⟨bA, oA, hAA, hbA, hcA⟩ := (HA.out.ext hxr) (by omega)
      injection hAA with hAA
      injection hAA with h1 h2 h3
      subst h1; subst h2
      have p1 := hcA i g
      dsimp only at p1
      rw [Nat.zero_add] at p1
      obtain ⟨t, ht⟩ : ∃ t, nth T i = t := ⟨_, rfl⟩
      rw [ht] at p1
      have cs := CS.out t wc wr (HR.out.ext (hxx.trans hxr))
      have hsu := HSU.out i g
      rw [ht] at hsu
      have HSU2 := Lib.hid hsu; have HT1 := Lib.hid ht; have CS1 := Lib.hid cs
      have hnl := numR_le W t
      clear hcA hsu ht cs
      go_wp2_with fail
      with_reducible refine CS1.out.mono ?_
      rintro e w4 ⟨rfl, hx4⟩
      have HX4 := hxr.trans hx4
      have HO4 : Hid (w4.ownsRow w3.heap.size 3 1 u6 i ((sigsR W T i).map fun x => Value.int .i64 (x : Nat))) := own_ext HO.out hx4
      have hsz : w3.heap.size ≤ w4.heap.size := HX4.size
      have HXF := hxx.trans HX4
      clear HO CS1 hxr hx4 b0 p1 hbA
      by_cases g1 : t = [10]
      · have hs1 : signVR W t = 1 := by unfold signVR; rw [if_pos g1]
        rw [hs1] at HSU2
        go_wp2_with (at_builtin; refine wpList_app1 (by rfl) _ _ 23 rfl w3.heap.size 3 ii (.int .i64 0) 8 Tryz.underlying23 hi hj0 hj1 hj2 rfl _ i _ rfl w4 (.int .i64 1) 3 rfl HO4.out rfl rfl ?d1 ?d2 hsz ?_)
        case d1 => omega
        case d2 => omega
        intro gb cap w5 own5 hgr5
        have hx5 := HX4.grown hgr5 (fun k hk => (own_row_ge HO4.out k hk).1)
        have HO5 : Hid (w5.ownsRow w3.heap.size 3 1 (.slice (some ⟨gb, 0, none⟩) (i + 1) cap) (i + 1) ((sigsR W T (i + 1)).map fun x => Value.int .i64 (x : Nat))) := by
          show World.ownsRow _ _ _ _ _ _ _
          rw [HSU2.out, List.map_append]; exact own5
        clear own5 hgr5 HO4 HX4 HXF
        go_wp2_with fail
        refine ⟨⟨i + 1, by go_num, by omega, HO5, hx5, fun j hj => ?_⟩, by simp [intOf]; omega⟩
        by_cases e : j = i
        · subst e; left; rw [HT1.out, g1]
        · exact HJ.out j (by omega)
      · have g1' : (t == [10]) = false := by simpa using g1
        by_cases g2 : foundR W t
        · have g2' : decide (foundR W t) = true := decide_eq_true g2
          have hs1 : signVR W t = numR W t + 2 := by unfold signVR; rw [if_neg g1]
          rw [hs1] at HSU2
          rw [g2']
          obtain ⟨y, hy⟩ : ∃ y, numR W t = y := ⟨_, rfl⟩
          rw [hy] at HSU2 hnl ⊢
          have hw : IntKind.i64.wrap ((y : Int) + 2) = (y : Int) + 2 := IntWalk.i64_in _ (by omega)
          clear hy hs1
          go_wp2_with (at_builtin; refine wpList_app1 (by rfl) _ _ 23 rfl w3.heap.size 3 ii (.int .i64 0) 8 Tryz.underlying23 hi hj0 hj1 hj2 rfl _ i _ rfl w4 (.int .i64 ((y : Int) + 2)) 3 rfl HO4.out rfl rfl ?d1 ?d2 hsz ?_)
          case d1 => omega
          case d2 => omega
          intro gb cap w5 own5 hgr5
          have hx5 := HX4.grown hgr5 (fun k hk => (own_row_ge HO4.out k hk).1)
          have HO5 : Hid (w5.ownsRow w3.heap.size 3 1 (.slice (some ⟨gb, 0, none⟩) (i + 1) cap) (i + 1) ((sigsR W T (i + 1)).map fun x => Value.int .i64 (x : Nat))) := by
            show World.ownsRow _ _ _ _ _ _ _
            rw [HSU2.out, List.map_append]; exact own5
          clear own5 hgr5 HO4 HX4 HXF
          go_wp2_with fail
          refine ⟨⟨i + 1, by go_num, by omega, HO5, hx5, fun j hj => ?_⟩, by simp [intOf]; omega⟩
          by_cases e : j = i
          · subst e; right; rw [HT1.out]; exact g2
          · exact HJ.out j (by omega)
        · have g2' : decide (foundR W t) = false := decide_eq_false g2
          rw [g2']
          clear HO4
          go_wp2_with fail
          go_ret2
          refine Or.inr ⟨⟨t, ?_, fun q => ?_⟩, rfl, HXF⟩
          · rw [← HT1.out]; exact nth_mem (by rw [HNT.out]; exact g)
          · rcases q with q | q
            · exact g1 q
            · exact g2 q
    · obtain rfl : i = N := by omega
      obtain ⟨P, p, rfl⟩ := own_form HO.out
      have hall : ∀ t ∈ T, t = [10] ∨ foundR W t := fun t ht => by
        obtain ⟨j, hj, rfl⟩ := List.getElem_of_mem ht
        have := HJ.out j (by rw [HNT.out] at hj; exact hj)
        rwa [nth_lt hj] at this
      have hln := HSL.out i (Nat.le_refl _)
      have HO1 : Hid (wr.ownsRow w3.heap.size 3 1 (.slice P (sigsR W T i).length p) (sigsR W T i).length ((sigsR W T i).map fun x => Value.int .i64 (x : Nat))) := by
        show World.ownsRow _ _ _ _ _ _ _
        rw [hln]; exact HO.out
      clear HO HJ
      go_wp2_with fail
      go_ret2
      refine Or.inl ⟨hall, P, p, by rw [hln]; rfl, own_noneT HO1.out, rdN_own HO1.out, hxx.trans hxr, own_capT HO1.out⟩
end Go.Proofs.YtjfdlibceldanacGreatDoor.Raw

/-! wave.Count and Kinds of a wave of whatever numbers. -/
namespace Go.Proofs.YtjfdlibceldanacGreatDoor.Raw
open Go.Proofs.YtjfdlibceldanacGreatDoor Go.RowKit Go.Sort Wv

set_option maxHeartbeats 2000000 in
set_option maxRecDepth 100000 in
theorem wcount_bad (x : PW) (hx : x.Ok) (h : goodW x = false) (A : Option Addr) (c : Nat) (n i : Int) (w : World) (hr : RdL w A x.L) :
    Calls Tryz.prog 56 #[.agg #[.int .i64 x.N, .int .i64 x.Deep, .slice A x.L.length c], .int .i64 n, .int .i64 i] w fun e w' => e = .returned (.int .i64 0) ∧ Ext w w' := by
  have hg := fun w hr => wgood_calls x hx A c w hr
  rw [h] at hg
  have HG := Lib.hid hg
  clear hg hx h
  go_enter Tryz.func56, Tryz.ntmps56
  go_wp2_with fail
  generalize hW : World.alloc w _ = W
  have bx := bx3_of hW
  have hxW := ext_of_alloc hW
  clear hW
  with_reducible refine (HG.out W (hr.ext hxW)).mono ?_
  rintro e w1 ⟨rfl, hx1⟩
  obtain ⟨x0, x1, x2⟩ := bx.ext hx1
  go_wp2_with fail
  go_ret
  exact ⟨rfl, hxW.trans hx1⟩
set_option maxHeartbeats 2000000 in
set_option maxRecDepth 100000 in
theorem wkinds_bad (x : PW) (hx : x.Ok) (h : goodW x = false) (A : Option Addr) (c : Nat) (f t : Int) (w : World) (hr : RdL w A x.L) :
    Calls Tryz.prog 68 #[.agg #[.int .i64 x.N, .int .i64 x.Deep, .slice A x.L.length c], .int .i64 f, .int .i64 t] w fun e w' => e = .returned (.slice none 0 0) ∧ Ext w w' := by
  have hg := fun w hr => wgood_calls x hx A c w hr
  rw [h] at hg
  have HG := Lib.hid hg
  clear hg hx h
  go_enter Tryz.func68, Tryz.ntmps68
  go_wp2_with fail
  generalize hW : World.alloc w _ = W
  have bx := bx3_of hW
  have hxW := ext_of_alloc hW
  clear hW
  with_reducible refine (HG.out W (hr.ext hxW)).mono ?_
  rintro e w1 ⟨rfl, hx1⟩
  obtain ⟨x0, x1, x2⟩ := bx.ext hx1
  go_wp2_with fail
  go_ret
  exact ⟨rfl, hxW.trans hx1⟩
theorem made_len {ln : List Nat} {d : Nat} (hd : 1 ≤ d ∧ d ≤ 16) (hf : ∀ y ∈ ln, y < 2 ^ d) (hp : ∀ b ∈ (waveOf ln d).L, b.P.length ≤ 1048576) : ln.length ≤ 17592186044416 := by
  have h0 : (waveOf ln d).L.length = d := levelsOf_length ln d d
  have h1 := hp _ (nth_mem (l := (waveOf ln d).L) (k := 0) (by omega))
  rw [waveOf_at ln d (by omega), bitsOf_P_length, bitsAt_length hf (Nat.zero_le _)] at h1
  omega
theorem wave_ex (x : PW) (hx : x.Ok) (hp : ∀ b ∈ x.L, b.P.length ≤ 1048576) : ∃ cf kf : Int → Int → Nat, (∀ f t, kf f t ≤ 65536) ∧
    (∀ (A : Option Addr) (c : Nat) (n i : Int) (w : World), RdL w A x.L → Calls Tryz.prog 56 #[.agg #[.int .i64 x.N, .int .i64 x.Deep, .slice A x.L.length c], .int .i64 n, .int .i64 i] w fun e w' => e = .returned (.int .i64 (cf n i : Nat)) ∧ Ext w w') ∧
    (∀ (A : Option Addr) (c : Nat) (f t : Int) (w : World), RdL w A x.L → Calls Tryz.prog 68 #[.agg #[.int .i64 x.N, .int .i64 x.Deep, .slice A x.L.length c], .int .i64 f, .int .i64 t] w fun e w' => ∃ P p, e = .returned (.slice P (kf f t) p) ∧ Ext w w') := by
  cases h : goodW x with
  | false =>
    refine ⟨fun _ _ => 0, fun _ _ => 0, fun _ _ => Nat.zero_le _, fun A c n i w hr => wcount_bad x hx h A c n i w hr, fun A c f t w hr => (wkinds_bad x hx h A c f t w hr).mono ?_⟩
    rintro e w' ⟨rfl, hx⟩
    exact ⟨none, 0, rfl, hx⟩
  | true =>
    obtain ⟨ln, d, hd, hf, rfl⟩ := Any.wave_good x hx h
    have hl := made_len hd hf hp
    refine ⟨fun n i => ((ln.map Int.ofNat).take i.toNat).count n, fun f t => (kindsT d ln (cl f ln.length) (cl t ln.length) d 0).length, fun f t => kindsT_len d ln _ _ d 0 (Nat.le_refl _) hd.2, fun A c n i w hr => wcount_calls ln d hd hl hf A c n i w hr, fun A c f t w hr => (wkinds_calls ln d hd hl hf A c f t w hr).mono ?_⟩
    rintro e w' ⟨P, p, rfl, _, _, hx⟩
    exact ⟨P, p, rfl, hx⟩
end Go.Proofs.YtjfdlibceldanacGreatDoor.Raw
