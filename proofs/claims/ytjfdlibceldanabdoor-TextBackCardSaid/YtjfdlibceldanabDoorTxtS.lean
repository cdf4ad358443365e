/- text.Signs: the walk. -/
import Derived.Test.YtjfdlibceldanabDoorTxtD
namespace Go.Proofs.YtjfdlibceldanabDoor
open Go.RowKit Go.Sort Tx

/-- The sign of a word, or of a line's end. -/
def signV (W : List (List UInt8)) (t : List UInt8) : Nat := if t = [10] then 1 else num W t + 2
theorem str_eq (a b : List UInt8) : (ByteArray.mk a.toArray = ByteArray.mk b.toArray) ↔ a = b := by
  constructor
  · intro h
    have := congrArg (fun b : ByteArray => b.data.toList) h
    simpa using this
  · rintro rfl; rfl
/-- Words of a text, and what the ones are numbered as. -/
def sigs (W T : List (List UInt8)) (i : Nat) : List Nat := (T.take i).map (signV W)
theorem sigs_succ {W T : List (List UInt8)} {i : Nat} (h : i < T.length) : sigs W T (i + 1) = sigs W T i ++ [signV W (nth T i)] := by
  unfold sigs
  rw [List.take_succ_eq_append_getElem h, List.map_append, nth_lt h]
  rfl
theorem sigs_len {W T : List (List UInt8)} {i : Nat} (h : i ≤ T.length) : (sigs W T i).length = i := by
  unfold sigs
  rw [List.length_map, List.length_take]; omega
theorem toks_len (s : List UInt8) : (toks s).length ≤ (s.flatMap nl).length := by
  have key : ∀ (t cur : List UInt8), (fl cur t).length ≤ t.length + (if cur = [] then 0 else 1) := by
    intro t
    induction t with
    | nil => intro cur; rw [fl]; split <;> simp
    | cons b t ih =>
      intro cur
      rw [fl]
      split
      · have := ih []
        simp only [if_true] at this
        split
        · simp only [List.length_cons]; omega
        · simp only [List.length_cons]; omega
      · have := ih (cur ++ [b])
        rw [if_neg (by simp)] at this
        simp only [List.length_cons]
        omega
  have := key (s.flatMap nl) []
  simpa [toks, wds] using this

set_option maxHeartbeats 4000000 in
set_option maxRecDepth 100000 in
theorem signs_walk (W : List (List UInt8)) (hW : W.Pairwise fun x y => x < y) (hWl : W.length ≤ 1000000) (WA TA : Option Addr) (wc tn tc : Nat) (s : List UInt8) (hs : s.length ≤ 16777216) (m : Int) (w : World) (hm : w.cell? ⟨0, 0, none⟩ = some (.int .i64 m)) (hr : RdS w WA W) :
    Calls Tryd.prog 7 #[.agg #[.slice WA W.length wc, .slice TA tn tc], str s] w fun e w' =>
      ((∀ t ∈ toks s, t = [10] ∨ t ∈ W) ∧ ∃ P p, e = .returned (.tuple #[.slice P (sigs W (toks s) (toks s).length).length p, .bool true]) ∧ (P = none → p = 0) ∧ Rd w' P (sigs W (toks s) (toks s).length).length (fun k => .int .i64 (nth (sigs W (toks s) (toks s).length) k : Nat)) ∧ Ext w w') ∨
      ((∃ t ∈ toks s, ¬ (t = [10] ∨ t ∈ W)) ∧ e = .returned (.tuple #[.slice none 0 0, .bool false]) ∧ Ext w w') := by
  obtain ⟨ii, hi, hj0, hj1, hj2⟩ := info_parts info_intT
  have hfl : (s.flatMap nl).length ≤ 50331648 := by
    rw [nl_count]; have := List.count_le_length (a := 10) (l := s); omega
  have htl := toks_len s
  have cR := fun w hm => replace_calls s m w hs hm
  have cF : ∀ w, Calls Tryd.prog 18 #[str (s.flatMap nl), .func (.func 29) #[] #[]] w fun e w' => ∃ A, e = .returned (.slice (some ⟨A, 0, none⟩) (toks s).length (toks s).length) ∧ RdS w' (some ⟨A, 0, none⟩) (toks s) ∧ Ext w w' := fun w => by
    refine (fields_signs (s.flatMap nl) w (by omega)).mono ?_
    rintro e w' ⟨A, rfl, ho, hx⟩
    exact ⟨A, rfl, RdS.own ho, hx⟩
  have cS := fun x c w hr => searchS_calls W hW x WA c w hWl hr
  obtain ⟨X, hX⟩ : ∃ X, s.flatMap nl = X := ⟨_, rfl⟩
  obtain ⟨T, hT⟩ : ∃ T, toks s = T := ⟨_, rfl⟩
  rw [hX] at cR cF hfl htl
  rw [hT] at cF htl ⊢
  obtain ⟨N, hN⟩ : ∃ N, T.length = N := ⟨_, rfl⟩
  have HSU := Lib.hid (fun i => sigs_succ (W := W) (T := T) (i := i))
  have HSL := Lib.hid (fun i => sigs_len (W := W) (T := T) (i := i))
  rw [hN] at cF htl HSU HSL ⊢
  have HNT := Lib.hid hN
  have CR := Lib.hid cR; have CF := Lib.hid cF; have CS := Lib.hid cS
  have HM := Lib.hid hm; have HR := Lib.hid hr
  have HB : N ≤ 50331648 := by omega
  clear cR cF cS hX hT hN hm hr htl hfl hs
  go_enter Tryd.func7, Tryd.ntmps7
  go_wp2_with fail
  generalize hW1 : World.alloc w _ = W1
  have bx := bk_of hW1
  have hx := ext_of_alloc hW1
  clear hW1
  with_reducible refine (CR.out W1 (ecell HM.out hx)).mono ?_
  rintro e w2 ⟨rfl, hx2⟩
  go_wp2_with fail
  with_reducible refine (CF.out w2).mono ?_
  rintro e w3 ⟨A, rfl, hA, hx3⟩
  have hxx := (hx.trans hx2).trans hx3
  have BX := Lib.hid (bx.ext (hx2.trans hx3))
  have HA : Hid (Rd w3 (some ⟨A, 0, none⟩) N (fun k => str (nth T k))) := by
    have h : Rd w3 (some ⟨A, 0, none⟩) T.length (fun k => str (nth T k)) := hA
    rw [HNT.out] at h
    exact h
  generalize w.heap.size = B at *
  clear hA hx hx2 hx3 bx CR CF
  go_wp2_with fail
  go_loopw [15, 6] (fun vi vs wr => ∃ i : Nat, vi = .int .i64 i ∧ i ≤ N ∧ Hid (wr.ownsRow w3.heap.size 3 1 vs i ((sigs W T i).map fun x => Value.int .i64 (x : Nat))) ∧ Ext w3 wr ∧ Hid (∀ j, j < i → nth T j = [10] ∨ nth T j ∈ W)) (fun vi _ _ => N - (intOf vi).toNat)
  case atStart => exact ⟨0, rfl, Nat.zero_le _, own_nil _ _ _ _, Ext.refl _, fun j hj => absurd hj (Nat.not_lt_zero _)⟩
  case round => as_aux_lemma =>
    obtain ⟨i, rfl, hi', HO, hxr, HJ⟩ := hrel
    by_cases g : i < N
    · have b0 := (BX.out.ext hxr).cell 0
      obtain ⟨bA, oA, hAA, hbA, hcA⟩ := (HA.out.ext hxr) (by omega)
      injection hAA with hAA
      injection hAA with h1 h2 h3
      subst h1; subst h2
      have p1 := hcA i g
      dsimp only at p1
      rw [Nat.zero_add] at p1
      obtain ⟨t, ht⟩ : ∃ t, nth T i = t := ⟨_, rfl⟩
      rw [ht] at p1
      have cs := CS.out t wc wr (HR.out.ext (hxx.trans hxr))
      have hsu := HSU.out i g
      rw [ht] at hsu
      have HSU2 := Lib.hid hsu; have HT1 := Lib.hid ht; have CS1 := Lib.hid cs
      have hnl := num_le W t
      clear hcA hsu ht cs
      go_wp2_with fail
      with_reducible refine CS1.out.mono ?_
      rintro e w4 ⟨rfl, hx4⟩
      have HX4 := hxr.trans hx4
      have HO4 : Hid (w4.ownsRow w3.heap.size 3 1 u6 i ((sigs W T i).map fun x => Value.int .i64 (x : Nat))) := own_ext HO.out hx4
      have hsz : w3.heap.size ≤ w4.heap.size := HX4.size
      have HXF := hxx.trans HX4
      clear HO CS1 hxr hx4 b0 p1 hbA
      by_cases g1 : t = [10]
      · have hs1 : signV W t = 1 := by unfold signV; rw [if_pos g1]
        rw [hs1] at HSU2
        go_wp2_with (at_builtin; refine wpList_app1 (by rfl) _ _ 23 rfl w3.heap.size 3 ii (.int .i64 0) 8 Tryd.underlying23 hi hj0 hj1 hj2 rfl _ i _ rfl w4 (.int .i64 1) 3 rfl HO4.out rfl rfl ?d1 ?d2 hsz ?_)
        case d1 => omega
        case d2 => omega
        intro gb cap w5 own5 hgr5
        have hx5 := HX4.grown hgr5 (fun k hk => (own_row_ge HO4.out k hk).1)
        have HO5 : Hid (w5.ownsRow w3.heap.size 3 1 (.slice (some ⟨gb, 0, none⟩) (i + 1) cap) (i + 1) ((sigs W T (i + 1)).map fun x => Value.int .i64 (x : Nat))) := by
          show World.ownsRow _ _ _ _ _ _ _
          rw [HSU2.out, List.map_append]; exact own5
        clear own5 hgr5 HO4 HX4 HXF
        go_wp2_with fail
        refine ⟨⟨i + 1, by go_num, by omega, HO5, hx5, fun j hj => ?_⟩, by simp [intOf]; omega⟩
        by_cases e : j = i
        · subst e; left; rw [HT1.out, g1]
        · exact HJ.out j (by omega)
      · have g1' : (t == [10]) = false := by simpa using g1
        by_cases g2 : t ∈ W
        · have g2' : decide (t ∈ W) = true := decide_eq_true g2
          have hs1 : signV W t = num W t + 2 := by unfold signV; rw [if_neg g1]
          rw [hs1] at HSU2
          rw [g2']
          obtain ⟨y, hy⟩ : ∃ y, num W t = y := ⟨_, rfl⟩
          rw [hy] at HSU2 hnl ⊢
          have hw : IntKind.i64.wrap ((y : Int) + 2) = (y : Int) + 2 := IntWalk.i64_in _ (by omega)
          clear hy hs1
          go_wp2_with (at_builtin; refine wpList_app1 (by rfl) _ _ 23 rfl w3.heap.size 3 ii (.int .i64 0) 8 Tryd.underlying23 hi hj0 hj1 hj2 rfl _ i _ rfl w4 (.int .i64 ((y : Int) + 2)) 3 rfl HO4.out rfl rfl ?d1 ?d2 hsz ?_)
          case d1 => omega
          case d2 => omega
          intro gb cap w5 own5 hgr5
          have hx5 := HX4.grown hgr5 (fun k hk => (own_row_ge HO4.out k hk).1)
          have HO5 : Hid (w5.ownsRow w3.heap.size 3 1 (.slice (some ⟨gb, 0, none⟩) (i + 1) cap) (i + 1) ((sigs W T (i + 1)).map fun x => Value.int .i64 (x : Nat))) := by
            show World.ownsRow _ _ _ _ _ _ _
            rw [HSU2.out, List.map_append]; exact own5
          clear own5 hgr5 HO4 HX4 HXF
          go_wp2_with fail
          refine ⟨⟨i + 1, by go_num, by omega, HO5, hx5, fun j hj => ?_⟩, by simp [intOf]; omega⟩
          by_cases e : j = i
          · subst e; right; rw [HT1.out]; exact g2
          · exact HJ.out j (by omega)
        · have g2' : decide (t ∈ W) = false := decide_eq_false g2
          rw [g2']
          clear HO4
          go_wp2_with fail
          go_ret2
          refine Or.inr ⟨⟨t, ?_, fun q => ?_⟩, rfl, HXF⟩
          · rw [← HT1.out]; exact nth_mem (by rw [HNT.out]; exact g)
          · rcases q with q | q
            · exact g1 q
            · exact g2 q
    · obtain rfl : i = N := by omega
      obtain ⟨P, p, rfl⟩ := own_form HO.out
      have hall : ∀ t ∈ T, t = [10] ∨ t ∈ W := fun t ht => by
        obtain ⟨j, hj, rfl⟩ := List.getElem_of_mem ht
        have := HJ.out j (by rw [HNT.out] at hj; exact hj)
        rwa [nth_lt hj] at this
      have hln := HSL.out i (Nat.le_refl _)
      have HO1 : Hid (wr.ownsRow w3.heap.size 3 1 (.slice P (sigs W T i).length p) (sigs W T i).length ((sigs W T i).map fun x => Value.int .i64 (x : Nat))) := by
        show World.ownsRow _ _ _ _ _ _ _
        rw [hln]; exact HO.out
      clear HO HJ
      go_wp2_with fail
      go_ret2
      refine Or.inl ⟨hall, P, p, by rw [hln]; rfl, own_noneT HO1.out, rdN_own HO1.out, hxx.trans hxr⟩
end Go.Proofs.YtjfdlibceldanabDoor
