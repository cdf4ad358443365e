/- text.Read: the walk. -/
import Derived.Test.YtjfdlibceldanabGreatDoorTxtQ
namespace Go.Proofs.YtjfdlibceldanabGreatDoor
open Go.RowKit Go.Sort Tx

/-! ### Lengths, and the text as it grows -/
theorem spl_len (c : UInt8) : ∀ s : List UInt8, (spl c s).length ≤ s.length + 1
  | [] => by simp [spl]
  | b :: t => by
    obtain ⟨p, r, hp⟩ := spl_form c t
    have := spl_len c t
    rw [hp] at this
    rw [spl, hp]
    split
    · simp at this ⊢; omega
    · simp at this ⊢; omega
theorem spl_sum (c : UInt8) : ∀ s : List UInt8, ((spl c s).map List.length).sum ≤ s.length
  | [] => by simp [spl]
  | b :: t => by
    obtain ⟨p, r, hp⟩ := spl_form c t
    have := spl_sum c t
    rw [hp] at this
    rw [spl, hp]
    simp only [List.map_cons, List.sum_cons] at this
    split
    · simp only [List.map_cons, List.sum_cons, List.length_nil, List.length_cons]; omega
    · simp only [List.map_cons, List.sum_cons, List.length_cons, List.headD_cons, List.tail_cons]; omega
theorem fl_len : ∀ (t cur : List UInt8), (fl cur t).length ≤ t.length + (if cur = [] then 0 else 1)
  | [], cur => by rw [fl]; split <;> simp
  | b :: t, cur => by
    rw [fl]
    split
    · have := fl_len t []
      simp only [if_true] at this
      split
      · simp only [List.length_cons]; omega
      · simp only [List.length_cons]; omega
    · have := fl_len t (cur ++ [b])
      rw [if_neg (by simp)] at this
      simp only [List.length_cons]
      omega
theorem wds_len (p : List UInt8) : (wds p).length ≤ p.length := by simpa [wds] using fl_len p []
theorem flat_map_len : ∀ P : List (List UInt8), (P.map wds).flatten.length ≤ (P.map List.length).sum
  | [] => by simp
  | p :: P => by
    have h1 := flat_map_len P
    have h2 := wds_len p
    simp only [List.map_cons, List.flatten_cons, List.length_append, List.sum_cons]
    omega
theorem suffix_len (s : List UInt8) : (Lib.trimSuffix s [10]).length ≤ s.length := by
  unfold Lib.trimSuffix
  split
  · rw [List.length_take]; omega
  · exact Nat.le_refl _
/-- The pieces of a text. -/
def pcs (s : List UInt8) : List (List UInt8) := spl 10 (Lib.trimSuffix s [10])
theorem lines_pcs (s : List UInt8) : linesF s = (pcs s).map wds := rfl
theorem pcs_len (s : List UInt8) : (pcs s).length ≤ s.length + 1 := Nat.le_trans (spl_len 10 _) (by have := suffix_len s; omega)
theorem lines_flat (s : List UInt8) : (linesF s).flatten.length ≤ s.length := by
  rw [lines_pcs]
  exact Nat.le_trans (flat_map_len _) (Nat.le_trans (spl_sum 10 _) (suffix_len s))
theorem mem_sum : ∀ {P : List (List UInt8)} {p : List UInt8}, p ∈ P → p.length ≤ (P.map List.length).sum
  | a :: P, p, h => by
    rw [List.map_cons, List.sum_cons]
    rcases List.mem_cons.1 h with rfl | h
    · omega
    · have := mem_sum h; omega
theorem pcs_at (s : List UInt8) {k : Nat} (h : k < (pcs s).length) : (nth (pcs s) k).length ≤ s.length :=
  Nat.le_trans (mem_sum (nth_mem h)) (Nat.le_trans (spl_sum 10 _) (suffix_len s))
theorem nth_wds {P : List (List UInt8)} {k : Nat} (h : k < P.length) : nth (P.map wds) k = wds (nth P k) := by
  rw [nth_lt (by rw [List.length_map]; exact h), List.getElem_map, nth_lt h]
/-- The text as far as it is made. -/
def txi (W : List (List UInt8)) (L : List (List (List UInt8))) (i j : Nat) : List Nat := textN W (L.take i) ++ ((nth L i).take j).map fun w => num W w + 2
theorem txi_zero (W L i) : txi W L i 0 = textN W (L.take i) := by unfold txi; simp
theorem txi_succ {W : List (List UInt8)} {L : List (List (List UInt8))} {i j : Nat} (h : j < (nth L i).length) : txi W L i (j + 1) = txi W L i j ++ [num W (nth (nth L i) j) + 2] := by
  unfold txi
  rw [List.take_succ_eq_append_getElem h, List.map_append, nth_lt h, List.append_assoc]
  rfl
theorem txi_end {W : List (List UInt8)} {L : List (List (List UInt8))} {i : Nat} (h : i < L.length) : textN W (L.take (i + 1)) = txi W L i (nth L i).length ++ [1] := by
  unfold txi textN
  rw [List.take_length, List.take_succ_eq_append_getElem h, List.flatMap_append, nth_lt h, List.append_assoc]
  simp
theorem textN_len (W : List (List UInt8)) : ∀ L : List (List (List UInt8)), (textN W L).length = L.flatten.length + L.length
  | [] => rfl
  | l :: L => by
    have := textN_len W L
    unfold textN at this ⊢
    rw [List.flatMap_cons, List.length_append, this]
    simp
    omega
theorem txi_len (W : List (List UInt8)) (L : List (List (List UInt8))) (i j : Nat) : (txi W L i j).length ≤ 2 * L.flatten.length + L.length := by
  unfold txi
  rw [List.length_append, textN_len, List.length_map, List.length_take, List.length_take]
  have h1 := flat_le L i
  have h2 : (nth L i).length ≤ L.flatten.length := by
    by_cases h : i < L.length
    · have := flat_le L (i + 1)
      rw [flat_take h, List.length_append] at this
      omega
    · rw [nth_ge (by omega)]
      exact Nat.zero_le _
  omega

/-- A book's value, and what it reads as. -/
abbrev bookV (WA TA : Option Addr) (wn wc tn tc : Nat) : Value := .agg #[.slice WA wn wc, .slice TA tn tc]
abbrev noBook : Value := bookV none none 0 0 0 0
/-- What text.Read answers. -/
def RetRead (s : List UInt8) (w : World) (e : Ending) (w' : World) : Prop :=
  (errF s ≠ 0 ∧ e = .returned (.tuple #[noBook, .int .i64 (errF s : Nat)]) ∧ Ext w w') ∨
  (errF s = 0 ∧ ∃ WA TA wc tc, e = .returned (.tuple #[bookV WA TA (wordsF s).length wc (textN (wordsF s) (linesF s) ++ [0]).length tc, .int .i64 0]) ∧ (textN (wordsF s) (linesF s) ++ [0]).length ≤ tc ∧
    (WA = none → wc = 0) ∧ (wordsF s).length ≤ wc ∧ RdS w' WA (wordsF s) ∧ Rd w' TA (textN (wordsF s) (linesF s) ++ [0]).length (fun k => .int .i64 (nth (textN (wordsF s) (linesF s) ++ [0]) k : Nat)) ∧ Ext w w')

set_option maxHeartbeats 4000000 in
set_option maxRecDepth 100000 in
theorem read_long (s : List UInt8) (hs : s.length ≤ 9223372036854775807) (w : World) (h : 400 < s.length) :
    Calls Tryz.prog 26 #[str s] w fun e w' => e = .returned (.tuple #[noBook, .int .i64 2]) ∧ Ext w w' := by
  have h' : decide ((400 : Int) < s.length) = true := by simp; omega
  go_enter Tryz.func26, Tryz.ntmps26
  go_wp2_with fail
  generalize hW : World.alloc w _ = W
  have bl := bk_of hW
  have hx : Ext w W := ext_of_alloc hW
  clear hW
  have z0 := bl.cell 0
  have z1 := bl.cell 1
  exact bodyPost_ret (v := .tuple #[noBook, .int .i64 2]) (by simp [results, Tryz.results26, go_sem, z0, z1]) rfl ⟨rfl, hx⟩

theorem info_sls : (Tryz.prog.info? 23).map (fun i => (i.zero, i.size, i.bytes)) = some (some (.slice none 0 0), 1, 24) := by kernel_rfl
/-- Two cells of a struct, stored one by one. -/
theorem bk2 {w : World} {B : Nat} {T : TypeId} {a0 a1 v0 v1 : Value} (h : Bk w B T #[a0, a1]) : Bk ((w.setCell ⟨B, 0, none⟩ v0).setCell ⟨B, 1, none⟩ v1) B T #[v0, v1] := (h.set 0 v0).set 1 v1
theorem ext2 {a w : World} {B : Nat} (hx : Ext a w) (hb : a.heap.size ≤ B) (v0 v1 : Value) : Ext a ((w.setCell ⟨B, 0, none⟩ v0).setCell ⟨B, 1, none⟩ v1) :=
  (hx.setCell (p := ⟨B, 0, none⟩) hb v0).setCell (p := ⟨B, 1, none⟩) hb v1

set_option maxHeartbeats 8000000 in
set_option maxRecDepth 100000 in
theorem read_walk (s t : List UInt8) (hs : s.length ≤ 400) (ht : Lib.trimSuffix s [10] = t) (htl : t.length ≤ 400) (m : Int) (w : World) (hm : w.cell? ⟨0, 0, none⟩ = some (.int .i64 m))
    (P : List (List UInt8)) (L : List (List (List UInt8))) (N : Nat) (hP : spl 10 t = P) (hN : P.length = N) (hNL : L.length = N) (hN4 : N ≤ 401) (hPL : ∀ k, k < N → nth L k = wds (nth P k)) (hP4 : ∀ k, k < N → (nth P k).length ≤ 400) (hL4 : ∀ k, k < N → (nth L k).length ≤ 400) (FL : List (List UInt8)) (hFL : L.flatten = FL) (hF4 : FL.length ≤ 400)
    (W : List (List UInt8)) (hW : W.Pairwise fun x y => x < y) (hWc : Lib.compact (FL.mergeSort fun x y => decide (x ≤ y)) = W) (hWl : W.length ≤ 400)
    (Q : Ending → World → Prop)
    (q2 : ∀ w', Ext w w' → (∀ k, k < N → ∀ j, j < (nth L k).length → okW (nth (nth L k) j) = true) → 100 < (textN W L).length → Q (.returned (.tuple #[noBook, .int .i64 2])) w')
    (q0 : ∀ w' WA wc TA tc, Ext w w' → (∀ k, k < N → ∀ j, j < (nth L k).length → okW (nth (nth L k) j) = true) → ¬ 100 < (textN W L).length → (WA = none → wc = 0) → W.length ≤ wc → RdS w' WA W → (textN W L).length + 1 ≤ tc →
      Rd w' TA (textN W L ++ [0]).length (fun k => .int .i64 (nth (textN W L ++ [0]) k : Nat)) → Q (.returned (.tuple #[bookV WA TA W.length wc ((textN W L).length + 1) tc, .int .i64 0])) w')
    (q1 : ∀ w' k j, Ext w w' → k < N → j < (nth L k).length → okW (nth (nth L k) j) = false → Q (.returned (.tuple #[noBook, .int .i64 1])) w') :
    Calls Tryz.prog 26 #[str s] w Q := by
  have hs' : decide ((400 : Int) < s.length) = false := by simp; omega
  have cT := fun w => suffix_calls s w (by omega)
  rw [ht] at cT
  have cP := fun w hm => split_calls t m w (by omega) hm
  rw [hP, hN] at cP
  have cW : ∀ k, k < N → ∀ w, Calls Tryz.prog 28 #[str (nth P k), .func (.func 43) #[] #[]] w fun e w' => ∃ A, e = .returned (.slice (some ⟨A, 0, none⟩) (nth L k).length (nth L k).length) ∧ w'.ownsRow w.heap.size 9 1 (.slice (some ⟨A, 0, none⟩) (nth L k).length (nth L k).length) (nth L k).length ((nth L k).map str) ∧ Ext w w' := fun k hk w => by
    rw [hPL k hk]
    have := hP4 k hk
    exact fields_read (nth P k) w (by omega)
  have HM := Lib.hid hm; have CT := Lib.hid cT; have CP := Lib.hid cP; have CW := Lib.hid cW; have HL4 := Lib.hid hL4; have Q1 := Lib.hid q1; have HF4 := Lib.hid hF4; have HNL := Lib.hid hNL; have HNP := Lib.hid hN; have HW := Lib.hid hW; have HWC := Lib.hid hWc; have Q2 := Lib.hid q2; have Q0 := Lib.hid q0
  have hTL : ∀ i j, (txi W L i j).length ≤ 1201 := fun i j => by have := txi_len W L i j; rw [hFL] at this; omega
  have TL := Lib.hid hTL; have HFL := Lib.hid hFL; have TZ := Lib.hid (txi_zero W L); have TS := Lib.hid (fun i j => txi_succ (W := W) (L := L) (i := i) (j := j)); have TE := Lib.hid (fun i => txi_end (W := W) (L := L) (i := i))
  clear hm cT cP cW hL4 hPL hP4 q1 q2 q0 hF4 hNL ht hP hN htl hW hWc hTL hFL
  go_enter Tryz.func26, Tryz.ntmps26
  go_wp2_with fail
  generalize hW1 : World.alloc w _ = W1
  have br := bk_of hW1
  have hx := ext_of_alloc hW1
  clear hW1
  with_reducible refine (CT.out W1).mono ?_
  rintro e w1 ⟨rfl, rfl⟩
  go_wp2_with fail
  with_reducible refine (CP.out _ (ecell HM.out hx)).mono ?_
  rintro e w2 ⟨A, rfl, hA, hx2⟩
  have HA : Hid (Rd w2 (some ⟨A, 0, none⟩) N (fun k => str (nth P k))) := by
    have h : Rd w2 (some ⟨A, 0, none⟩) P.length (fun k => str (nth P k)) := hA
    rw [HNP.out] at h
    exact h
  have hxx := hx.trans hx2
  have hRw : w.heap.size ≤ w.heap.size := Nat.le_refl _
  have BR := Lib.hid (br.ext hx2)
  have hRW : w.heap.size < w2.heap.size := (br.ext hx2).lt
  generalize hB : w.heap.size = B at *
  clear hA hx hx2 br CT CP
  obtain ⟨is, hi, hj0, hj1, hj2⟩ := info_parts info_sls
  have hBw : w.heap.size ≤ B := by omega
  go_wp2_with fail
  go_loopw [25, 4] (fun vi v4 wr => ∃ (i : Nat) (f : Nat → Option Addr × Nat), vi = .int .i64 i ∧ i ≤ N ∧ Hid (wr.ownsRow w2.heap.size 23 1 v4 i ((List.range i).map fun k => Value.slice (f k).1 (nth L k).length (f k).2)) ∧ Hid (∀ k, k < i → ∃ base, wr.ownsRow base 9 1 (.slice (f k).1 (nth L k).length (f k).2) (nth L k).length ((nth L k).map str)) ∧ Ext w2 wr ∧ Hid (∀ k, k < i → ∀ j, j < (nth L k).length → okW (nth (nth L k) j) = true)) (fun vi _ _ => N - (intOf vi).toNat)
  case atStart => exact ⟨0, fun _ => (none, 0), rfl, Nat.zero_le _, own_nil _ _ _ _, fun k hk => absurd hk (Nat.not_lt_zero _), Ext.refl _, fun k hk => absurd hk (Nat.not_lt_zero _)⟩
  case round => as_aux_lemma =>
    obtain ⟨i, f, rfl, hi', HO, HF, hxr, HK⟩ := hrel
    obtain ⟨wo, rfl⟩ : ∃ wo, wo = wr := ⟨_, rfl⟩
    by_cases g : i < N
    · obtain ⟨bA, oA, hAA, hbA, hcA⟩ := (HA.out.ext hxr) (by omega)
      injection hAA with hAA
      injection hAA with h1 h2 h3
      subst h1; subst h2
      have p1 := hcA i g
      dsimp only at p1
      rw [Nat.zero_add] at p1
      have cw := CW.out i g wo
      have hn4 := HL4.out i g
      have q1 := fun w' j hx hj ho => Q1.out w' i j hx g hj ho
      obtain ⟨l, hl⟩ : ∃ l, nth L i = l := ⟨_, rfl⟩
      rw [hl] at cw hn4 q1
      have HLI := Lib.hid hl
      obtain ⟨n, hn⟩ : ∃ n, l.length = n := ⟨_, rfl⟩
      rw [hn] at cw hn4 q1
      have HLN := Lib.hid hn
      have CW1 := Lib.hid cw; have Q1i := Lib.hid q1
      clear hcA cw q1 hl hn h3
      go_wp2_with fail
      with_reducible refine CW1.out.mono ?_
      rintro e w3 ⟨A2, rfl, hA2, hx3⟩
      have HA2 : Hid (Rd w3 (some ⟨A2, 0, none⟩) n (fun k => str (nth l k))) := by
        have h : Rd w3 (some ⟨A2, 0, none⟩) l.length (fun k => str (nth l k)) := RdS.own (by rw [HLN.out]; exact hA2)
        rw [HLN.out] at h
        exact h
      have HOA : Hid (w3.ownsRow wo.heap.size 9 1 (.slice (some ⟨A2, 0, none⟩) n n) n (l.map str)) := hA2
      have hxw := hxr.trans hx3
      have hO3 : Hid (w3.ownsRow w2.heap.size 23 1 u4 i ((List.range i).map fun k => Value.slice (f k).1 (nth L k).length (f k).2)) := own_ext HO.out hx3
      have hF3 : Hid (∀ k, k < i → ∃ base, w3.ownsRow base 9 1 (.slice (f k).1 (nth L k).length (f k).2) (nth L k).length ((nth L k).map str)) := fun k hk => by
        obtain ⟨base, h⟩ := HF.out k hk
        exact ⟨base, own_ext h hx3⟩
      clear HO HF hxr hx3 p1 hbA CW1 hA2
      go_wp2_with fail
      go_loopw [33] (fun vj wr => ∃ j : Nat, vj = .int .i64 j ∧ j ≤ n ∧ Ext w3 wr ∧ Hid (∀ k, k < j → okW (nth l k) = true)) (fun vj _ => n - (intOf vj).toNat)
      case atStart => exact ⟨0, rfl, Nat.zero_le _, Ext.refl _, fun k hk => absurd hk (Nat.not_lt_zero _)⟩
      case round => as_aux_lemma =>
        obtain ⟨j, rfl, hj', hxj, HJ⟩ := hrel
        by_cases g2 : j < n
        · obtain ⟨bA, oA, hAA, hbA, hcA⟩ := (HA2.out.ext hxj) (by omega)
          injection hAA with hAA
          injection hAA with h1 h2 h3
          subst h1; subst h2
          have p1 := hcA j g2
          dsimp only at p1
          rw [Nat.zero_add] at p1
          obtain ⟨x, hx⟩ : ∃ x, nth l j = x := ⟨_, rfl⟩
          rw [hx] at p1
          have HX := Lib.hid hx
          have bad : okW x = false → ∀ w', Ext w w' → Q (.returned (.tuple #[noBook, .int .i64 1])) w' := fun ho w' hw' => Q1i.out w' j hw' g2 (by rw [HX.out]; exact ho)
          have BAD := Lib.hid bad
          clear hcA hx bad h3
          have br := BR.out.ext (hxw.trans hxj)
          have hxe := (hxx.trans hxw).trans hxj
          by_cases g3 : 8 < x.length
          · have g3' : decide ((8 : Int) < x.length) = true := by simp; omega
            have hbad : okW x = false := by unfold okW; rw [decide_eq_false (by omega)]; rfl
            have y0 := br.cell 0
            have y1 := br.cell 1
            have f0 := br.frozen 0
            have f1 := br.frozen 1
            have BF := Lib.hid (bk2 (v0 := .slice none 0 0) (v1 := .slice none 0 0) br)
            have HXF := Lib.hid (ext2 (B := B) hxe hBw (.slice none 0 0) (.slice none 0 0))
            clear br
            go_wp2_with fail
            clear y0 y1 f0 f1
            have bF := BF.out
            have hxF := HXF.out
            generalize (wr.setCell _ _).setCell _ _ = wF at *
            have z0 := bF.cell 0
            have z1 := bF.cell 1
            exact bodyPost_ret (v := .tuple #[noBook, .int .i64 1]) (by simp [results, Tryz.results26, go_sem, z0, z1]) rfl (BAD.out hbad wF hxF)
          · have g3' : decide ((8 : Int) < x.length) = false := by simp; omega
            have ct := trim_calls x wr (by omega)
            go_wp2_with fail
            with_reducible refine ct.mono ?_
            rintro e w5 ⟨tt, rfl, htt, hx5⟩
            by_cases g4 : x.all letter = true
            · have g4' : (tt == []) = true := by rw [htt.2 g4]; rfl
              have hok : okW x = true := by unfold okW; rw [decide_eq_true (by omega), g4]; rfl
              clear ct p1 br
              go_wp2_with fail
              refine ⟨⟨j + 1, by go_num, by omega, hxj.trans hx5, fun k hk => ?_⟩, by simp [intOf]; omega⟩
              by_cases e : k = j
              · subst e; rw [HX.out]; exact hok
              · exact HJ.out k (by omega)
            · have g4' : (tt == []) = false := by
                rw [beq_eq_false_iff_ne]; exact fun q => g4 (htt.1 q)
              have hbad : okW x = false := by
                unfold okW
                have : x.all letter = false := by simpa using g4
                rw [this, Bool.and_false]
              have br5 := br.ext hx5
              have y0 := br5.cell 0
              have y1 := br5.cell 1
              have f0 := br5.frozen 0
              have f1 := br5.frozen 1
              have BF := Lib.hid (bk2 (v0 := .slice none 0 0) (v1 := .slice none 0 0) br5)
              have HXF := Lib.hid (ext2 (B := B) (hxe.trans hx5) hBw (.slice none 0 0) (.slice none 0 0))
              clear br br5 ct p1
              go_wp2_with fail
              clear y0 y1 f0 f1
              have bF := BF.out
              have hxF := HXF.out
              generalize (w5.setCell _ _).setCell _ _ = wF at *
              have z0 := bF.cell 0
              have z1 := bF.cell 1
              exact bodyPost_ret (v := .tuple #[noBook, .int .i64 1]) (by simp [results, Tryz.results26, go_sem, z0, z1]) rfl (BAD.out hbad wF hxF)
        · obtain rfl : j = n := by omega
          have hOj : Hid (wr.ownsRow w2.heap.size 23 1 u4 i ((List.range i).map fun k => Value.slice (f k).1 (nth L k).length (f k).2)) := own_ext hO3.out hxj
          have hsz : w2.heap.size ≤ wr.heap.size := (hxw.trans hxj).size
          clear hO3
          go_wp2_with (at_builtin; refine wpList_app1 (by rfl) _ _ 76 rfl w2.heap.size 23 is (.slice none 0 0) 24 Tryz.underlying76 hi hj0 hj1 hj2 rfl _ i _ rfl wr (.slice (some ⟨A2, 0, none⟩) j j) 23 rfl hOj.out rfl rfl ?d1 ?d2 hsz ?_)
          case d1 => omega
          case d2 => omega
          intro gb cap w5 own5 hgr5
          have hx5 := (hxw.trans hxj).grown hgr5 (fun k hk => (own_row_ge hOj.out k hk).1)
          have hF5 : Hid (∀ k, k < i + 1 → ∃ base, w5.ownsRow base 9 1 (.slice (if k = i then (some ⟨A2, 0, none⟩, j) else f k).1 (nth L k).length (if k = i then (some ⟨A2, 0, none⟩, j) else f k).2) (nth L k).length ((nth L k).map str)) := fun k hk => by
            by_cases e : k = i
            · subst e
              rw [if_pos rfl, HLI.out, HLN.out]
              exact ⟨wo.heap.size, own_grown (own_ext HOA.out hxj) hgr5 (own_own_ne (own_ext HOA.out hxj) hOj.out (by decide))⟩
            · obtain ⟨base, h⟩ := hF3.out k (by omega)
              rw [if_neg e]
              exact ⟨base, own_grown (own_ext h hxj) hgr5 (own_own_ne (own_ext h hxj) hOj.out (by decide))⟩
          have HO5 : Hid (w5.ownsRow w2.heap.size 23 1 (.slice (some ⟨gb, 0, none⟩) (i + 1) cap) (i + 1) ((List.range (i + 1)).map fun k => Value.slice (if k = i then (some ⟨A2, 0, none⟩, j) else f k).1 (nth L k).length (if k = i then (some ⟨A2, 0, none⟩, j) else f k).2)) := by
            show World.ownsRow _ _ _ _ _ _ _
            rw [List.range_succ, List.map_append, List.map_singleton, if_pos rfl, HLI.out, HLN.out]
            rw [show (List.range i).map (fun k => Value.slice (if k = i then (some ⟨A2, 0, none⟩, j) else f k).1 (nth L k).length (if k = i then (some ⟨A2, 0, none⟩, j) else f k).2) = (List.range i).map fun k => Value.slice (f k).1 (nth L k).length (f k).2 from List.map_congr_left fun k hk => by rw [if_neg (by have := List.mem_range.1 hk; omega)]]
            exact own5
          have HK5 : Hid (∀ k, k < i + 1 → ∀ j, j < (nth L k).length → okW (nth (nth L k) j) = true) := fun k hk jj hjj => by
            by_cases e : k = i
            · subst e
              rw [HLI.out] at hjj ⊢
              exact HJ.out jj (by rw [HLN.out] at hjj; exact hjj)
            · exact HK.out k (by omega) jj hjj
          clear own5 hgr5 hOj hF3 HOA HJ HK
          go_wp2_with fail
          refine ⟨⟨i + 1, _, by go_num, by omega, HO5, hF5, hx5, HK5⟩, by simp [intOf]; omega⟩
    · obtain rfl : i = N := by omega
      obtain ⟨LA, lc, rfl⟩ := own_form HO.out
      have hln : LnIn wo LA L := by
        refine ⟨f, ?_, fun k hk => ?_⟩
        · rw [HNL.out]; exact rd_own HO.out
        · obtain ⟨base, h⟩ := HF.out k (by rw [HNL.out] at hk; exact hk)
          exact ⟨own_noneT h, RdS.own h⟩
      have cc := concat_calls L LA lc wo (by rw [HNL.out]; omega) (by rw [HFL.out]; have := HF4.out; omega) hln
      rw [HNL.out, HFL.out] at cc
      have CC := Lib.hid cc; have HLN := Lib.hid hln
      have hxo := hxx.trans hxr
      have BRo := Lib.hid (BR.out.ext hxr)
      have hBo : B < wo.heap.size := BRo.out.lt
      clear cc hln HO HF hxr BR CW Q1 HA hxx
      go_wp2_with fail
      with_reducible refine CC.out.mono ?_
      rintro e w5 ⟨v, rfl, hv, hx5⟩
      obtain ⟨vA, vc, rfl⟩ := own_form hv
      go_wp2_with fail
      generalize hW6 : World.alloc w5 _ = W6
      have bk := bk_of hW6
      have hx6 := ext_of_alloc hW6
      have ho6 := own_ext hv hx6
      have hxo6 := hx5.trans hx6
      have hKo : wo.heap.size ≤ w5.heap.size := hx5.size
      generalize w5.heap.size = K at *
      clear hW6 hv hx5 hx6 CC
      have z0 := bk.cell 0
      have cs := sortS_calls ho6 (by have := HF4.out; omega)
      go_wp2_with fail
      with_reducible refine cs.mono ?_
      rintro e w7 ⟨rfl, ho7, hg7⟩
      have bk7 := bk.grown hg7 (Bk.own_ne ho6 bk (by decide))
      have hxo7 := hxo6.grown hg7 (fun k hk => (own_row_ge ho6 k hk).1)
      clear cs z0 bk ho6 hxo6 hg7
      have z0 := bk7.cell 0
      have hsl : (FL.mergeSort fun x y => decide (x ≤ y)).length = FL.length := List.length_mergeSort _
      have cs := compactS_calls (ws := FL.mergeSort fun x y => decide (x ≤ y)) (by rw [hsl]; exact ho7) (by rw [hsl]; have := HF4.out; omega)
      rw [HWC.out] at cs
      go_wp2_with fail
      with_reducible refine cs.mono ?_
      rintro e w8 ⟨v8, rfl, ho8, hg8⟩
      have bk8 := bk7.grown hg8 (Bk.own_ne ho7 bk7 (by decide))
      have hxo8 := hxo7.grown hg8 (fun k hk => (own_row_ge ho7 k hk).1)
      obtain ⟨WA, wc, rfl⟩ := own_form ho8
      clear cs z0 bk7 ho7 hxo7 hg8 hsl
      have z0 := bk8.cell 0
      have f0 := bk8.frozen 0
      have BK := Lib.hid (bk8.set 0 (.slice WA W.length wc))
      have HX9 := Lib.hid (hxo8.setCell (p := ⟨K, 0, none⟩) hKo (.slice WA W.length wc))
      have HO9 := Lib.hid (own_far (p := ⟨K, 0, none⟩) ho8 (fun q => Bk.own_ne ho8 bk8 (by decide) q.symm) (.slice WA W.length wc))
      clear bk8 ho8 hxo8
      go_wp2_with fail
      clear z0 f0
      have hK9 : wo.heap.size ≤ (w8.setCell ⟨K, 0, none⟩ (.slice WA W.length wc)).heap.size := HX9.out.size
      generalize World.setCell w8 _ _ = w9 at *
      have BK9 : Hid (Bk w9 K 26 #[.slice WA W.length wc, .slice none 0 0]) := BK.out
      clear BK
      obtain ⟨ii, ni, nj0, nj1, nj2⟩ := info_parts info_intT
      have HXO9 : Hid (Ext wo w9) := HX9.out
      have HOS9 : Hid (w9.ownsRow wo.heap.size 9 1 (.slice WA W.length wc) W.length (W.map str)) := HO9.out
      clear HX9 HO9 hi hj0 hj1 hj2
      go_wp2_with fail
      go_loopw [64] (fun vi wr => ∃ (q : Nat) (v1 : Value), vi = .int .i64 q ∧ q ≤ i ∧ Hid (wr.ownsRow wo.heap.size 9 1 (.slice WA W.length wc) W.length (W.map str)) ∧ Hid (Bk wr K 26 #[.slice WA W.length wc, v1]) ∧
        Hid (wr.ownsRow wo.heap.size 3 1 v1 (textN W (L.take q)).length ((textN W (L.take q)).map fun x => Value.int .i64 (x : Nat))) ∧ Ext wo wr) (fun vi _ => i - (intOf vi).toNat)
      case atStart => exact ⟨0, .slice none 0 0, rfl, Nat.zero_le _, HOS9, BK9, own_nil _ _ _ _, HXO9.out⟩
      case round => as_aux_lemma =>
        clear HXO9 HOS9 BK9 hK9
        obtain ⟨q, v1, rfl, hq', HOS, HBK, HOI, hxr⟩ := hrel
        obtain ⟨wq, rfl⟩ : ∃ wq, wq = wr := ⟨_, rfl⟩
        by_cases gq : q < i
        · obtain ⟨f2, hf2, hg2⟩ := HLN.out
          rw [HNL.out] at hf2
          obtain ⟨bL, oL, hLL, hbL, hcL⟩ := (hf2.ext hxr) (by omega)
          subst hLL
          have p1 := hcL q gq
          dsimp only at p1
          have hrl := (hg2 q (by rw [HNL.out]; exact gq)).2
          have hl4 := HL4.out q gq
          obtain ⟨l, hl⟩ : ∃ l, nth L q = l := ⟨_, rfl⟩
          rw [hl] at p1 hrl hl4
          have ts : ∀ j, j < l.length → txi W L q (j + 1) = txi W L q j ++ [num W (nth l j) + 2] := fun j hj => by
            have := TS.out q j (by rw [hl]; exact hj)
            rwa [hl] at this
          have te : textN W (L.take (q + 1)) = txi W L q l.length ++ [1] := by
            have := TE.out q (by rw [HNL.out]; exact gq)
            rwa [hl] at this
          have tl := fun j => TL.out q j
          have hz : textN W (L.take q) = txi W L q 0 := (TZ.out q).symm
          rw [hz] at HOI
          obtain ⟨A3, hA3⟩ : ∃ A3, (f2 q).1 = A3 := ⟨_, rfl⟩
          obtain ⟨c3, hc3⟩ : ∃ c3, (f2 q).2 = c3 := ⟨_, rfl⟩
          rw [hA3, hc3] at p1
          rw [hA3] at hrl
          obtain ⟨n, hn⟩ : ∃ n, l.length = n := ⟨_, rfl⟩
          rw [hn] at p1 ts te hl4
          have HRL : Hid (Rd wo A3 n (fun k => str (nth l k))) := by
            have h : Rd wo A3 l.length (fun k => str (nth l k)) := hrl
            rw [hn] at h
            exact h
          have TS1 := Lib.hid ts; have TE1 := Lib.hid te; have TL1 := Lib.hid tl
          clear hcL hf2 hg2 hrl hl hA3 hc3 hn ts te tl hz
          go_wp2_with fail
          go_loopw [70] (fun vj wr => ∃ (j : Nat) (v1 : Value), vj = .int .i64 j ∧ j ≤ n ∧ Hid (wr.ownsRow wo.heap.size 9 1 (.slice WA W.length wc) W.length (W.map str)) ∧ Hid (Bk wr K 26 #[.slice WA W.length wc, v1]) ∧
            Hid (wr.ownsRow wo.heap.size 3 1 v1 (txi W L q j).length ((txi W L q j).map fun x => Value.int .i64 (x : Nat))) ∧ Ext wo wr) (fun vj _ => n - (intOf vj).toNat)
          case atStart => exact ⟨0, v1, rfl, Nat.zero_le _, HOS, HBK, HOI, hxr⟩
          case round => as_aux_lemma =>
            clear HOS HBK HOI hxr p1
            obtain ⟨j, v1, rfl, hj', HOS, HBK, HOI, hxr⟩ := hrel
            by_cases gj : j < n
            · obtain ⟨bA, oA, hAA, hbA, hcA⟩ := (HRL.out.ext hxr) (by omega)
              subst hAA
              have p1 := hcA j gj
              dsimp only at p1
              obtain ⟨x, hx⟩ : ∃ x, nth l j = x := ⟨_, rfl⟩
              rw [hx] at p1
              have ts := TS1.out j gj
              rw [hx] at ts
              have b0 := HBK.out.cell 0
              have hsr := searchS_calls W HW.out x WA wc wr (by omega) (RdS.own HOS.out)
              have hnl := num_le W x
              obtain ⟨y, hy⟩ : ∃ y, num W x = y := ⟨_, rfl⟩
              rw [hy] at ts hsr hnl
              have TSj := Lib.hid ts
              have hty := TL1.out j
              clear hcA hx hy ts
              go_wp2_with fail
              with_reducible refine hsr.mono ?_
              rintro e w10 ⟨rfl, hx10⟩
              have HOSa : Hid (w10.ownsRow wo.heap.size 9 1 (.slice WA W.length wc) W.length (W.map str)) := own_ext HOS.out hx10
              have HBKa : Hid (Bk w10 K 26 #[.slice WA W.length wc, v1]) := HBK.out.ext hx10
              have HOIa : Hid (w10.ownsRow wo.heap.size 3 1 v1 (txi W L q j).length ((txi W L q j).map fun x => Value.int .i64 (x : Nat))) := own_ext HOI.out hx10
              have hxa := hxr.trans hx10
              have hsz := hxa.size
              obtain ⟨TA, tc, rfl⟩ := own_form HOI.out
              clear HOS HBK HOI hxr hx10 b0 p1 hsr
              have b1 := HBKa.out.cell 1
              have hw : IntKind.i64.wrap ((y : Int) + 2) = (y : Int) + 2 := IntWalk.i64_in _ (by omega)
              go_wp2_with (at_builtin; refine wpList_app1 (by rfl) _ _ 24 rfl wo.heap.size 3 ii (.int .i64 0) 8 Tryz.underlying24 ni nj0 nj1 nj2 rfl _ (txi W L q j).length _ rfl w10 (.int .i64 ((y : Int) + 2)) 3 rfl HOIa.out rfl rfl ?d1 ?d2 hsz ?_)
              case d1 => omega
              case d2 => omega
              intro gb cap w11 own11 hgr11
              have HOSb : Hid (w11.ownsRow wo.heap.size 9 1 (.slice WA W.length wc) W.length (W.map str)) := own_grown HOSa.out hgr11 (own_own_ne HOSa.out HOIa.out (by decide))
              have bkb := HBKa.out.grown hgr11 (Bk.own_ne HOIa.out HBKa.out (by decide))
              have hxb := hxa.grown hgr11 (fun k hk => (own_row_ge HOIa.out k hk).1)
              have HOIb : Hid (w11.ownsRow wo.heap.size 3 1 (.slice (some ⟨gb, 0, none⟩) ((txi W L q j).length + 1) cap) (txi W L q (j + 1)).length ((txi W L q (j + 1)).map fun x => Value.int .i64 (x : Nat))) := by
                show World.ownsRow _ _ _ _ _ _ _
                rw [TSj.out, List.length_append, List.map_append]; exact own11
              clear b1 HOSa HBKa HOIa hxa hgr11 own11
              have b1 := bkb.cell 1
              have f1 := bkb.frozen 1
              have HBKc := Lib.hid (bkb.set 1 (.slice (some ⟨gb, 0, none⟩) ((txi W L q j).length + 1) cap))
              have HXc := Lib.hid (hxb.setCell (p := ⟨K, 1, none⟩) hKo (.slice (some ⟨gb, 0, none⟩) ((txi W L q j).length + 1) cap))
              have HOSc := Lib.hid (own_far (p := ⟨K, 1, none⟩) HOSb.out (fun q => Bk.own_ne HOSb.out bkb (by decide) q.symm) (.slice (some ⟨gb, 0, none⟩) ((txi W L q j).length + 1) cap))
              have HOIc := Lib.hid (own_far (p := ⟨K, 1, none⟩) HOIb.out (fun q => Bk.own_ne HOIb.out bkb (by decide) q.symm) (.slice (some ⟨gb, 0, none⟩) ((txi W L q j).length + 1) cap))
              clear bkb hxb HOSb HOIb
              go_wp2_with fail
              refine ⟨⟨j + 1, _, by go_num, by omega, HOSc.out, HBKc.out, HOIc.out, HXc.out⟩, by simp [intOf]; omega⟩
            · obtain rfl : j = n := by omega
              have TEj := TE1
              have hty := TL1.out j
              have hsz := hxr.size
              obtain ⟨TA, tc, rfl⟩ := own_form HOI.out
              have b1 := HBK.out.cell 1
              go_wp2_with (at_builtin; refine wpList_app1 (by rfl) _ _ 24 rfl wo.heap.size 3 ii (.int .i64 0) 8 Tryz.underlying24 ni nj0 nj1 nj2 rfl _ (txi W L q j).length _ rfl wr (.int .i64 1) 3 rfl HOI.out rfl rfl ?d1 ?d2 hsz ?_)
              case d1 => omega
              case d2 => omega
              intro gb cap w11 own11 hgr11
              have HOSb : Hid (w11.ownsRow wo.heap.size 9 1 (.slice WA W.length wc) W.length (W.map str)) := own_grown HOS.out hgr11 (own_own_ne HOS.out HOI.out (by decide))
              have bkb := HBK.out.grown hgr11 (Bk.own_ne HOI.out HBK.out (by decide))
              have hxb := hxr.grown hgr11 (fun k hk => (own_row_ge HOI.out k hk).1)
              have HOIb : Hid (w11.ownsRow wo.heap.size 3 1 (.slice (some ⟨gb, 0, none⟩) ((txi W L q j).length + 1) cap) (textN W (L.take (q + 1))).length ((textN W (L.take (q + 1))).map fun x => Value.int .i64 (x : Nat))) := by
                show World.ownsRow _ _ _ _ _ _ _
                rw [TEj.out, List.length_append, List.map_append]; exact own11
              clear b1 HOS HBK HOI hxr hgr11 own11
              have b1 := bkb.cell 1
              have f1 := bkb.frozen 1
              have HBKc := Lib.hid (bkb.set 1 (.slice (some ⟨gb, 0, none⟩) ((txi W L q j).length + 1) cap))
              have HXc := Lib.hid (hxb.setCell (p := ⟨K, 1, none⟩) hKo (.slice (some ⟨gb, 0, none⟩) ((txi W L q j).length + 1) cap))
              have HOSc := Lib.hid (own_far (p := ⟨K, 1, none⟩) HOSb.out (fun q => Bk.own_ne HOSb.out bkb (by decide) q.symm) (.slice (some ⟨gb, 0, none⟩) ((txi W L q j).length + 1) cap))
              have HOIc := Lib.hid (own_far (p := ⟨K, 1, none⟩) HOIb.out (fun q => Bk.own_ne HOIb.out bkb (by decide) q.symm) (.slice (some ⟨gb, 0, none⟩) ((txi W L q j).length + 1) cap))
              clear bkb hxb HOSb HOIb
              go_wp2_with fail
              refine ⟨⟨q + 1, _, by go_num, by omega, HOSc.out, HBKc.out, HOIc.out, HXc.out⟩, by simp [intOf]; omega⟩
        · obtain rfl : q = i := by omega
          have hTK : textN W (L.take q) = textN W L := by rw [List.take_of_length_le (by rw [HNL.out]; exact Nat.le_refl _)]
          rw [hTK] at HOI
          have hlT : (textN W L).length ≤ 1201 := by
            have := TL.out q 0
            rwa [TZ.out, hTK] at this
          obtain ⟨TT, hTT⟩ : ∃ TT, textN W L = TT := ⟨_, rfl⟩
          rw [hTT] at HOI hlT Q2 Q0
          obtain ⟨TA, tc, rfl⟩ := own_form HOI.out
          have hsz := hxr.size
          have b1 := HBK.out.cell 1
          by_cases g5 : 100 < TT.length
          · have g5' : decide ((100 : Int) < TT.length) = true := by simp; omega
            have br := BRo.out.ext hxr
            have y0 := br.cell 0
            have y1 := br.cell 1
            have f0 := br.frozen 0
            have f1 := br.frozen 1
            have BF := Lib.hid (bk2 (v0 := .slice none 0 0) (v1 := .slice none 0 0) br)
            have HXF := Lib.hid (ext2 (B := B) (hxo.trans hxr) hBw (.slice none 0 0) (.slice none 0 0))
            clear br
            go_wp2_with fail
            clear y0 y1 f0 f1 b1
            have bF := BF.out
            have hxF := HXF.out
            generalize (wq.setCell _ _).setCell _ _ = wF at *
            have z0 := bF.cell 0
            have z1 := bF.cell 1
            exact bodyPost_ret (v := .tuple #[noBook, .int .i64 2]) (by simp [results, Tryz.results26, go_sem, z0, z1]) rfl (Q2.out wF hxF HK.out g5)
          · have g5' : decide ((100 : Int) < TT.length) = false := by simp; omega
            go_wp2_with (at_builtin; refine wpList_app1 (by rfl) _ _ 24 rfl wo.heap.size 3 ii (.int .i64 0) 8 Tryz.underlying24 ni nj0 nj1 nj2 rfl _ TT.length _ rfl wq (.int .i64 0) 3 rfl HOI.out rfl rfl ?d1 ?d2 hsz ?_)
            case d1 => omega
            case d2 => omega
            intro gb cap w11 own11 hgr11
            have HOSb : Hid (w11.ownsRow wo.heap.size 9 1 (.slice WA W.length wc) W.length (W.map str)) := own_grown HOS.out hgr11 (own_own_ne HOS.out HOI.out (by decide))
            have bkb := HBK.out.grown hgr11 (Bk.own_ne HOI.out HBK.out (by decide))
            have hxb := hxr.grown hgr11 (fun k hk => (own_row_ge HOI.out k hk).1)
            have HOIb : Hid (w11.ownsRow wo.heap.size 3 1 (.slice (some ⟨gb, 0, none⟩) (TT.length + 1) cap) (TT ++ [0]).length ((TT ++ [0]).map fun x => Value.int .i64 (x : Nat))) := by
              show World.ownsRow _ _ _ _ _ _ _
              rw [List.length_append, List.map_append]; exact own11
            clear b1 HOS HBK HOI hxr hgr11 own11
            have b1 := bkb.cell 1
            have f1 := bkb.frozen 1
            have hKB : K ≠ B := by omega
            have HBKc := Lib.hid (bkb.set 1 (.slice (some ⟨gb, 0, none⟩) (TT.length + 1) cap))
            have HXc := Lib.hid (hxb.setCell (p := ⟨K, 1, none⟩) hKo (.slice (some ⟨gb, 0, none⟩) (TT.length + 1) cap))
            have HOSc := Lib.hid (own_far (p := ⟨K, 1, none⟩) HOSb.out (fun q => Bk.own_ne HOSb.out bkb (by decide) q.symm) (.slice (some ⟨gb, 0, none⟩) (TT.length + 1) cap))
            have HOIc := Lib.hid (own_far (p := ⟨K, 1, none⟩) HOIb.out (fun q => Bk.own_ne HOIb.out bkb (by decide) q.symm) (.slice (some ⟨gb, 0, none⟩) (TT.length + 1) cap))
            clear bkb hxb HOSb HOIb
            go_upto_region 33 with fail
            clear b1 f1
            generalize World.setCell w11 _ _ = w12 at *
            have bkc : Bk w12 K 26 #[.slice WA W.length wc, .slice (some ⟨gb, 0, none⟩) (TT.length + 1) cap] := HBKc.out
            have hxc : Ext wo w12 := HXc.out
            have hosc : w12.ownsRow wo.heap.size 9 1 (.slice WA W.length wc) W.length (W.map str) := HOSc.out
            have hoic : w12.ownsRow wo.heap.size 3 1 (.slice (some ⟨gb, 0, none⟩) (TT.length + 1) cap) (TT ++ [0]).length ((TT ++ [0]).map fun x => Value.int .i64 (x : Nat)) := HOIc.out
            have br := BRo.out.ext hxc
            have b0 := bkc.cell 0
            have b1 := bkc.cell 1
            have c0 := br.cell 0
            have c1 := br.cell 1
            have f0 := br.frozen 0
            have f1 := br.frozen 1
            have hcap : TT.length + 1 ≤ cap := by
              have := own_cases hoic
              rcases this with ⟨h, _⟩ | ⟨g', c', h, hh⟩
              · cases h
              · injection h with _ h2 h3
                rw [h3]; rw [← h2] at hh; exact hh
            have he : (TT ++ [0] : List Nat).length = TT.length + 1 := by simp
            have hnoneS := own_noneT hosc
            have hcapS : W.length ≤ wc := by
              rcases own_cases hosc with ⟨h, hn⟩ | ⟨g', c', h, hh⟩
              · rw [hn]; exact Nat.zero_le _
              · injection h with _ _ h3
                rw [h3]; exact hh
            have hneS : Value.ownBlock (.slice WA W.length wc) ≠ some B := fun q => Bk.own_ne hosc br (by decide) q.symm
            have BF := Lib.hid (bk2 (v0 := .slice WA W.length wc) (v1 := .slice (some ⟨gb, 0, none⟩) (TT.length + 1) cap) br)
            have HXF := Lib.hid (ext2 (B := B) (hxo.trans hxc) hBw (.slice WA W.length wc) (.slice (some ⟨gb, 0, none⟩) (TT.length + 1) cap))
            have HSF := Lib.hid (RdS.own (own_far (p := ⟨B, 1, none⟩) (own_far (p := ⟨B, 0, none⟩) hosc hneS (.slice WA W.length wc)) hneS (.slice (some ⟨gb, 0, none⟩) (TT.length + 1) cap)))
            have hneI : Value.ownBlock (.slice (some ⟨gb, 0, none⟩) (TT.length + 1) cap) ≠ some B := fun q => Bk.own_ne hoic br (by decide) q.symm
            have HIF := Lib.hid (own_far (p := ⟨B, 1, none⟩) (own_far (p := ⟨B, 0, none⟩) hoic hneI (.slice WA W.length wc)) hneI (.slice (some ⟨gb, 0, none⟩) (TT.length + 1) cap))
            clear bkc hosc hoic br HBKc HXc HOSc HOIc hneS hneI
            go_wp2_with fail
            clear b0 b1 c0 c1 f0 f1
            have bF := BF.out
            have hxF := HXF.out
            have hsF := HSF.out
            have hiF := HIF.out
            generalize (w12.setCell _ _).setCell _ _ = wF at *
            have z0 := bF.cell 0
            have z1 := bF.cell 1
            have hrdT : Rd wF (some ⟨gb, 0, none⟩) (TT ++ [0]).length (fun k => .int .i64 (nth (TT ++ [0]) k : Nat)) := by
              have h' : wF.ownsRow wo.heap.size 3 1 (.slice (some ⟨gb, 0, none⟩) (TT ++ [0]).length cap) (TT ++ [0]).length ((TT ++ [0]).map fun x => Value.int .i64 (x : Nat)) := by
                rw [he] at hiF ⊢
                exact hiF
              exact rdN_own h'
            exact bodyPost_ret (v := .tuple #[bookV WA (some ⟨gb, 0, none⟩) W.length wc (TT.length + 1) cap, .int .i64 0]) (by simp [results, Tryz.results26, go_sem, z0, z1]) rfl (Q0.out wF WA wc (some ⟨gb, 0, none⟩) cap hxF HK.out g5 hnoneS hcapS hsF hcap hrdT)
theorem ordW_len (ws : List (List UInt8)) : (ordW ws).length ≤ ws.length := by
  unfold ordW
  have := compact_le (ws.mergeSort fun x y => decide (x ≤ y))
  rwa [List.length_mergeSort] at this
theorem all_ok {L : List (List (List UInt8))} (h : ∀ k, k < L.length → ∀ j, j < (nth L k).length → okW (nth (nth L k) j) = true) : (L.all fun l => l.all okW) = true := by
  rw [List.all_eq_true]
  intro l hl
  rw [List.all_eq_true]
  intro x hx
  obtain ⟨k, hk, rfl⟩ := List.getElem_of_mem hl
  obtain ⟨j, hj, rfl⟩ := List.getElem_of_mem hx
  have := h k hk j (by rw [nth_lt hk]; exact hj)
  rwa [nth_lt hk, nth_lt hj] at this
theorem not_ok {L : List (List (List UInt8))} {k j : Nat} (hk : k < L.length) (hj : j < (nth L k).length) (h : okW (nth (nth L k) j) = false) : (L.all fun l => l.all okW) = false := by
  rw [Bool.eq_false_iff]
  intro q
  have h1 := List.all_eq_true.1 (List.all_eq_true.1 q _ (nth_mem hk)) _ (nth_mem hj)
  rw [h] at h1
  cases h1
theorem read_calls (s : List UInt8) (hs : s.length ≤ 9223372036854775807) (m : Int) (w : World) (hm : w.cell? ⟨0, 0, none⟩ = some (.int .i64 m)) :
    Calls Tryz.prog 26 #[str s] w (RetRead s w) := by
  by_cases h4 : 400 < s.length
  · have he : errF s = 2 := by unfold errF; rw [if_pos h4]
    refine (read_long s hs w h4).mono ?_
    rintro e w' ⟨rfl, hx⟩
    exact Or.inl ⟨by rw [he]; decide, by rw [he]; rfl, hx⟩
  · have hLN : (linesF s).length = (pcs s).length := by rw [lines_pcs, List.length_map]
    have hlf := lines_flat s
    have hol := ordW_len (linesF s).flatten
    refine read_walk s _ (by omega) rfl (Nat.le_trans (suffix_len s) (by omega)) m w hm (pcs s) (linesF s) (pcs s).length rfl rfl hLN (by have := pcs_len s; omega) (fun k hk => ?_) (fun k hk => ?_) (fun k hk => ?_) (linesF s).flatten rfl (by omega)
      (wordsF s) (ordW_sorted _) rfl (by unfold wordsF; omega) (RetRead s w) ?_ ?_ ?_
    · rw [lines_pcs]; exact nth_wds hk
    · have := pcs_at s hk; omega
    · rw [lines_pcs, nth_wds hk]
      have := pcs_at s hk
      have := wds_len (nth (pcs s) k)
      omega
    · intro w' hx hok hT
      have hall := all_ok (L := linesF s) (by rw [hLN]; exact hok)
      have he : errF s = 2 := by unfold errF; rw [if_neg h4, hall, if_neg (by decide), if_pos hT]
      exact Or.inl ⟨by rw [he]; decide, by rw [he]; rfl, hx⟩
    · intro w' WA wc TA tc hx hok hT hWA hWc hS htc hTr
      have hall := all_ok (L := linesF s) (by rw [hLN]; exact hok)
      have he : errF s = 0 := by unfold errF; rw [if_neg h4, hall, if_neg (by decide), if_neg hT]
      have hel : (textN (wordsF s) (linesF s) ++ [0] : List Nat).length = (textN (wordsF s) (linesF s)).length + 1 := by simp
      exact Or.inr ⟨he, WA, TA, wc, tc, by rw [hel], by rw [hel]; exact htc, hWA, hWc, hS, hTr, hx⟩
    · intro w' k j hx hk hj hbad
      have hall := not_ok (L := linesF s) (by rw [hLN]; exact hk) hj hbad
      have he : errF s = 1 := by unfold errF; rw [if_neg h4, if_pos hall]
      exact Or.inl ⟨by rw [he]; decide, by rw [he]; rfl, hx⟩
end Go.Proofs.YtjfdlibceldanabGreatDoor
