/- sort.Alike: the walk. -/
import Derived.Test.YtjfdlibceldanaaSortRef
namespace Go.Proofs.Ytjfdlibceldanaa
open Go.RowKit Go.Sort En

theorem equal_calls (xs ys : List Int) (A B : Option Addr) (c d : Nat) (w : World) (hx : xs.length ≤ 1125899906842624) (hy : ys.length ≤ 1125899906842624) (h1 : Rd w A xs.length (fun k => .int .i64 (nth xs k))) (h2 : Rd w B ys.length (fun k => .int .i64 (nth ys k))) :
    Calls Try.prog 70 #[.slice A xs.length c, .slice B ys.length d] w fun e w' => e = .returned (.bool (decide (xs = ys))) ∧ Qt w w' := by
  by_cases hn : xs.length = ys.length
  · by_cases h0 : 0 < xs.length
    · obtain ⟨b1, o1, rfl, g1⟩ := rd_cells h1 h0
      obtain ⟨b2, o2, rfl, g2⟩ := rd_cells h2 (by omega)
      have h := Try.slices_Equal_int b1 o1 xs.length c b2 o2 ys.length d xs ys w (Nat.le_refl _) (Nat.le_refl _) (by omega) (by omega) g1 g2
      rw [List.take_length, List.take_length, show (xs == ys) = decide (xs = ys) from by rw [Bool.eq_iff_iff]; simp] at h
      exact h
    · have e1 : xs = [] := List.eq_nil_of_length_eq_zero (by omega)
      have e2 : ys = [] := List.eq_nil_of_length_eq_zero (by omega)
      subst e1; subst e2
      exact (Try.slices_Equal_int_empty A B c 0 d w (by omega)).mono fun e w' ⟨he, hw⟩ => ⟨by rw [he]; simp, 0, hw⟩
  · refine (Try.slices_Equal_int_lens A B xs.length c ys.length d w hn).mono fun e w' ⟨he, hw⟩ => ⟨?_, 0, hw⟩
    rw [he, decide_eq_false (fun h => hn (by rw [h]))]

/-- What Alike answers. -/
noncomputable def alikeF (l ends : List Int) : List Nat := by
  classical exact if ends = (endsF l).map Int.ofNat then (List.range l.length).map (alikeAt l (endsF l)) else []
theorem alikeF_no {l ends : List Int} (h : ¬ ends = (endsF l).map Int.ofNat) : alikeF l ends = [] := by unfold alikeF; rw [if_neg h]
theorem alikeF_yes (l : List Int) : alikeF l ((endsF l).map Int.ofNat) = (List.range l.length).map (alikeAt l (endsF l)) := by unfold alikeF; rw [if_pos rfl]

theorem nth_castI (ln : List Nat) (k : Nat) : nth (ln.map Int.ofNat) k = ((nth ln k : Nat) : Int) := by
  unfold nth
  rw [List.getElem?_map]
  cases ln[k]? <;> rfl
theorem rd_castI {w : World} {A : Option Addr} {ln : List Nat} (h : Rd w A ln.length (fun k => .int .i64 (nth ln k : Nat))) : Rd w A (ln.map Int.ofNat).length (fun k => .int .i64 (nth (ln.map Int.ofNat) k)) := by
  rw [List.length_map]
  exact h.congr fun k _ => by rw [nth_castI]

set_option maxHeartbeats 400000 in
set_option maxRecDepth 100000 in
theorem alike_no (l ends : List Int) (A E : Option Addr) (c d : Nat) (w : World) (hl : l.length ≤ 1048576) (he : ends.length ≤ 1125899906842624) (hr : Rd w A l.length (fun k => .int .i64 (nth l k))) (hre : Rd w E ends.length (fun k => .int .i64 (nth ends k))) (h : ¬ ends = (endsF l).map Int.ofNat) :
    Calls Try.prog 42 #[.slice A l.length c, .slice E ends.length d] w (RetInts [] w) := by
  have hn := (endsF_is l).length
  have hen := ends_calls l A c w hl hr
  obtain ⟨e, hee⟩ : ∃ e, endsF l = e := ⟨_, rfl⟩
  rw [hee] at hn hen h
  have heq : ∀ w B b, Rd w E ends.length (fun k => .int .i64 (nth ends k)) → Rd w B l.length (fun k => .int .i64 (nth e k : Nat)) → Calls Try.prog 70 #[.slice E ends.length d, .slice B l.length b] w fun e w' => e = .returned (.bool false) ∧ Qt w w' := fun w B b h1 h2 => by
    have hq := equal_calls ends (e.map Int.ofNat) E B d b w he (by rw [List.length_map]; omega) h1 (rd_castI (by rw [hn]; exact h2))
    rw [decide_eq_false h, List.length_map, hn] at hq
    exact hq
  have HE := Lib.hid heq; have HN := Lib.hid hen; have HL := Lib.hid hn
  clear heq hen h hee hn
  go_enter Try.func42, Try.ntmps42
  go_wp2_with fail
  refine HN.out.mono ?_
  rintro e' w1 ⟨B, b, rfl, _, hB, hx⟩
  rw [HL.out] at hB ⊢
  go_wp2_with fail
  with_reducible refine (HE.out w1 B b (hre.ext hx) hB).mono ?_
  rintro e' w2 ⟨rfl, q, rfl⟩
  go_wp2_with fail
  go_ret
  exact ⟨none, 0, rfl, fun _ => rfl, Rd.zero, hx.drewN q⟩

/-- A row that is filled place by place: at e's j-th number stands v j, for all j < i; elsewhere nought. -/
structure FiR (N g base : Nat) (p : Nat → Bool) (f : Nat → Nat → Prop) (nx : List Nat) (wr : World) : Prop where
  o : wr.ownsRow base 3 1 (.slice (some ⟨g, 0, none⟩) N N) N (nx.map fun x => Value.int .i64 (x : Nat))
  v : ∀ j, j < N → p j = true → f j (nth nx j)
theorem own_len {w : World} {base : Nat} {T : TypeId} {v : Value} {n : Nat} {α : Type} {f : α → Value} {e : List α} (h : w.ownsRow base T 1 v n (e.map f)) : e.length = n := by have := h.1; rw [List.length_map] at this; omega
theorem nth_setN {l : List Nat} {a : Nat} (x : Nat) (h : a < l.length) (j : Nat) : nth (l.set a x) j = if j = a then x else nth l j := by
  unfold nth
  rw [List.getElem?_set]
  by_cases e : a = j
  · subst e; rw [if_pos rfl, if_pos h, if_pos rfl]; rfl
  · rw [if_neg e, if_neg (fun q => e q.symm)]
theorem made_row (N : Nat) : (madeCells #[Value.int .i64 0] N).toList = (List.replicate N 0).map fun x : Nat => Value.int .i64 (x : Nat) := by
  rw [made_zero, List.map_replicate]
  apply List.ext_getElem
  · simp
  · intro i h1 h2; simp
theorem nth_replicate0 (N j : Nat) : nth (List.replicate N 0) j = 0 := by
  unfold nth
  rw [List.getElem?_replicate]
  split <;> rfl
/-- The place of every end. -/
def PlR (_ : Nat) (e : List Nat) (i : Nat) (nx : List Nat) : Prop := ∀ j, j < i → nth nx (nth e j) = j
/-- What Alike has written so far. -/
def OxR (l : List Int) (e : List Nat) (a : Nat) (ox : List Nat) : Prop := ∀ j, j < l.length → nth ox j = if nth e j < a then alikeAt l e j else 0
theorem ends_idx {l : List Int} {e : List Nat} (h : IsEnds l e) {a : Nat} (ha : a < l.length) : ∃ j, j < l.length ∧ nth e j = a := by
  obtain ⟨j, hj, hje⟩ := List.getElem_of_mem (h.mem ha)
  exact ⟨j, by rw [← h.length]; exact hj, by rw [nth_lt hj]; exact hje⟩
theorem ends_inj {l : List Int} {e : List Nat} (h : IsEnds l e) {i j : Nat} (hi : i < l.length) (hj : j < l.length) (he : nth e i = nth e j) : i = j := by
  rcases Nat.lt_trichotomy i j with g | g | g
  · have := h.at g hj; rw [he] at this; unfold cE at this; rw [cmpL_refl] at this; omega
  · exact g
  · have := h.at g hi; rw [he] at this; unfold cE at this; rw [cmpL_refl] at this; omega
theorem OxR.zero {l : List Int} {e ox : List Nat} {a : Nat} (h : OxR l e a ox) (hE : IsEnds l e) (hn : 0 < l.length) (h0 : nth e 0 = a) : OxR l e (a + 1) ox := fun j hj => by
  rw [h j hj]
  by_cases g : j = 0
  · subst g; rw [if_neg (by omega), if_pos (by omega)]; rfl
  · have : nth e j ≠ a := fun q => g (ends_inj hE hj hn (q.trans h0.symm))
    by_cases g2 : nth e j < a
    · rw [if_pos g2, if_pos (by omega)]
    · rw [if_neg g2, if_neg (by omega)]
theorem OxR.step {l : List Int} {e ox : List Nat} {a i L : Nat} (h : OxR l e a ox) (hE : IsEnds l e) (hx : ox.length = l.length) (hi : i < l.length) (hie : nth e i = a) (hL : alikeAt l e i = L) : OxR l e (a + 1) (ox.set i L) := fun j hj => by
  rw [nth_setN _ (by omega)]
  by_cases g : j = i
  · subst g; rw [if_pos rfl, if_pos (by omega), hL]
  · rw [if_neg g, h j hj]
    have : nth e j ≠ a := fun q => g (ends_inj hE hj hi (q.trans hie.symm))
    by_cases g2 : nth e j < a
    · rw [if_pos g2, if_pos (by omega)]
    · rw [if_neg g2, if_neg (by omega)]
theorem OxR.done {l : List Int} {e ox : List Nat} (h : OxR l e l.length ox) (hE : IsEnds l e) (hx : ox.length = l.length) : ox = (List.range l.length).map (alikeAt l e) := by
  refine nth_ext (by simp [hx]) fun k hk => ?_
  rw [h k (by omega), if_pos (hE.nth_lt (by omega)), nth_map_range _ _ _ (by omega)]

set_option maxHeartbeats 4000000 in
set_option maxRecDepth 100000 in
theorem alike_yes (l : List Int) (A E : Option Addr) (c d : Nat) (w : World) (hl : l.length ≤ 1048576) (hr : Rd w A l.length (fun k => .int .i64 (nth l k))) (hre : Rd w E l.length (fun k => .int .i64 (nth (endsF l) k : Nat))) :
    Calls Try.prog 42 #[.slice A l.length c, .slice E l.length d] w (RetInts ((List.range l.length).map (alikeAt l (endsF l))) w) := by
  obtain ⟨ii, hi, hj0, hj1, hj2⟩ := info_parts info_int
  have hE := endsF_is l
  have hn := hE.length
  have hen := ends_calls l A c w hl hr
  obtain ⟨e, hee⟩ : ∃ e, endsF l = e := ⟨_, rfl⟩
  rw [hee] at hn hen hE hre ⊢
  have heq : ∀ w B b, Rd w E l.length (fun k => .int .i64 (nth e k : Nat)) → Rd w B l.length (fun k => .int .i64 (nth e k : Nat)) → Calls Try.prog 70 #[.slice E l.length d, .slice B l.length b] w fun e w' => e = .returned (.bool true) ∧ Qt w w' := fun w B b h1 h2 => by
    have hq := equal_calls (e.map Int.ofNat) (e.map Int.ofNat) E B d b w (by rw [List.length_map]; omega) (by rw [List.length_map]; omega) (rd_castI (by rw [hn]; exact h1)) (rd_castI (by rw [hn]; exact h2))
    rw [decide_eq_true rfl, List.length_map, hn] at hq
    exact hq
  have HE := Lib.hid heq; have HN := Lib.hid hen; have HL := Lib.hid hn; have IE := Lib.hid hE; have HR := Lib.hid hr; have HRE := Lib.hid hre
  clear heq hen hee hn hE hr hre
  go_enter Try.func42, Try.ntmps42
  go_wp2_with fail
  refine HN.out.mono ?_
  rintro e' w1 ⟨B, b, rfl, _, hB, hx⟩
  rw [HL.out] at hB ⊢
  go_wp2_with fail
  with_reducible refine (HE.out w1 B b (HRE.out.ext hx) hB).mono ?_
  rintro e' w2 ⟨rfl, q, rfl⟩
  have hx2 := hx.drewN q
  clear hB hx HN HE
  generalize w1.drewN q = w2 at *
  have hb2 : w2.heap.size ≤ w2.heap.size := Nat.le_refl _
  go_wp2_with (at_make; refine wpList_make_full _ rfl _ _ 24 rfl w2.heap.size 3 ii (.int .i64 0) 1 Try.underlying24 hi hj0 hj1 _ _ _ _ l.length rfl rfl rfl rfl ?c1 ?c2 ?c3 ?_)
  case c1 => rw [hj2]; omega
  case c2 => unfold maxLen; omega
  case c3 => exact hb2
  intro w3 hown3 hgrow3
  have hx3 := hx2.trans (ext_of_grown hgrow3)
  have HO3 := Lib.hid hown3
  have hlt3 : w2.heap.size < w3.heap.size := (own_row_ge hown3 _ rfl).2
  have hb3 : w3.heap.size ≤ w3.heap.size := Nat.le_refl _
  have hwb : w.heap.size ≤ w2.heap.size := hx2.size
  clear hown3 hgrow3 hx2
  generalize w2.heap.size = OB at *
  go_wp2_with (at_make; refine wpList_make_full _ rfl _ _ 24 rfl w3.heap.size 3 ii (.int .i64 0) 1 Try.underlying24 hi hj0 hj1 _ _ _ _ l.length rfl rfl rfl rfl ?c1 ?c2 ?c3 ?_)
  case c1 => rw [hj2]; omega
  case c2 => unfold maxLen; omega
  case c3 => exact hb3
  intro w4 hown4 hgrow4
  have hx4 := hx3.trans (ext_of_grown hgrow4)
  have ho4 := own_ext HO3.out (ext_of_grown hgrow4)
  rw [made_row] at ho4 hown4
  have HO4 := Lib.hid ho4; have HP4 := Lib.hid hown4
  clear HO3 hown4 hgrow4 ho4 hx3 hb3 hb2
  generalize w3.heap.size = PB at *
  go_wp2_with fail
  go_loopw [25] (fun vi wr => ∃ (i : Nat) (pl : List Nat), vi = .int .i64 i ∧ i ≤ l.length ∧ Hid (wr.ownsRow PB 3 1 (.slice (some ⟨PB, 0, none⟩) l.length l.length) l.length (pl.map fun x => Value.int .i64 (x : Nat))) ∧ Hid (PlR l.length e i pl) ∧ Hid (wr.ownsRow OB 3 1 (.slice (some ⟨OB, 0, none⟩) l.length l.length) l.length ((List.replicate l.length 0).map fun x => Value.int .i64 (x : Nat))) ∧ Ext w wr) (fun vi _ => l.length - (intOf vi).toNat)
  case atStart => exact ⟨0, _, rfl, by omega, HP4, (fun j hj => absurd hj (by omega)), HO4, hx4⟩
  case round => as_aux_lemma =>
    clear HP4 HO4 hx4
    obtain ⟨i, pl, rfl, hi', HP, PL, HO, hx⟩ := hrel
    by_cases g1 : i < l.length
    · obtain ⟨b1, o1, hEE, hb1, hc1⟩ := (HRE.out.ext hx) (by omega)
      subst hEE
      have p1 := hc1 i g1
      dsimp only at p1
      have ha := IE.out.nth_lt g1
      obtain ⟨a, hae⟩ : ∃ a, nth e i = a := ⟨_, rfl⟩
      rw [hae] at p1 ha
      have q1 := own_at HP.out ha
      have q2 := HP.out.frozenAt a
      have HP2 : Hid ((wr.setCell ⟨PB, a, none⟩ (.int .i64 i)).ownsRow PB 3 1 (.slice (some ⟨PB, 0, none⟩) l.length l.length) l.length ((pl.set a i).map fun x => Value.int .i64 (x : Nat))) := by
        have := (HP.out.stored a (.int .i64 i)).1
        rw [← List.map_set] at this
        exact this
      have PL2 : Hid (PlR l.length e (i + 1) (pl.set a i)) := fun j hj => by
        rw [nth_setN _ (by rw [own_len HP.out]; exact ha)]
        by_cases g : j = i
        · subst g; rw [if_pos hae]
        · rw [if_neg (fun q => g (ends_inj IE.out (by omega) g1 (q.trans hae.symm)))]
          exact PL.out j (by omega)
      have HO2 := Lib.hid (own_far (p := ⟨PB, a, none⟩) HO.out (by simp [Value.ownBlock]; omega) (.int .i64 i))
      have hx5 := hx.setCell (p := ⟨PB, a, none⟩) (by show w.heap.size ≤ PB; omega) (.int .i64 i)
      clear hc1 hae HP PL HO hx
      go_wp2_with fail
      refine ⟨⟨i + 1, _, by go_num, by omega, HP2, PL2, HO2, hx5⟩, by simp [intOf]; omega⟩
    · obtain rfl : i = l.length := by omega
      obtain ⟨wo, rfl⟩ : ∃ wo, wo = wr := ⟨_, rfl⟩
      have OX0 : Hid (OxR l e 0 (List.replicate l.length 0)) := fun j hj => by rw [nth_replicate0, if_neg (by omega)]
      go_wp2_with fail
      go_loopw [9, 37] (fun vn va wr => ∃ (a m : Nat) (ox : List Nat), va = .int .i64 a ∧ a ≤ l.length ∧ vn = .int .i64 m ∧ Hid (∀ j, j < l.length → nth e j = a → m ≤ alikeAt l e j) ∧ Hid (wr.ownsRow PB 3 1 (.slice (some ⟨PB, 0, none⟩) l.length l.length) l.length (pl.map fun x => Value.int .i64 (x : Nat))) ∧ Hid (wr.ownsRow OB 3 1 (.slice (some ⟨OB, 0, none⟩) l.length l.length) l.length (ox.map fun x => Value.int .i64 (x : Nat))) ∧ Hid (OxR l e a ox) ∧ Ext w wr) (fun _ va _ => l.length - (intOf va).toNat)
      case atStart => exact ⟨0, 0, _, rfl, by omega, rfl, (fun _ _ _ => Nat.zero_le _), HP, HO, OX0, hx⟩
      case round => as_aux_lemma =>
        clear OX0 HO hx HP
        obtain ⟨a, m, ox, rfl, ha, rfl, HM, HP, HO, OX, hx⟩ := hrel
        by_cases g2 : a < l.length
        · obtain ⟨j, hj, hja⟩ := ends_idx IE.out g2
          have q1 := own_at HP.out g2
          have hpj : nth pl a = j := by rw [← hja]; exact PL.out j hj
          rw [hpj] at q1
          have HJ := Lib.hid hja
          clear hpj
          by_cases g3 : j = 0
          · subst g3
            have OX2 := Lib.hid (OX.out.zero IE.out (by omega) hja)
            clear hja OX
            go_wp2_with fail
            refine ⟨⟨a + 1, 0, ox, by go_num, by omega, rfl, (fun _ _ _ => Nat.zero_le _), HP, HO, OX2, hx⟩, by simp [intOf]; omega⟩
          · obtain ⟨j1, rfl⟩ : ∃ j1, j = j1 + 1 := ⟨j - 1, by omega⟩
            have hj1' : j1 < l.length := by omega
            have hjz : (((j1 + 1 : Nat) : Int) == 0) = false := by rw [beq_eq_false_iff_ne]; omega
            have hjm : ((j1 + 1 : Nat) : Int) - 1 = (j1 : Int) := by omega
            obtain ⟨b2, o2, hEE, hb2, hc2⟩ := (HRE.out.ext hx) (by omega)
            subst hEE
            have p2 := hc2 j1 hj1'
            dsimp only at p2
            have ho := IE.out.nth_lt hj1'
            have hal := alikeAt_pos l e (i := j1 + 1) (by omega)
            rw [Nat.add_sub_cancel, hja] at hal
            have hm0 := HM.out (j1 + 1) hj hja
            obtain ⟨o, hoe⟩ : ∃ o, nth e j1 = o := ⟨_, rfl⟩
            rw [hoe] at p2 ho hal
            obtain ⟨L, hL⟩ : ∃ L, alikeAt l e (j1 + 1) = L := ⟨_, rfl⟩
            rw [hL] at hal hm0
            have hLl : L ≤ l.length := by
              rw [hal]
              have := (lcp_le (l.drop o) (l.drop a)).2
              rw [List.length_drop] at this; omega
            have hgo : ∀ m, m ≤ L → (m < L ↔ (o + m < l.length ∧ a + m < l.length ∧ nth l (o + m) = nth l (a + m))) := fun m hm => by
              rw [hal] at hm ⊢
              rw [lcp_go hm, nth_drop, nth_drop, List.length_drop, List.length_drop]
              constructor
              · rintro ⟨h1, h2, h3⟩; exact ⟨by omega, by omega, h3⟩
              · rintro ⟨h1, h2, h3⟩; exact ⟨by omega, by omega, h3⟩
            have HGO := Lib.hid hgo; have HLL := Lib.hid hL
            have hrx := Lib.hid (HR.out.ext hx)
            clear hc2 hoe hal hL hgo hja HM
            have c5 := own_at HO.out hj
            have f5 := HO.out.frozenAt (j1 + 1)
            have hol := own_len HO.out
            obtain ⟨L1, hL1⟩ : ∃ x, L - 1 = x := ⟨_, rfl⟩
            have hmx : max 0 ((L : Int) - 1) = (L1 : Int) := by omega
            have HL1 := Lib.hid hL1
            have HJA := Lib.hid hj
            have fin : ∀ q, Hid (((wr.drewN q).setCell ⟨OB, j1 + 1, none⟩ (.int .i64 L)).ownsRow PB 3 1 (.slice (some ⟨PB, 0, none⟩) l.length l.length) l.length (pl.map fun x => Value.int .i64 (x : Nat))) ∧ Hid (((wr.drewN q).setCell ⟨OB, j1 + 1, none⟩ (.int .i64 L)).ownsRow OB 3 1 (.slice (some ⟨OB, 0, none⟩) l.length l.length) l.length ((ox.set (j1 + 1) L).map fun x => Value.int .i64 (x : Nat))) ∧ Ext w ((wr.drewN q).setCell ⟨OB, j1 + 1, none⟩ (.int .i64 L)) := fun q => by
              refine ⟨own_far (p := ⟨OB, j1 + 1, none⟩) (own_ext HP.out ((Ext.refl _).drewN q)) (by simp [Value.ownBlock]; omega) _, ?_, (hx.drewN q).setCell (p := ⟨OB, j1 + 1, none⟩) hwb _⟩
              have := (HO.out.stored (j1 + 1) (.int .i64 L)).1
              rw [← List.map_set] at this
              exact this
            have OX2 := Lib.hid (OX.out.step IE.out hol hj HJ.out HLL.out)
            have HM2 : Hid (∀ j, j < l.length → nth e j = a + 1 → L1 ≤ alikeAt l e j) := fun j h1 h2 => by
              have := alike_next IE.out hj h1 (h2.trans (by rw [HJ.out]))
              rw [HLL.out] at this
              have := HL1.out
              omega
            have FIN := Lib.hid fin
            clear fin OX HP HO hL1
            go_wp2_with fail
            obtain ⟨wq, rfl⟩ : ∃ wq, wq = wr := ⟨_, rfl⟩
            go_loopw [9] (fun vn wr => ∃ m q : Nat, vn = .int .i64 m ∧ m ≤ L ∧ wr = wq.drewN q) (fun vn _ => L - (intOf vn).toNat)
            case atStart => exact ⟨m, 0, rfl, hm0, rfl⟩
            case round => as_aux_lemma =>
              clear hm0
              obtain ⟨m, q, rfl, hm, rfl⟩ := hrel
              obtain ⟨om, hom⟩ : ∃ x, o + m = x := ⟨_, rfl⟩
              obtain ⟨am, ham⟩ : ∃ x, a + m = x := ⟨_, rfl⟩
              have hwo : IntKind.i64.wrap ((o : Int) + (m : Int)) = (om : Int) := by rw [IntWalk.i64_in _ (by omega)]; omega
              have hwa : IntKind.i64.wrap ((a : Int) + (m : Int)) = (am : Int) := by rw [IntWalk.i64_in _ (by omega)]; omega
              have hgo := HGO.out m hm
              rw [hom, ham] at hgo
              have HG := Lib.hid hgo
              clear hom ham hgo
              by_cases h1 : am < l.length
              · have h1' : decide (am < l.length) = true := by simpa using h1
                by_cases h2 : om < l.length
                · have h2' : decide (om < l.length) = true := by simpa using h2
                  obtain ⟨b3, o3, hAA, hb3, hc3⟩ := hrx.out (by omega)
                  subst hAA
                  have r1 := hc3 am h1
                  have r2 := hc3 om h2
                  dsimp only at r1 r2
                  obtain ⟨x, hx'⟩ : ∃ x, nth l am = x := ⟨_, rfl⟩
                  obtain ⟨y, hy'⟩ : ∃ y, nth l om = y := ⟨_, rfl⟩
                  rw [hx'] at r1
                  rw [hy'] at r2
                  have HX := Lib.hid hx'; have HY := Lib.hid hy'
                  clear hc3 hx' hy'
                  by_cases h3 : x = y
                  · have h3' : (x == y) = true := by simpa using h3
                    have hlt : m < L := HG.out.2 ⟨h2, h1, by rw [HX.out, HY.out, h3]⟩
                    clear h3
                    go_upto_region 17 with fail
                    go_quiet (fail)
                    go_wp2_with fail
                    refine ⟨⟨m + 1, _, by go_num, by omega, rfl⟩, by simp [intOf]; omega⟩
                  · have h3' : (x == y) = false := by simpa using h3
                    have hge : m = L := by
                      have := HG.out
                      by_cases g : m < L
                      · exact absurd ((this.1 g).2.2) (fun q => h3 (by rw [← HX.out, ← HY.out, q]))
                      · omega
                    subst hge
                    clear HG HGO
                    go_upto_region 17 with fail
                    go_quiet (fail)
                    go_wp2_with fail
                    obtain ⟨F1, F2, F3⟩ := FIN.out (q + nq)
                    refine ⟨⟨a + 1, L1, _, by go_num, by omega, rfl, HM2, F1, F2, OX2, F3⟩, by simp [intOf]; omega⟩
                · have h2' : decide (om < l.length) = false := by simpa using h2
                  have hge : m = L := by
                    by_cases g : m < L
                    · exact absurd (HG.out.1 g).1 h2
                    · omega
                  subst hge
                  clear HG HGO
                  go_upto_region 17 with fail
                  go_quiet (fail)
                  go_wp2_with fail
                  obtain ⟨F1, F2, F3⟩ := FIN.out (q + nq)
                  refine ⟨⟨a + 1, L1, _, by go_num, by omega, rfl, HM2, F1, F2, OX2, F3⟩, by simp [intOf]; omega⟩
              · have h1' : decide (am < l.length) = false := by simpa using h1
                have hge : m = L := by
                  by_cases g : m < L
                  · exact absurd (HG.out.1 g).2.1 h1
                  · omega
                subst hge
                clear HG HGO
                go_upto_region 17 with fail
                go_quiet (fail)
                go_wp2_with fail
                obtain ⟨F1, F2, F3⟩ := FIN.out (q + nq)
                refine ⟨⟨a + 1, L1, _, by go_num, by omega, rfl, HM2, F1, F2, OX2, F3⟩, by simp [intOf]; omega⟩
        · obtain rfl : a = l.length := by omega
          have hdone := OX.out.done IE.out (own_len HO.out)
          have HD := Lib.hid hdone
          clear hdone
          go_wp2_with fail
          go_ret
          have ho := HO.out
          rw [HD.out] at ho
          exact ⟨some ⟨OB, 0, none⟩, l.length, by rw [List.length_map, List.length_range]; rfl, (fun h => by cases h), rd_ints ho, hx⟩

theorem alike_calls (l ends : List Int) (A E : Option Addr) (c d : Nat) (w : World) (hl : l.length ≤ 1048576) (he : ends.length ≤ 1125899906842624) (hr : Rd w A l.length (fun k => .int .i64 (nth l k))) (hre : Rd w E ends.length (fun k => .int .i64 (nth ends k))) :
    Calls Try.prog 42 #[.slice A l.length c, .slice E ends.length d] w (RetInts (alikeF l ends) w) := by
  by_cases h : ends = (endsF l).map Int.ofNat
  · subst h
    have hn := (endsF_is l).length
    rw [alikeF_yes]
    rw [List.length_map] at hre ⊢
    have hre2 := hre.congr (g := fun k => .int .i64 (nth (endsF l) k : Nat)) (fun k _ => by rw [nth_castI])
    rw [hn] at hre2 ⊢
    exact alike_yes l A E c d w hl hr hre2
  · rw [alikeF_no h]
    exact alike_no l ends A E c d w hl he hr hre h
end Go.Proofs.Ytjfdlibceldanaa
