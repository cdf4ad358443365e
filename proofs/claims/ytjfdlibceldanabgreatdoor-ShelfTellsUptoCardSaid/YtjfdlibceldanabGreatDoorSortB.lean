/- sort.Ends of nothing; and of every list. The references ahead and EndsOf: the walks. sort.Alike: the walk. sort.Good and the reference IsList: the walks. -/
import Derived.Test.YtjfdlibceldanabGreatDoorSortEndsW
/-! sort.Ends of nothing; and of every list. -/
namespace Go.Proofs.YtjfdlibceldanabGreatDoor
open Go.RowKit Go.Sort En

set_option maxHeartbeats 4000000 in
set_option maxRecDepth 100000 in
theorem ends_nil (A : Option Addr) (c : Nat) (w : World) : Calls Tryz.prog 50 #[.slice A 0 c] w (RetInts [] w) := by
  obtain ⟨ii, hi, hj0, hj1, hj2⟩ := info_parts info_int
  have hclone : ∀ w, Calls Tryz.prog 61 #[.slice A 0 c] w fun e w' => ∃ A' c', e = .returned (.slice A' 0 c') ∧ Ext w w' := fun w => by
    cases A with
    | none =>
      refine (Tryz.slices_Clone_int_nil 0 c w).mono ?_
      rintro e w' ⟨he, rfl⟩
      exact ⟨none, 0, he, Ext.refl _⟩
    | some a =>
      refine (Tryz.slices_Clone_int_zero a c w).mono ?_
      rintro e w' ⟨v', he, ho, _, hx⟩
      obtain ⟨A', c', rfl⟩ := own_form ho
      exact ⟨A', c', he, hx⟩
  have HC := Lib.hid hclone
  clear hclone
  go_enter Tryz.func50, Tryz.ntmps50
  go_wp2_with (at_make; refine wpList_make_full _ rfl _ _ 24 rfl w.heap.size 3 ii (.int .i64 0) 1 Tryz.underlying24 hi hj0 hj1 _ _ _ _ 0 rfl rfl rfl rfl ?c1 ?c2 ?c3 ?_)
  case c1 => rw [hj2]; omega
  case c2 => unfold maxLen; omega
  case c3 => simp
  intro w1 hown1 hgrow1
  have bl1 := (bk_of (w := w) rfl).ext (ext_of_grown hgrow1)
  have hx1 : Ext w w1 := ((Ext.refl w).alloc _).trans (ext_of_grown hgrow1)
  have hx0' : w1.cell? ⟨w.heap.size, 0, none⟩ = some (.slice A 0 c) := bl1.cell 0
  clear hown1 hgrow1
  go_wp2_with fail
  refine (HC.out w1).mono ?_
  rintro e w2 ⟨A', c', rfl, hx2⟩
  go_wp2_with fail
  generalize hW : World.alloc w2 _ = W
  have br := Lib.hid (bk_of hW)
  have bl := Lib.hid (bl1.ext (hx2.trans (ext_of_alloc hW)))
  have hx3 := (hx1.trans hx2).trans (ext_of_alloc hW)
  have hRB : w.heap.size < w2.heap.size := Nat.lt_of_lt_of_le bl1.lt hx2.size
  generalize w2.heap.size = RB at *
  clear hW hx0' bl1 hx1 hx2
  go_loopw [19] (fun vi wr => vi = .int .i64 0 ∧ wr = W) (fun _ _ => 0)
  case atStart => exact ⟨rfl, rfl⟩
  case round => as_aux_lemma =>
    obtain ⟨rfl, rfl⟩ := hrel
    go_wp2_with fail
    generalize hWF : World.alloc wr _ = WF
    have hxF := ext_of_alloc hWF
    have BR := Lib.hid (br.out.ext hxF); have BL := Lib.hid (bl.out.ext hxF); have BF := Lib.hid (bk_of hWF)
    have hx4 := hx3.trans hxF
    clear hWF hxF br bl hx3
    have hlt : RB < WF.heap.size := BR.out.lt
    generalize wr.heap.size = FB at *
    go_loopw [6] (fun v6 wr => v6 = .pointer (some ⟨FB, 0, none⟩) ∧ wr = WF) (fun _ _ => 0)
    case atStart => exact ⟨rfl, rfl⟩
    case round => as_aux_lemma =>
      obtain ⟨rfl, rfl⟩ := hrel
      go_wp2_with fail
      refine (sort0_calls _ _ _ wr).mono ?_
      rintro e w3 ⟨rfl, rfl⟩
      have y0 : w3.cell? ⟨w.heap.size, 0, none⟩ = some (.slice A 0 c) := BL.out.cell 0
      have hb3 : w3.heap.size ≤ w3.heap.size := Nat.le_refl _
      go_wp2_with (at_make; refine wpList_make_full _ rfl _ _ 24 rfl w3.heap.size 3 ii (.int .i64 0) 1 Tryz.underlying24 hi hj0 hj1 _ _ _ _ 0 rfl rfl rfl rfl ?c1 ?c2 ?c3 ?_)
      case c1 => rw [hj2]; omega
      case c2 => unfold maxLen; omega
      case c3 => exact hb3
      intro w4 hown4 hgrow4
      have hx5 := ext_of_grown hgrow4
      have BR4 := Lib.hid (BR.out.ext hx5); have BL4 := Lib.hid (BL.out.ext hx5)
      have hx6 := hx4.trans hx5
      clear hown4 hgrow4 y0
      go_wp2_with fail
      obtain ⟨wo, rfl⟩ : ∃ wo, wo = w4 := ⟨_, rfl⟩
      go_loopw [9, 38] (fun vn vi wr => vn = .int .i64 0 ∧ vi = .int .i64 0 ∧ wr = wo) (fun _ _ _ => 0)
      case atStart => exact ⟨rfl, rfl, rfl⟩
      case round => as_aux_lemma =>
        obtain ⟨rfl, rfl, rfl⟩ := hrel
        have f1 := BR4.out.cell 0
        have f2 := BR4.out.frozen 0
        go_upto_region 22 with fail
        have hne : w.heap.size ≠ RB := by omega
        have y1 : (wr.setCell ⟨RB, 0, none⟩ (.slice (some ⟨w3.heap.size, 0, none⟩) 0 0)).cell? ⟨w.heap.size, 0, none⟩ = some (.slice A 0 c) := ((BL4.out.far (p := ⟨RB, 0, none⟩) hne _).cell 0)
        have hx7 := hx6.setCell (p := ⟨RB, 0, none⟩) (Nat.le_of_lt hRB) (.slice (some ⟨w3.heap.size, 0, none⟩) 0 0)
        go_wp2_with fail
        go_ret
        exact ⟨some ⟨w.heap.size + 1, 0, none⟩, 0, rfl, (fun h => by cases h), Rd.zero, hx7⟩

theorem ends_calls (l : List Int) (A : Option Addr) (c : Nat) (w : World) (hl : l.length ≤ 1048576) (hr : Rd w A l.length (fun k => .int .i64 (nth l k))) :
    Calls Tryz.prog 50 #[.slice A l.length c] w (RetInts (endsF l) w) := by
  cases l with
  | nil =>
    rw [← ends_eq (ord_one (l := []) rfl)]
    exact ends_nil A c w
  | cons a t => exact ends_pos (a :: t) A c w (by simp) hl hr
end Go.Proofs.YtjfdlibceldanabGreatDoor

/-! The references ahead and EndsOf: the walks. -/
namespace Go.Proofs.YtjfdlibceldanabGreatDoor
open Go.RowKit Go.Sort En

theorem Qt.drewN {w w' : World} (h : Qt w w') (n : Nat) : Qt w (w'.drewN n) := by obtain ⟨q, rfl⟩ := h; exact ⟨q + n, by simp⟩
/-! ### One end more, put where it belongs -/
theorem ins_len {e : List Nat} {k x : Nat} (h : k ≤ e.length) : (e.take k ++ x :: e.drop k).length = e.length + 1 := by
  rw [List.length_append, List.length_take, List.length_cons, List.length_drop]; omega
theorem ins_nth {e : List Nat} {k x j : Nat} (h : k ≤ e.length) (hj : j < k) : nth (e.take k ++ x :: e.drop k) j = nth e j := by
  unfold nth
  rw [List.getElem?_append_left (by rw [List.length_take]; omega), List.getElem?_take_of_lt hj]
theorem ins_set {e : List Nat} {k x y : Nat} (h : k ≤ e.length) : (e.take k ++ x :: e.drop k).set k y = e.take k ++ y :: e.drop k := by
  rw [List.set_append_right _ _ (by rw [List.length_take]; omega), List.length_take, Nat.min_eq_left h, Nat.sub_self]; rfl
theorem ins_shift {e : List Nat} {k : Nat} (h : k + 1 ≤ e.length) : e.take (k + 1) ++ nth e k :: e.drop (k + 1) = e.take k ++ nth e k :: e.drop k := by
  rw [List.take_succ_eq_append_getElem (by omega), ← nth_lt (by omega), List.append_assoc, nth_lt (by omega), List.drop_eq_getElem_cons (show k < e.length by omega)]; rfl
theorem ins_end (e : List Nat) (x : Nat) : e ++ [x] = e.take e.length ++ x :: e.drop e.length := by rw [List.take_length, List.drop_length]

end Go.Proofs.YtjfdlibceldanabGreatDoor

/-! sort.Alike: the walk. -/
namespace Go.Proofs.YtjfdlibceldanabGreatDoor
open Go.RowKit Go.Sort En

/-- What Alike answers. -/
noncomputable def alikeF (l ends : List Int) : List Nat := by
  classical exact if ends = (endsF l).map Int.ofNat then (List.range l.length).map (alikeAt l (endsF l)) else []
theorem alikeF_no {l ends : List Int} (h : ¬ ends = (endsF l).map Int.ofNat) : alikeF l ends = [] := by unfold alikeF; rw [if_neg h]
theorem alikeF_yes (l : List Int) : alikeF l ((endsF l).map Int.ofNat) = (List.range l.length).map (alikeAt l (endsF l)) := by unfold alikeF; rw [if_pos rfl]

theorem nth_castI (ln : List Nat) (k : Nat) : nth (ln.map Int.ofNat) k = ((nth ln k : Nat) : Int) := by
  unfold nth
  rw [List.getElem?_map]
  cases ln[k]? <;> rfl
theorem rd_castI {w : World} {A : Option Addr} {ln : List Nat} (h : Rd w A ln.length (fun k => .int .i64 (nth ln k : Nat))) : Rd w A (ln.map Int.ofNat).length (fun k => .int .i64 (nth (ln.map Int.ofNat) k)) := by
  rw [List.length_map]
  exact h.congr fun k _ => by rw [nth_castI]

/-- A row that is filled place by place: at e's j-th number stands v j, for all j < i; elsewhere nought. -/
structure FiR (N g base : Nat) (p : Nat → Bool) (f : Nat → Nat → Prop) (nx : List Nat) (wr : World) : Prop where
  o : wr.ownsRow base 3 1 (.slice (some ⟨g, 0, none⟩) N N) N (nx.map fun x => Value.int .i64 (x : Nat))
  v : ∀ j, j < N → p j = true → f j (nth nx j)
theorem own_len {w : World} {base : Nat} {T : TypeId} {v : Value} {n : Nat} {α : Type} {f : α → Value} {e : List α} (h : w.ownsRow base T 1 v n (e.map f)) : e.length = n := by have := h.1; rw [List.length_map] at this; omega
theorem nth_setN {l : List Nat} {a : Nat} (x : Nat) (h : a < l.length) (j : Nat) : nth (l.set a x) j = if j = a then x else nth l j := by
  unfold nth
  rw [List.getElem?_set]
  by_cases e : a = j
  · subst e; rw [if_pos rfl, if_pos h, if_pos rfl]; rfl
  · rw [if_neg e, if_neg (fun q => e q.symm)]
theorem made_row (N : Nat) : (madeCells #[Value.int .i64 0] N).toList = (List.replicate N 0).map fun x : Nat => Value.int .i64 (x : Nat) := by
  rw [made_zero, List.map_replicate]
  apply List.ext_getElem
  · simp
  · intro i h1 h2; simp
theorem nth_replicate0 (N j : Nat) : nth (List.replicate N 0) j = 0 := by
  unfold nth
  rw [List.getElem?_replicate]
  split <;> rfl
/-- The place of every end. -/
def PlR (_ : Nat) (e : List Nat) (i : Nat) (nx : List Nat) : Prop := ∀ j, j < i → nth nx (nth e j) = j
/-- What Alike has written so far. -/
def OxR (l : List Int) (e : List Nat) (a : Nat) (ox : List Nat) : Prop := ∀ j, j < l.length → nth ox j = if nth e j < a then alikeAt l e j else 0
theorem ends_idx {l : List Int} {e : List Nat} (h : IsEnds l e) {a : Nat} (ha : a < l.length) : ∃ j, j < l.length ∧ nth e j = a := by
  obtain ⟨j, hj, hje⟩ := List.getElem_of_mem (h.mem ha)
  exact ⟨j, by rw [← h.length]; exact hj, by rw [nth_lt hj]; exact hje⟩
theorem ends_inj {l : List Int} {e : List Nat} (h : IsEnds l e) {i j : Nat} (hi : i < l.length) (hj : j < l.length) (he : nth e i = nth e j) : i = j := by
  rcases Nat.lt_trichotomy i j with g | g | g
  · have := h.at g hj; rw [he] at this; unfold cE at this; rw [cmpL_refl] at this; omega
  · exact g
  · have := h.at g hi; rw [he] at this; unfold cE at this; rw [cmpL_refl] at this; omega
theorem OxR.zero {l : List Int} {e ox : List Nat} {a : Nat} (h : OxR l e a ox) (hE : IsEnds l e) (hn : 0 < l.length) (h0 : nth e 0 = a) : OxR l e (a + 1) ox := fun j hj => by
  rw [h j hj]
  by_cases g : j = 0
  · subst g; rw [if_neg (by omega), if_pos (by omega)]; rfl
  · have : nth e j ≠ a := fun q => g (ends_inj hE hj hn (q.trans h0.symm))
    by_cases g2 : nth e j < a
    · rw [if_pos g2, if_pos (by omega)]
    · rw [if_neg g2, if_neg (by omega)]
theorem OxR.step {l : List Int} {e ox : List Nat} {a i L : Nat} (h : OxR l e a ox) (hE : IsEnds l e) (hx : ox.length = l.length) (hi : i < l.length) (hie : nth e i = a) (hL : alikeAt l e i = L) : OxR l e (a + 1) (ox.set i L) := fun j hj => by
  rw [nth_setN _ (by omega)]
  by_cases g : j = i
  · subst g; rw [if_pos rfl, if_pos (by omega), hL]
  · rw [if_neg g, h j hj]
    have : nth e j ≠ a := fun q => g (ends_inj hE hj hi (q.trans hie.symm))
    by_cases g2 : nth e j < a
    · rw [if_pos g2, if_pos (by omega)]
    · rw [if_neg g2, if_neg (by omega)]
theorem OxR.done {l : List Int} {e ox : List Nat} (h : OxR l e l.length ox) (hE : IsEnds l e) (hx : ox.length = l.length) : ox = (List.range l.length).map (alikeAt l e) := by
  refine nth_ext (by simp [hx]) fun k hk => ?_
  rw [h k (by omega), if_pos (hE.nth_lt (by omega)), nth_map_range _ _ _ (by omega)]

end Go.Proofs.YtjfdlibceldanabGreatDoor

/-! sort.Good and the reference IsList: the walks. -/
namespace Go.Proofs.YtjfdlibceldanabGreatDoor
open Go.RowKit Go.Sort En

/-- Is one of the first n not above nought? -/
def hasLow (l : List Int) (n : Nat) : Bool := (List.range n).any fun i => decide (nth l i ≤ 0)
theorem hasLow_succ (l : List Int) (n : Nat) : hasLow l (n + 1) = (hasLow l n || decide (nth l n ≤ 0)) := by unfold hasLow; rw [List.range_succ, List.any_append]; simp
def isLB (l : List Int) : Bool := decide (0 < l.length) && (nth l (l.length - 1) == 0) && !hasLow l (l.length - 1)
def okAt (l : List Int) (i : Nat) : Prop := ((i + 1 = l.length) ↔ nth l i = 0) ∧ 0 ≤ nth l i
theorem isLB_iff (l : List Int) : isLB l = true ↔ (0 < l.length ∧ ∀ i, i < l.length → okAt l i) := by
  unfold isLB hasLow okAt
  simp only [Bool.and_eq_true, decide_eq_true_eq, beq_iff_eq, Bool.not_eq_true', List.any_eq_false, List.mem_range]
  constructor
  · rintro ⟨⟨h1, h2⟩, h3⟩
    refine ⟨h1, fun i hi => ?_⟩
    by_cases g : i + 1 = l.length
    · have : i = l.length - 1 := by omega
      rw [← this] at h2
      exact ⟨⟨fun _ => h2, fun _ => g⟩, by omega⟩
    · have := h3 i (by omega)
      exact ⟨⟨fun q => absurd q g, fun q => by omega⟩, by omega⟩
  · rintro ⟨h1, h2⟩
    have hl := h2 (l.length - 1) (by omega)
    refine ⟨⟨h1, hl.1.1 (by omega)⟩, fun i hi => ?_⟩
    have := h2 i (by omega)
    have h3 : nth l i ≠ 0 := fun q => by have := this.1.2 q; omega
    omega
set_option maxHeartbeats 1000000 in
theorem good1_calls (k : Int) (w : World) : Calls Tryz.prog 80 #[.int .i64 k] w fun e w' => e = .returned (.bool (decide (k ≤ 0))) ∧ w' = w := by
  go_enter Tryz.func80, Tryz.ntmps80
  go_wp2_with fail
  go_ret
  exact ⟨rfl, rfl⟩

set_option maxHeartbeats 2000000 in
set_option maxRecDepth 100000 in
theorem index_calls (l : List Int) (n : Nat) (A : Option Addr) (c : Nat) (w : World) (hn : n ≤ 1125899906842624) (hr : Rd w A n (fun k => .int .i64 (nth l k))) :
    Calls Tryz.prog 114 #[.slice A n c, .func (.func 80) #[] #[]] w fun e w' => ∃ r : Int, e = .returned (.int .i64 r) ∧ decide (0 ≤ r) = hasLow l n ∧ w' = w := by
  have HR := Lib.hid hr
  clear hr
  go_enter Tryz.func114, Tryz.ntmps114
  go_wp2_with fail
  go_loop [8] (fun v => ∃ k : Nat, v = .int .i64 k ∧ k ≤ n ∧ Hid (hasLow l k = false)) (fun v => n - (intOf v).toNat)
  case atStart => exact ⟨0, rfl, by omega, rfl⟩
  case round =>
    obtain ⟨k, rfl, hk, HL⟩ := hrel
    by_cases g1 : k < n
    · obtain ⟨b1, o1, rfl, hb1, hc1⟩ := HR.out (by omega)
      have p1 := hc1 k g1
      dsimp only at p1
      have hs := hasLow_succ l k
      rw [HL.out, Bool.false_or] at hs
      obtain ⟨x, hx⟩ : ∃ x, nth l k = x := ⟨_, rfl⟩
      rw [hx] at p1 hs
      have HX := Lib.hid hx
      clear hc1 hx HL
      go_wp2_with fail
      refine (good1_calls x w).mono ?_
      rintro e w' ⟨rfl, rfl⟩
      by_cases g2 : x ≤ 0
      · have g2' : decide (x ≤ 0) = true := by simpa using g2
        rw [g2'] at hs ⊢
        have HS := Lib.hid hs
        clear hs
        go_wp2_with fail
        go_ret
        refine ⟨k, rfl, ?_, rfl⟩
        rw [decide_eq_true (by omega)]
        symm
        unfold hasLow
        rw [List.any_eq_true]
        exact ⟨k, by simpa using g1, by rw [HX.out]; exact g2'⟩
      · have g2' : decide (x ≤ 0) = false := by simpa using g2
        rw [g2'] at hs ⊢
        have HS := Lib.hid hs
        clear hs
        go_wp2_with fail
        go_round
        case rel => exact ⟨k + 1, by go_num, by omega, HS⟩
        case measure => simp [intOf]; omega
    · obtain rfl : k = n := by omega
      go_wp2_with fail
      go_ret
      exact ⟨-1, rfl, by rw [HL.out]; rfl, rfl⟩
set_option maxHeartbeats 2000000 in
set_option maxRecDepth 100000 in
theorem contains_calls (l : List Int) (n : Nat) (A : Option Addr) (c : Nat) (w : World) (hn : n ≤ 1125899906842624) (hr : Rd w A n (fun k => .int .i64 (nth l k))) :
    Calls Tryz.prog 79 #[.slice A n c, .func (.func 80) #[] #[]] w fun e w' => e = .returned (.bool (hasLow l n)) ∧ w' = w := by
  have hc := index_calls l n A c w hn hr
  go_enter Tryz.func79, Tryz.ntmps79
  go_wp2_with fail
  refine hc.mono ?_
  rintro e w' ⟨r, rfl, hr', rfl⟩
  go_wp2_with fail
  go_ret
  exact ⟨by rw [← hr']; rfl, rfl⟩

set_option maxHeartbeats 2000000 in
set_option maxRecDepth 100000 in
theorem sgood_calls (l : List Int) (A : Option Addr) (c : Nat) (w : World) (hl : l.length ≤ 1125899906842624) (hc : l.length ≤ c) (hr : Rd w A l.length (fun k => .int .i64 (nth l k))) :
    Calls Tryz.prog 48 #[.slice A l.length c] w fun e w' => e = .returned (.bool (isLB l)) ∧ w' = w := by
  obtain ⟨R, hR⟩ : ∃ R, isLB l = R := ⟨_, rfl⟩
  rw [hR]
  have HR := Lib.hid hR
  by_cases g1 : 0 < l.length
  · have g1' : decide (0 < l.length) = true := by simpa using g1
    obtain ⟨n1, hn1⟩ : ∃ n1, l.length - 1 = n1 := ⟨_, rfl⟩
    have hn2 : (l.length : Int) - 1 = (n1 : Int) := by omega
    have hcc := contains_calls l n1 A c w (by omega) (fun hn => by
      obtain ⟨b, o, h1, h2, h3⟩ := hr g1
      exact ⟨b, o, h1, h2, fun k hk => h3 k (by omega)⟩)
    obtain ⟨b1, o1, rfl, hb1, hc1⟩ := hr g1
    have p1 := hc1 n1 (by omega)
    dsimp only at p1
    unfold isLB at hR
    rw [hn1, g1', Bool.true_and] at hR
    obtain ⟨x, hx⟩ : ∃ x, nth l n1 = x := ⟨_, rfl⟩
    rw [hx] at p1 hR
    have HV := Lib.hid hR
    have HC := Lib.hid hcc
    have hn3 : n1 ≤ l.length := by omega
    clear hc1 hx hR hcc hr
    by_cases g2 : x = 0
    · have g2' : (x == 0) = true := by simpa using g2
      subst g2
      go_enter Tryz.func48, Tryz.ntmps48
      go_wp2_with fail
      refine HC.out.mono ?_
      rintro e w' ⟨rfl, rfl⟩
      go_wp2_with fail
      go_ret
      exact ⟨by rw [← HV.out]; rfl, rfl⟩
    · have g2' : (x == 0) = false := by simpa using g2
      have hf : R = false := by rw [← HV.out, g2']; rfl
      have HF := Lib.hid hf
      clear g2 hf
      go_enter Tryz.func48, Tryz.ntmps48
      go_wp2_with fail
      go_ret
      exact ⟨by rw [HF.out]; rfl, rfl⟩
  · have g1' : decide (0 < l.length) = false := by simpa using g1
    have hf : R = false := by rw [← HR.out]; unfold isLB; rw [g1']; rfl
    have HF := Lib.hid hf
    clear hf hR
    go_enter Tryz.func48, Tryz.ntmps48
    go_wp2_with fail
    go_ret
    exact ⟨by rw [HF.out]; rfl, rfl⟩

end Go.Proofs.YtjfdlibceldanabGreatDoor
