/- The references ahead and EndsOf: the walks. -/
import Derived.Test.YtjfdlibceldanaaSortNil
namespace Go.Proofs.Ytjfdlibceldanaa
open Go.RowKit Go.Sort En

theorem Qt.drewN {w w' : World} (h : Qt w w') (n : Nat) : Qt w (w'.drewN n) := by obtain ⟨q, rfl⟩ := h; exact ⟨q + n, by simp⟩
set_option maxHeartbeats 2000000 in
set_option maxRecDepth 100000 in
theorem ahead_calls (l : List Int) (A : Option Addr) (c a b : Nat) (w : World) (hl : l.length ≤ 1125899906842624) (ha : a ≤ l.length) (hb : b ≤ l.length) (hr : Rd w A l.length (fun k => .int .i64 (nth l k))) :
    Calls Try.prog 71 #[.slice A l.length c, .int .i64 a, .int .i64 b] w fun e w' => e = .returned (.bool (decide (cE l a b < 0))) ∧ Qt w w' := by
  obtain ⟨R, hR⟩ : ∃ R, decide (cE l a b < 0) = R := ⟨_, rfl⟩
  rw [hR]
  have HR0 := Lib.hid hR
  have HR := Lib.hid hr
  clear hR hr
  go_enter Try.func71, Try.ntmps71
  go_wp2_with fail
  go_loopw [1, 2] (fun v1 v2 wr => ∃ i j q : Nat, i ≤ l.length ∧ j ≤ l.length ∧ v1 = .int .i64 i ∧ v2 = .int .i64 j ∧ Hid (decide (cE l i j < 0) = R) ∧ wr = w.drewN q) (fun v1 _ _ => l.length - (intOf v1).toNat)
  case atStart => exact ⟨a, b, 0, ha, hb, rfl, rfl, HR0, rfl⟩
  case round => as_aux_lemma =>
    clear HR0 ha hb
    obtain ⟨i, j, q, hi, hj, rfl, rfl, HC, rfl⟩ := hrel
    by_cases g1 : i < l.length
    · have g1' : decide (i < l.length) = true := by simpa using g1
      by_cases g2 : j < l.length
      · have g2' : decide (j < l.length) = true := by simpa using g2
        obtain ⟨b1, o1, hA, hb1, hc1⟩ := HR.out (by omega)
        subst hA
        have p1 := hc1 i g1
        have p2 := hc1 j g2
        have hs := cE_step g1 g2
        obtain ⟨x, hx⟩ : ∃ x, nth l i = x := ⟨_, rfl⟩
        obtain ⟨y, hy⟩ : ∃ y, nth l j = y := ⟨_, rfl⟩
        dsimp only at p1 p2
        rw [hx] at p1 hs
        rw [hy] at p2 hs
        have HS := Lib.hid hs
        clear hc1 hx hy hs
        by_cases g3 : x = y
        · have g3' : (x != y) = false := by simpa using g3
          have HC2 : Hid (decide (cE l (i + 1) (j + 1) < 0) = R) := by
            show _ = _
            rw [← HC.out, HS.out, if_neg (by omega), if_neg (by omega)]
          clear g3 HS HC
          go_wp2_with fail
          go_quiet (fail)
          go_wp2_with fail
          refine ⟨⟨i + 1, j + 1, _, by omega, by omega, by go_num, by go_num, HC2, rfl⟩, by simp [intOf]; omega⟩
        · have g3' : (x != y) = true := by simpa using g3
          have hf : R = decide (x < y) := by
            rw [← HC.out, HS.out]
            by_cases g4 : x < y
            · rw [if_pos g4, decide_eq_true g4]; rfl
            · rw [if_neg g4, if_pos (by omega), decide_eq_false g4]; rfl
          have HF := Lib.hid hf
          clear g3 HS HC hf
          go_wp2_with fail
          go_quiet (fail)
          go_wp2_with fail
          go_quiet (fail)
          go_wp2_with fail
          go_ret
          exact ⟨by rw [HF.out]; rfl, (Qt.drewN (Qt.drewN ⟨q, rfl⟩ _) _)⟩
      · have g2' : decide (j < l.length) = false := by simpa using g2
        have hf : R = false := by
          rw [← HC.out]
          exact decide_eq_false fun h => by have := (cE_end hi hj (fun h => g2 h.2)).1 h; omega
        have HF := Lib.hid hf
        have g3' : ((i : Int) == (l.length : Int)) = false := by rw [beq_eq_false_iff_ne]; omega
        clear hf g2
        go_wp2_with fail
        go_ret
        exact ⟨by rw [HF.out]; rfl, ⟨_, rfl⟩⟩
    · have g1' : decide (i < l.length) = false := by simpa using g1
      obtain rfl : i = l.length := by omega
      have hf : R = decide (j < l.length) := by
        rw [← HC.out]
        exact decide_eq_decide.2 ⟨fun h => ((cE_end hi hj (fun h => g1 h.1)).1 h).2, fun h => (cE_end hi hj (fun h => g1 h.1)).2 ⟨rfl, h⟩⟩
      have HF := Lib.hid hf
      clear hf g1
      go_wp2_with fail
      go_ret
      exact ⟨by rw [HF.out]; rfl, ⟨_, rfl⟩⟩

/-! ### One end more, put where it belongs -/
theorem ins_len {e : List Nat} {k x : Nat} (h : k ≤ e.length) : (e.take k ++ x :: e.drop k).length = e.length + 1 := by
  rw [List.length_append, List.length_take, List.length_cons, List.length_drop]; omega
theorem ins_nth {e : List Nat} {k x j : Nat} (h : k ≤ e.length) (hj : j < k) : nth (e.take k ++ x :: e.drop k) j = nth e j := by
  unfold nth
  rw [List.getElem?_append_left (by rw [List.length_take]; omega), List.getElem?_take_of_lt hj]
theorem ins_set {e : List Nat} {k x y : Nat} (h : k ≤ e.length) : (e.take k ++ x :: e.drop k).set k y = e.take k ++ y :: e.drop k := by
  rw [List.set_append_right _ _ (by rw [List.length_take]; omega), List.length_take, Nat.min_eq_left h, Nat.sub_self]; rfl
theorem ins_shift {e : List Nat} {k : Nat} (h : k + 1 ≤ e.length) : e.take (k + 1) ++ nth e k :: e.drop (k + 1) = e.take k ++ nth e k :: e.drop k := by
  rw [List.take_succ_eq_append_getElem (by omega), ← nth_lt (by omega), List.append_assoc, nth_lt (by omega), List.drop_eq_getElem_cons (show k < e.length by omega)]; rfl
theorem ins_end (e : List Nat) (x : Nat) : e ++ [x] = e.take e.length ++ x :: e.drop e.length := by rw [List.take_length, List.drop_length]

set_option maxHeartbeats 4000000 in
set_option maxRecDepth 100000 in
theorem endsOf_calls (l : List Int) (A : Option Addr) (c : Nat) (w : World) (hl : l.length ≤ 1048576) (hr : Rd w A l.length (fun k => .int .i64 (nth l k))) :
    Calls Try.prog 44 #[.slice A l.length c] w (RetInts (endsF l) w) := by
  obtain ⟨ii, hi, hj0, hj1, hj2⟩ := info_parts info_int
  have HR := Lib.hid hr
  clear hr
  go_enter Try.func44, Try.ntmps44
  go_wp2_with fail
  go_loopw [3, 8] (fun vo vm wr => ∃ (m : Nat) (B : Option Addr) (d : Nat) (e : List Nat), vm = .int .i64 m ∧ m ≤ l.length ∧ vo = .slice B m d ∧ Hid (wr.ownsRow w.heap.size 3 1 (.slice B m d) m (e.map fun x => Value.int .i64 (x : Nat))) ∧ Hid (To l e m) ∧ Ext w wr) (fun _ vm _ => l.length - (intOf vm).toNat)
  case atStart => exact ⟨0, none, 0, [], rfl, by omega, rfl, own_nil .., To.nil l, Ext.refl _⟩
  case round => as_aux_lemma =>
    obtain ⟨m, B, d, e, rfl, hm, rfl, HO, TO, hx⟩ := hrel
    by_cases g1 : m < l.length
    · have hb : w.heap.size ≤ wr.heap.size := hx.size
      go_wp2_with (at_builtin; refine wpList_app1 (by rfl) _ _ 24 rfl w.heap.size 3 ii (.int .i64 0) 8 Try.underlying24 hi hj0 hj1 hj2 rfl _ m _ rfl wr (.int .i64 m) 3 rfl HO.out rfl rfl ?d1 ?d2 hb ?_)
      case d1 => omega
      case d2 => omega
      intro g cap w2 own2 hgr2
      have hx2 := hx.grown hgr2 (fun k hk => (own_row_ge HO.out k hk).1)
      have hel := TO.out.length
      have ho3 : w2.ownsRow w.heap.size 3 1 (.slice (some ⟨g, 0, none⟩) (m + 1) cap) (m + 1) ((e.take m ++ m :: e.drop m).map fun x => Value.int .i64 (x : Nat)) := by
        rw [← hel, ← ins_end, List.map_append]
        rw [hel]; exact own2
      have HO3 := Lib.hid ho3
      clear own2 hgr2 HO ho3
      go_wp2_with fail
      go_loopw [5] (fun vk wr => ∃ k x : Nat, vk = .int .i64 k ∧ k ≤ m ∧ Hid (wr.ownsRow w.heap.size 3 1 (.slice (some ⟨g, 0, none⟩) (m + 1) cap) (m + 1) ((e.take k ++ x :: e.drop k).map fun x => Value.int .i64 (x : Nat))) ∧ Hid (∀ j, k ≤ j → j < m → cE l m (nth e j) < 0) ∧ Ext w wr) (fun vk _ => (intOf vk).toNat)
      case atStart => exact ⟨m, m, rfl, Nat.le_refl _, HO3, (fun j h1 h2 => absurd h2 (by omega)), hx2⟩
      case round => as_aux_lemma =>
        clear HO3 hx2
        obtain ⟨k, x, rfl, hk, HO, HA, hx3⟩ := hrel
        have hgb := (own_row_ge HO.out g rfl).1
        by_cases g2 : k = 0
        · subst g2
          have q1 := own_at HO.out (i := 0) (by omega)
          have q2 := HO.out.frozenAt 0
          have HO4 : Hid ((wr.setCell ⟨g, 0, none⟩ (.int .i64 m)).ownsRow w.heap.size 3 1 (.slice (some ⟨g, 0, none⟩) (m + 1) cap) (m + 1) ((e.take 0 ++ m :: e.drop 0).map fun x => Value.int .i64 (x : Nat))) := by
            have := (HO.out.stored 0 (.int .i64 m)).1
            rw [← List.map_set, ins_set (by omega)] at this
            exact this
          have TO4 := Lib.hid (TO.out.step g1 (Nat.zero_le _) HA.out (.inl rfl))
          have hx4 := hx3.setCell (p := ⟨g, 0, none⟩) hgb (.int .i64 m)
          clear HO HA
          go_wp2_with fail
          refine ⟨⟨m + 1, some ⟨g, 0, none⟩, cap, _, by go_num, by omega, rfl, HO4, TO4, hx4⟩, by simp [intOf]; omega⟩
        · obtain ⟨k1, rfl⟩ : ∃ k1, k = k1 + 1 := ⟨k - 1, by omega⟩
          have hk2 : ((k1 + 1 : Nat) : Int) - 1 = (k1 : Int) := by omega
          have hke : k1 + 1 ≤ e.length := by omega
          have q1 := own_at HO.out (i := k1) (by omega)
          rw [ins_nth hke (by omega)] at q1
          have hel2 : nth e k1 < l.length := by
            have := TO.out.lt (nth_mem (l := e) (k := k1) (by omega))
            omega
          have hin := ins_shift hke
          have hst := fun y => ins_set (x := x) (y := y) hke
          have hth : ∀ j, k1 + 1 ≤ j → j < m → cE l m (nth e j) < 0 := HA.out
          obtain ⟨y, hy⟩ : ∃ y, nth e k1 = y := ⟨_, rfl⟩
          rw [hy] at q1 hel2 hin
          have hac := ahead_calls l A c m y wr (by omega) (by omega) (by omega) (HR.out.ext hx3)
          obtain ⟨q, hq⟩ : ∃ q, decide (cE l m y < 0) = q := ⟨_, rfl⟩
          rw [hq] at hac
          have HAC := Lib.hid hac; have HY := Lib.hid hy; have HQ := Lib.hid hq; have HST := Lib.hid hst; have HIN := Lib.hid hin
          clear hac hy hq hst hin hth
          go_wp2_with fail
          refine HAC.out.mono ?_
          rintro e' w5 ⟨rfl, nq, rfl⟩
          have q2 := HO.out.frozenAt (k1 + 1)
          have q3 := own_at HO.out (i := k1 + 1) (by omega)
          clear HAC
          cases q with
          | true =>
            have HO4 : Hid (((wr.drewN nq).setCell ⟨g, k1 + 1, none⟩ (.int .i64 y)).ownsRow w.heap.size 3 1 (.slice (some ⟨g, 0, none⟩) (m + 1) cap) (m + 1) ((e.take k1 ++ y :: e.drop k1).map fun x => Value.int .i64 (x : Nat))) := by
              have := (HO.out.stored (k1 + 1) (.int .i64 y)).1
              rw [← List.map_set, HST.out y, HIN.out] at this
              exact this
            have HA4 : Hid (∀ j, k1 ≤ j → j < m → cE l m (nth e j) < 0) := fun j h1 h2 => by
              by_cases ej : j = k1
              · subst ej; rw [HY.out]; exact of_decide_eq_true HQ.out
              · exact HA.out j (by omega) h2
            have hx4 := (hx3.drewN nq).setCell (p := ⟨g, k1 + 1, none⟩) hgb (.int .i64 y)
            clear HO HA
            go_wp2_with fail
            refine ⟨⟨k1, y, rfl, by omega, HO4, HA4, hx4⟩, by simp [intOf]⟩
          | false =>
            have HO4 : Hid (((wr.drewN nq).setCell ⟨g, k1 + 1, none⟩ (.int .i64 m)).ownsRow w.heap.size 3 1 (.slice (some ⟨g, 0, none⟩) (m + 1) cap) (m + 1) ((e.take (k1 + 1) ++ m :: e.drop (k1 + 1)).map fun x => Value.int .i64 (x : Nat))) := by
              have := (HO.out.stored (k1 + 1) (.int .i64 m)).1
              rw [← List.map_set, HST.out m] at this
              exact this
            have TO4 := Lib.hid (TO.out.step g1 hk HA.out (.inr (by rw [Nat.add_sub_cancel, HY.out]; exact of_decide_eq_false HQ.out)))
            have hx4 := (hx3.drewN nq).setCell (p := ⟨g, k1 + 1, none⟩) hgb (.int .i64 m)
            clear HO HA
            go_wp2_with fail
            refine ⟨⟨m + 1, some ⟨g, 0, none⟩, cap, _, by go_num, by omega, rfl, HO4, TO4, hx4⟩, by simp [intOf]; omega⟩
    · obtain rfl : m = l.length := by omega
      have he := ends_eq TO.out.ends
      subst he
      go_wp2_with fail
      go_ret
      have hlen := (endsF_is l).length
      refine ⟨B, d, by rw [hlen]; rfl, own_none HO.out, rd_ints HO.out, hx⟩
end Go.Proofs.Ytjfdlibceldanaa
