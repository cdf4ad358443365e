/- slices.Concat, Sort, Compact and BinarySearch at words: contracts and one walk. -/
import Derived.Test.YtjfdlibceldanabDoorTxtW
namespace Go.Proofs.YtjfdlibceldanabDoor
open Go.RowKit Go.Sort Tx

theorem info_str : (Tryd.prog.info? 9).map (fun i => (i.zero, i.size, i.bytes)) = some (some (.string ⟨#[]⟩), 1, 16) := by kernel_rfl
theorem grow_calls (n : Nat) (w : World) (hn : n ≤ 1000000) :
    Calls Tryd.prog 45 #[.slice none 0 0, .int .i64 n] w fun e w' => ∃ v, e = .returned v ∧ w'.ownsRow w.heap.size 9 1 v 0 [] ∧ Ext w w' := by
  by_cases h : n = 0
  · subst h
    refine (Any8.slices_Grow_room Tryd.lays8_4 none 0 0 0 w (Nat.le_refl _) (by omega) (by omega) (by omega)).mono ?_
    rintro e w' ⟨rfl, rfl⟩
    exact ⟨_, rfl, own_nil _ _ _ _, Ext.refl _⟩
  · obtain ⟨ii, hi, hj0, hj1, hj2⟩ := info_parts info_str
    have hg := Any8.slices_Grow_grow Tryd.lays8_4 ii (.string ⟨#[]⟩) hi hj0 (by omega) none 0 0 n [] w (Nat.le_refl _) (by omega) (by rw [hj2]; omega) (by omega) (by simp) (fun _ => rfl) (fun a h => by cases h)
    refine hg.mono ?_
    rintro e w' ⟨rfl, rfl⟩
    have h1 := grownCap_ge w (0 + n) 0 (Tryd.lays8_4_ren.t 25)
    have h2 := grownCap_le_maxLen w (0 + n) 0 (Tryd.lays8_4_ren.t 25) (by unfold maxLen; omega)
    generalize grownCap w (0 + n) 0 (Tryd.lays8_4_ren.t 25) = G at *
    refine ⟨_, rfl, ⟨rfl, .inr ⟨w.heap.size, G, _, rfl, Nat.le_refl _, (heap_alloc_new w.drew _), Nat.zero_le _, h2, ?_, ?_⟩⟩, (Ext.refl w).drew.alloc _⟩
    · have hz : (Value.cells (.string ⟨#[]⟩)).size = 1 := rfl
      simp [Builtin.zeroCells, hz]
      omega
    · simp

/-- Lines of words, in memory. -/
def LnIn (w : World) (A : Option Addr) (L : List (List (List UInt8))) : Prop :=
  ∃ f : Nat → Option Addr × Nat, Rd w A L.length (fun k => .slice (f k).1 (nth L k).length (f k).2) ∧ ∀ k, k < L.length → ((f k).1 = none → (f k).2 = 0) ∧ RdS w (f k).1 (nth L k)
theorem LnIn.ext {w w' : World} {A : Option Addr} {L : List (List (List UInt8))} (h : LnIn w A L) (hx : Ext w w') : LnIn w' A L := by
  obtain ⟨f, h1, h2⟩ := h
  exact ⟨f, h1.ext hx, fun k hk => ⟨(h2 k hk).1, (h2 k hk).2.ext hx⟩⟩
theorem flat_take {L : List (List (List UInt8))} {i : Nat} (h : i < L.length) : (L.take (i + 1)).flatten = (L.take i).flatten ++ nth L i := by
  rw [List.take_succ_eq_append_getElem h, List.flatten_append, nth_lt h]; simp
theorem flat_le (L : List (List (List UInt8))) (i : Nat) : (L.take i).flatten.length ≤ L.flatten.length := by
  conv => rhs; rw [← List.take_append_drop i L, List.flatten_append, List.length_append]
  omega
theorem map_nth_str (ws : List (List UInt8)) : (List.range ws.length).map (fun k => str (nth ws k)) = ws.map str := by
  refine List.ext_getElem (by simp) fun k h1 h2 => ?_
  simp at h1 h2
  simp [nth, h1]

set_option maxHeartbeats 2000000 in
set_option maxRecDepth 100000 in
theorem concat_calls (L : List (List (List UInt8))) (A : Option Addr) (c : Nat) (w : World) (hL : L.length ≤ 1000000) (ht : L.flatten.length ≤ 1000000) (h : LnIn w A L) :
    Calls Tryd.prog 21 #[.slice A L.length c] w fun e w' => ∃ v, e = .returned v ∧ w'.ownsRow w.heap.size 9 1 v L.flatten.length (L.flatten.map str) ∧ Ext w w' := by
  obtain ⟨ii, hi, hj0, hj1, hj2⟩ := info_parts info_str
  obtain ⟨f, h1, h2⟩ := h
  have HF := Lib.hid (fun i => flat_take (L := L) (i := i)); have HLE := Lib.hid (flat_le L)
  have H1 := Lib.hid h1; have H2 := Lib.hid h2
  obtain ⟨N, hN⟩ : ∃ N, L.length = N := ⟨_, rfl⟩
  rw [hN] at H1 H2 HF hL ⊢
  obtain ⟨T, hT⟩ : ∃ T, L.flatten.length = T := ⟨_, rfl⟩
  rw [hT] at HLE ht ⊢
  have HN := Lib.hid hN; have HT := Lib.hid hT
  clear h1 h2 hN hT
  go_enter Tryd.func21, Tryd.ntmps21
  go_wp2_with fail
  go_loopw [11, 3] (fun vi vs wr => ∃ i : Nat, vi = .int .i64 i ∧ vs = .int .i64 ((L.take i).flatten.length : Nat) ∧ i ≤ N ∧ wr = w) (fun vi _ _ => N - (intOf vi).toNat)
  case atStart => exact ⟨0, rfl, rfl, Nat.zero_le _, rfl⟩
  case round =>
    obtain ⟨i, rfl, rfl, hi', rfl⟩ := hrel
    by_cases g : i < N
    · obtain ⟨b, o, hA, hb, hc⟩ := H1.out (by omega)
      subst hA
      have p1 := hc i g
      dsimp only at p1
      have e1 := HF.out i g
      have e2 := HLE.out (i + 1)
      have e3 : ((L.take (i + 1)).flatten.length : Int) = (L.take i).flatten.length + (nth L i).length := by rw [e1, List.length_append]; omega
      clear hc e1
      obtain ⟨x, hx⟩ : ∃ x, (L.take i).flatten.length = x := ⟨_, rfl⟩
      obtain ⟨y, hy⟩ : ∃ y, (nth L i).length = y := ⟨_, rfl⟩
      rw [hx, hy] at e3
      rw [hy] at p1
      rw [hx]
      have hw : IntKind.i64.wrap ((x : Int) + y) = (x : Int) + y := IntWalk.i64_in _ (by omega)
      have g2 : decide ((x : Int) + y < 0) = false := by simp; omega
      go_wp2_with fail
      refine ⟨⟨i + 1, by go_num, by rw [e3], by omega, by first | trivial | rfl⟩, by simp [intOf]; omega⟩
    · obtain rfl : i = N := by omega
      obtain ⟨wo, rfl⟩ : ∃ wo, wo = wr := ⟨_, rfl⟩
      have e1 : (L.take i).flatten.length = T := by rw [← HT.out, List.take_of_length_le (by rw [HN.out]; exact Nat.le_refl _)]
      rw [e1]
      go_wp2_with (go_at_call 45; with_reducible refine (grow_calls T wo ht).mono ?_; rintro e w1 ⟨v, rfl, ho, hx⟩)
      go_loopw [27, 6] (fun vi vs wr => ∃ j : Nat, vi = .int .i64 j ∧ j ≤ i ∧ Hid (wr.ownsRow wo.heap.size 9 1 vs (L.take j).flatten.length ((L.take j).flatten.map str)) ∧ Ext wo wr) (fun vi _ _ => i - (intOf vi).toNat)
      case atStart => exact ⟨0, rfl, Nat.zero_le _, ho, hx⟩
      case round =>
        clear ho hx
        obtain ⟨j, rfl, hj', ho, hx⟩ := hrel
        by_cases g : j < i
        · obtain ⟨b, o, hA, hb, hc⟩ := (H1.out.ext hx) (by omega)
          subst hA
          have p1 := hc j g
          dsimp only at p1
          have e1 := HF.out j g
          have e2 := HLE.out (j + 1)
          have e3 := HLE.out j
          rw [e1, List.length_append] at e2
          obtain ⟨q1, q2⟩ := H2.out j g
          have q2 := q2.ext hx
          have ho := ho.out
          have hxs := hx.size
          clear hc
          go_wp2_with (at_builtin; refine wpList_appAll (w := wr) rfl _ _ 22 rfl wo.heap.size 9 ii (.string ⟨#[]⟩) 16 Tryd.underlying22 hi hj0 hj1 hj2 rfl _ _ _ rfl ho (f j).1 (nth L j).length (f j).2 (fun k => str (nth (nth L j) k)) rfl q1 q2 (fun _ _ => rfl) (by omega) (by omega) (by omega) hxs ?_; intro v' w2 ho2 hg2)
          have ho3 : w2.ownsRow wo.heap.size 9 1 v' (L.take (j + 1)).flatten.length ((L.take (j + 1)).flatten.map str) := by
            rw [e1, List.length_append, List.map_append, ← map_nth_str (nth L j)]
            exact ho2
          have hx2 : Ext wo w2 := hx.grown hg2 fun k hk => (own_row_ge ho k hk).1
          clear ho ho2 hg2 p1 q1 q2 e1 e2 e3
          go_wp2_with fail
          refine ⟨⟨j + 1, by go_num, by omega, ho3, hx2⟩, by simp [intOf]; omega⟩
        · obtain rfl : j = i := by omega
          have e1 : (L.take j).flatten = L.flatten := by rw [List.take_of_length_le (by rw [HN.out]; exact Nat.le_refl _)]
          have ho := ho.out
          rw [e1, HT.out] at ho
          go_wp2_with fail
          go_ret
          exact ⟨_, rfl, ho, hx⟩
end Go.Proofs.YtjfdlibceldanabDoor
