/- wave.Good: the walk. -/
import Derived.Test.YtjfdlibceldanabGreatDoorWvNode
namespace Go.Proofs.YtjfdlibceldanabGreatDoor
open Go.RowKit Wv

structure PW.Ok (x : PW) : Prop where
  n : I64 x.N
  d : I64 x.Deep
  l : ∀ b ∈ x.L, b.Ok
  len : x.L.length ≤ 1125899906842624
def goodHead (x : PW) : Bool := decide ((1 ≤ x.Deep ∧ x.Deep ≤ 16) ∧ (x.L.length : Int) = x.Deep ∧ 0 ≤ x.N)
def goodPart (n : Int) (b : PB) : Bool := goodF b && decide (b.N = n)
def goodW (x : PW) : Bool := goodHead x && x.L.all (goodPart x.N)

theorem all_take {α : Type} [Inhabited α] (p : α → Bool) (l : List α) (k : Nat) (hk : k < l.length) (h : p (nth l k) = false) : l.all p = false := by
  rw [List.all_eq_false]
  exact ⟨nth l k, nth_mem hk, by simp [h]⟩
theorem all_of_nth {α : Type} [Inhabited α] (p : α → Bool) (l : List α) (h : ∀ k, k < l.length → p (nth l k) = true) : l.all p = true := by
  rw [List.all_eq_true]
  intro x hx
  obtain ⟨k, hk, rfl⟩ := List.getElem_of_mem hx
  have := h k hk
  rwa [nth_lt hk] at this

set_option maxHeartbeats 4000000 in
set_option maxRecDepth 100000 in
theorem good_head (x : PW) (hx : x.Ok) (A : Option Addr) (c : Nat) (w : World) (h : goodHead x = false) :
    Calls Tryz.prog 158 #[.agg #[.int .i64 x.N, .int .i64 x.Deep, .slice A x.L.length c]] w fun e w' => e = .returned (.bool false) ∧ Ext w w' := by
  unfold goodHead at h
  simp only [decide_eq_false_iff_not] at h
  obtain ⟨N, D, L⟩ := x
  have hl := hx.len
  dsimp only at h hl ⊢
  clear hx
  by_cases h1 : D < 1
  · have h1' : decide (D < 1) = true := by simpa using h1
    go_enter Tryz.func158, Tryz.ntmps158
    go_wp2_with fail
    go_ret
    exact ⟨rfl, (Ext.refl _).alloc _⟩
  · have h1' : decide (D < 1) = false := by simpa using h1
    by_cases h2 : 16 < D
    · have h2' : decide (16 < D) = true := by simpa using h2
      go_enter Tryz.func158, Tryz.ntmps158
      go_wp2_with fail
      go_ret
      exact ⟨rfl, (Ext.refl _).alloc _⟩
    · have h2' : decide (16 < D) = false := by simpa using h2
      by_cases h3 : (L.length : Int) = D
      · have h3' : (((L.length : Int) != D)) = false := by rw [h3]; simp
        have h4' : decide (N < 0) = true := by simp; omega
        clear h3
        go_enter Tryz.func158, Tryz.ntmps158
        go_wp2_with fail
        go_ret
        exact ⟨rfl, (Ext.refl _).alloc _⟩
      · have h3' : (((L.length : Int) != D)) = true := by simpa using h3
        clear h3
        go_enter Tryz.func158, Tryz.ntmps158
        go_wp2_with fail
        go_ret
        exact ⟨rfl, (Ext.refl _).alloc _⟩

set_option maxHeartbeats 4000000 in
set_option maxRecDepth 100000 in
theorem good_calls' (x : PW) (hx : x.Ok) (A : Option Addr) (c : Nat) (w : World) (h : goodHead x = true) (hr : RdL w A x.L) :
    Calls Tryz.prog 158 #[.agg #[.int .i64 x.N, .int .i64 x.Deep, .slice A x.L.length c]] w fun e w' => e = .returned (.bool (x.L.all (goodPart x.N))) ∧ Ext w w' := by
  obtain ⟨R, hR⟩ : ∃ R, x.L.all (goodPart x.N) = R := ⟨_, rfl⟩
  rw [hR]
  unfold goodHead at h
  simp only [decide_eq_true_eq] at h
  obtain ⟨N, D, L⟩ := x
  have hl := hx.len
  have hok := Lib.hid hx.l
  obtain ⟨⟨h1, h2⟩, h3, h4⟩ := h
  dsimp only at h1 h2 h3 h4 hl hok hR hr ⊢
  have h1' : decide (D < 1) = false := by simp; omega
  have h2' : decide (16 < D) = false := by simp; omega
  have h3' : (((L.length : Int) != D)) = false := by rw [h3]; simp
  have h4' : decide (N < 0) = false := by simp; omega
  have HR := Lib.hid hR
  clear hx h3 hR
  go_enter Tryz.func158, Tryz.ntmps158
  go_wp2_with fail
  generalize hW : World.alloc w _ = W
  have bx := bx3_of hW
  have hxW := ext_of_alloc hW
  have hrW := Lib.hid (hr.ext hxW)
  clear hW
  go_loopw [29] (fun v wr => ∃ k : Nat, k ≤ L.length ∧ v = .int .i64 k ∧ Hid (∀ j, j < k → goodPart N (nth L j) = true) ∧ Ext W wr) (fun v _ => L.length - (intOf v).toNat)
  case atStart => exact ⟨0, by omega, rfl, (fun j hj => absurd hj (Nat.not_lt_zero _)), Ext.refl _⟩
  case round =>
    obtain ⟨k, hk, rfl, HP, hxr⟩ := hrel
    by_cases g1 : k < L.length
    · obtain ⟨b1, o1, hA, hb1, hc1⟩ := hrW.out (by omega)
      subst hA
      obtain ⟨A1, A2, c1, c2, p1, p2, p3, hrb⟩ := (hc1 k g1).ext hxr
      have okb := hok.out _ (nth_mem g1)
      obtain ⟨b, hb⟩ : ∃ b, nth L k = b := ⟨_, rfl⟩
      rw [hb] at p1 p2 p3 hrb okb
      have HB := Lib.hid hb
      obtain ⟨x0, x1, x2⟩ := bx.ext hxr
      clear hb hc1
      go_wp2_with fail
      generalize hW4 : World.alloc wr _ = W4
      have bb := bx3_of hW4
      have hx4 := ext_of_alloc hW4
      generalize wr.heap.size = B4 at *
      clear hW4
      refine (good_calls b okb A1 A2 c1 c2 W4 (hrb.ext hx4)).mono ?_
      rintro e w5 ⟨rfl, hx5⟩
      obtain ⟨z0, z1, z2⟩ := bb.ext hx5
      obtain ⟨v0, v1, v2⟩ := bx.ext (hxr.trans (hx4.trans hx5))
      have hxn := hxr.trans (hx4.trans hx5)
      clear x0 x1 x2 p1 p2 p3
      obtain ⟨G, hG⟩ : ∃ G, goodF b = G := ⟨_, rfl⟩
      rw [hG]
      cases G with
      | false =>
        have hf : R = false := by rw [← HR.out]; exact all_take _ _ k g1 (by rw [HB.out]; unfold goodPart; rw [hG]; rfl)
        clear hG
        go_wp2_with fail
        go_ret
        exact ⟨by rw [hf]; rfl, hxW.trans hxn⟩
      | true =>
        by_cases g2 : b.N = N
        · have g2' : (b.N != N) = false := by simpa using g2
          have HP2 : Hid (∀ j, j < k + 1 → goodPart N (nth L j) = true) := fun j hj => by
            by_cases e : j = k
            · subst e; rw [HB.out]; unfold goodPart; rw [hG]; simp [g2]
            · exact HP.out j (by omega)
          clear hG g2
          go_wp2_with fail
          exact ⟨⟨k + 1, by omega, by go_num, HP2, hxn⟩, by simp [intOf]; omega⟩
        · have g2' : (b.N != N) = true := by simpa using g2
          have hf : R = false := by rw [← HR.out]; exact all_take _ _ k g1 (by rw [HB.out]; unfold goodPart; simp [g2])
          clear hG g2
          go_wp2_with fail
          go_ret
          exact ⟨by rw [hf]; rfl, hxW.trans hxn⟩
    · have hf : R = true := by rw [← HR.out]; exact all_of_nth _ _ (fun j hj => HP.out j (by omega))
      go_wp2_with fail
      go_ret
      exact ⟨by rw [hf]; rfl, hxW.trans hxr⟩

theorem wgood_calls (x : PW) (hx : x.Ok) (A : Option Addr) (c : Nat) (w : World) (hr : RdL w A x.L) :
    Calls Tryz.prog 158 #[.agg #[.int .i64 x.N, .int .i64 x.Deep, .slice A x.L.length c]] w fun e w' => e = .returned (.bool (goodW x)) ∧ Ext w w' := by
  unfold goodW
  cases h : goodHead x with
  | false => exact good_head x hx A c w h
  | true => exact good_calls' x hx A c w h hr

/-! ### Waves that are made -/
theorem waveOf_ok (l : List Nat) (d : Nat) (hd : d ≤ 16) (hl : l.length ≤ 17592186044416) (hf : ∀ x ∈ l, x < 2 ^ d) : (waveOf l d).Ok where
  n := ⟨by show (-9223372036854775808 : Int) ≤ (l.length : Int); omega, by show (l.length : Int) ≤ 9223372036854775807; omega⟩
  d := ⟨by show (-9223372036854775808 : Int) ≤ (d : Int); omega, by show (d : Int) ≤ 9223372036854775807; omega⟩
  l := fun b hb => by
    obtain ⟨L, hL, rfl⟩ := List.mem_map.1 hb
    exact bitsOf_ok _ (by rw [bitsAt_length hf (Nat.le_of_lt (List.mem_range.1 hL))]; omega)
  len := by show (levelsOf l d d).length ≤ _; rw [levelsOf_length]; omega
theorem goodW_made (l : List Nat) (d : Nat) (hd : 1 ≤ d ∧ d ≤ 16) (hf : ∀ x ∈ l, x < 2 ^ d) : goodW (waveOf l d) = true := by
  unfold goodW goodHead
  rw [Bool.and_eq_true]
  constructor
  · rw [decide_eq_true_iff]
    show ((1 : Int) ≤ (d : Int) ∧ (d : Int) ≤ 16) ∧ ((levelsOf l d d).length : Int) = (d : Int) ∧ (0 : Int) ≤ (l.length : Int)
    rw [levelsOf_length]
    omega
  · rw [List.all_eq_true]
    intro b hb
    obtain ⟨L, hL, rfl⟩ := List.mem_map.1 hb
    unfold goodPart
    rw [goodF_made, Bool.true_and, decide_eq_true_iff]
    show ((bitsAt d l L).length : Int) = (l.length : Int)
    rw [bitsAt_length hf (Nat.le_of_lt (List.mem_range.1 hL))]
theorem waveOf_at (l : List Nat) (d : Nat) {L : Nat} (hL : L < d) : nth (waveOf l d).L L = bitsOf (bitsAt d l L) := by
  show nth (levelsOf l d d) L = _
  unfold levelsOf
  rw [nth_map_range _ _ _ hL]
end Go.Proofs.YtjfdlibceldanabGreatDoor
