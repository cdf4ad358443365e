/- sort.Ahead and the reference AheadOf: the walks. -/
import Derived.Test.YtjfdlibceldanabGreatDoorSortB
namespace Go.Proofs.YtjfdlibceldanabGreatDoor
open Go.RowKit Go.Sort En

/-- A list of numbers that a call returned. -/
def RetZ (xs : List Int) (w : World) (e : Ending) (w' : World) : Prop :=
  ∃ (A : Option Addr) (c : Nat), e = .returned (.slice A xs.length c) ∧ (A = none → c = 0) ∧ Rd w' A xs.length (fun j => .int .i64 (nth xs j)) ∧ Ext w w'
theorem rd_intsZ {w : World} {base : Nat} {e : TypeId} {A : Option Addr} {c n : Nat} {xs : List Int} (h : w.ownsRow base e 1 (.slice A n c) n (xs.map fun x => Value.int .i64 x)) : Rd w A xs.length (fun j => .int .i64 (nth xs j)) := by
  have hl : xs.length = n := by have := h.1; rw [List.length_map] at this; omega
  rw [hl]
  refine (Rd.of_own (d := default) h).congr fun k hk => ?_
  have : k < xs.length := by omega
  simp [this, nth_lt]
/-- The number ahead of an end; of the whole the last one. -/
def ahd (l : List Int) (a : Nat) : Int := nth l ((a + l.length - 1) % l.length)
def isE (l : List Int) (x : Int) : Bool := decide (0 ≤ x ∧ x < l.length)
def aheadL (l ends : List Int) : List Int := (ends.filter (isE l)).map fun x => ahd l x.toNat
theorem aheadL_succ (l ends : List Int) {i : Nat} (h : i < ends.length) : aheadL l (ends.take (i + 1)) = if isE l (nth ends i) then aheadL l (ends.take i) ++ [ahd l (nth ends i).toNat] else aheadL l (ends.take i) := by
  rw [take_succ_nth ends i h]
  unfold aheadL
  rw [List.filter_append]
  cases hc : isE l (nth ends i) <;> simp [hc]
theorem aheadL_len (l ends : List Int) (i : Nat) : (aheadL l (ends.take i)).length ≤ i := by
  unfold aheadL
  rw [List.length_map]
  have h1 := List.length_filter_le (isE l) (ends.take i)
  rw [List.length_take] at h1
  omega
theorem ahd_pos {l : List Int} {a : Nat} (h0 : 0 < a) (h : a < l.length) : ahd l a = nth l (a - 1) := by
  unfold ahd
  rw [show a + l.length - 1 = (a - 1) + l.length from by omega, Nat.add_mod_right, Nat.mod_eq_of_lt (by omega)]
theorem ahd_zero {l : List Int} (h : 0 < l.length) : ahd l 0 = nth l (l.length - 1) := by
  unfold ahd
  rw [Nat.zero_add, Nat.mod_eq_of_lt (by omega)]

set_option maxHeartbeats 4000000 in
set_option maxRecDepth 100000 in
theorem sahead_calls (l ends : List Int) (A E : Option Addr) (c d : Nat) (w : World) (hl : l.length ≤ 1048576) (he : ends.length ≤ 17592186044416) (hr : Rd w A l.length (fun k => .int .i64 (nth l k))) (hre : Rd w E ends.length (fun k => .int .i64 (nth ends k))) :
    Calls Tryz.prog 52 #[.slice A l.length c, .slice E ends.length d] w (RetZ (aheadL l ends) w) := by
  obtain ⟨ii, hi, hj0, hj1, hj2⟩ := info_parts info_int
  obtain ⟨G, hG⟩ : ∃ G : Nat → List Int, G = fun i => aheadL l (ends.take i) := ⟨_, rfl⟩
  have hG0 : G 0 = [] := by rw [hG]; rfl
  have hGs : ∀ i, i < ends.length → G (i + 1) = if isE l (nth ends i) then G i ++ [ahd l (nth ends i).toNat] else G i := fun i h => by rw [hG]; exact aheadL_succ l ends h
  have hGl : ∀ i, (G i).length ≤ i := fun i => by rw [hG]; exact aheadL_len l ends i
  have hGe : G ends.length = aheadL l ends := by rw [hG]; show aheadL l (ends.take ends.length) = _; rw [List.take_length]
  have HG0 := Lib.hid hG0; have HGS := Lib.hid hGs; have HGL := Lib.hid hGl; have HGE := Lib.hid hGe; have HR := Lib.hid hr; have HRE := Lib.hid hre
  clear hG hG0 hGs hGl hGe hr hre
  go_enter Tryz.func52, Tryz.ntmps52
  go_wp2_with fail
  go_loopw [5, 10] (fun vo vi wr => ∃ (i : Nat) (O : Option Addr) (o : Nat), vi = .int .i64 i ∧ i ≤ ends.length ∧ vo = .slice O (G i).length o ∧ Hid (wr.ownsRow w.heap.size 3 1 (.slice O (G i).length o) (G i).length ((G i).map fun x => Value.int .i64 x)) ∧ Ext w wr) (fun _ vi _ => ends.length - (intOf vi).toNat)
  case atStart =>
    refine ⟨0, none, 0, rfl, by omega, by rw [HG0.out]; rfl, ?_, Ext.refl _⟩
    show World.ownsRow _ _ _ _ _ _ _
    rw [HG0.out]; exact own_nil ..
  case round => as_aux_lemma =>
    obtain ⟨i, O, o, rfl, hi', rfl, HO, hx⟩ := hrel
    by_cases g1 : i < ends.length
    · obtain ⟨b1, o1, hEE, hb1, hc1⟩ := (HRE.out.ext hx) (by omega)
      subst hEE
      have p1 := hc1 i g1
      dsimp only at p1
      have hs := HGS.out i g1
      have hgl := HGL.out i
      obtain ⟨x, hx'⟩ : ∃ x, nth ends i = x := ⟨_, rfl⟩
      rw [hx'] at p1 hs
      clear hc1 hx'
      by_cases g2 : 0 ≤ x
      · have g2' : decide (0 ≤ x) = true := by simpa using g2
        by_cases g3 : x < l.length
        · have g3' : decide (x < (l.length : Int)) = true := by simpa using g3
          obtain ⟨a, rfl⟩ := Int.eq_ofNat_of_zero_le g2
          have ha : a < l.length := by omega
          have hE : isE l ((a : Nat) : Int) = true := decide_eq_true ⟨g2, g3⟩
          rw [if_pos hE, Int.toNat_natCast] at hs
          unfold ahd at hs
          obtain ⟨r, hr⟩ : ∃ r, (a + l.length - 1) % l.length = r := ⟨_, rfl⟩
          have hrl : r < l.length := by rw [← hr]; exact Nat.mod_lt _ (by omega)
          have htm : Int.tmod ((a : Int) + (l.length : Int) - 1) (l.length : Int) = (r : Int) := by
            rw [show (a : Int) + (l.length : Int) - 1 = ((a + l.length - 1 : Nat) : Int) from by omega, Int.tmod_eq_emod_of_nonneg (Int.natCast_nonneg _), ← hr]; rfl
          have hmm : ((a : Int) + (l.length : Int) - 1) % (l.length : Int) = (r : Int) := by
            rw [show (a : Int) + (l.length : Int) - 1 = ((a + l.length - 1 : Nat) : Int) from by omega, ← hr]; rfl
          have hnz : ((l.length : Int) == 0) = false := by rw [beq_eq_false_iff_ne]; omega
          rw [hr] at hs
          obtain ⟨b2, o2, hAA, hb2, hc2⟩ := (HR.out.ext hx) (by omega)
          subst hAA
          have p2 := hc2 r hrl
          dsimp only at p2
          obtain ⟨y, hy⟩ : ∃ y, nth l r = y := ⟨_, rfl⟩
          rw [hy] at p2 hs
          have hl2 : (G (i + 1)).length = (G i).length + 1 := by rw [hs]; simp
          have HS := Lib.hid hs
          have hb3 : w.heap.size ≤ wr.heap.size := hx.size
          clear hc2 hy hr hs hE
          go_wp2_with (at_builtin; refine wpList_app1 (by rfl) _ _ 24 rfl w.heap.size 3 ii (.int .i64 0) 8 Tryz.underlying24 hi hj0 hj1 hj2 rfl _ (G i).length _ rfl wr (.int .i64 y) 3 rfl HO.out rfl rfl ?d1 ?d2 hb3 ?_)
          case d1 => omega
          case d2 => omega
          intro g cap w4 own4 hgr4
          have hx4 := hx.grown hgr4 (fun k hk => (own_row_ge HO.out k hk).1)
          have HO4 : Hid (w4.ownsRow w.heap.size 3 1 (.slice (some ⟨g, 0, none⟩) (G (i + 1)).length cap) (G (i + 1)).length ((G (i + 1)).map fun x => Value.int .i64 x)) := by
            show World.ownsRow _ _ _ _ _ _ _
            rw [hl2, HS.out, List.map_append]; exact own4
          rw [← hl2]
          clear own4 hgr4 HO
          go_wp2_with fail
          refine ⟨⟨i + 1, some ⟨g, 0, none⟩, cap, by go_num, by omega, rfl, HO4, hx4⟩, by simp [intOf]; omega⟩
        · have g3' : decide (x < (l.length : Int)) = false := by simpa using g3
          have hE : isE l x = false := decide_eq_false fun h => g3 h.2
          rw [if_neg (by rw [hE]; simp)] at hs
          have HO2 : Hid (wr.ownsRow w.heap.size 3 1 (.slice O (G (i + 1)).length o) (G (i + 1)).length ((G (i + 1)).map fun x => Value.int .i64 x)) := by
            show World.ownsRow _ _ _ _ _ _ _
            rw [hs]; exact HO.out
          rw [← hs]
          clear hs HO hE
          go_wp2_with fail
          refine ⟨⟨i + 1, O, o, by go_num, by omega, rfl, HO2, hx⟩, by simp [intOf]; omega⟩
      · have g2' : decide (0 ≤ x) = false := by simpa using g2
        have hE : isE l x = false := decide_eq_false fun h => g2 h.1
        rw [if_neg (by rw [hE]; simp)] at hs
        have HO2 : Hid (wr.ownsRow w.heap.size 3 1 (.slice O (G (i + 1)).length o) (G (i + 1)).length ((G (i + 1)).map fun x => Value.int .i64 x)) := by
          show World.ownsRow _ _ _ _ _ _ _
          rw [hs]; exact HO.out
        rw [← hs]
        clear hs HO hE
        go_wp2_with fail
        refine ⟨⟨i + 1, O, o, by go_num, by omega, rfl, HO2, hx⟩, by simp [intOf]; omega⟩
    · obtain rfl : i = ends.length := by omega
      go_wp2_with fail
      go_ret
      have ho := HO.out
      rw [HGE.out] at ho ⊢
      exact ⟨O, o, rfl, own_none ho, rd_intsZ ho, hx⟩

end Go.Proofs.YtjfdlibceldanabGreatDoor
