/- wave.Make: the walk. -/
import Derived.Test.YtjfdlibceldanabGreatDoorWvSort
import Derived.Test.YtjfdlibceldanabGreatDoorWvRf
import Derived.Test.YtjfdlibceldanabGreatDoorOrd
import Derived.Laws.Bits128
namespace Go.Proofs.YtjfdlibceldanabGreatDoor
open Go.RowKit Go.Sort Stab Wv

/-- No wave. -/
def NoWave (w : World) (e : Ending) (w' : World) : Prop := e = .returned (.tuple #[.agg #[.int .i64 0, .int .i64 0, .slice none 0 0], .bool false]) ∧ Ext w w'

theorem shr_zero {x : Int} {d : Nat} (h0 : 0 ≤ x) (h : x < 2 ^ d) : x / 2 ^ d = 0 := Int.ediv_eq_zero_of_lt h0 h
theorem shr_pos {x : Int} {d : Nat} (h : ¬ x < 2 ^ d) : x / 2 ^ d ≠ 0 := by
  intro e
  have h2 : (0 : Int) < 2 ^ d := Int.pow_pos (by omega)
  have := Int.lt_mul_of_ediv_lt h2 (show x / 2 ^ d < 1 by omega)
  omega

set_option maxHeartbeats 2000000 in
set_option maxRecDepth 100000 in
theorem wmake_deep (l : List Int) (deep : Int) (A : Option Addr) (c : Nat) (w : World) (hd : ¬ (1 ≤ deep ∧ deep ≤ 16)) :
    Calls Tryz.prog 51 #[.slice A l.length c, .int .i64 deep] w (NoWave w) := by
  by_cases h1 : deep < 1
  · have h1' : decide (deep < 1) = true := by simpa using h1
    go_enter Tryz.func51, Tryz.ntmps51
    go_wp2_with fail
    exact bodyPost_ret (v := .tuple #[.agg #[.int .i64 0, .int .i64 0, .slice none 0 0], .bool false]) (by simp [results, Tryz.results51, go_sem]) rfl ⟨rfl, (Ext.refl _).alloc _⟩
  · have h1' : decide (deep < 1) = false := by simpa using h1
    have h2 : 16 < deep := by omega
    have h2' : decide (16 < deep) = true := by simpa using h2
    go_enter Tryz.func51, Tryz.ntmps51
    go_wp2_with fail
    exact bodyPost_ret (v := .tuple #[.agg #[.int .i64 0, .int .i64 0, .slice none 0 0], .bool false]) (by simp [results, Tryz.results51, go_sem]) rfl ⟨rfl, (Ext.refl _).alloc _⟩

set_option maxHeartbeats 4000000 in
set_option maxRecDepth 100000 in
theorem wmake_num (l : List Int) (d : Nat) (A : Option Addr) (c : Nat) (w : World) (hd : 1 ≤ d ∧ d ≤ 16) (hl : l.length ≤ 17592186044416) (hr : Rd w A l.length (fun k => .int .i64 (nth l k))) (hno : ¬ ∀ k, k < l.length → okNum d (nth l k)) :
    Calls Tryz.prog 51 #[.slice A l.length c, .int .i64 d] w (NoWave w) := by
  have HNO := Lib.hid hno
  obtain ⟨hd1, hd2⟩ := hd
  clear hno
  go_enter Tryz.func51, Tryz.ntmps51
  go_wp2_with fail
  generalize hW : World.alloc w _ = W
  have bx := bk_of hW
  have hx : Ext w W := ext_of_alloc hW
  have HR := Lib.hid (hr.ext hx)
  clear hW
  go_loopw [24] (fun v wr => ∃ k : Nat, k ≤ l.length ∧ v = .int .i64 k ∧ Hid (∀ j, j < k → okNum d (nth l j)) ∧ wr = W) (fun v _ => l.length - (intOf v).toNat)
  case atStart => exact ⟨0, by omega, rfl, (fun j hj => absurd hj (Nat.not_lt_zero _)), rfl⟩
  case round =>
    obtain ⟨k, hk, rfl, HP, rfl⟩ := hrel
    by_cases g1 : k < l.length
    · obtain ⟨b1, o1, hA, hb1, hc1⟩ := HR.out (by omega)
      subst hA
      have p1 := hc1 k g1
      dsimp only at p1
      clear hc1
      obtain ⟨x, hx'⟩ : ∃ x, nth l k = x := ⟨_, rfl⟩
      rw [hx'] at p1
      have HX := Lib.hid hx'
      clear hx'
      obtain ⟨y0, y1, y2⟩ := bx3_bk bx
      have f0 := bx.frozen 0
      have f1 := bx.frozen 1
      have f2 := bx.frozen 2
      have bF := ((bx.set 0 (Value.int IntKind.i64 0)).set 1 (Value.int IntKind.i64 0)).set 2 (Value.slice none 0 0)
      have hxF : Ext w (((wr.setCell ⟨w.heap.size, 0, none⟩ (Value.int IntKind.i64 0)).setCell ⟨w.heap.size, 1, none⟩ (Value.int IntKind.i64 0)).setCell ⟨w.heap.size, 2, none⟩ (Value.slice none 0 0)) :=
        ((hx.setCell (p := ⟨w.heap.size, 0, none⟩) (Nat.le_refl _) _).setCell (p := ⟨w.heap.size, 1, none⟩) (Nat.le_refl _) _).setCell (p := ⟨w.heap.size, 2, none⟩) (Nat.le_refl _) _
      have BF := Lib.hid bF; have HXF := Lib.hid hxF
      clear bF hxF
      by_cases q1 : x < 0
      · have q1' : decide (x < 0) = true := by simpa using q1
        go_wp2_with fail
        have bF := BF.out
        have hxF := HXF.out
        generalize ((wr.setCell _ _).setCell _ _).setCell _ _ = wF at *
        obtain ⟨z0, z1, z2⟩ := bx3_bk bF
        exact bodyPost_ret (v := .tuple #[.agg #[.int .i64 0, .int .i64 0, .slice none 0 0], .bool false]) (by simp [results, Tryz.results51, go_sem, z0, z1, z2]) rfl ⟨rfl, hxF⟩
      · have q0 : 0 ≤ x := by omega
        have q1' : decide (x < 0) = false := by simpa using q1
        by_cases q2 : x < 2 ^ d
        · have q3 : (x / 2 ^ d == 0) = true := by rw [shr_zero q0 q2]; rfl
          have q4 : (x / 2 ^ d != 0) = false := by rw [shr_zero q0 q2]; rfl
          have HP2 : Hid (∀ j, j < k + 1 → okNum d (nth l j)) := fun j hj => by
            by_cases e : j = k
            · subst e; rw [HX.out]; exact ⟨q0, q2⟩
            · exact HP.out j (by omega)
          go_wp2_with fail
          exact ⟨⟨k + 1, by omega, by go_num, HP2, trivial⟩, by simp [intOf]; omega⟩
        · have q3 : (x / 2 ^ d == 0) = false := by rw [beq_eq_false_iff_ne]; exact shr_pos q2
          have q4 : (x / 2 ^ d != 0) = true := by rw [bne_iff_ne]; exact shr_pos q2
          go_wp2_with fail
          have bF := BF.out
          have hxF := HXF.out
          generalize ((wr.setCell _ _).setCell _ _).setCell _ _ = wF at *
          obtain ⟨z0, z1, z2⟩ := bx3_bk bF
          exact bodyPost_ret (v := .tuple #[.agg #[.int .i64 0, .int .i64 0, .slice none 0 0], .bool false]) (by simp [results, Tryz.results51, go_sem, z0, z1, z2]) rfl ⟨rfl, hxF⟩
    · exact absurd (fun j hj => HP.out j (by omega)) HNO.out

/-- The wave of numbers, level by level. -/
def levelsOf (l : List Nat) (d : Nat) (n : Nat) : List PB := (List.range n).map fun L => bitsOf (bitsAt d l L)
def waveOf (l : List Nat) (d : Nat) : PW := ⟨l.length, d, levelsOf l d d⟩
theorem levelsOf_succ (l : List Nat) (d n : Nat) : levelsOf l d (n + 1) = levelsOf l d n ++ [bitsOf (bitsAt d l n)] := by
  unfold levelsOf; rw [List.range_succ, List.map_append]; rfl
theorem levelsOf_length (l : List Nat) (d n : Nat) : (levelsOf l d n).length = n := by simp [levelsOf]
def RetWave (x : PW) (w : World) (e : Ending) (w' : World) : Prop :=
  ∃ (A : Option Addr) (c : Nat), e = .returned (.tuple #[.agg #[.int .i64 x.N, .int .i64 x.Deep, .slice A x.L.length c], .bool true]) ∧ x.L.length ≤ c ∧ RdL w' A x.L ∧ Ext w w'
/-- A wave whose levels lie in rows of the call's own. -/
def RetWaveO (x : PW) (w : World) (e : Ending) (w' : World) : Prop :=
  ∃ (A : Option Addr) (c K : Nat) (xs : List Value), e = .returned (.tuple #[.agg #[.int .i64 x.N, .int .i64 x.Deep, .slice A x.L.length c], .bool true]) ∧ w'.ownsRow w.heap.size 116 3 (.slice A x.L.length c) x.L.length xs ∧ OkCells w' K xs x.L ∧ Ext w w'
theorem own_cap {w : World} {base : Nat} {e : TypeId} {size n : Nat} {A : Option Addr} {c : Nat} {xs : List Value} (h : w.ownsRow base e size (.slice A n c) n xs) : n ≤ c := by
  rcases h.2 with ⟨hv, h0⟩ | ⟨g, cap, cur, hv, hb, hg, hnc, _⟩
  · omega
  · injection hv with h1 h2 h3; omega
theorem info_bits : (Tryz.prog.info? 116).map (fun i => (i.zero, i.size, i.bytes)) = some (some (.agg #[.int .i64 0, .slice none 0 0, .slice none 0 0]), 3, 56) := by kernel_rfl
theorem info_bool : (Tryz.prog.info? 4).map (fun i => (i.zero, i.size, i.bytes)) = some (some (.bool false), 1, 1) := by kernel_rfl

theorem i64_and1 (n : Int) : bits .and .i64 n 1 = n % 2 := by
  have h1 : (BitVec.ofInt 64 1).toNat = 2 ^ 1 - 1 := by decide
  have key : (BitVec.ofInt 64 n &&& BitVec.ofInt 64 1).toNat = (n % ((2 ^ 64 : Nat) : Int)).toNat % 2 ^ 1 := by
    rw [BitVec.toNat_and, BitVec.toNat_ofInt, h1, Nat.and_two_pow_sub_one_eq_mod]
  show IntKind.i64.wrap ((BitVec.ofInt 64 n &&& BitVec.ofInt 64 1).toNat : Nat) = n % 2
  rw [key, IntKind.wrap_i64]
  omega
theorem bit_test (d L x s : Nat) (hs : d - 1 - L = s) : (((x : Int) / 2 ^ s) % 2 == 1) = bitL d L x := by
  unfold bitL
  rw [hs, Bool.eq_iff_iff, beq_iff_eq, beq_iff_eq]
  have : ((x : Int) / 2 ^ s) = ((x / 2 ^ s : Nat) : Int) := by simp
  rw [this]; omega
theorem map_nth' {α : Type} (f : Nat → α) (l : List Nat) : (List.range l.length).map (fun j => f (nth l j)) = l.map f := by
  apply List.ext_getElem
  · simp
  · intro i h1 h2; simp at h2; simp [nth_lt h2]
/-- What Make has on its way: the numbers in the order of level Lo, Lv levels, and what its struct's last cell holds. -/
structure MkG (l : List Nat) (d : Nat) (w : World) (B8 K Lo Lv : Nat) (vO vL vB : Value) (xs : List Value) (wr : World) : Prop where
  o : wr.ownsRow w.heap.size 3 1 vO l.length ((rowsAt d l Lo).map fun x => Value.int .i64 (x : Nat))
  v : wr.ownsRow w.heap.size 116 3 vL Lv xs
  c : OkCells wr K xs (levelsOf l d Lv)
  b : Bk wr B8 29 #[Value.int IntKind.i64 l.length, Value.int IntKind.i64 d, vB]
  z : Bk wr w.heap.size 29 #[Value.int IntKind.i64 0, Value.int IntKind.i64 0, Value.slice none 0 0]
  x : Ext w wr
  k : K ≤ wr.heap.size
  h : w.heap.size < B8
abbrev MkRel (l : List Nat) (d : Nat) (w : World) (B8 K L : Nat) (vO vL : Value) (xs : List Value) (wr : World) : Prop := MkG l d w B8 K L L vO vL vL xs wr
section
variable {l : List Nat} {d : Nat} {w : World} {B8 K Lo L : Nat} {vO vL vB : Value} {xs : List Value} {wr wr' : World}
theorem MkG.ext (h : MkG l d w B8 K Lo L vO vL vB xs wr) (hx : Ext wr wr') : MkG l d w B8 K Lo L vO vL vB xs wr' :=
  ⟨own_ext h.o hx, own_ext h.v hx, h.c.ext (fun _ _ _ _ _ r => r.ext hx), h.b.ext hx, h.z.ext hx, h.x.trans hx, Nat.le_trans h.k hx.size, h.h⟩
/-- One level more. -/
theorem MkG.app (h : MkG l d w B8 K Lo L vO vL vB xs wr) {b0 c1 c2 : Nat} {A1 A2 : Option Addr} {v' : Value} (hr : OwnB wr b0 A1 A2 c1 c2 (bitsOf (bitsAt d l L))) (hb : K ≤ b0)
    (ho : wr'.ownsRow w.heap.size 116 3 v' (L + 1) (xs ++ [.int .i64 (bitsOf (bitsAt d l L)).N, .slice A1 (bitsOf (bitsAt d l L)).P.length c1, .slice A2 (bitsOf (bitsAt d l L)).A.length c2])) (hg : wr.grownBy wr' vL.ownBlock) :
    MkG l d w B8 K Lo (L + 1) vO v' vB (xs ++ [.int .i64 (bitsOf (bitsAt d l L)).N, .slice A1 (bitsOf (bitsAt d l L)).P.length c1, .slice A2 (bitsOf (bitsAt d l L)).A.length c2]) wr' :=
  ⟨own_grown h.o hg (own_own_ne h.o h.v (by decide)), ho, by rw [levelsOf_succ]; exact (h.c.snoc (hr.base hb)).ext (fun _ _ _ _ _ r => r.grownT h.v hg (by decide) (by decide)),
    h.b.grown hg (Bk.own_ne h.v h.b (by decide)), h.z.grown hg (Bk.own_ne h.v h.z (by decide)), h.x.grown hg (fun k hk => (own_row_ge h.v k hk).1), Nat.le_trans h.k hg.size, h.h⟩
/-- The struct's last cell turned. -/
theorem MkG.sto (h : MkG l d w B8 K Lo L vO vL vB xs wr) (u : Value) : MkG l d w B8 K Lo L vO vL u xs (wr.setCell ⟨B8, 2, none⟩ u) := by
  have hne : ∀ {base e size n v xs}, wr.ownsRow base e size v n xs → e ≠ 29 → v.ownBlock ≠ some B8 := fun {base e size n v xs} q he => fun e' => Bk.own_ne q h.b he e'.symm
  refine ⟨own_far h.o (hne h.o (by decide)) u, own_far h.v (hne h.v (by decide)) u, h.c.ext (fun _ _ _ _ _ r => ⟨own_far r.1 (hne r.1 (by decide)) u, own_far r.2 (hne r.2 (by decide)) u⟩), h.b.set 2 u, h.z.far ?_ u, h.x.setCell (Nat.le_of_lt h.h) u, ?_, h.h⟩
  · show w.heap.size ≠ B8
    have := h.h; omega
  · simp; exact h.k
/-- The numbers sorted in their row. -/
theorem MkG.srt (h : MkG l d w B8 K Lo L vO vL vB xs wr) (hK : ∀ k, vO.ownBlock = some k → k < K) {Lo' : Nat} (ho : wr'.ownsRow w.heap.size 3 1 vO l.length ((rowsAt d l Lo').map fun x => Value.int .i64 (x : Nat))) (hg : wr.grownBy wr' vO.ownBlock) :
    MkG l d w B8 K Lo' L vO vL vB xs wr' :=
  ⟨ho, own_grown h.v hg (own_own_ne h.v h.o (by decide)), h.c.ext (fun _ _ _ _ _ r => r.grown hg hK), h.b.grown hg (Bk.own_ne h.o h.b (by decide)), h.z.grown hg (Bk.own_ne h.o h.z (by decide)), h.x.grown hg (fun k hk => (own_row_ge h.o k hk).1), Nat.le_trans h.k hg.size, h.h⟩
end

set_option maxHeartbeats 4000000 in
set_option maxRecDepth 100000 in
theorem wmake_yesO (l : List Nat) (d : Nat) (A : Option Addr) (c : Nat) (w : World) (hd : 1 ≤ d ∧ d ≤ 16) (hl : l.length ≤ 17592186044416) (hf : ∀ x ∈ l, x < 2 ^ d) (hA : A = none → c = 0) (hr : Rd w A l.length (fun k => .int .i64 (nth l k : Nat))) :
    Calls Tryz.prog 51 #[.slice A l.length c, .int .i64 d] w (RetWaveO (waveOf l d) w) := by
  obtain ⟨ii, hi, hj0, hj1, hj2⟩ := info_parts info_int
  obtain ⟨ib, hib, hk0, hk1, hk2⟩ := info_parts info_bool
  obtain ⟨iB, hiB, hm0, hm1, hm2⟩ := info_parts info_bits
  have HF := Lib.hid hf
  obtain ⟨hd1, hd2⟩ := hd
  clear hf
  go_enter Tryz.func51, Tryz.ntmps51
  go_wp2_with fail
  generalize hW : World.alloc w _ = W
  have bx := bk_of hW
  have hx : Ext w W := ext_of_alloc hW
  have HR := Lib.hid (hr.ext hx)
  clear hW
  go_loopw [24] (fun v wr => ∃ k : Nat, k ≤ l.length ∧ v = .int .i64 k ∧ wr = W) (fun v _ => l.length - (intOf v).toNat)
  case atStart => exact ⟨0, by omega, rfl, rfl⟩
  case round =>
    obtain ⟨k, hk, rfl, rfl⟩ := hrel
    by_cases g1 : k < l.length
    · obtain ⟨b1, o1, hA', hb1, hc1⟩ := HR.out (by omega)
      subst hA'
      have p1 := hc1 k g1
      dsimp only at p1
      clear hc1 hA
      have hlt : nth l k < 2 ^ d := HF.out _ (nth_mem g1)
      obtain ⟨x, hx'⟩ : ∃ x, nth l k = x := ⟨_, rfl⟩
      rw [hx'] at p1 hlt
      clear hx'
      have q3 : ((x : Int) / 2 ^ d == 0) = true := by rw [shr_zero (by omega) (by exact_mod_cast hlt)]; rfl
      have q4 : ((x : Int) / 2 ^ d != 0) = false := by rw [shr_zero (by omega) (by exact_mod_cast hlt)]; rfl
      go_wp2_with fail
      exact ⟨⟨k + 1, by omega, by go_num, trivial⟩, by simp [intOf]; omega⟩
    · obtain rfl : k = l.length := by omega
      have hbs : w.heap.size ≤ wr.heap.size := hx.size
      go_wp2_with (at_builtin; refine wpList_appAll (by rfl) _ _ 24 rfl w.heap.size 3 ii (.int .i64 0) 8 Tryz.underlying24 hi hj0 hj1 hj2 rfl _ 0 [] rfl (own_nil _ w.heap.size 3 1) A l.length c (fun j => .int .i64 (nth l j : Nat)) rfl hA (HR.out.ext ((Ext.refl _).alloc _)) (fun _ _ => rfl) (by omega) (by omega) (by omega) (by simp; omega) ?_)
      intro v1 w1 own1 hg1
      obtain ⟨A1, c1, hv1⟩ := own_form own1
      subst hv1
      have hx1 : Ext w w1 := (hx.alloc _).trans (ext_of_grown hg1)
      have hb8 : Bk w1 wr.heap.size 29 #[Value.int IntKind.i64 l.length, Value.int IntKind.i64 d, .slice none 0 0] := (Bk.new ..).ext (ext_of_grown hg1)
      have hz1 : Bk w1 w.heap.size 29 #[Value.int IntKind.i64 0, Value.int IntKind.i64 0, .slice none 0 0] := (bx.alloc _).ext (ext_of_grown hg1)
      have ho1 : w1.ownsRow w.heap.size 3 1 (.slice A1 l.length c1) l.length ((rowsAt d l 0).map fun x => Value.int .i64 (x : Nat)) := by
        rw [rowsAt_zero HF.out]
        rw [map_nth' (fun x => Value.int .i64 (x : Nat)) l] at own1
        exact own1
      have rel0 : MkRel l d w wr.heap.size w1.heap.size 0 (.slice A1 l.length c1) (.slice none 0 0) [] w1 := ⟨ho1, own_nil _ _ _ _, OkCells.nil _ _, hb8, hz1, hx1, Nat.le_refl _, bx.lt⟩
      have hB8 : w.heap.size < wr.heap.size := bx.lt
      generalize wr.heap.size = B8 at *
      clear own1 hg1 hx1 hb8 hz1 ho1 hbs bx HR hr hA g1 hk
      have hK0 : ∀ k, (Value.slice A1 l.length c1).ownBlock = some k → k < w1.heap.size := fun k hk => (own_row_ge rel0.o k hk).2
      have HK0 := Lib.hid hK0
      have REL0 := Lib.hid rel0
      clear rel0 hK0
      obtain ⟨wo, rfl⟩ : ∃ wo, wo = w1 := ⟨_, rfl⟩
      clear hx
      go_wp2_with fail
      go_loopw [46] (fun v wr => ∃ (L : Nat) (vL : Value) (xs : List Value), v = .int .i64 L ∧ L ≤ d ∧ Hid (MkRel l d w B8 wo.heap.size L (.slice A1 l.length c1) vL xs wr)) (fun v _ => d - (intOf v).toNat)
      case atStart => exact ⟨0, _, _, rfl, by omega, REL0⟩
      case round => as_aux_lemma =>
        clear REL0
        obtain ⟨L, vL, xs, rfl, hL, REL⟩ := hrel
        by_cases g2 : L < d
        · obtain ⟨s, hs⟩ : ∃ s, d - 1 - L = s := ⟨_, rfl⟩
          have hs' : (d : Int) - 1 - (L : Int) = (s : Int) := by omega
          have hs16 : s < 16 := by omega
          have HSS := Lib.hid hs
          clear hs
          have rel := REL.out
          have hRd0 : Rd wr A1 l.length (fun k => .int .i64 (nth (rowsAt d l L) k : Nat)) := (Rd.of_own (d := default) rel.o).congr fun k hk => by
            have : k < (rowsAt d l L).length := by
              have := rel.o.1
              rw [List.length_map] at this
              omega
            simp [this, nth_lt]
          have hbs : w.heap.size ≤ wr.heap.size := rel.x.size
          have HRD := Lib.hid hRd0
          clear hRd0 rel
          go_wp2_with fail
          generalize hW3 : World.alloc wr _ = W3
          have bS := bk_of hW3
          have hx3 : Ext wr W3 := ext_of_alloc hW3
          have hSB : wr.heap.size ≠ B8 := by have := REL.out.b.lt; omega
          have hSw : w.heap.size ≤ wr.heap.size := hbs
          have HRD3 := Lib.hid (HRD.out.ext hx3)
          have hrl : (rowsAt d l L).length = l.length := by
            have := REL.out.o.1
            rw [List.length_map] at this
            omega
          have HRL := Lib.hid hrl
          have hob : (Value.slice A1 l.length c1).ownBlock ≠ some wr.heap.size := fun e => by have := (own_row_ge REL.out.o _ e).2; omega
          have HOB := Lib.hid hob
          clear hW3 HRD hrl hob
          generalize wr.heap.size = S at *
          go_loopw [12, 56] (fun vb vj wr2 => ∃ (j : Nat) (A2 : Option Addr) (c2 : Nat), vb = .slice A2 j c2 ∧ vj = .int .i64 j ∧ j ≤ l.length ∧ Hid (wr2.ownsRow W3.heap.size 4 1 (.slice A2 j c2) j (((rowsAt d l L).take j).map fun x => .bool (bitL d L x))) ∧ Ext W3 wr2) (fun _ vj _ => l.length - (intOf vj).toNat)
          case atStart => exact ⟨0, none, 0, rfl, rfl, by omega, own_nil _ _ _ _, Ext.refl _⟩
          case round =>
            obtain ⟨j, A2, c2, rfl, rfl, hj, HO, hx2⟩ := hrel
            have pS := (bS.ext hx2).cell 0
            by_cases g3 : j < l.length
            · obtain ⟨b1, o1, hA', hb1, hc1⟩ := HRD3.out (by omega)
              subst hA'
              have p1 := ecell (hc1 j g3) hx2
              dsimp only at p1
              clear hc1
              have hj2 : j < (rowsAt d l L).length := by rw [HRL.out]; exact g3
              obtain ⟨x, hxx⟩ : ∃ x, nth (rowsAt d l L) j = x := ⟨_, rfl⟩
              have hx16 : x < 65536 := by rw [← hxx]; exact Nat.lt_of_lt_of_le (HF.out _ (rowsAt_mem (nth_mem hj2))) (pow16 hd2)
              have htk : ((rowsAt d l L).take (j + 1)).map (fun x => Value.bool (bitL d L x)) = ((rowsAt d l L).take j).map (fun x => Value.bool (bitL d L x)) ++ [.bool (bitL d L x)] := by
                rw [take_succ_nth _ _ hj2, List.map_append, hxx]; rfl
              have HTK := Lib.hid htk
              have ea := i64_and1 ((x : Int) / 2 ^ s)
              have eb := bit_test d L x s HSS.out
              rw [hxx] at p1
              obtain ⟨β, hβ⟩ : ∃ β, bitL d L x = β := ⟨_, rfl⟩
              rw [hβ] at eb
              have HBT := Lib.hid hβ
              have hb3 : W3.heap.size ≤ wr.heap.size := hx2.size
              clear htk hxx hβ
              go_wp2_with (at_builtin; refine wpList_app1 (by rfl) _ _ 113 rfl W3.heap.size 4 ib (.bool false) 1 Tryz.underlying113 hib hk0 hk1 hk2 rfl _ j _ rfl wr (.bool β) 4 rfl HO.out rfl rfl ?d1 ?d2 hb3 ?_)
              case d1 => omega
              case d2 => omega
              intro g' cap' w2 own2 hgr2
              have hxn : Ext W3 w2 := hx2.grown hgr2 (fun k hk => (own_row_ge HO.out k hk).1)
              have HO2 : Hid (w2.ownsRow W3.heap.size 4 1 (.slice (some ⟨g', 0, none⟩) (j + 1) cap') (j + 1) (((rowsAt d l L).take (j + 1)).map fun x => .bool (bitL d L x))) := by
                show World.ownsRow _ _ _ _ _ _ _
                rw [HTK.out, HBT.out, List.map_take]; exact own2
              clear own2 hgr2 HO
              go_wp2_with fail
              refine ⟨⟨j + 1, some ⟨g', 0, none⟩, cap', rfl, by go_num, by omega, HO2, hxn⟩, by simp [intOf]; omega⟩
            · obtain rfl : j = l.length := by omega
              have hbits : Hid (wr.ownsRow W3.heap.size 4 1 (.slice A2 l.length c2) l.length ((bitsAt d l L).map Value.bool)) := by
                show World.ownsRow _ _ _ _ _ _ _
                have := HO.out
                rw [List.take_of_length_le (by rw [HRL.out]; exact Nat.le_refl _)] at this
                unfold bitsAt
                rw [List.map_map]
                exact this
              have hbl : Hid ((bitsAt d l L).length = l.length) := bitsAt_length HF.out (by omega)
              clear HO HRD3 pS
              have REL2 := Lib.hid (REL.out.ext (hx3.trans hx2))
              have bS2 := Lib.hid (bS.ext hx2)
              have HOBB : Hid (W3.heap.size ≤ wr.heap.size) := hx2.size
              have hWS : S < W3.heap.size := bS.lt
              have HBR : Hid (Rd wr A2 (bitsAt d l L).length (fun k => .bool (nth (bitsAt d l L) k))) := by
                show Rd _ _ _ _
                have hb := hbl.out
                have ho := hbits.out
                rw [hb]
                refine (Rd.of_own (d := default) ho).congr fun k hk => ?_
                simp [nth_lt (l := bitsAt d l L) (k := k) (by omega), show k < (bitsAt d l L).length by omega]
              clear REL hx3 bS hbits
              obtain ⟨wo2, rfl⟩ : ∃ wo2, wo2 = wr := ⟨_, rfl⟩
              go_upto_region 21 with fail
              refine wp_region_N (fun w' => w'.cell? ⟨B8, 2, none⟩ = some vL) 5 (by kernel_rfl) ?_
              simp only [List.length_cons, List.length_nil, Nat.zero_add, Nat.reduceAdd]
              have st := REL2.out.ext (Ext.refl wo2).drew
              have bS3 := bS2.out.ext (Ext.refl wo2).drew
              have hbr := HBR.out.ext (Ext.refl wo2).drew
              have hxd : Ext wo2 wo2.drew := (Ext.refl wo2).drew
              have st0k := st.k
              clear REL2 bS2 HBR
              generalize wo2.drew = w0 at *
              refine pure_N (i := 0) (.pointer (some ⟨B8, 2, none⟩)) rfl (by kernel_rfl) (fun _ _ _ h => h) rfl (st.b.cell 2) (fun w' => by go_simp) #[true, false, false, false, false, false, false, false] (by rfl) ?_
              try simp only [Act.put, List.setIfInBounds_toArray, List.set_cons_zero, List.set_cons_succ]
              refine take_N (i := 1) vL rfl (by kernel_rfl) (fun _ _ _ h => h) rfl (st.b.cell 2) (fun w' hw' => by go_simp) #[true, true, false, false, false, false, false, false] (by rfl) ?_
              try simp only [Act.put, List.setIfInBounds_toArray, List.set_cons_zero, List.set_cons_succ]
              refine pure_N (i := 2) (.slice A2 l.length c2) rfl (by kernel_rfl) (fun _ _ _ h => h) rfl (st.b.cell 2) (fun w' => by go_simp) #[true, true, true, false, false, false, false, false] (by rfl) ?_
              try simp only [Act.put, List.setIfInBounds_toArray, List.set_cons_zero, List.set_cons_succ]
              refine all_N [3] (by kernel_rfl) (by simp) ?_
              rintro i hi'
              obtain rfl := List.mem_singleton.1 hi'
              refine step_N (i := 3) #[true, true, true, true, false, false, false, false] rfl rfl (by rfl) (fun K' hK' => ?_)
              go_simp
              have hmk := make_callsO (bitsAt d l L) A2 c2 w0 (by rw [hbl.out]; exact hl) hbr
              rw [hbl.out] at hmk
              refine hmk.mono ?_
              rintro e w2 ⟨B1, e1, B2, e2, rfl, hrB, hx3⟩
              have st2 := st.ext hx3
              have bS4 := bS3.ext hx3
              have hx4 := hxd.trans hx3
              refine hK' _ _ (st2.b.cell 2) ?_
              clear K' hK' hi' st bS3 hbr hmk hx3 hxd
              try simp only [Act.put, List.setIfInBounds_toArray, List.set_cons_zero, List.set_cons_succ]
              refine all_N [4] (by kernel_rfl) (by simp) ?_
              rintro i hi'
              obtain rfl := List.mem_singleton.1 hi'
              refine step_N (i := 4) #[true, true, true, true, true, false, false, false] rfl rfl (by rfl) (fun K' hK' => ?_)
              go_simp
              generalize hW5 : World.alloc w2 _ = w5
              have st3 := st2.ext (ext_of_alloc hW5)
              have bN := bk_of hW5
              have bS5 := bS4.ext (ext_of_alloc hW5)
              have hrB5 := hrB.ext (ext_of_alloc hW5)
              have hx5 := hx4.trans (ext_of_alloc hW5)
              refine hK' _ _ (st3.b.cell 2) ?_
              clear K' hK' hi' st2 bS4 hW5 hx4 hrB
              generalize w2.heap.size = G at *
              try simp only [Act.put, List.setIfInBounds_toArray, List.set_cons_zero, List.set_cons_succ]
              refine wpAnyN_tail 5 _ rfl rfl (by kernel_rfl) (by kernel_rfl) ?_
              have hbs5 : w.heap.size ≤ w5.heap.size := st3.x.size
              refine wpList_append_lies _ (by rfl) _ _ 27 rfl w.heap.size 116 iB (.agg #[.int .i64 0, .slice none 0 0, .slice none 0 0]) 3 56 Tryz.underlying27 hiB hm0 hm1 hm2 rfl (by decide) vL L xs rfl st3.v ⟨G, 0, none⟩ 1 1 [.int .i64 (bitsOf (bitsAt d l L)).N, .slice B1 (bitsOf (bitsAt d l L)).P.length e1, .slice B2 (bitsOf (bitsAt d l L)).A.length e2] rfl rfl ?n1 ?n2 (by decide) ?n3 ?n4 hbs5 _ rfl ?_
              case n1 => exact fun j u' hu' => World.news_of_block (show w5.heap[G]? = some (.cells #[_, _, _] 116 (0, 0)) from bN) j u' hu'
              case n2 => intro u hu; simp at hu; rcases hu with rfl | rfl | rfl <;> rfl
              case n3 => unfold maxLen; omega
              case n4 => omega
              intro g cap w6 own6 hgr6 _ _
              have st6 := st3.app hrB5 st0k own6 hgr6
              have bS6 := bS5.grown hgr6 (Bk.own_ne st3.v bS5 (by decide))
              obtain ⟨y0, y1, y2⟩ := bx3_bk st6.b
              have f2 := st6.b.frozen 2
              have st7 := st6.sto (.slice (some ⟨g, 0, none⟩) (L + 1) cap)
              have bS7 := bS6.far (p := ⟨B8, 2, none⟩) hSB (.slice (some ⟨g, 0, none⟩) (L + 1) cap)
              have ST7 := Lib.hid st7; have BS7 := Lib.hid bS7
              clear st3 own6 hgr6 st6 st7 bS7 bS6 bS5 hrB5 bN hbs5 st0k
              go_wp2_with fail
              clear y0 y1 y2 f2
              generalize w6.setCell _ _ = w7 at *
              have hdl : ((rowsAt d l L).map toV).length = l.length := by rw [List.length_map]; exact HRL.out
              have hsr := sortRow_calls s hs16 S w.heap.size 3 (.slice A1 l.length c1) ((rowsAt d l L).map toV) w7 (by rw [hdl, map_encV hd2 (fun x hx => HF.out x (rowsAt_mem hx))]; exact ST7.out.o) (BS7.out.cell 0) HOB.out (by rw [hdl]; omega)
              have hst := stable_rows hd2 HF.out g2
              rw [HSS.out] at hst
              rw [hdl, hst, map_encV hd2 (fun x hx => HF.out x (rowsAt_mem hx))] at hsr
              refine hsr.mono ?_
              rintro e' w8 ⟨rfl, ho8, hg8⟩
              have ST8 := Lib.hid (ST7.out.srt HK0.out ho8 hg8)
              clear hdl hsr hst ho8 hg8 ST7 BS7
              go_wp2_with fail
              refine ⟨⟨L + 1, _, _, by go_num, by omega, ST8⟩, by simp [intOf]; omega⟩
        · obtain rfl : L = d := by omega
          obtain ⟨AL, cL, hvL⟩ := own_form REL.out.v
          subst hvL
          have st := REL.out
          obtain ⟨y0, y1, y2⟩ := bx3_bk st.b
          obtain ⟨x0, x1, x2⟩ := bx3_bk st.z
          have f0 := st.z.frozen 0
          have f1 := st.z.frozen 1
          have f2 := st.z.frozen 2
          clear st
          go_wp2_with fail
          clear x0 x1 x2 y0 y1 y2 f0 f1 f2
          have st := REL.out
          have hne : ∀ {base e size n v xs}, wr.ownsRow base e size v n xs → e ≠ 29 → v.ownBlock ≠ some w.heap.size := fun {base e size n v xs} q he => fun e' => Bk.own_ne q st.z he e'.symm
          have v3 := own_far (p := ⟨w.heap.size, 2, none⟩) (own_far (p := ⟨w.heap.size, 1, none⟩) (own_far (p := ⟨w.heap.size, 0, none⟩) st.v (hne st.v (by decide)) (.int .i64 l.length)) (hne st.v (by decide)) (.int .i64 L)) (hne st.v (by decide)) (.slice AL L cL)
          have c3 := st.c.ext (w' := ((wr.setCell ⟨w.heap.size, 0, none⟩ (.int .i64 l.length)).setCell ⟨w.heap.size, 1, none⟩ (.int .i64 L)).setCell ⟨w.heap.size, 2, none⟩ (.slice AL L cL)) (fun _ _ _ _ _ r =>
            ⟨own_far (p := ⟨w.heap.size, 2, none⟩) (own_far (p := ⟨w.heap.size, 1, none⟩) (own_far (p := ⟨w.heap.size, 0, none⟩) r.1 (hne r.1 (by decide)) _) (hne r.1 (by decide)) _) (hne r.1 (by decide)) _,
             own_far (p := ⟨w.heap.size, 2, none⟩) (own_far (p := ⟨w.heap.size, 1, none⟩) (own_far (p := ⟨w.heap.size, 0, none⟩) r.2 (hne r.2 (by decide)) _) (hne r.2 (by decide)) _) (hne r.2 (by decide)) _⟩)
          have hsz : w.heap.size ≤ w.heap.size := Nat.le_refl _
          have hxF := ((st.x.setCell (p := ⟨w.heap.size, 0, none⟩) hsz (.int .i64 l.length)).setCell (p := ⟨w.heap.size, 1, none⟩) hsz (.int .i64 L)).setCell (p := ⟨w.heap.size, 2, none⟩) hsz (.slice AL L cL)
          have bF := ((st.z.set 0 (.int .i64 l.length)).set 1 (.int .i64 L)).set 2 (.slice AL L cL)
          generalize ((wr.setCell _ _).setCell _ _).setCell _ _ = wF at *
          obtain ⟨z0, z1, z2⟩ := bx3_bk bF
          refine bodyPost_ret (v := .tuple #[.agg #[.int .i64 l.length, .int .i64 L, .slice AL L cL], .bool true]) (by simp [results, Tryz.results51, go_sem, z0, z1, z2]) rfl ?_
          refine ⟨AL, cL, wo.heap.size, _, ?_, ?_, c3, hxF⟩
          · show _ = Ending.returned (.tuple #[.agg #[.int .i64 l.length, .int .i64 L, .slice AL (levelsOf l L L).length cL], .bool true])
            rw [levelsOf_length]
          · show World.ownsRow _ _ _ _ (.slice AL (levelsOf l L L).length cL) (levelsOf l L L).length _
            rw [levelsOf_length]; exact v3
theorem wmake_yes (l : List Nat) (d : Nat) (A : Option Addr) (c : Nat) (w : World) (hd : 1 ≤ d ∧ d ≤ 16) (hl : l.length ≤ 17592186044416) (hf : ∀ x ∈ l, x < 2 ^ d) (hA : A = none → c = 0) (hr : Rd w A l.length (fun k => .int .i64 (nth l k : Nat))) :
    Calls Tryz.prog 51 #[.slice A l.length c, .int .i64 d] w (RetWave (waveOf l d) w) :=
  (wmake_yesO l d A c w hd hl hf hA hr).mono fun _ _ ⟨A, c, _, _, he, ho, hc, hx⟩ => ⟨A, c, he, own_cap ho, rdL_own ho hc, hx⟩
end Go.Proofs.YtjfdlibceldanabGreatDoor
