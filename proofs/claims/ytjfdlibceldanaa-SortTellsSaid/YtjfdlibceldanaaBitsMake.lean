/- bits.Make: the walk. -/
import Derived.Test.YtjfdlibceldanaaWords
namespace Go.Proofs.Ytjfdlibceldanaa
open Go.RowKit

/-- Bits that a call returned, in memory. -/
def RetBits (b : PB) (w : World) (e : Ending) (w' : World) : Prop :=
  ∃ (A1 : Option Addr) (c1 : Nat) (A2 : Option Addr) (c2 : Nat), e = .returned (.agg #[.int .i64 b.N, .slice A1 b.P.length c1, .slice A2 b.A.length c2]) ∧ RdB w' A1 A2 b ∧ Ext w w'

/-- Bits whose two lists lie in rows of the call's own. -/
def OwnB (w : World) (base : Nat) (A1 A2 : Option Addr) (c1 c2 : Nat) (b : PB) : Prop :=
  w.ownsRow base 72 1 (.slice A1 b.P.length c1) b.P.length ((List.range b.P.length).map fun j => .int .u64 (nth b.P j : Nat)) ∧ w.ownsRow base 3 1 (.slice A2 b.A.length c2) b.A.length ((List.range b.A.length).map fun j => .int .i64 (nth b.A j))
theorem OwnB.rd {w : World} {base : Nat} {A1 A2 : Option Addr} {c1 c2 : Nat} {b : PB} (h : OwnB w base A1 A2 c1 c2 b) : RdB w A1 A2 b := ⟨rd_own h.1, rd_own h.2⟩
theorem OwnB.ext {w w' : World} {base : Nat} {A1 A2 : Option Addr} {c1 c2 : Nat} {b : PB} (h : OwnB w base A1 A2 c1 c2 b) (hx : Ext w w') : OwnB w' base A1 A2 c1 c2 b := ⟨own_ext h.1 hx, own_ext h.2 hx⟩
def RetBitsO (b : PB) (w : World) (e : Ending) (w' : World) : Prop :=
  ∃ (A1 : Option Addr) (c1 : Nat) (A2 : Option Addr) (c2 : Nat), e = .returned (.agg #[.int .i64 b.N, .slice A1 b.P.length c1, .slice A2 b.A.length c2]) ∧ OwnB w' w.heap.size A1 A2 c1 c2 b ∧ Ext w w'

theorem info_u64 : (Try.prog.info? 72).map (fun i => (i.zero, i.size, i.bytes)) = some (some (.int .u64 0), 1, 8) := by kernel_rfl
theorem info_int : (Try.prog.info? 3).map (fun i => (i.zero, i.size, i.bytes)) = some (some (.int .i64 0), 1, 8) := by kernel_rfl

theorem or_eq (p k : Nat) (hp : p < 2 ^ (k % 64)) : bits BinOp.or IntKind.u64 (p : Int) (IntKind.u64.wrap ((2 : Int) ^ (k % 64))) = ((p + 2 ^ (k % 64) : Nat) : Int) := by
  have h1 : (2 : Nat) ^ (k % 64) < 18446744073709551616 := by
    have : (2 : Nat) ^ (k % 64) < 2 ^ 64 := Nat.pow_lt_pow_right (by omega) (by omega)
    simpa using this
  have e : ((2 : Int) ^ (k % 64)) = ((2 ^ (k % 64) : Nat) : Int) := by simp
  rw [e, Pop.wrap_u64_nat _ h1, u64_or_nat _ _ (by omega) h1]
  congr 1
  have := Nat.two_pow_add_eq_or_of_lt hp 1
  rw [Nat.or_comm, ← Nat.mul_one (2 ^ (k % 64)), ← this]
  omega

theorem made_zero (n : Nat) (u : Value) : (madeCells #[u] n).toList = (List.range n).map fun _ => u := by
  simp [madeCells, Array.toList_range, Nat.mod_one]

set_option maxHeartbeats 2000000 in
set_option maxRecDepth 100000 in
theorem make_callsO (l : List Bool) (A : Option Addr) (c : Nat) (w : World) (hl : l.length ≤ 17592186044416) (hr : Rd w A l.length (fun k => .bool (nth l k))) :
    Calls Try.prog 16 #[.slice A l.length c] w (RetBitsO (bitsOf l) w) := by
  obtain ⟨iu, hu, hz0, hz1, hz2⟩ := info_parts info_u64
  obtain ⟨ii, hi, hj0, hj1, hj2⟩ := info_parts info_int
  obtain ⟨n, hn⟩ : ∃ n, l.length / 64 + 1 = n := ⟨_, rfl⟩
  have es : (l.length : Int) / 64 + 1 = (n : Int) := by omega
  have hn1 : n ≤ 17592186044416 := by omega
  have HN := Lib.hid hn; clear hn
  go_enter Try.func16, Try.ntmps16
  go_wp2_with (at_make; refine wpList_make_full _ rfl _ _ 23 rfl w.heap.size 72 iu (.int .u64 0) 1 Try.underlying23 hu hz0 hz1 _ _ _ _ n rfl rfl rfl rfl ?c1 ?c2 ?c3 ?_)
  case c1 => rw [hz2]; omega
  case c2 => unfold maxLen; omega
  case c3 => simp
  intro w1 hown1 hgrow1
  have hx0 := (bk_of (w := w) rfl).ext (ext_of_grown hgrow1)
  have hxw : Ext w w1 := ((Ext.refl w).alloc _).trans (ext_of_grown hgrow1)
  have HO := Lib.hid hown1; clear hown1 hgrow1
  have HX0 := Lib.hid hx0; clear hx0
  go_wp2_with fail
  generalize hW2 : World.alloc w1 _ = w2
  have bx := bk_of hW2
  have hx1 := hxw.trans (ext_of_alloc hW2)
  have own1 := own_ext HO.out (ext_of_alloc hW2)
  have bx0 := HX0.out.ext (ext_of_alloc hW2)
  have hB : w.heap.size + 1 < w1.heap.size := (own_row_ge HO.out _ rfl).2
  have ES := Lib.hid es; clear hW2 es
  generalize w1.heap.size = B3 at *
  go_loopw [19] (fun i wr => ∃ k : Nat, k ≤ l.length ∧ i = .int .i64 k ∧ wr.ownsRow w.heap.size 72 1 (.slice (some ⟨w.heap.size + 1, 0, none⟩) n n) n ((List.range n).map fun j => Value.int .u64 (word (l.take k) j : Nat)) ∧
      Bk wr B3 26 #[Value.int IntKind.i64 ↑l.length, Value.slice (some { block := w.heap.size + 1, off := 0 }) n n, Value.slice none 0 0] ∧ Bk wr w.heap.size 26 #[Value.int IntKind.i64 0, Value.slice none 0 0, Value.slice none 0 0] ∧ Ext w wr) (fun i _ => l.length - (intOf i).toNat)
  case atStart =>
    refine ⟨0, by omega, rfl, ?_, bx, bx0, hx1⟩
    simp only [List.take_zero, word_nil]
    rw [made_zero] at own1
    exact own1
  case round =>
    obtain ⟨k, hk, rfl, own, bx, bx0, hxr⟩ := hrel
    by_cases g1 : k < l.length
    · obtain ⟨b1, o1, hA, hb1, hc1⟩ := hr (by omega)
      subst hA
      have p1 := ecell (hc1 k g1) hxr
      dsimp only at p1
      have hkn : k / 64 < n := by have := HN.out; omega
      have hg0 : w.heap.size ≤ w.heap.size + 1 := by omega
      clear hc1
      have hst := word_step l k
      by_cases g2 : nth l k = true
      · rw [g2] at p1
        have hlow := word_low l k (by omega)
        have q1 := (own.cellAt (k / 64) (by omega)).trans (map_range_get _ n (k / 64) hkn)
        have q2 := own.frozenAt (k / 64)
        obtain ⟨x0, x1, x2⟩ := bx3_bk bx
        have own2 := (own.stored (k / 64) (.int .u64 ((word (l.take k) (k / 64) + 2 ^ (k % 64) : Nat) : Int))).1
        rw [map_range_set] at own2
        have HO2 : Hid ((wr.setCell ⟨w.heap.size + 1, k / 64, none⟩ (.int .u64 ((word (l.take k) (k / 64) + 2 ^ (k % 64) : Nat) : Int))).ownsRow w.heap.size 72 1 (.slice (some ⟨w.heap.size + 1, 0, none⟩) n n) n ((List.range n).map fun j => Value.int .u64 (word (l.take (k + 1)) j : Nat))) := by
          rw [map_range_congr (g := fun j => if j = k / 64 then Value.int .u64 ((word (l.take k) (k / 64) + 2 ^ (k % 64) : Nat) : Int) else Value.int .u64 (word (l.take k) j : Nat)) ?_]
          · exact own2
          · intro j _
            rw [hst j g1]
            by_cases hj : j = k / 64
            · rw [if_pos hj, if_pos hj, if_pos g2, hj]
            · rw [if_neg hj, if_neg hj]
        have e1 := or_eq (word (l.take k) (k / 64)) k hlow
        have hw64 : word (l.take k) (k / 64) < 18446744073709551616 := word_lt _ _
        have HB1 := Lib.hid (bx.far (p := ⟨w.heap.size + 1, k / 64, none⟩) (by show B3 ≠ w.heap.size + 1; omega) (.int .u64 ((word (l.take k) (k / 64) + 2 ^ (k % 64) : Nat) : Int)))
        have HB0 := Lib.hid (bx0.far (p := ⟨w.heap.size + 1, k / 64, none⟩) (by show w.heap.size ≠ w.heap.size + 1; omega) (.int .u64 ((word (l.take k) (k / 64) + 2 ^ (k % 64) : Nat) : Int)))
        have HX := Lib.hid (hxr.setCell (p := ⟨w.heap.size + 1, k / 64, none⟩) hg0 (.int .u64 ((word (l.take k) (k / 64) + 2 ^ (k % 64) : Nat) : Int)))
        obtain ⟨y, hy⟩ : ∃ y, word (l.take k) (k / 64) + 2 ^ (k % 64) = y := ⟨_, rfl⟩
        rw [hy] at e1 HO2 HB1 HB0 HX
        clear own2 hst own bx bx0 hy hlow g2
        go_wp2_with fail
        go_roundw
        case rel => exact ⟨k + 1, by omega, by go_num, HO2, HB1, HB0, HX⟩
        case measure => simp [intOf]; omega
      · have g2' : nth l k = false := by simpa using g2
        rw [g2'] at p1
        have HO2 : Hid (wr.ownsRow w.heap.size 72 1 (.slice (some ⟨w.heap.size + 1, 0, none⟩) n n) n ((List.range n).map fun j => Value.int .u64 (word (l.take (k + 1)) j : Nat))) := by
          rw [map_range_congr (g := fun j => Value.int .u64 (word (l.take k) j : Nat)) ?_]
          · exact own
          · intro j _
            rw [hst j g1, g2']
            split <;> simp
        have HB1 := Lib.hid bx
        have HB0 := Lib.hid bx0
        clear own bx bx0 hst g2 g2'
        go_wp2_with fail
        go_roundw
        case rel => exact ⟨k + 1, by omega, by go_num, HO2, HB1, HB0, hxr⟩
        case measure => simp [intOf]; omega
    · have hkl : k = l.length := by omega
      subst hkl
      rw [List.take_length] at own
      obtain ⟨S, hS⟩ : ∃ S, psum (words l) = S := ⟨_, rfl⟩
      obtain ⟨W, hW⟩ : ∃ W, word l = W := ⟨_, rfl⟩
      rw [hW] at own
      have HS := Lib.hid hS; have HW := Lib.hid hW; clear hS hW
      have HB1 := Lib.hid bx; have HB0 := Lib.hid bx0; have HOW := Lib.hid own
      obtain ⟨x0, x1, x2⟩ := bx3_bk bx
      clear bx bx0 own
      go_wp2_with fail
      clear x0 x1 x2
      obtain ⟨wo, rfl⟩ : ∃ wo : World, wo = wr := ⟨_, rfl⟩
      go_loopw [6, 41] (fun s i wr => ∃ (k : Nat) (A2 : Option Addr) (c2 : Nat), k ≤ n ∧ i = .int .i64 k ∧ s = .int .i64 (S k : Nat) ∧
          Hid (wr.ownsRow w.heap.size 72 1 (.slice (some ⟨w.heap.size + 1, 0, none⟩) n n) n ((List.range n).map fun j => Value.int .u64 (W j : Nat))) ∧
          Hid (wr.ownsRow w.heap.size 3 1 (.slice A2 k c2) k ((List.range k).map fun j => Value.int .i64 (S j : Nat))) ∧
          Hid (Bk wr B3 26 #[Value.int IntKind.i64 ↑l.length, Value.slice (some { block := w.heap.size + 1, off := 0 }) n n, Value.slice A2 k c2]) ∧ Hid (Bk wr w.heap.size 26 #[Value.int IntKind.i64 0, Value.slice none 0 0, Value.slice none 0 0]) ∧ Hid (Ext w wr)) (fun _ i _ => n - (intOf i).toNat)
      case atStart => exact ⟨0, none, 0, by omega, rfl, by rw [← HS.out]; rfl, HOW, Lib.hid (own_nil ..), HB1, HB0, Lib.hid hxr⟩
      case round =>
        obtain ⟨k, A2, c2, hk, rfl, rfl, HOW, HOA, HB1, HB0, HX⟩ := hrel
        by_cases g1 : k < n
        · have q1 := (HOW.out.cellAt k (by omega)).trans (map_range_get _ n k g1)
          obtain ⟨x0, x1, x2⟩ := bx3_bk HB1.out
          have hWk : W k < 18446744073709551616 := by rw [← HW.out]; exact word_lt _ _
          have hSk : S k ≤ 64 * k := by rw [← HS.out]; exact psum_le _ _
          have hpc := Pop.pc_le 64 (W k)
          have hS1 : Hid (S (k + 1) = S k + Pop.pc 64 (W k)) := Lib.hid (by
            rw [← HS.out, psum, words_at l k (by have := HN.out; omega)]
            have := HW.out
            rw [← this])
          have hBsz : w.heap.size ≤ wr.heap.size := HX.out.size
          go_wp2_with (at_builtin; refine wpList_app1 (by rfl) _ _ 24 rfl w.heap.size 3 ii (.int .i64 0) 8 Try.underlying24 hi hj0 hj1 hj2 rfl _ k _ rfl wr (.int .i64 (S k : Nat)) 3 rfl HOA.out rfl rfl ?d1 ?d2 hBsz ?_)
          case d1 => omega
          case d2 => omega
          intro g cap w3 own3 hgr
          have bx3 := HB1.out.grown hgr (Bk.own_ne HOA.out HB1.out (by decide))
          have bx30 := HB0.out.grown hgr (Bk.own_ne HOA.out HB0.out (by decide))
          have hx3 := HX.out.grown hgr (fun k hk => (own_row_ge HOA.out k hk).1)
          have ow3 := own_grown HOW.out hgr (own_own_ne HOW.out HOA.out (by decide))
          have hgB : some B3 ≠ some g := Bk.own_ne own3 bx3 (by decide)
          have hBne : B3 ≠ w.heap.size + 1 := by omega
          rw [show List.map (fun j => Value.int IntKind.i64 ↑(S j)) (List.range k) ++ [Value.int IntKind.i64 ↑(S k)] = List.map (fun j => Value.int IntKind.i64 ↑(S j)) (List.range (k + 1)) from by rw [List.range_succ]; simp] at own3
          have R1 := Lib.hid (own_far (p := ⟨B3, 2, none⟩) ow3 (by simp [Value.ownBlock]; omega) (.slice (some ⟨g, 0, none⟩) (k + 1) cap))
          have R2 := Lib.hid (own_far (p := ⟨B3, 2, none⟩) own3 (by simp [Value.ownBlock]; intro e; exact hgB (by rw [e])) (.slice (some ⟨g, 0, none⟩) (k + 1) cap))
          have R3 := Lib.hid (bx3.set 2 (.slice (some ⟨g, 0, none⟩) (k + 1) cap))
          have R4 := Lib.hid (bx30.far (p := ⟨B3, 2, none⟩) (by show w.heap.size ≠ B3; omega) (.slice (some ⟨g, 0, none⟩) (k + 1) cap))
          have R5 := Lib.hid (hx3.setCell (p := ⟨B3, 2, none⟩) (by show w.heap.size ≤ B3; omega) (.slice (some ⟨g, 0, none⟩) (k + 1) cap))
          obtain ⟨y0, y1, y2⟩ := bx3_bk bx3
          have y3 := bx3.frozen 2
          clear bx3 bx30 hx3 ow3 own3 hgr hgB x0 x1 x2 HOA HOW HB1 HB0 HX
          go_wp2_with (go_at_call 61; refine (onesCount64 _ hWk _).mono ?_; rintro e w' ⟨rfl, rfl⟩)
          go_roundw
          case rel => exact ⟨k + 1, some ⟨g, 0, none⟩, cap, by omega, by go_num, by rw [hS1.out]; go_num, R1, R2, R3, R4, R5⟩
          case measure => simp [intOf]; omega
        · have hkn : k = n := by omega
          subst hkn
          obtain ⟨x0, x1, x2⟩ := bx3_bk HB1.out
          have x3 := HB1.out.frozen 0
          obtain ⟨y0, y1, y2⟩ := bx3_bk HB0.out
          have f0 := HB0.out.frozen 0
          have f1 := HB0.out.frozen 1
          have f2 := HB0.out.frozen 2
          go_wp2_with fail
          have hP : (bitsOf l).P.length = k := by rw [bitsOf_P_length]; exact HN.out
          have hA : (bitsOf l).A.length = k := by rw [bitsOf_A_length]; exact HN.out
          have r1 := own_far (p := ⟨w.heap.size, 0, none⟩) HOW.out (by simp [Value.ownBlock]) (Value.int IntKind.i64 ↑l.length)
          have r2 := own_far (p := ⟨w.heap.size, 1, none⟩) r1 (by simp [Value.ownBlock]) (Value.slice (some { block := w.heap.size + 1, off := 0 }) k k)
          have r3 := own_far (p := ⟨w.heap.size, 2, none⟩) r2 (by simp [Value.ownBlock]) (Value.slice A2 k c2)
          have hne : (Value.slice A2 k c2).ownBlock ≠ some w.heap.size := fun e => Bk.own_ne HOA.out HB0.out (by decide) e.symm
          have s1 := own_far (p := ⟨w.heap.size, 0, none⟩) HOA.out hne (Value.int IntKind.i64 ↑l.length)
          have s2 := own_far (p := ⟨w.heap.size, 1, none⟩) s1 hne (Value.slice (some { block := w.heap.size + 1, off := 0 }) k k)
          have s3 := own_far (p := ⟨w.heap.size, 2, none⟩) s2 hne (Value.slice A2 k c2)
          have hsz : w.heap.size ≤ w.heap.size := Nat.le_refl _
          have hxF := ((HX.out.setCell (p := ⟨w.heap.size, 0, none⟩) hsz (Value.int IntKind.i64 ↑l.length)).setCell (p := ⟨w.heap.size, 1, none⟩) hsz (Value.slice (some { block := w.heap.size + 1, off := 0 }) k k)).setCell (p := ⟨w.heap.size, 2, none⟩) hsz (Value.slice A2 k c2)
          have bF := (((HB0.out.set 0 (Value.int IntKind.i64 ↑l.length)).set 1 (Value.slice (some { block := w.heap.size + 1, off := 0 }) k k)).set 2 (Value.slice A2 k c2))
          have rdP := r3
          rw [map_range_congr (g := fun j => Value.int .u64 (nth (bitsOf l).P j : Nat)) (fun j hj => by rw [bitsOf_P_at l j (by have := HN.out; omega), ← HW.out])] at rdP
          have rdA := s3
          rw [map_range_congr (g := fun j => Value.int .i64 (nth (bitsOf l).A j)) (fun j hj => by rw [bitsOf_A_at l j (by have := HN.out; omega), ← HS.out])] at rdA
          generalize ((wr.setCell _ _).setCell _ _).setCell _ _ = wF at *
          obtain ⟨z0, z1, z2⟩ := bx3_bk bF
          refine bodyPost_ret (v := .agg #[.int .i64 (l.length : Nat), .slice (some { block := w.heap.size + 1, off := 0 }) k k, .slice A2 k c2]) (by simp [results, Try.results16, go_sem, z0, z1, z2]) rfl ?_
          refine ⟨some ⟨w.heap.size + 1, 0, none⟩, k, A2, c2, ?_, ⟨?_, ?_⟩, hxF⟩
          · rw [hP, hA]; rfl
          · rw [hP]; exact rdP
          · rw [hA]; exact rdA
theorem make_calls (l : List Bool) (A : Option Addr) (c : Nat) (w : World) (hl : l.length ≤ 17592186044416) (hr : Rd w A l.length (fun k => .bool (nth l k))) :
    Calls Try.prog 16 #[.slice A l.length c] w (RetBits (bitsOf l) w) :=
  (make_callsO l A c w hl hr).mono fun _ _ ⟨A1, c1, A2, c2, he, ho, hx⟩ => ⟨A1, c1, A2, c2, he, ho.rd, hx⟩
end Go.Proofs.Ytjfdlibceldanaa
