/- The reference WaveOf: the walk. -/
import Derived.Test.YtjfdlibceldanabWvMake
import Derived.Test.YtjfdlibceldanabRefBitsOf
namespace Go.Proofs.Ytjfdlibceldanab
open Go.RowKit Go.Sort Stab Wv

/-- What WaveOf has on its way. -/
structure WoG (l : List Nat) (d : Nat) (w : World) (B5 K Lv : Nat) (vL vB : Value) (xs : List Value) (wr : World) : Prop where
  v : wr.ownsRow w.heap.size 70 3 vL Lv xs
  c : OkCells wr K xs (levelsOf l d Lv)
  b : Bk wr B5 25 #[Value.int IntKind.i64 l.length, Value.int IntKind.i64 d, vB]
  z : Bk wr w.heap.size 25 #[Value.int IntKind.i64 0, Value.int IntKind.i64 0, Value.slice none 0 0]
  x : Ext w wr
  k : K ≤ wr.heap.size
  h : w.heap.size < B5
section
variable {l : List Nat} {d : Nat} {w : World} {B5 K L : Nat} {vL vB : Value} {xs : List Value} {wr wr' : World}
theorem WoG.ext (h : WoG l d w B5 K L vL vB xs wr) (hx : Ext wr wr') : WoG l d w B5 K L vL vB xs wr' :=
  ⟨own_ext h.v hx, h.c.ext (fun _ _ _ _ _ r => r.ext hx), h.b.ext hx, h.z.ext hx, h.x.trans hx, Nat.le_trans h.k hx.size, h.h⟩
theorem WoG.app (h : WoG l d w B5 K L vL vB xs wr) {b0 c1 c2 : Nat} {A1 A2 : Option Addr} {v' : Value} (hr : OwnB wr b0 A1 A2 c1 c2 (bitsOf (bitsAt d l L))) (hb : K ≤ b0)
    (ho : wr'.ownsRow w.heap.size 70 3 v' (L + 1) (xs ++ [.int .i64 (bitsOf (bitsAt d l L)).N, .slice A1 (bitsOf (bitsAt d l L)).P.length c1, .slice A2 (bitsOf (bitsAt d l L)).A.length c2])) (hg : wr.grownBy wr' vL.ownBlock) :
    WoG l d w B5 K (L + 1) v' vB (xs ++ [.int .i64 (bitsOf (bitsAt d l L)).N, .slice A1 (bitsOf (bitsAt d l L)).P.length c1, .slice A2 (bitsOf (bitsAt d l L)).A.length c2]) wr' :=
  ⟨ho, by rw [levelsOf_succ]; exact (h.c.snoc (hr.base hb)).ext (fun _ _ _ _ _ r => r.grownT h.v hg (by decide) (by decide)),
    h.b.grown hg (Bk.own_ne h.v h.b (by decide)), h.z.grown hg (Bk.own_ne h.v h.z (by decide)), h.x.grown hg (fun k hk => (own_row_ge h.v k hk).1), Nat.le_trans h.k hg.size, h.h⟩
theorem WoG.sto (h : WoG l d w B5 K L vL vB xs wr) (u : Value) : WoG l d w B5 K L vL u xs (wr.setCell ⟨B5, 2, none⟩ u) := by
  have hne : ∀ {base e size n v xs}, wr.ownsRow base e size v n xs → e ≠ 25 → v.ownBlock ≠ some B5 := fun {base e size n v xs} q he => fun e' => Bk.own_ne q h.b he e'.symm
  refine ⟨own_far h.v (hne h.v (by decide)) u, h.c.ext (fun _ _ _ _ _ r => ⟨own_far r.1 (hne r.1 (by decide)) u, own_far r.2 (hne r.2 (by decide)) u⟩), h.b.set 2 u, h.z.far ?_ u, h.x.setCell (Nat.le_of_lt h.h) u, ?_, h.h⟩
  · show w.heap.size ≠ B5
    have := h.h; omega
  · simp; exact h.k
end
def RetWave1 (x : PW) (w : World) (e : Ending) (w' : World) : Prop :=
  ∃ (A : Option Addr) (c : Nat), e = .returned (.agg #[.int .i64 x.N, .int .i64 x.Deep, .slice A x.L.length c]) ∧ RdL w' A x.L ∧ Ext w w'
theorem rows_part {d L P j : Nat} {l : List Nat} (hj : j < l.length) : rows d L l P ++ (l.take (j + 1)).filter (fun x => pre d L x == P) = (rows d L l P ++ (l.take j).filter fun x => pre d L x == P) ++ (if pre d L (nth l j) == P then [nth l j] else []) := by
  rw [take_succ_nth l j hj, List.filter_append, List.append_assoc]
  cases h : pre d L (nth l j) == P <;> simp [h]

set_option maxHeartbeats 8000000 in
set_option maxRecDepth 100000 in
theorem waveOf_calls (l : List Nat) (d : Nat) (A : Option Addr) (c : Nat) (w : World) (hd : 1 ≤ d ∧ d ≤ 16) (hl : l.length ≤ 17592186044416) (hf : ∀ x ∈ l, x < 2 ^ d) (hr : Rd w A l.length (fun k => .int .i64 (nth l k : Nat))) :
    Calls Try.prog 44 #[.slice A l.length c, .int .i64 d] w (RetWave1 (waveOf l d) w) := by
  obtain ⟨ib, hib, hk0, hk1, hk2⟩ := info_parts info_bool
  obtain ⟨iB, hiB, hm0, hm1, hm2⟩ := info_parts info_bits
  have HF := Lib.hid hf
  have HR := Lib.hid hr
  obtain ⟨hd1, hd2⟩ := hd
  clear hf hr
  go_enter Try.func44, Try.ntmps44
  go_wp2_with fail
  generalize hW1 : World.alloc w _ = W1
  generalize hW : World.alloc W1 _ = W
  have hs1 : W1.heap.size = w.heap.size + 1 := by rw [← hW1]; simp
  have bz := (bk_of hW1).ext (ext_of_alloc hW)
  have bx := bk_of hW
  rw [hs1] at bx
  have hx : Ext w W := (ext_of_alloc hW1).trans (ext_of_alloc hW)
  have rel0 : WoG l d w (w.heap.size + 1) W.heap.size 0 (.slice none 0 0) (.slice none 0 0) [] W := ⟨own_nil _ _ _ _, OkCells.nil _ _, bx, bz, hx, Nat.le_refl _, by omega⟩
  clear hW hW1 hs1 bx bz hx
  have hB5 : w.heap.size < w.heap.size + 1 := by omega
  generalize w.heap.size + 1 = B5 at *
  have REL0 := Lib.hid rel0
  clear rel0
  go_loopw [16] (fun v wr => ∃ (L : Nat) (vL : Value) (xs : List Value), v = .int .i64 L ∧ L ≤ d ∧ Hid (WoG l d w B5 W.heap.size L vL vL xs wr)) (fun v _ => d - (intOf v).toNat)
  case atStart => exact ⟨0, _, _, rfl, by omega, REL0⟩
  case round => as_aux_lemma =>
    clear REL0
    obtain ⟨L, vL, xs, rfl, hL, REL⟩ := hrel
    by_cases g2 : L < d
    · obtain ⟨s, hs⟩ : ∃ s, d - 1 - L = s := ⟨_, rfl⟩
      have hs0 : (d : Int) - (L : Int) = ((s + 1 : Nat) : Int) := by omega
      have hse : d - L = s + 1 := by omega
      have hs16 : s < 16 := by omega
      obtain ⟨M, hM⟩ : ∃ M, 2 ^ L = M := ⟨_, rfl⟩
      have hM2 : M ≤ 65536 := by rw [← hM]; exact pow16 (by omega)
      have hp : IntKind.i64.wrap ((2 : Int) ^ L) = (M : Int) := by
        have e : ((2 : Int) ^ L) = ((2 ^ L : Nat) : Int) := by simp
        rw [e, hM]
        exact IntWalk.i64_in _ (by omega)
      have HSS := Lib.hid hs; have HSE := Lib.hid hse; have HM := Lib.hid hM
      clear hs hse hM
      have HRD := Lib.hid (HR.out.ext REL.out.x)
      go_wp2_with fail
      obtain ⟨wo, rfl⟩ : ∃ wo, wo = wr := ⟨_, rfl⟩
      go_loopw [7, 22] (fun vb vP wr2 => ∃ (P : Nat) (A2 : Option Addr) (c2 : Nat), vP = .int .i64 P ∧ P ≤ M ∧ vb = .slice A2 (rows d L l P).length c2 ∧ Hid (wr2.ownsRow wo.heap.size 4 1 (.slice A2 (rows d L l P).length c2) (rows d L l P).length ((rows d L l P).map fun x => .bool (bitL d L x))) ∧ Ext wo wr2) (fun _ vP _ => M - (intOf vP).toNat)
      case atStart => exact ⟨0, none, 0, rfl, by omega, by rfl, own_nil _ _ _ _, Ext.refl _⟩
      case round =>
        obtain ⟨P, A2, c2, rfl, hP, rfl, HO, hx2⟩ := hrel
        by_cases g3 : P < M
        · obtain ⟨G, hG⟩ : ∃ G : Nat → List Nat, G = fun j => rows d L l P ++ (l.take j).filter fun x => pre d L x == P := ⟨_, rfl⟩
          have hG0 : G 0 = rows d L l P := by rw [hG]; simp
          have hGe : G l.length = rows d L l (P + 1) := by rw [hG, rows_succ]; simp
          have hGs : ∀ j, j < l.length → G (j + 1) = G j ++ (if pre d L (nth l j) == P then [nth l j] else []) := fun j hj => by rw [hG]; exact rows_part hj
          have hGl : ∀ j, (G j).length ≤ l.length + l.length := fun j => by
            rw [hG]
            show (rows d L l P ++ (l.take j).filter fun x => pre d L x == P).length ≤ _
            rw [List.length_append, rows_length]
            have h1 := F_le (deep := d) (l := l) L P
            have h2 := List.length_filter_le (fun x => pre d L x == P) (l.take j)
            rw [List.length_take] at h2
            omega
          have HGE := Lib.hid hGe; have HGS := Lib.hid hGs; have HGL := Lib.hid hGl
          have HO0 : Hid (wr.ownsRow wo.heap.size 4 1 (.slice A2 (G 0).length c2) (G 0).length ((G 0).map fun x => .bool (bitL d L x))) := by
            show World.ownsRow _ _ _ _ _ _ _
            rw [hG0]; exact HO.out
          rw [← hG0]
          clear hG hG0 hGe hGs hGl HO
          go_wp2_with fail
          obtain ⟨wp, rfl⟩ : ∃ wp, wp = wr := ⟨_, rfl⟩
          go_loopw [7, 27] (fun vb vj wr3 => ∃ (j : Nat) (A3 : Option Addr) (c3 : Nat), vj = .int .i64 j ∧ j ≤ l.length ∧ vb = .slice A3 (G j).length c3 ∧ Hid (wr3.ownsRow wo.heap.size 4 1 (.slice A3 (G j).length c3) (G j).length ((G j).map fun x => .bool (bitL d L x))) ∧ Ext wo wr3) (fun _ vj _ => l.length - (intOf vj).toNat)
          case atStart => exact ⟨0, A2, c2, rfl, by omega, rfl, HO0, hx2⟩
          case round =>
            obtain ⟨j, A3, c3, rfl, hj, rfl, HO3, hx3⟩ := hrel
            by_cases g4 : j < l.length
            · obtain ⟨b1, o1, hA', hb1, hc1⟩ := HRD.out (by omega)
              subst hA'
              have p1 := ecell (hc1 j g4) hx3
              dsimp only at p1
              clear hc1
              have hgs := HGS.out j g4
              obtain ⟨x, hxx⟩ : ∃ x, nth l j = x := ⟨_, rfl⟩
              have hx16 : x < 65536 := by rw [← hxx]; exact Nat.lt_of_lt_of_le (HF.out _ (nth_mem g4)) (pow16 hd2)
              rw [hxx] at p1 hgs
              have eq1 : ((x : Int) / 2 ^ (s + 1) == (P : Int)) = (pre d L x == P) := by
                unfold pre
                rw [HSE.out, Bool.eq_iff_iff, beq_iff_eq, beq_iff_eq]
                have : ((x : Int) / 2 ^ (s + 1)) = ((x / 2 ^ (s + 1) : Nat) : Int) := by simp
                rw [this]; omega
              have eb := bit_test d L x s HSS.out
              have et : Int.tmod ((x : Int) / 2 ^ s) 2 = (x : Int) / 2 ^ s % 2 := by
                have : ((x : Int) / 2 ^ s) = ((x / 2 ^ s : Nat) : Int) := by simp
                rw [this]; exact Int.tmod_eq_emod_of_nonneg (Int.natCast_nonneg _)
              obtain ⟨β, hβ⟩ : ∃ β, bitL d L x = β := ⟨_, rfl⟩
              obtain ⟨q, hq⟩ : ∃ q, (pre d L x == P) = q := ⟨_, rfl⟩
              rw [hβ] at eb
              rw [hq] at eq1 hgs
              have HBT := Lib.hid hβ
              have hgl := HGL.out j
              clear hxx hβ hq
              cases q with
              | false =>
                rw [if_neg (by simp), List.append_nil] at hgs
                have HGJ := Lib.hid hgs
                clear hgs
                go_wp2_with fail
                refine ⟨⟨j + 1, A3, c3, by go_num, by omega, by rw [HGJ.out], by rw [HGJ.out]; exact HO3, hx3⟩, by simp [intOf]; omega⟩
              | true =>
                rw [if_pos rfl] at hgs
                have HGJ := Lib.hid hgs
                have hl3 : (G (j + 1)).length = (G j).length + 1 := by rw [hgs]; simp
                have HL3 := Lib.hid hl3
                have hb3 : wo.heap.size ≤ wr.heap.size := hx3.size
                clear hgs hl3
                go_wp2_with (at_builtin; refine wpList_app1 (by rfl) _ _ 67 rfl wo.heap.size 4 ib (.bool false) 1 Try.underlying67 hib hk0 hk1 hk2 rfl _ (G j).length _ rfl wr (.bool β) 4 rfl HO3.out rfl rfl ?d1 ?d2 hb3 ?_)
                case d1 => omega
                case d2 => omega
                intro g' cap' w2 own2 hgr2
                have hxn : Ext wo w2 := hx3.grown hgr2 (fun k hk => (own_row_ge HO3.out k hk).1)
                have HO4 : Hid (w2.ownsRow wo.heap.size 4 1 (.slice (some ⟨g', 0, none⟩) (G (j + 1)).length cap') (G (j + 1)).length ((G (j + 1)).map fun x => .bool (bitL d L x))) := by
                  show World.ownsRow _ _ _ _ _ _ _
                  rw [HL3.out, HGJ.out, List.map_append, ← HBT.out] at *
                  exact own2
                rw [← HL3.out]
                clear own2 hgr2 HO3
                go_wp2_with fail
                refine ⟨⟨j + 1, some ⟨g', 0, none⟩, cap', by go_num, by omega, rfl, HO4, hxn⟩, by simp [intOf]; omega⟩
            · obtain rfl : j = l.length := by omega
              have HO4 : Hid (wr.ownsRow wo.heap.size 4 1 (.slice A3 (rows d L l (P + 1)).length c3) (rows d L l (P + 1)).length ((rows d L l (P + 1)).map fun x => .bool (bitL d L x))) := by
                show World.ownsRow _ _ _ _ _ _ _
                rw [← HGE.out]; exact HO3.out
              rw [HGE.out]
              clear HO3
              go_wp2_with fail
              refine ⟨⟨P + 1, A3, c3, by go_num, by omega, rfl, HO4, hx3⟩, by simp [intOf]; omega⟩
        · obtain rfl : P = M := by omega
          have hbl : Hid ((bitsAt d l L).length = l.length) := bitsAt_length HF.out (by omega)
          have hrl : (rows d L l P).length = l.length := by
            have := hbl.out
            unfold bitsAt rowsAt at this
            rw [List.length_map, HM.out] at this
            exact this
          have hbits : Hid (wr.ownsRow wo.heap.size 4 1 (.slice A2 l.length c2) l.length ((bitsAt d l L).map Value.bool)) := by
            show World.ownsRow _ _ _ _ _ _ _
            have := HO.out
            rw [hrl] at this
            unfold bitsAt rowsAt
            rw [List.map_map, HM.out]
            exact this
          rw [hrl]
          clear HO hrl
          have REL2 := Lib.hid (REL.out.ext hx2)
          have HBR : Hid (Rd wr A2 (bitsAt d l L).length (fun k => .bool (nth (bitsAt d l L) k))) := by
            show Rd _ _ _ _
            have hb := hbl.out
            have ho := hbits.out
            rw [hb]
            refine (Rd.of_own (d := default) ho).congr fun k hk => ?_
            simp [nth_lt (l := bitsAt d l L) (k := k) (by omega), show k < (bitsAt d l L).length by omega]
          clear REL hbits HRD
          obtain ⟨wo2, rfl⟩ : ∃ wo2, wo2 = wr := ⟨_, rfl⟩
          go_upto_region 16 with fail
          refine wp_region_N (fun w' => w'.cell? ⟨B5, 2, none⟩ = some vL) 5 (by kernel_rfl) ?_
          simp only [List.length_cons, List.length_nil, Nat.zero_add, Nat.reduceAdd]
          have st := REL2.out.ext (Ext.refl wo2).drew
          have hbr := HBR.out.ext (Ext.refl wo2).drew
          have st0k := st.k
          clear REL2 HBR
          generalize wo2.drew = w0 at *
          refine pure_N (i := 0) (.pointer (some ⟨B5, 2, none⟩)) rfl (by kernel_rfl) (fun _ _ _ h => h) rfl (st.b.cell 2) (fun w' => by go_simp) #[true, false, false, false, false, false, false, false] (by rfl) ?_
          try simp only [Act.put, List.setIfInBounds_toArray, List.set_cons_zero, List.set_cons_succ]
          refine take_N (i := 1) vL rfl (by kernel_rfl) (fun _ _ _ h => h) rfl (st.b.cell 2) (fun w' hw' => by go_simp) #[true, true, false, false, false, false, false, false] (by rfl) ?_
          try simp only [Act.put, List.setIfInBounds_toArray, List.set_cons_zero, List.set_cons_succ]
          refine pure_N (i := 2) (.slice A2 l.length c2) rfl (by kernel_rfl) (fun _ _ _ h => h) rfl (st.b.cell 2) (fun w' => by go_simp) #[true, true, true, false, false, false, false, false] (by rfl) ?_
          try simp only [Act.put, List.setIfInBounds_toArray, List.set_cons_zero, List.set_cons_succ]
          refine all_N [3] (by kernel_rfl) (by simp) ?_
          rintro i hi'
          obtain rfl := List.mem_singleton.1 hi'
          refine step_N (i := 3) #[true, true, true, true, false, false, false, false] rfl rfl (by rfl) (fun K' hK' => ?_)
          go_simp
          have hmk := bitsOf_callsO (bitsAt d l L) A2 c2 w0 (by rw [hbl.out]; exact hl) hbr
          rw [hbl.out] at hmk
          refine hmk.mono ?_
          rintro e w2 ⟨B1, e1, B2, e2, rfl, hrB, hx3⟩
          have st2 := st.ext hx3
          refine hK' _ _ (st2.b.cell 2) ?_
          clear K' hK' hi' st hbr hmk hx3
          try simp only [Act.put, List.setIfInBounds_toArray, List.set_cons_zero, List.set_cons_succ]
          refine all_N [4] (by kernel_rfl) (by simp) ?_
          rintro i hi'
          obtain rfl := List.mem_singleton.1 hi'
          refine step_N (i := 4) #[true, true, true, true, true, false, false, false] rfl rfl (by rfl) (fun K' hK' => ?_)
          go_simp
          generalize hW5 : World.alloc w2 _ = w5
          have st3 := st2.ext (ext_of_alloc hW5)
          have bN := bk_of hW5
          have hrB5 := hrB.ext (ext_of_alloc hW5)
          refine hK' _ _ (st3.b.cell 2) ?_
          clear K' hK' hi' st2 hW5 hrB
          generalize w2.heap.size = G at *
          try simp only [Act.put, List.setIfInBounds_toArray, List.set_cons_zero, List.set_cons_succ]
          refine wpAnyN_tail 5 _ rfl rfl (by kernel_rfl) (by kernel_rfl) ?_
          have hbs5 : w.heap.size ≤ w5.heap.size := st3.x.size
          refine wpList_append_lies _ (by rfl) _ _ 23 rfl w.heap.size 70 iB (.agg #[.int .i64 0, .slice none 0 0, .slice none 0 0]) 3 56 Try.underlying23 hiB hm0 hm1 hm2 rfl (by decide) vL L xs rfl st3.v ⟨G, 0, none⟩ 1 1 [.int .i64 (bitsOf (bitsAt d l L)).N, .slice B1 (bitsOf (bitsAt d l L)).P.length e1, .slice B2 (bitsOf (bitsAt d l L)).A.length e2] rfl rfl ?n1 ?n2 (by decide) ?n3 ?n4 hbs5 _ rfl ?_
          case n1 => exact fun j u' hu' => World.news_of_block (show w5.heap[G]? = some (.cells #[_, _, _] 70 (0, 0)) from bN) j u' hu'
          case n2 => intro u hu; simp at hu; rcases hu with rfl | rfl | rfl <;> rfl
          case n3 => unfold maxLen; omega
          case n4 => omega
          intro g cap w6 own6 hgr6 _ _
          have st6 := st3.app hrB5 st0k own6 hgr6
          obtain ⟨y0, y1, y2⟩ := bx3_bk st6.b
          have f2 := st6.b.frozen 2
          have st7 := st6.sto (.slice (some ⟨g, 0, none⟩) (L + 1) cap)
          have ST7 := Lib.hid st7
          clear st3 own6 hgr6 st6 st7 hrB5 bN hbs5 st0k
          go_wp2_with fail
          clear y0 y1 y2 f2
          generalize w6.setCell _ _ = w7 at *
          go_wp2_with fail
          refine ⟨⟨L + 1, _, _, by go_num, by omega, ST7⟩, by simp [intOf]; omega⟩
    · obtain rfl : L = d := by omega
      obtain ⟨AL, cL, hvL⟩ := own_form REL.out.v
      subst hvL
      have st := REL.out
      obtain ⟨y0, y1, y2⟩ := bx3_bk st.b
      obtain ⟨x0, x1, x2⟩ := bx3_bk st.z
      have f0 := st.z.frozen 0
      have f1 := st.z.frozen 1
      have f2 := st.z.frozen 2
      clear st
      go_wp2_with fail
      clear x0 x1 x2 y0 y1 y2 f0 f1 f2
      have st := REL.out
      have hne : ∀ {base e size n v xs}, wr.ownsRow base e size v n xs → e ≠ 25 → v.ownBlock ≠ some w.heap.size := fun {base e size n v xs} q he => fun e' => Bk.own_ne q st.z he e'.symm
      have v3 := own_far (p := ⟨w.heap.size, 2, none⟩) (own_far (p := ⟨w.heap.size, 1, none⟩) (own_far (p := ⟨w.heap.size, 0, none⟩) st.v (hne st.v (by decide)) (.int .i64 l.length)) (hne st.v (by decide)) (.int .i64 L)) (hne st.v (by decide)) (.slice AL L cL)
      have c3 := st.c.ext (w' := ((wr.setCell ⟨w.heap.size, 0, none⟩ (.int .i64 l.length)).setCell ⟨w.heap.size, 1, none⟩ (.int .i64 L)).setCell ⟨w.heap.size, 2, none⟩ (.slice AL L cL)) (fun _ _ _ _ _ r =>
        ⟨own_far (p := ⟨w.heap.size, 2, none⟩) (own_far (p := ⟨w.heap.size, 1, none⟩) (own_far (p := ⟨w.heap.size, 0, none⟩) r.1 (hne r.1 (by decide)) _) (hne r.1 (by decide)) _) (hne r.1 (by decide)) _,
         own_far (p := ⟨w.heap.size, 2, none⟩) (own_far (p := ⟨w.heap.size, 1, none⟩) (own_far (p := ⟨w.heap.size, 0, none⟩) r.2 (hne r.2 (by decide)) _) (hne r.2 (by decide)) _) (hne r.2 (by decide)) _⟩)
      have hsz : w.heap.size ≤ w.heap.size := Nat.le_refl _
      have hxF := ((st.x.setCell (p := ⟨w.heap.size, 0, none⟩) hsz (.int .i64 l.length)).setCell (p := ⟨w.heap.size, 1, none⟩) hsz (.int .i64 L)).setCell (p := ⟨w.heap.size, 2, none⟩) hsz (.slice AL L cL)
      have bF := ((st.z.set 0 (.int .i64 l.length)).set 1 (.int .i64 L)).set 2 (.slice AL L cL)
      generalize ((wr.setCell _ _).setCell _ _).setCell _ _ = wF at *
      obtain ⟨z0, z1, z2⟩ := bx3_bk bF
      refine bodyPost_ret (v := .agg #[.int .i64 l.length, .int .i64 L, .slice AL L cL]) (by simp [results, Try.results44, go_sem, z0, z1, z2]) rfl ?_
      refine ⟨AL, cL, ?_, rdL_own v3 c3, hxF⟩
      show _ = Ending.returned (.agg #[.int .i64 l.length, .int .i64 L, .slice AL (levelsOf l L L).length cL])
      rw [levelsOf_length]
end Go.Proofs.Ytjfdlibceldanab
