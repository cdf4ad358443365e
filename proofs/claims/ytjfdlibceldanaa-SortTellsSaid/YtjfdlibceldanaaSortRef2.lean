/- The reference AlikeOf: the walk. -/
import Derived.Test.YtjfdlibceldanaaSortAlike
namespace Go.Proofs.Ytjfdlibceldanaa
open Go.RowKit Go.Sort En

set_option maxHeartbeats 4000000 in
set_option maxRecDepth 100000 in
theorem alikeOf_no (l ends : List Int) (A E : Option Addr) (c d : Nat) (w : World) (hl : l.length ≤ 1048576) (he : ends.length ≤ 1125899906842624) (hr : Rd w A l.length (fun k => .int .i64 (nth l k))) (hre : Rd w E ends.length (fun k => .int .i64 (nth ends k))) (h : ¬ ends = (endsF l).map Int.ofNat) :
    Calls Try.prog 47 #[.slice A l.length c, .slice E ends.length d] w (RetInts [] w) := by
  have hn := (endsF_is l).length
  have hen := endsOf_calls l A c w hl hr
  obtain ⟨e, hee⟩ : ∃ e, endsF l = e := ⟨_, rfl⟩
  rw [hee] at hn hen h
  have heq : ∀ w B b, Rd w E ends.length (fun k => .int .i64 (nth ends k)) → Rd w B l.length (fun k => .int .i64 (nth e k : Nat)) → Calls Try.prog 36 #[.slice E ends.length d, .slice B l.length b] w fun e w' => e = .returned (.bool false) ∧ Qt w w' := fun w B b h1 h2 => by
    have hq := sameInts_calls ends (e.map Int.ofNat) E B d b w he h1 (rd_castI (by rw [hn]; exact h2))
    rw [decide_eq_false h, List.length_map, hn] at hq
    exact hq
  have HE := Lib.hid heq; have HN := Lib.hid hen; have HL := Lib.hid hn
  clear heq hen h hee hn
  go_enter Try.func47, Try.ntmps47
  go_wp2_with fail
  refine HN.out.mono ?_
  rintro e' w1 ⟨B, b, rfl, _, hB, hx⟩
  rw [HL.out] at hB ⊢
  go_wp2_with fail
  with_reducible refine (HE.out w1 B b (hre.ext hx) hB).mono ?_
  rintro e' w2 ⟨rfl, q, rfl⟩
  go_wp2_with fail
  go_ret
  exact ⟨none, 0, rfl, fun _ => rfl, Rd.zero, hx.drewN q⟩

set_option maxHeartbeats 4000000 in
set_option maxRecDepth 100000 in
theorem alikeOf_yes (l : List Int) (A E : Option Addr) (c d : Nat) (w : World) (hl : l.length ≤ 1048576) (hr : Rd w A l.length (fun k => .int .i64 (nth l k))) (hre : Rd w E l.length (fun k => .int .i64 (nth (endsF l) k : Nat))) :
    Calls Try.prog 47 #[.slice A l.length c, .slice E l.length d] w (RetInts ((List.range l.length).map (alikeAt l (endsF l))) w) := by
  obtain ⟨ii, hi, hj0, hj1, hj2⟩ := info_parts info_int
  have hE := endsF_is l
  have hn := hE.length
  have hen := endsOf_calls l A c w hl hr
  obtain ⟨e, hee⟩ : ∃ e, endsF l = e := ⟨_, rfl⟩
  rw [hee] at hn hen hE hre ⊢
  have heq : ∀ w B b, Rd w E l.length (fun k => .int .i64 (nth e k : Nat)) → Rd w B l.length (fun k => .int .i64 (nth e k : Nat)) → Calls Try.prog 36 #[.slice E l.length d, .slice B l.length b] w fun e w' => e = .returned (.bool true) ∧ Qt w w' := fun w B b h1 h2 => by
    have hq := sameInts_calls (e.map Int.ofNat) (e.map Int.ofNat) E B d b w (by rw [List.length_map]; omega) (rd_castI (by rw [hn]; exact h1)) (rd_castI (by rw [hn]; exact h2))
    rw [decide_eq_true rfl, List.length_map, hn] at hq
    exact hq
  have HE := Lib.hid heq; have HN := Lib.hid hen; have HL := Lib.hid hn; have IE := Lib.hid hE; have HR := Lib.hid hr; have HRE := Lib.hid hre
  clear heq hen hee hn hE hr hre
  go_enter Try.func47, Try.ntmps47
  go_wp2_with fail
  refine HN.out.mono ?_
  rintro e' w1 ⟨B, b, rfl, _, hB, hx⟩
  rw [HL.out] at hB ⊢
  go_wp2_with fail
  with_reducible refine (HE.out w1 B b (HRE.out.ext hx) hB).mono ?_
  rintro e' w2 ⟨rfl, q, rfl⟩
  have hx2 := hx.drewN q
  clear hB hx HN HE
  generalize w1.drewN q = w2 at *
  go_wp2_with fail
  go_loopw [5, 16] (fun vo vi wr => ∃ (i : Nat) (O : Option Addr) (o : Nat), vi = .int .i64 i ∧ i ≤ l.length ∧ vo = .slice O i o ∧ Hid (wr.ownsRow w2.heap.size 3 1 (.slice O i o) i (((List.range i).map (alikeAt l e)).map fun x => Value.int .i64 (x : Nat))) ∧ Ext w2 wr) (fun _ vi _ => l.length - (intOf vi).toNat)
  case atStart => exact ⟨0, none, 0, rfl, by omega, rfl, own_nil .., Ext.refl _⟩
  case round => as_aux_lemma =>
    obtain ⟨i, O, o', rfl, hi', rfl, HO, hxr⟩ := hrel
    by_cases g1 : i < l.length
    · obtain ⟨b1, o1, hEE, hb1, hc1⟩ := (HRE.out.ext (hx2.trans hxr)) (by omega)
      subst hEE
      have p1 := hc1 i g1
      dsimp only at p1
      have ha := IE.out.nth_lt g1
      obtain ⟨a, hae⟩ : ∃ a, nth e i = a := ⟨_, rfl⟩
      rw [hae] at p1 ha
      obtain ⟨L, hL⟩ : ∃ L, alikeAt l e i = L := ⟨_, rfl⟩
      have hmap : ((List.range (i + 1)).map (alikeAt l e)).map (fun x => Value.int .i64 (x : Nat)) = ((List.range i).map (alikeAt l e)).map (fun x => Value.int .i64 (x : Nat)) ++ [.int .i64 L] := by
        rw [List.range_succ, List.map_append, List.map_append, ← hL]; rfl
      have HMAP := Lib.hid hmap
      have HC := Lib.hid hc1
      have hrx := Lib.hid (HR.out.ext (hx2.trans hxr))
      clear hc1 hmap
      by_cases g3 : i = 0
      · have g3' : decide (0 < i) = false := by simpa using g3
        have hL0 : L = 0 := by rw [← hL, g3]; rfl
        subst hL0
        have HG3 := Lib.hid g3
        clear hae hL g3
        go_wp2_with fail
        obtain ⟨wq, rfl⟩ : ∃ wq, wq = wr := ⟨_, rfl⟩
        go_loopw [8] (fun vn wr => vn = .int .i64 0 ∧ wr = wq) (fun _ _ => 0)
        case atStart => exact ⟨rfl, rfl⟩
        case round => as_aux_lemma =>
          obtain ⟨rfl, rfl⟩ := hrel
          obtain ⟨wq, rfl⟩ : ∃ wq, wq = wr := ⟨_, rfl⟩
          go_upto_region 8 with fail
          go_quiet (fail)
          have HO2 : Hid ((wq.drewN (nq)).ownsRow w2.heap.size 3 1 (.slice O i o') i (((List.range i).map (alikeAt l e)).map fun x => Value.int .i64 (x : Nat))) := own_ext HO.out ((Ext.refl _).drewN _)
          have hx3 := hxr.drewN (nq)
          have hbs : w2.heap.size ≤ (wq.drewN (nq)).heap.size := hx3.size
          clear HO hxr
          go_wp2_with (at_builtin; refine wpList_app1 (by rfl) _ _ 24 rfl w2.heap.size 3 ii (.int .i64 0) 8 Try.underlying24 hi hj0 hj1 hj2 rfl _ i _ rfl (wq.drewN (nq)) (.int .i64 0) 3 rfl HO2.out rfl rfl ?d1 ?d2 hbs ?_)
          case d1 => omega
          case d2 => omega
          intro g cap w4 own4 hgr4
          have hx4 := hx3.grown hgr4 (fun k hk => (own_row_ge HO2.out k hk).1)
          have HO4 : Hid (w4.ownsRow w2.heap.size 3 1 (.slice (some ⟨g, 0, none⟩) (i + 1) cap) (i + 1) (((List.range (i + 1)).map (alikeAt l e)).map fun x => Value.int .i64 (x : Nat))) := by
            show World.ownsRow _ _ _ _ _ _ _
            rw [HMAP.out, List.map_map]; exact own4
          clear own4 hgr4 HO2
          go_wp2_with fail
          refine ⟨⟨i + 1, some ⟨g, 0, none⟩, cap, by go_num, by omega, rfl, HO4, hx4⟩, by simp [intOf]; omega⟩
      · have g3' : decide (0 < i) = true := by simp; omega
        obtain ⟨i1, hi1⟩ : ∃ j, i - 1 = j := ⟨_, rfl⟩
        have hi2 : (i : Int) - 1 = (i1 : Int) := by omega
        have hi3 : i1 < l.length := by omega
        have p2 := HC.out i1 hi3
        dsimp only at p2
        have ho := IE.out.nth_lt hi3
        have hal := alikeAt_pos l e (i := i) (by omega)
        rw [hi1, hae, hL] at hal
        obtain ⟨o, hoe⟩ : ∃ o, nth e i1 = o := ⟨_, rfl⟩
        rw [hoe] at p2 ho hal
        have hLl : L ≤ l.length := by
          rw [hal]
          have := (lcp_le (l.drop o) (l.drop a)).2
          rw [List.length_drop] at this; omega
        have hgo : ∀ m, m ≤ L → (m < L ↔ (o + m < l.length ∧ a + m < l.length ∧ nth l (o + m) = nth l (a + m))) := fun m hm => by
          rw [hal] at hm ⊢
          rw [lcp_go hm, nth_drop, nth_drop, List.length_drop, List.length_drop]
          constructor
          · rintro ⟨h1, h2, h3⟩; exact ⟨by omega, by omega, h3⟩
          · rintro ⟨h1, h2, h3⟩; exact ⟨by omega, by omega, h3⟩
        have HGO := Lib.hid hgo
        clear hae hL hoe hal hgo hi1 g3
        go_wp2_with fail
        obtain ⟨wq, rfl⟩ : ∃ wq, wq = wr := ⟨_, rfl⟩
        go_loopw [8] (fun vn wr => ∃ m q : Nat, vn = .int .i64 m ∧ m ≤ L ∧ wr = wq.drewN q) (fun vn _ => L - (intOf vn).toNat)
        case atStart => exact ⟨0, 0, rfl, by omega, rfl⟩
        case round => as_aux_lemma =>
          obtain ⟨m, q, rfl, hm, rfl⟩ := hrel
          obtain ⟨om, hom⟩ : ∃ x, o + m = x := ⟨_, rfl⟩
          obtain ⟨am, ham⟩ : ∃ x, a + m = x := ⟨_, rfl⟩
          have hwo : IntKind.i64.wrap ((o : Int) + (m : Int)) = (om : Int) := by rw [IntWalk.i64_in _ (by omega)]; omega
          have hwa : IntKind.i64.wrap ((a : Int) + (m : Int)) = (am : Int) := by rw [IntWalk.i64_in _ (by omega)]; omega
          have hwi : IntKind.i64.wrap ((i : Int) - 1) = (i1 : Int) := by rw [IntWalk.i64_in _ (by omega)]; omega
          have hgo := HGO.out m hm
          rw [hom, ham] at hgo
          have HG := Lib.hid hgo
          clear hom ham hgo
          by_cases h1 : am < l.length
          · have h1' : decide (am < l.length) = true := by simpa using h1
            by_cases h2 : om < l.length
            · have h2' : decide (om < l.length) = true := by simpa using h2
              obtain ⟨b3, o3, hAA, hb3, hc3⟩ := hrx.out (by omega)
              subst hAA
              have r1 := hc3 am h1
              have r2 := hc3 om h2
              dsimp only at r1 r2
              obtain ⟨x, hx'⟩ : ∃ x, nth l am = x := ⟨_, rfl⟩
              obtain ⟨y, hy'⟩ : ∃ y, nth l om = y := ⟨_, rfl⟩
              rw [hx'] at r1
              rw [hy'] at r2
              have HX := Lib.hid hx'; have HY := Lib.hid hy'
              clear hc3 hx' hy'
              by_cases h3 : x = y
              · have h3' : (x == y) = true := by simpa using h3
                have hlt : m < L := HG.out.2 ⟨h2, h1, by rw [HX.out, HY.out, h3]⟩
                clear h3
                go_upto_region 8 with fail
                go_quiet (fail)
                go_wp2_with fail
                refine ⟨⟨m + 1, _, by go_num, by omega, rfl⟩, by simp [intOf]; omega⟩
              · have h3' : (x == y) = false := by simpa using h3
                have hge : m = L := by
                  have := HG.out
                  by_cases g : m < L
                  · exact absurd ((this.1 g).2.2) (fun q => h3 (by rw [← HX.out, ← HY.out, q]))
                  · omega
                subst hge
                clear HG HGO
                go_upto_region 8 with fail
                go_quiet (fail)
                have HO2 : Hid ((wq.drewN (q + nq)).ownsRow w2.heap.size 3 1 (.slice O i o') i (((List.range i).map (alikeAt l e)).map fun x => Value.int .i64 (x : Nat))) := own_ext HO.out ((Ext.refl _).drewN _)
                have hx3 := hxr.drewN (q + nq)
                have hbs : w2.heap.size ≤ (wq.drewN (q + nq)).heap.size := hx3.size
                clear HO hxr
                go_wp2_with (at_builtin; refine wpList_app1 (by rfl) _ _ 24 rfl w2.heap.size 3 ii (.int .i64 0) 8 Try.underlying24 hi hj0 hj1 hj2 rfl _ i _ rfl (wq.drewN (q + nq)) (.int .i64 m) 3 rfl HO2.out rfl rfl ?d1 ?d2 hbs ?_)
                case d1 => omega
                case d2 => omega
                intro g cap w4 own4 hgr4
                have hx4 := hx3.grown hgr4 (fun k hk => (own_row_ge HO2.out k hk).1)
                have HO4 : Hid (w4.ownsRow w2.heap.size 3 1 (.slice (some ⟨g, 0, none⟩) (i + 1) cap) (i + 1) (((List.range (i + 1)).map (alikeAt l e)).map fun x => Value.int .i64 (x : Nat))) := by
                  show World.ownsRow _ _ _ _ _ _ _
                  rw [HMAP.out, List.map_map]; exact own4
                clear own4 hgr4 HO2
                go_wp2_with fail
                refine ⟨⟨i + 1, some ⟨g, 0, none⟩, cap, by go_num, by omega, rfl, HO4, hx4⟩, by simp [intOf]; omega⟩
            · have h2' : decide (om < l.length) = false := by simpa using h2
              have hge : m = L := by
                by_cases g : m < L
                · exact absurd (HG.out.1 g).1 h2
                · omega
              subst hge
              clear HG HGO
              go_upto_region 8 with fail
              go_quiet (fail)
              have HO2 : Hid ((wq.drewN (q + nq)).ownsRow w2.heap.size 3 1 (.slice O i o') i (((List.range i).map (alikeAt l e)).map fun x => Value.int .i64 (x : Nat))) := own_ext HO.out ((Ext.refl _).drewN _)
              have hx3 := hxr.drewN (q + nq)
              have hbs : w2.heap.size ≤ (wq.drewN (q + nq)).heap.size := hx3.size
              clear HO hxr
              go_wp2_with (at_builtin; refine wpList_app1 (by rfl) _ _ 24 rfl w2.heap.size 3 ii (.int .i64 0) 8 Try.underlying24 hi hj0 hj1 hj2 rfl _ i _ rfl (wq.drewN (q + nq)) (.int .i64 m) 3 rfl HO2.out rfl rfl ?d1 ?d2 hbs ?_)
              case d1 => omega
              case d2 => omega
              intro g cap w4 own4 hgr4
              have hx4 := hx3.grown hgr4 (fun k hk => (own_row_ge HO2.out k hk).1)
              have HO4 : Hid (w4.ownsRow w2.heap.size 3 1 (.slice (some ⟨g, 0, none⟩) (i + 1) cap) (i + 1) (((List.range (i + 1)).map (alikeAt l e)).map fun x => Value.int .i64 (x : Nat))) := by
                show World.ownsRow _ _ _ _ _ _ _
                rw [HMAP.out, List.map_map]; exact own4
              clear own4 hgr4 HO2
              go_wp2_with fail
              refine ⟨⟨i + 1, some ⟨g, 0, none⟩, cap, by go_num, by omega, rfl, HO4, hx4⟩, by simp [intOf]; omega⟩
          · have h1' : decide (am < l.length) = false := by simpa using h1
            have hge : m = L := by
              by_cases g : m < L
              · exact absurd (HG.out.1 g).2.1 h1
              · omega
            subst hge
            clear HG HGO
            go_upto_region 8 with fail
            go_quiet (fail)
            have HO2 : Hid ((wq.drewN (q + nq)).ownsRow w2.heap.size 3 1 (.slice O i o') i (((List.range i).map (alikeAt l e)).map fun x => Value.int .i64 (x : Nat))) := own_ext HO.out ((Ext.refl _).drewN _)
            have hx3 := hxr.drewN (q + nq)
            have hbs : w2.heap.size ≤ (wq.drewN (q + nq)).heap.size := hx3.size
            clear HO hxr
            go_wp2_with (at_builtin; refine wpList_app1 (by rfl) _ _ 24 rfl w2.heap.size 3 ii (.int .i64 0) 8 Try.underlying24 hi hj0 hj1 hj2 rfl _ i _ rfl (wq.drewN (q + nq)) (.int .i64 m) 3 rfl HO2.out rfl rfl ?d1 ?d2 hbs ?_)
            case d1 => omega
            case d2 => omega
            intro g cap w4 own4 hgr4
            have hx4 := hx3.grown hgr4 (fun k hk => (own_row_ge HO2.out k hk).1)
            have HO4 : Hid (w4.ownsRow w2.heap.size 3 1 (.slice (some ⟨g, 0, none⟩) (i + 1) cap) (i + 1) (((List.range (i + 1)).map (alikeAt l e)).map fun x => Value.int .i64 (x : Nat))) := by
              show World.ownsRow _ _ _ _ _ _ _
              rw [HMAP.out, List.map_map]; exact own4
            clear own4 hgr4 HO2
            go_wp2_with fail
            refine ⟨⟨i + 1, some ⟨g, 0, none⟩, cap, by go_num, by omega, rfl, HO4, hx4⟩, by simp [intOf]; omega⟩
    · obtain rfl : i = l.length := by omega
      go_wp2_with fail
      go_ret
      have ho := HO.out
      exact ⟨O, o', by rw [List.length_map, List.length_range]; rfl, own_none ho, rd_ints ho, hx2.trans hxr⟩

theorem alikeOf_calls (l ends : List Int) (A E : Option Addr) (c d : Nat) (w : World) (hl : l.length ≤ 1048576) (he : ends.length ≤ 1125899906842624) (hr : Rd w A l.length (fun k => .int .i64 (nth l k))) (hre : Rd w E ends.length (fun k => .int .i64 (nth ends k))) :
    Calls Try.prog 47 #[.slice A l.length c, .slice E ends.length d] w (RetInts (alikeF l ends) w) := by
  by_cases h : ends = (endsF l).map Int.ofNat
  · subst h
    have hn := (endsF_is l).length
    rw [alikeF_yes]
    rw [List.length_map] at hre ⊢
    have hre2 := hre.congr (g := fun k => .int .i64 (nth (endsF l) k : Nat)) (fun k _ => by rw [nth_castI])
    rw [hn] at hre2 ⊢
    exact alikeOf_yes l A E c d w hl hr hre2
  · rw [alikeF_no h]
    exact alikeOf_no l ends A E c d w hl he hr hre h
end Go.Proofs.Ytjfdlibceldanaa
