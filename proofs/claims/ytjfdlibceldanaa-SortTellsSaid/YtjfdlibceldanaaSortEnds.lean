/- SortEnds: the law's walk. -/
import Derived.Test.YtjfdlibceldanaaSortMade
import Derived.Test.YtjfdlibceldanaaOpenI
namespace Go.Proofs.Ytjfdlibceldanaa
open Go.ChangeShapes Go.WideShapes Go.ChangeAt Go.RowKit En

theorem lt_lcp : ∀ {s t : List Int}, cmpL s t < 0 → lcp s t < s.length → lcp s t < t.length ∧ nth s (lcp s t) < nth t (lcp s t)
  | [], _, _, h => absurd h (Nat.not_lt_zero _)
  | _ :: _, [], h, _ => absurd h (show ¬ (1 : Int) < 0 by omega)
  | a :: s, b :: t, h, h2 => by
    rw [lcp_cons] at h2 ⊢
    rw [cmpL_cons] at h
    by_cases e : a = b
    · subst e
      rw [if_neg (by omega), if_neg (by omega)] at h
      rw [if_pos rfl] at h2 ⊢
      rw [List.length_cons] at h2 ⊢
      have := lt_lcp h (by omega)
      rw [nth_cons_succ, nth_cons_succ]
      exact ⟨by omega, this.2⟩
    · rw [if_neg e, nth_cons_zero, nth_cons_zero, List.length_cons]
      by_cases g : a < b
      · exact ⟨by omega, g⟩
      · rw [if_neg g, if_pos (by omega)] at h; omega
theorem nth_setB {l : List Bool} {a : Nat} (x : Bool) (h : a < l.length) (j : Nat) : nth (l.set a x) j = if j = a then x else nth l j := by
  unfold nth
  rw [List.getElem?_set]
  by_cases e : a = j
  · subst e; rw [if_pos rfl, if_pos h, if_pos rfl]; rfl
  · rw [if_neg e, if_neg (fun q => e q.symm)]
theorem made_rowB (N : Nat) : (madeCells #[Value.bool false] N).toList = (List.replicate N false).map fun x : Bool => Value.bool x := by
  rw [made_zero, List.map_replicate]
  apply List.ext_getElem
  · simp
  · intro i h1 h2; simp
theorem info_boolS : (Try.prog.info? 4).map (fun i => (i.zero, i.size, i.bytes)) = some (some (.bool false), 1, 1) := by kernel_rfl
/-- Seen are the first i ends. -/
def SnR (N : Nat) (e : List Nat) (i : Nat) (sn : List Bool) : Prop := ∀ j, j < N → i ≤ j → nth sn (nth e j) = false

set_option maxHeartbeats 4000000 in
set_option maxRecDepth 100000 in
theorem se_big (l : List Int) (A : Option Addr) (c : Nat) (w : World) (h : 200 < l.length) :
    Calls Try.prog 9 #[.slice A l.length c] w fun e w' => e = .returned (.bool true) ∧ Ext w w' := by
  have g0' : decide ((200 : Int) < l.length) = true := by simp; omega
  go_enter Try.func9, Try.ntmps9
  go_wp2_with fail
  refine (sortsK_calls _).mono ?_
  rintro e w1 ⟨rfl, hx⟩
  go_wp2_with fail
  go_ret
  exact ⟨rfl, hx⟩

set_option maxHeartbeats 8000000 in
set_option maxRecDepth 100000 in
theorem se_small (l : List Int) (A : Option Addr) (c : Nat) (w : World) (hl : l.length ≤ 200) (hr : Rd w A l.length (fun k => .int .i64 (nth l k))) :
    Calls Try.prog 9 #[.slice A l.length c] w fun e w' => e = .returned (.bool true) ∧ Ext w w' := by
  obtain ⟨ib, hib, hk0, hk1, hk2⟩ := info_parts info_boolS
  have g0' : decide ((200 : Int) < l.length) = false := by simp; omega
  have hE := endsF_is l
  have hn := hE.length
  have hen := ends_calls l A c w (by omega) hr
  have hal0 := fun w B b hr hre => alike_yes l A B c b w (by omega) hr hre
  obtain ⟨e, hee⟩ : ∃ e, endsF l = e := ⟨_, rfl⟩
  rw [hee] at hn hen hE hal0
  have hal : ∀ w B b, Rd w A l.length (fun k => .int .i64 (nth l k)) → Rd w B l.length (fun k => .int .i64 (nth e k : Nat)) → Calls Try.prog 42 #[.slice A l.length c, .slice B l.length b] w fun e1 w' => ∃ G g, e1 = .returned (.slice G l.length g) ∧ Rd w' G l.length (fun k => .int .i64 (alikeAt l e k : Nat)) ∧ Ext w w' := fun w B b h1 h2 => by
    refine (hal0 w B b h1 h2).mono ?_
    rintro e1 w' ⟨G, g, rfl, _, hG, hx⟩
    rw [List.length_map, List.length_range] at hG ⊢
    exact ⟨G, g, rfl, hG.congr fun k hk => by rw [nth_map_range _ _ _ hk], hx⟩
  have HAL := Lib.hid hal; have HN := Lib.hid hen; have HL := Lib.hid hn; have IE := Lib.hid hE; have HR := Lib.hid hr
  clear hal0 hal hen hee hn hE hr
  go_enter Try.func9, Try.ntmps9
  go_wp2_with fail
  refine HN.out.mono ?_
  rintro e' w1 ⟨B, b, rfl, _, hB, hx⟩
  rw [HL.out] at hB ⊢
  have HB := Lib.hid hB
  clear hB HN
  go_wp2_with fail
  with_reducible refine (HAL.out w1 B b (HR.out.ext hx) HB.out).mono ?_
  rintro e' w2 ⟨G, g, rfl, hG, hx2⟩
  have HG := Lib.hid hG
  have HB2 := Lib.hid (HB.out.ext hx2)
  have hx12 := hx.trans hx2
  have hb2 : w2.heap.size ≤ w2.heap.size := Nat.le_refl _
  clear hG HB HAL hx hx2
  go_wp2_with (at_make; refine wpList_make_full _ rfl _ _ 27 rfl w2.heap.size 4 ib (.bool false) 1 Try.underlying27 hib hk0 hk1 _ _ _ _ l.length rfl rfl rfl rfl ?c1 ?c2 ?c3 ?_)
  case c1 => rw [hk2]; omega
  case c2 => unfold maxLen; omega
  case c3 => exact hb2
  intro w3 hown3 hgrow3
  have hx3 : Ext w2 w3 := ext_of_grown hgrow3
  rw [made_rowB] at hown3
  have HS3 := Lib.hid hown3
  have SN0 : Hid (SnR l.length e 0 (List.replicate l.length false)) := fun j _ _ => by
    unfold nth; rw [List.getElem?_replicate]; split <;> rfl
  clear hown3 hgrow3 hb2
  go_wp2_with fail
  go_loopw [37] (fun vi wr => ∃ (i : Nat) (sn : List Bool), vi = .int .i64 i ∧ i ≤ l.length ∧ Hid (wr.ownsRow w2.heap.size 4 1 (.slice (some ⟨w2.heap.size, 0, none⟩) l.length l.length) l.length (sn.map fun x => Value.bool x)) ∧ Hid (SnR l.length e i sn) ∧ Ext w2 wr) (fun vi _ => l.length - (intOf vi).toNat)
  case atStart => exact ⟨0, _, rfl, by omega, HS3, SN0, hx3⟩
  case round => as_aux_lemma =>
    clear HS3 SN0 hx3
    obtain ⟨i, sn, rfl, hi', HS, SN, hxr⟩ := hrel
    generalize hSB : w2.heap.size = SB at *
    by_cases g1 : i < l.length
    · obtain ⟨b1, o1, hEE, hb1, hc1⟩ := (HB2.out.ext hxr) (by omega)
      subst hEE
      have p1 := hc1 i g1
      dsimp only at p1
      have ha := IE.out.nth_lt g1
      have hsn := SN.out i g1 (Nat.le_refl _)
      obtain ⟨a, hae⟩ : ∃ a, nth e i = a := ⟨_, rfl⟩
      rw [hae] at p1 ha hsn
      have q1 := own_at HS.out ha
      rw [hsn] at q1
      have q2 := HS.out.frozenAt a
      have HS2 : Hid ((wr.setCell ⟨SB, a, none⟩ (.bool true)).ownsRow SB 4 1 (.slice (some ⟨SB, 0, none⟩) l.length l.length) l.length ((sn.set a true).map fun x => Value.bool x)) := by
        have := (HS.out.stored a (.bool true)).1
        rw [← List.map_set] at this
        exact this
      have SN2 : Hid (SnR l.length e (i + 1) (sn.set a true)) := fun j h1 h2 => by
        rw [nth_setB _ (by rw [own_len HS.out]; exact ha), if_neg (fun q => by have := ends_inj IE.out h1 g1 (q.trans hae.symm); omega)]
        exact SN.out j h1 (by omega)
      have hx4 : Ext w2 (wr.setCell ⟨SB, a, none⟩ (.bool true)) := hxr.setCell (p := ⟨SB, a, none⟩) (by rw [hSB]; exact Nat.le_refl _) (.bool true)
      have HC := Lib.hid hc1
      clear hc1 hsn HS SN
      by_cases g3 : i = 0
      · have g3' : ((i : Int) == 0) = true := by simpa using g3
        clear g3 hae
        go_wp2_with fail
        refine ⟨⟨i + 1, _, by go_num, by omega, HS2, SN2, hx4⟩, by simp [intOf]; omega⟩
      · have g3' : ((i : Int) == 0) = false := by simpa using g3
        obtain ⟨i1, hi1⟩ : ∃ j, i - 1 = j := ⟨_, rfl⟩
        have hi2 : (i : Int) - 1 = (i1 : Int) := by omega
        have hi3 : i1 < l.length := by omega
        have hord := IE.out.at (show i1 < i by omega) g1
        have hal := alikeAt_pos l e (i := i) (by omega)
        have ho := IE.out.nth_lt hi3
        rw [hi1] at hal
        obtain ⟨o, hoe⟩ : ∃ o, nth e i1 = o := ⟨_, rfl⟩
        rw [hae, hoe] at hal hord
        rw [hoe] at ho
        unfold cE at hord
        have hle := lcp_le (l.drop o) (l.drop a)
        have hsame := fun k (h : k < lcp (l.drop o) (l.drop a)) => lcp_same h
        have hlt := fun h => lt_lcp hord h
        obtain ⟨L, hL⟩ : ∃ L, alikeAt l e i = L := ⟨_, rfl⟩
        rw [hL] at hal
        rw [← hal] at hle hsame hlt
        simp only [nth_drop, List.length_drop] at hle hsame hlt
        have hL1 : o + L ≤ l.length := by omega
        have hL2 : a + L ≤ l.length := by omega
        have HSAME := Lib.hid hsame; have HLT := Lib.hid hlt
        go_upto_region 14 with fail
        generalize wr.setCell _ _ = W4 at *
        obtain ⟨b2, o2, hGG, hb2, hc2⟩ := (HG.out.ext hx4) (by omega)
        subst hGG
        have p3 := hc2 i g1
        dsimp only at p3
        rw [hL] at p3
        obtain ⟨b3, o3, hEE3, hb3, hc3⟩ := (HB2.out.ext hx4) (by omega)
        injection hEE3 with hEE3
        injection hEE3 with hE1 hE2
        subst hE1; subst hE2
        have p4 := hc3 i1 hi3
        dsimp only at p4
        rw [hoe] at p4
        have hrl := Lib.hid (HR.out.ext (hx12.trans hx4))
        have hz1 : decide ((L : Int) < 0) = false := by simp
        have hwa : IntKind.i64.wrap ((a : Int) + (L : Int)) = ((a + L : Nat) : Int) := by rw [IntWalk.i64_in _ (by omega)]; omega
        have hwo : IntKind.i64.wrap ((o : Int) + (L : Int)) = ((o + L : Nat) : Int) := by rw [IntWalk.i64_in _ (by omega)]; omega
        clear hc2 hc3 hal hle hsame hlt hord hae hoe hL hi1 p1 q1 q2 hwa hwo hz1 HC hxr g3
        go_upto_region 15 with fail
        go_quiet (fail)
        go_wp2_with fail
        have hx5 := hx4.drewN nq
        have HS5 : Hid ((W4.drewN nq).ownsRow SB 4 1 (.slice (some ⟨SB, 0, none⟩) l.length l.length) l.length ((sn.set a true).map fun x => Value.bool x)) := own_ext HS2.out ((Ext.refl _).drewN nq)
        have hr5 := Lib.hid (hrl.out.ext ((Ext.refl _).drewN nq))
        clear p3 p4 hx4 HS2 hrl
        generalize W4.drewN nq = W5 at *
        go_loopw [89] (fun v wr => ∃ k q : Nat, v = .int .i64 k ∧ k ≤ L ∧ wr = W5.drewN q) (fun v _ => L - (intOf v).toNat)
        case atStart => exact ⟨0, 0, rfl, by omega, rfl⟩
        case round => as_aux_lemma =>
          obtain ⟨k, q, rfl, hk, rfl⟩ := hrel
          by_cases g5 : k < L
          · have hsm := HSAME.out k g5
            obtain ⟨b4, o4, hAA, hb4, hc4⟩ := hr5.out (by omega)
            subst hAA
            have r1 := hc4 (a + k) (by omega)
            have r2 := hc4 (o + k) (by omega)
            dsimp only at r1 r2
            rw [hsm] at r2
            obtain ⟨ak, hak⟩ : ∃ x, a + k = x := ⟨_, rfl⟩
            obtain ⟨ok, hok⟩ : ∃ x, o + k = x := ⟨_, rfl⟩
            have hwa : IntKind.i64.wrap ((a : Int) + (k : Int)) = (ak : Int) := by rw [IntWalk.i64_in _ (by omega)]; omega
            have hwo : IntKind.i64.wrap ((o : Int) + (k : Int)) = (ok : Int) := by rw [IntWalk.i64_in _ (by omega)]; omega
            have hak2 : ak < l.length := by omega
            have hok2 : ok < l.length := by omega
            rw [hak] at r1 r2
            rw [hok] at r2
            obtain ⟨x, hxx⟩ : ∃ x, nth l ak = x := ⟨_, rfl⟩
            rw [hxx] at r1 r2
            clear hc4 hsm hak hok hxx
            go_wp2_with fail
            go_quiet (fail)
            go_wp2_with fail
            refine ⟨⟨k + 1, _, by go_num, by omega, rfl⟩, by simp [intOf]; omega⟩
          · obtain rfl : k = L := by omega
            obtain ⟨ak, hak⟩ : ∃ x, a + k = x := ⟨_, rfl⟩
            obtain ⟨ok, hok⟩ : ∃ x, o + k = x := ⟨_, rfl⟩
            have hwa : IntKind.i64.wrap ((a : Int) + (k : Int)) = (ak : Int) := by rw [IntWalk.i64_in _ (by omega)]; omega
            have hwo : IntKind.i64.wrap ((o : Int) + (k : Int)) = (ok : Int) := by rw [IntWalk.i64_in _ (by omega)]; omega
            by_cases g6 : ok < l.length
            · have hl := HLT.out (by omega)
              rw [hak, hok] at hl
              have g6' : decide (ok < l.length) = true := by simpa using g6
              have g7 : ak < l.length := by omega
              have g7' : decide (l.length ≤ ak) = false := by simp; omega
              obtain ⟨b4, o4, hAA, hb4, hc4⟩ := hr5.out (by omega)
              subst hAA
              have r1 := hc4 ak g7
              have r2 := hc4 ok g6
              dsimp only at r1 r2
              obtain ⟨x, hxx⟩ : ∃ x, nth l ak = x := ⟨_, rfl⟩
              obtain ⟨y, hyy⟩ : ∃ y, nth l ok = y := ⟨_, rfl⟩
              rw [hxx] at r1 hl
              rw [hyy] at r2 hl
              have g8' : decide (x ≤ y) = false := by simp; omega
              clear hc4 hxx hyy hl hak hok
              go_upto_region 24 with fail
              go_quiet (fail)
              go_wp2_with fail
              refine ⟨⟨i + 1, _, by go_num, by omega, own_ext HS5.out ((Ext.refl _).drewN _), SN2, hx5.trans ((Ext.refl _).drewN _)⟩, by simp [intOf]; omega⟩
            · have g6' : decide (ok < l.length) = false := by simpa using g6
              clear hak hok
              go_upto_region 24 with fail
              go_quiet (fail)
              go_wp2_with fail
              refine ⟨⟨i + 1, _, by go_num, by omega, own_ext HS5.out ((Ext.refl _).drewN _), SN2, hx5.trans ((Ext.refl _).drewN _)⟩, by simp [intOf]; omega⟩
    · obtain rfl : i = l.length := by omega
      go_wp2_with fail
      refine (sortsK_calls _).mono ?_
      rintro e' w5 ⟨rfl, hx5⟩
      go_wp2_with fail
      go_ret
      exact ⟨rfl, (hx12.trans hxr).trans hx5⟩

section
variable {H : Type} {enc : TypeId × Value → H} {W : World}
set_option maxRecDepth 100000 in
theorem sortEnds_calls {r : Reach} {base : Nat} {v0 : Value} {d0 : DataW H} {p0 : List MemPlace}
    (hsz : (DataW.weightsEach Try.prog [24] [d0]).all (· ≤ reachBytes) = true)
    (hv0 : Value.okWide Try.prog W r base 24 v0) (h0 : DataW.Trod enc Try.prog W 0 (fun _ => true) true 24 v0 d0 p0) :
    Calls Try.prog 9 #[v0] W fun e w' => e = .returned (.bool true) ∧ Ext W w' := by
  simp only [DataW.weightsEach, List.all_append, Bool.and_eq_true] at hsz
  obtain ⟨A, c, l, rfl, hr, _, hl, hA⟩ := open_ints hv0 h0 hsz.1
  by_cases g : 200 < l.length
  · exact se_big l A c W g
  · exact se_small l A c W (by omega) hr
end
end Go.Proofs.Ytjfdlibceldanaa
