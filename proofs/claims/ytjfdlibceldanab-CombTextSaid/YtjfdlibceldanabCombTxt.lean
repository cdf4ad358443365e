/- comb.Text: the walk: it returns the list again. -/
import Derived.Test.YtjfdlibceldanabCombPlace
import Derived.Test.YtjfdlibceldanabPlainE
namespace Go.Proofs.Ytjfdlibceldanab
open Go.RowKit En Wv

set_option maxHeartbeats 4000000 in
set_option maxRecDepth 100000 in
theorem ctext_walk (n m2 : Nat) (E B D : Option Addr) (ec bc dc : Nat) (w : World) (R : World → Prop) (hR : ∀ w w', Ext w w' → R w → R w') (ls : List Int) (en : List Nat) (of : Nat → Nat → Int) (hn0 : 0 < n) (hn : n ≤ 4096) (hr : R w) (he : Rd w E n (fun k => .int .i64 (nth en k : Nat)))
    (hlt : ∀ i, i < n → nth en i < n) (hpos : ∀ j, j < n → 0 ≤ nth ls j) (o0 : ∀ j, of 0 j = 0) (os : ∀ i j, i < n → of (i + 1) j = if j = pr n (nth en i) then nth ls j else of i j) (on : ∀ j, j < n → of n j = nth ls j)
    (cA : ∀ i w, i < n → R w → Calls Try.prog 38 #[.agg #[.int .i64 n, .int .i64 10, .slice B 10 bc], .int .i64 (i : Nat)] w fun e w' => e = .returned (.int .i64 (nth ls (pr n (nth en i)))) ∧ Ext w w') :
    Calls Try.prog 15 #[combV n m2 E B D ec bc dc] w fun e w' => ∃ P p, e = .returned (.slice P n p) ∧ Rd w' P n (fun k => .int .i64 (nth ls k)) ∧ Ext w w' := by
  obtain ⟨ii, hi, hj0, hj1, hj2⟩ := info_parts info_int
  obtain ⟨b, o, rfl, hb, hc⟩ := he (by omega)
  have HC := Lib.hid hc; have HR := Lib.hid hR; have CA := Lib.hid cA; have HLT := Lib.hid hlt; have HPOS := Lib.hid hpos; have O0 := Lib.hid o0; have OS := Lib.hid os; have ON := Lib.hid on
  unfold combV
  clear he hc hR cA hlt hpos o0 os on
  go_enter Try.func15, Try.ntmps15
  go_upto_region 1 with fail
  generalize hW : World.alloc w _ = W
  have bq := bk_of hW
  have hx := ext_of_alloc hW
  have hrW := HR.out _ _ hx hr
  clear hW hr
  have c0 := bq.cell 0
  have c1 := bq.cell 1
  have c2 := bq.cell 2
  have c3 := bq.cell 3
  have c4 := bq.cell 4
  have hbW : W.heap.size ≤ W.heap.size := Nat.le_refl _
  go_wp2_with (at_make; refine wpList_make_full _ rfl _ _ 22 rfl W.heap.size 3 ii (.int .i64 0) 1 Try.underlying22 hi hj0 hj1 _ _ _ _ n rfl rfl rfl rfl ?c1 ?c2 ?c3 ?_)
  case c1 => omega
  case c2 => unfold maxLen; omega
  intro w8 hown8 hgrow8
  have hx8 : Ext W w8 := ext_of_grown hgrow8
  have L0 : Hid (w8.ownsRow W.heap.size 3 1 (.slice (some ⟨W.heap.size, 0, none⟩) n n) n ((List.range n).map fun j => Value.int .i64 (of 0 j))) := by
    show World.ownsRow _ _ _ _ _ _ _
    rw [made_zero] at hown8
    rw [map_range_congr (g := fun _ => Value.int .i64 0) (fun j _ => by rw [O0.out])]
    exact hown8
  have hWw := bq.lt
  have bq8 := bq.ext hx8
  have BQ := Lib.hid bq
  clear hown8 hgrow8 hbW c0 c1 c2 c3 c4 bq
  have c0 := bq8.cell 0
  clear bq8
  go_wp2_with fail
  clear c0
  go_loopw [14] (fun vi wr => ∃ i : Nat, vi = .int .i64 i ∧ i ≤ n ∧ Hid (wr.ownsRow W.heap.size 3 1 (.slice (some ⟨W.heap.size, 0, none⟩) n n) n ((List.range n).map fun j => Value.int .i64 (of i j))) ∧ Ext W wr) (fun vi _ => n - (intOf vi).toNat)
  case atStart => exact ⟨0, rfl, by omega, L0, hx8⟩
  case round => as_aux_lemma =>
    clear L0 hx8
    obtain ⟨i, rfl, hi', HO, hxr⟩ := hrel
    by_cases g1 : i < n
    · have p1 := ecell (HC.out i g1) (hx.trans hxr)
      have b0 := (BQ.out.ext hxr).cell 1
      have b1 := (BQ.out.ext hxr).cell 2
      have b2 := (BQ.out.ext hxr).cell 3
      have hl := HLT.out i g1
      have ca := CA.out i wr g1 (HR.out _ _ hxr hrW)
      have hs := fun j => OS.out i j g1
      obtain ⟨a, ha⟩ : ∃ a, nth en i = a := ⟨_, rfl⟩
      rw [ha] at hl ca
      have hs' : ∀ j, of (i + 1) j = if j = pr n a then nth ls j else of i j := fun j => by rw [hs j, ha]
      have p1' : wr.cell? ⟨b, o + i, none⟩ = some (.int .i64 (a : Nat)) := by rw [← ha]; exact p1
      have hq : pr n a < n := Nat.mod_lt _ (by omega)
      have hps := HPOS.out (pr n a) hq
      obtain ⟨x, hxx⟩ : ∃ x, nth ls (pr n a) = x := ⟨_, rfl⟩
      rw [hxx] at hps ca
      obtain ⟨q, hqq⟩ : ∃ q, pr n a = q := ⟨_, rfl⟩
      have hmod : Int.tmod ((a : Int) + n - 1) n = (q : Int) := by
        have e1 : ((a : Int) + n - 1) = ((a + n - 1 : Nat) : Int) := by omega
        rw [e1, ← Int.ofNat_tmod, ← hqq]; rfl
      have hw1 : IntKind.i64.wrap ((a : Int) + n) = (a : Int) + n := IntWalk.i64_in _ (by omega)
      have hw2 : IntKind.i64.wrap ((a : Int) + n - 1) = (a : Int) + n - 1 := IntWalk.i64_in _ (by omega)
      rw [hqq] at hq hs' hxx
      have CX := Lib.hid ca; have HS := Lib.hid hs'; have HXX := Lib.hid hxx
      have g2 : decide ((0 : Int) ≤ x) = true := by simpa using hps
      have g3 : decide ((a : Int) < n) = true := by simp; omega
      have g4 : decide ((0 : Int) ≤ a) = true := by simp
      clear p1 ca hs hs' hxx hqq ha hps
      go_wp2_with fail
      with_reducible refine CX.out.mono ?_
      rintro e wn ⟨rfl, hxn⟩
      have HOn : Hid (wn.ownsRow W.heap.size 3 1 (.slice (some ⟨W.heap.size, 0, none⟩) n n) n ((List.range n).map fun j => Value.int .i64 (of i j))) := own_ext HO.out hxn
      have q1 := (HOn.out.cellAt q (by omega)).trans (map_range_get _ n q hq)
      have q2 := HOn.out.frozenAt q
      have HO2 : Hid ((wn.setCell ⟨W.heap.size, q, none⟩ (.int .i64 x)).ownsRow W.heap.size 3 1 (.slice (some ⟨W.heap.size, 0, none⟩) n n) n ((List.range n).map fun j => Value.int .i64 (of (i + 1) j))) := by
        have := (HOn.out.stored q (.int .i64 x)).1
        rw [map_range_set] at this
        rw [map_range_congr (g := fun j => if j = q then Value.int .i64 x else Value.int .i64 (of i j)) ?_]
        · exact this
        · intro j _
          rw [HS.out j]
          by_cases ej : j = q
          · subst ej; rw [if_pos rfl, if_pos rfl, HXX.out]
          · rw [if_neg ej, if_neg ej]
      have hx2 := (hxr.trans hxn).setCell (p := ⟨W.heap.size, q, none⟩) (Nat.le_refl _) (.int .i64 x)
      clear HO HOn CX b0 b1 b2 p1'
      go_wp2_with fail
      refine ⟨⟨i + 1, by go_num, by omega, HO2, hx2⟩, by simp [intOf]; omega⟩
    · obtain rfl : i = n := by omega
      have hrd : Rd wr (some ⟨W.heap.size, 0, none⟩) i (fun k => .int .i64 (nth ls k)) := (rd_own HO.out).congr fun k hk => by rw [ON.out k hk]
      clear HO
      go_wp2_with fail
      go_ret
      exact ⟨_, _, rfl, hrd, hx.trans hxr⟩
theorem ctext_calls (l : List Int) (hok : combOk l) (E B D : Option Addr) (ec bc dc : Nat) (w : World) (h : CombIn w l E B D) :
    Calls Try.prog 15 #[combV l.length ((mostI l).toNat + 2) E B D ec bc dc] w fun e w' => ∃ P p, e = .returned (.slice P l.length p) ∧ Rd w' P l.length (fun k => .int .i64 (nth l k)) ∧ Ext w w' := by
  have hE := endsF_is l
  have hn := ((isLB_iff l).1 hok.1).1
  have h0 := isLB_nonneg hok.1
  have hen := hE.length
  have hln : (ahN l (endsF l)).length = l.length := by rw [ahN_length, hen]
  have hlt : ∀ x ∈ ahN l (endsF l), x < 2 ^ 10 := fun x hx => by
    obtain ⟨a, _, rfl⟩ := List.mem_map.1 hx
    have h1 := (mostI_lt (l := l) (b := 1024) (by omega)).1 hok.2.1 _ (ahead_mem hn a)
    have : (2 : Nat) ^ 10 = 1024 := by decide
    omega
  refine ctext_walk l.length ((mostI l).toNat + 2) E B D ec bc dc w (fun w => RdL w B (waveOf (ahN l (endsF l)) 10).L) (fun w w' hx h => h.ext hx) l (endsF l) (outF l (endsF l)) hn hok.2.2 h.b h.e (fun i hi => hE.nth_lt hi) (fun j hj => h0 _ (nth_mem hj)) (outF_zero l _) (fun i j hi => outF_succ (by omega) j) (fun j hj => outF_full hE hj) ?_
  intro i w hi hr
  have hc := wat_calls (ahN l (endsF l)) 10 (by decide) (by rw [hln]; have := hok.2.2; omega) hlt B bc (i : Nat) w hr
  have e2 : (waveOf (ahN l (endsF l)) 10).L.length = 10 := levelsOf_length _ _ _
  rw [hln, e2] at hc
  have e3 : atI (ahN l (endsF l)) (i : Nat) = nth l (pr l.length (nth (endsF l) i)) := by
    unfold atI
    rw [if_pos ⟨by omega, by omega⟩, Int.toNat_natCast, nth_ahN h0 hn (by omega)]
  rw [e3] at hc
  exact hc
end Go.Proofs.Ytjfdlibceldanab
