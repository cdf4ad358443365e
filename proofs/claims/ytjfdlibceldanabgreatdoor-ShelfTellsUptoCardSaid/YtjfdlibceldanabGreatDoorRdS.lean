/- The document's own SignsOf: plain laws of its loops, and the walk. -/
import Derived.Test.YtjfdlibceldanabGreatDoorRdW
namespace Go.Proofs.YtjfdlibceldanabGreatDoor.Tx

theorem tkL_pre (L : List (List UInt8)) (i : Nat) : ∃ u, tkL L (i + 1) = tkL L i ++ u := by
  rw [tkL, List.append_assoc]; exact ⟨_, rfl⟩
theorem tkL_le (L : List (List UInt8)) : ∀ (d i : Nat), ∃ u, tkL L (i + d) = tkL L i ++ u
  | 0, i => ⟨[], by simp⟩
  | d + 1, i => by
    obtain ⟨u, hu⟩ := tkL_le L d i
    obtain ⟨v, hv⟩ := tkL_pre L (i + d)
    exact ⟨u ++ v, by rw [show i + (d + 1) = i + d + 1 from rfl, hv, hu, List.append_assoc]⟩
theorem tkL_part {s : List UInt8} {i : Nat} (hi : i ≤ (spl 10 s).length) : ∃ u, toks s = tkL (spl 10 s) i ++ u := by
  obtain ⟨u, hu⟩ := tkL_le (spl 10 s) ((spl 10 s).length - i) i
  rw [show i + ((spl 10 s).length - i) = (spl 10 s).length from by omega, tkL_all] at hu
  exact ⟨u, hu⟩
theorem tkP_part (L : List (List UInt8)) (i : Nat) (k : Nat) : ∃ u, tkL L (i + 1) = tkP L i k ++ u := by
  refine ⟨((spl 32 (nth L i)).drop k).filter fun w => decide (w ≠ []), ?_⟩
  rw [← tkP_all]
  unfold tkP
  rw [List.take_length, List.append_assoc, List.append_assoc, List.append_assoc, ← List.filter_append, List.take_append_drop]
theorem tkP_toks {s : List UInt8} {i : Nat} (hi : i < (spl 10 s).length) (k : Nat) : ∃ u, toks s = tkP (spl 10 s) i k ++ u := by
  obtain ⟨u, hu⟩ := tkL_part (s := s) (i := i + 1) (by omega)
  obtain ⟨v, hv⟩ := tkP_part (spl 10 s) i k
  exact ⟨v ++ u, by rw [hu, hv, List.append_assoc]⟩
theorem pre_len {α : Type} {a b : List α} (h : ∃ u, a = b ++ u) : b.length ≤ a.length := by
  obtain ⟨u, rfl⟩ := h
  rw [List.length_append]; omega
theorem pre_mem {α : Type} {a b : List α} (h : ∃ u, a = b ++ u) {x : α} (hx : x ∈ b) : x ∈ a := by
  obtain ⟨u, rfl⟩ := h
  exact List.mem_append.2 (Or.inl hx)
theorem nb_neg {W : List (List UInt8)} {t : List UInt8} : nbF W t < 0 ↔ ¬ (t = [10] ∨ t ∈ W) := by
  unfold nbF
  by_cases h : t = [10]
  · rw [if_pos h]; simp [h]
  · rw [if_neg h]
    by_cases g : t ∈ W
    · rw [if_pos g]
      constructor
      · intro q; omega
      · intro q; exact absurd (Or.inr g) q
    · rw [if_neg g]
      constructor
      · intro _ q; exact q.elim h g
      · intro _; decide
end Go.Proofs.YtjfdlibceldanabGreatDoor.Tx
namespace Go.Proofs.YtjfdlibceldanabGreatDoor
open Go.RowKit Go.Sort Tx

theorem splitsp_calls (s : List UInt8) (m : Int) (w : World) (hs : s.length < 4294967281) (hm : w.cell? ⟨0, 0, none⟩ = some (.int .i64 m)) :
    Calls Tryz.prog 35 #[str s, .string ⟨#[32]⟩] w fun e w' => ∃ A, e = .returned (.slice (some ⟨A, 0, none⟩) (spl 32 s).length (spl 32 s).length) ∧ w'.ownsRow 0 9 1 (.slice (some ⟨A, 0, none⟩) (spl 32 s).length (spl 32 s).length) (spl 32 s).length ((spl 32 s).map str) ∧ Ext w w' := by
  have h := Tryz.strings_Split ⟨s.toArray⟩ ⟨#[32]⟩ m w hs hm (by decide)
  have e1 : (Lib.splitB ⟨#[32]⟩ 0 (Lib.countB ⟨s.toArray⟩ ⟨#[32]⟩) ⟨s.toArray⟩).map (fun b => b.data.toList) = spl 32 s := by
    rw [Lib.splitB_data]; exact split_eq 32 s
  have e2 : Lib.countB ⟨s.toArray⟩ ⟨#[32]⟩ + 1 = (spl 32 s).length := by
    rw [← Lib.splitB_all ⟨#[32]⟩ (by decide) 0 _ ⟨s.toArray⟩ rfl, ← e1, List.length_map]
  have e3 : (Lib.splitB ⟨#[32]⟩ 0 (Lib.countB ⟨s.toArray⟩ ⟨#[32]⟩) ⟨s.toArray⟩).map Value.string = (spl 32 s).map str := by rw [← e1, List.map_map]; rfl
  rw [e3] at h
  have e2' : (Lib.countB ⟨s.toArray⟩ ⟨#[32]⟩) + 1 = (spl 32 s).length := e2
  rw [e2'] at h
  have hle := spl_len 32 s
  refine h.mono ?_
  rintro e w' ⟨rfl, rfl⟩
  refine ⟨w.heap.size, rfl, ⟨by simp, .inr ⟨w.heap.size, (spl 32 s).length, _, rfl, Nat.zero_le _, heap_alloc_new w _, Nat.le_refl _, by unfold maxLen; omega, by simp, by simp; exact List.take_of_length_le (by simp)⟩⟩, (Ext.refl w).alloc _⟩
/-- A row of numbers that the call owns, one for each word. -/
def NbR (W : List (List UInt8)) (w : World) (base : Nat) (v : Value) (l : List (List UInt8)) : Prop := w.ownsRow base 3 1 v l.length (l.map fun t => Value.int .i64 (nbF W t))
theorem own_capR {w : World} {base : Nat} {e : TypeId} {size n : Nat} {A : Option Addr} {c : Nat} {xs : List Value} (h : w.ownsRow base e size (.slice A n c) n xs) : n ≤ c := by
  rcases h.2 with ⟨hv, h0⟩ | ⟨g, cap, cur, hv, hb, hg, hnc, _⟩
  · omega
  · injection hv with h1 h2 h3; omega
theorem own_noneR {w : World} {base : Nat} {e : TypeId} {size n : Nat} {A : Option Addr} {c : Nat} {xs : List Value} (h : w.ownsRow base e size (.slice A n c) n xs) : A = none → c = 0 := fun hA => by
  subst hA
  rcases h.2 with ⟨hv, h0⟩ | ⟨g, cap, cur, hv, _⟩
  · injection hv
  · injection hv with h1; cases h1
set_option maxHeartbeats 8000000 in
set_option maxRecDepth 100000 in
theorem rsigns_callsC (W : List (List UInt8)) (hW : W.Pairwise fun x y => x < y) (hl : W.length ≤ 1000000) (WA TA : Option Addr) (wk tn tc : Nat) (s : List UInt8) (hs : s.length ≤ 16777216) (m : Int) (w : World) (hm : w.cell? ⟨0, 0, none⟩ = some (.int .i64 m)) (hr : RdS w WA W) :
    Calls Tryz.prog 16 #[bookV WA TA W.length wk tn tc, str s] w fun e w' =>
      ((∀ t ∈ toks s, t = [10] ∨ t ∈ W) ∧ ∃ P p, e = .returned (.tuple #[.slice P (toks s).length p, .bool true]) ∧ ((P = none → p = 0) ∧ (toks s).length ≤ p) ∧ Rd w' P (toks s).length (fun k => .int .i64 (nth ((toks s).map (nbF W)) k)) ∧ Ext w w') ∨
      ((∃ t ∈ toks s, ¬ (t = [10] ∨ t ∈ W)) ∧ e = .returned (.tuple #[.slice none 0 0, .bool false]) ∧ Ext w w') := by
  obtain ⟨ii, hi, hj0, hj1, hj2⟩ := info_parts info_intT
  have hfl : (toks s).length ≤ 50331648 := by
    have h1 := toks_len s
    have h2 : (s.flatMap nl).length ≤ 50331648 := by
      rw [nl_count]; have := List.count_le_length (a := 10) (l := s); omega
    omega
  have cS := fun w hm => split_calls s m w (by omega) hm
  have cN := fun t w hr => number_calls W hW t WA TA wk tn tc w hl hr
  have hpl : ∀ i, i < (spl 10 s).length → (nth (spl 10 s) i).length < 4294967281 := fun i hi => by
    have h1 := spl_sum 10 s
    have h2 := mem_sum (nth_mem hi)
    omega
  have cP := fun i (hi : i < (spl 10 s).length) w hm => splitsp_calls (nth (spl 10 s) i) m w (hpl i hi) hm
  have hLN := spl_len 10 s
  have hQN : ∀ i, i < (spl 10 s).length → (spl 32 (nth (spl 10 s) i)).length ≤ 4294967281 := fun i hi => by
    have h1 := spl_len 32 (nth (spl 10 s) i)
    have h2 := hpl i hi
    omega
  have PL := Lib.hid (fun i (hi : i ≤ (spl 10 s).length) => tkL_part (s := s) hi)
  have PP := Lib.hid (fun i (hi : i < (spl 10 s).length) k => tkP_toks (s := s) hi k)
  have ALL := Lib.hid (tkL_all s)
  obtain ⟨L, hL⟩ : ∃ L, spl 10 s = L := ⟨_, rfl⟩
  obtain ⟨T, hT⟩ : ∃ T, toks s = T := ⟨_, rfl⟩
  rw [hL] at cS cP hLN hQN PL PP ALL
  rw [hT] at hfl PL PP ALL ⊢
  obtain ⟨N, hN⟩ : ∃ N, L.length = N := ⟨_, rfl⟩
  obtain ⟨NW, hNW⟩ : ∃ NW, W.length = NW := ⟨_, rfl⟩
  rw [hN] at cS cP hLN hQN PL PP ALL
  rw [hNW] at cN ⊢
  have HN := Lib.hid hN
  have CS := Lib.hid cS; have CN := Lib.hid cN; have CP := Lib.hid cP; have HM := Lib.hid hm; have HR := Lib.hid hr; have QN := Lib.hid hQN; have TL := Lib.hid hfl
  have hNs : N ≤ 16777217 := by omega
  clear cS cN cP hm hr hpl hQN hfl hLN hL hT hN hNW hs
  go_enter Tryz.func16, Tryz.ntmps16
  go_upto_region 2 with fail
  generalize hW1 : World.alloc w _ = W1
  have bx := bk_of hW1
  have hx := ext_of_alloc hW1
  generalize w.heap.size = g at *
  clear hW1
  have cs := CS.out W1 (ecell HM.out hx)
  go_wp2_with fail
  with_reducible refine cs.mono ?_
  rintro e w3 ⟨A, rfl, hA, hx3⟩
  have hxx := hx.trans hx3
  have BX := Lib.hid (bx.ext hx3)
  have HA : Hid (Rd w3 (some ⟨A, 0, none⟩) N (fun k => str (nth L k))) := by
    show Rd _ _ _ _
    rw [← HN.out]; exact hA
  clear hA hx hx3 bx cs CS
  go_wp2_with fail
  go_loopw [15, 6] (fun vi vs wr => ∃ i : Nat, vi = .int .i64 i ∧ i ≤ N ∧ Hid (NbR W wr w3.heap.size vs (tkL L i)) ∧ Ext w3 wr ∧ Hid (∀ t ∈ tkL L i, t = [10] ∨ t ∈ W)) (fun vi _ _ => N - (intOf vi).toNat)
  case atStart => exact ⟨0, rfl, Nat.zero_le _, own_nil _ _ _ _, Ext.refl _, fun t ht => by cases ht⟩
  case round => as_aux_lemma =>
    obtain ⟨i, rfl, hi', HO, hxr, HJ⟩ := hrel
    by_cases g1 : i < N
    · obtain ⟨bA, oA, hAA, hbA, hcA⟩ := (HA.out.ext hxr) (by omega)
      injection hAA with hAA
      injection hAA with h1 h2 h3
      subst h1; subst h2
      have p1 := hcA i g1
      dsimp only at p1
      rw [Nat.zero_add] at p1
      have cp := CP.out i g1
      have hqn := QN.out i g1
      have pp := Lib.hid (PP.out i g1)
      obtain ⟨y, hy⟩ : ∃ y, nth L i = y := ⟨_, rfl⟩
      rw [hy] at p1 cp hqn
      have HY := Lib.hid hy
      have CPi := Lib.hid cp
      clear hcA hy cp
      go_upto_region 5 with fail
      obtain ⟨wo, rfl⟩ : ∃ wo, wo = wr := ⟨_, rfl⟩
      obtain ⟨q, hq⟩ : ∃ q, decide (0 < i) = q := ⟨_, rfl⟩
      have HQ := Lib.hid hq
      clear hq
      go_cut [21] (fun v w' => v = .bool q ∧ w' = wo)
      case first => as_aux_lemma =>
        clear HO HJ
        by_cases g0 : 0 < i
        · have g0' : decide ((0 : Int) < (i : Int)) = true := decide_eq_true (by omega)
          obtain rfl : q = true := by rw [← HQ.out]; exact decide_eq_true g0
          clear HQ
          go_wp2_with fail
          go_meet
          exact ⟨rfl, rfl⟩
        · have g0' : decide ((0 : Int) < (i : Int)) = false := decide_eq_false (by omega)
          obtain rfl : q = false := by rw [← HQ.out]; exact decide_eq_false g0
          clear HQ
          go_wp2_with fail
          go_meet
          exact ⟨rfl, rfl⟩
      case rest =>
      obtain ⟨rfl, rfl⟩ := hcut
      go_upto_if 21 with fail
      obtain ⟨wp, rfl⟩ : ∃ wp, wp = wc := ⟨_, rfl⟩
      have hsz : w3.heap.size ≤ wp.heap.size := hxr.size
      go_cut [6] (fun v w' => Hid (NbR W w' w3.heap.size v (tkP L i 0)) ∧ Ext w3 w')
      case first => as_aux_lemma =>
        have tl := pre_len (PL.out i (by omega))
        have tl2 := TL.out
        have TP := Lib.hid (tkP_zero L i)
        have HO2 : Hid (wp.ownsRow w3.heap.size 3 1 u6 (tkL L i).length ((tkL L i).map fun t => Value.int .i64 (nbF W t))) := HO
        clear HJ HO
        by_cases g0 : 0 < i
        · obtain rfl : q = true := by rw [← HQ.out]; exact decide_eq_true g0
          have e1 : tkP L i 0 = tkL L i ++ [[10]] := by rw [TP.out, if_neg (by omega)]
          have E1 := Lib.hid e1
          have hnb : nbF W [10] = 1 := by unfold nbF; rw [if_pos rfl]
          have HNB := Lib.hid hnb
          obtain ⟨ln, hln⟩ : ∃ ln, (tkL L i).length = ln := ⟨_, rfl⟩
          have HLN := Lib.hid hln
          rw [hln] at tl HO2
          clear HQ e1 hnb hln TP
          go_wp2_with (at_builtin; refine wpList_app1 (by rfl) _ _ 24 rfl w3.heap.size 3 ii (.int .i64 0) 8 Tryz.underlying24 hi hj0 hj1 hj2 rfl _ ln _ rfl wp (.int .i64 1) 3 rfl HO2.out rfl rfl ?d1 ?d2 hsz ?_)
          case d1 => omega
          case d2 => omega
          intro gb cap w5 own5 hgr5
          have hx5 := hxr.grown hgr5 (fun k hk => (own_row_ge HO2.out k hk).1)
          have HO5 : Hid (NbR W w5 w3.heap.size (.slice (some ⟨gb, 0, none⟩) (ln + 1) cap) (tkP L i 0)) := by
            show World.ownsRow _ _ _ _ _ _ _
            rw [E1.out, List.length_append, List.map_append, HLN.out, List.length_singleton, List.map_singleton, HNB.out]; exact own5
          clear own5 hgr5 HO2
          go_wp2_with fail
          go_meet
          exact ⟨HO5, hx5⟩
        · obtain rfl : q = false := by rw [← HQ.out]; exact decide_eq_false g0
          have e1 : tkP L i 0 = tkL L i := by rw [TP.out, if_pos (by omega), List.append_nil]
          have E1 := Lib.hid e1
          clear HQ e1 TP
          go_wp2_with fail
          go_meet
          refine ⟨?_, hxr⟩
          show NbR _ _ _ _ _
          rw [E1.out]; exact HO2.out
      case rest =>
      obtain ⟨HO1, hx1⟩ := hcut
      obtain ⟨w6, rfl⟩ : ∃ w6, w6 = wc := ⟨_, rfl⟩
      have hx01 := hxx.trans hx1
      have cp := CPi.out w6 (ecell HM.out hx01)
      have HJ0 : Hid (∀ t ∈ tkP L i 0, t = [10] ∨ t ∈ W) := fun t ht => by
        rw [tkP_zero] at ht
        rcases List.mem_append.1 ht with h | h
        · exact HJ.out t h
        · split at h
          · cases h
          · exact Or.inl (List.mem_singleton.1 h)
      clear HO HJ CPi hxr HQ
      have PS := Lib.hid (fun k (hk : k < (spl 32 (nth L i)).length) => tkP_succ L i hk)
      have PA := Lib.hid (tkP_all L i)
      rw [HY.out] at PS PA
      go_wp2_with fail
      with_reducible refine cp.mono ?_
      rintro e w7 ⟨A7, rfl, own7, hx7⟩
      have hx17 := hx1.trans hx7
      obtain ⟨Q, hQ⟩ : ∃ Q, spl 32 y = Q := ⟨_, rfl⟩
      rw [hQ] at own7 PS PA hqn ⊢
      obtain ⟨M, hM⟩ : ∃ M, Q.length = M := ⟨_, rfl⟩
      have HMl := Lib.hid hM
      rw [hM] at own7 PS PA hqn ⊢
      have OW7 := Lib.hid own7
      have HO7 : Hid (NbR W w7 w3.heap.size _ (tkP L i 0)) := own_ext HO1.out hx7
      clear own7 hx7 hM hQ cp HO1 hx1 hx01
      go_wp2_with fail
      go_loopw [28, 6] (fun vk vs wr => ∃ k : Nat, vk = .int .i64 k ∧ k ≤ M ∧ Hid (NbR W wr w3.heap.size vs (tkP L i k)) ∧ Ext w3 wr ∧ Hid (∀ t ∈ tkP L i k, t = [10] ∨ t ∈ W) ∧ Hid (wr.ownsRow 0 9 1 (.slice (some ⟨A7, 0, none⟩) M M) M (Q.map str))) (fun vk _ _ => M - (intOf vk).toNat)
      case atStart => exact ⟨0, rfl, Nat.zero_le _, HO7, hx17, HJ0, OW7⟩
      case round => as_aux_lemma =>
        clear HO7 HJ0 OW7
        obtain ⟨k, rfl, hk', HO, hxr, HJ, OW⟩ := hrel
        by_cases g2 : k < M
        · have hrd : Rd wr (some ⟨A7, 0, none⟩) M (fun k => str (nth Q k)) := by
            have h1 : wr.ownsRow 0 9 1 (.slice (some ⟨A7, 0, none⟩) Q.length M) Q.length (Q.map str) := by rw [HMl.out]; exact OW.out
            have h2 := RdS.own h1
            unfold RdS at h2
            rw [HMl.out] at h2
            exact h2
          obtain ⟨bB, oB, hBB, hbB, hcB⟩ := hrd (by omega)
          injection hBB with hBB
          injection hBB with h1 h2 h3
          subst h1; subst h2
          have p2 := hcB k g2
          dsimp only at p2
          rw [Nat.zero_add] at p2
          have hsuc := PS.out k g2
          have tl := pre_len (PP.out i g1 (k + 1))
          have hmem := fun t ht => pre_mem (PP.out i g1 (k + 1)) (x := t) ht
          obtain ⟨t, ht⟩ : ∃ t, nth Q k = t := ⟨_, rfl⟩
          rw [ht] at p2 hsuc
          clear hcB ht
          by_cases g3 : t = []
          · subst g3
            have e1 : tkP L i (k + 1) = tkP L i k := by rw [hsuc, if_pos rfl]
            have HO' := HO.out
            rw [← e1] at HO'
            replace HO' := Lib.hid HO'
            have HJ' : Hid (∀ t ∈ tkP L i (k + 1), t = [10] ∨ t ∈ W) := fun t ht => HJ.out t (by rw [← e1]; exact ht)
            clear e1 hsuc HO HJ hmem tl
            go_wp2_with fail
            refine ⟨⟨k + 1, by go_num, by omega, HO', hxr, HJ', OW⟩, by simp [intOf]; omega⟩
          · have g3' : (t == ([] : List UInt8)) = false := by simp [g3]
            have e1 : tkP L i (k + 1) = tkP L i k ++ [t] := by rw [hsuc, if_neg g3]
            have E1 := Lib.hid e1
            have hx0r := hxx.trans hxr
            have cn := CN.out t wr (HR.out.ext hx0r)
            have bx := BX.out.ext hxr
            have b0 := bx.cell 0
            have b1 := bx.cell 1
            obtain ⟨nb, hnb⟩ : ∃ nb, nbF W t = nb := ⟨_, rfl⟩
            have hbad := nb_neg (W := W) (t := t)
            rw [hnb] at cn hbad
            have HB := Lib.hid hbad; have HNB := Lib.hid hnb; have HME := Lib.hid hmem
            rw [e1, List.length_append, List.length_singleton] at tl
            clear bx e1 hsuc hnb hbad hmem
            go_wp2_with fail
            with_reducible refine cn.mono ?_
            rintro e w8 ⟨rfl, hx8⟩
            have hxr8 := hxr.trans hx8
            have hxF := hx0r.trans hx8
            have HO8 : Hid (w8.ownsRow w3.heap.size 3 1 _ (tkP L i k).length ((tkP L i k).map fun t => Value.int .i64 (nbF W t))) := own_ext HO.out hx8
            have OW8 := own_ext OW.out hx8
            have hsz8 : w3.heap.size ≤ w8.heap.size := hxr8.size
            have tl2 := TL.out
            clear b0 b1 p2 cn HO OW hxr hx8 hbB hx0r
            by_cases g4 : nb < 0
            · have g4' : decide (nb < 0) = true := decide_eq_true g4
              have hb := HB.out.1 g4
              clear g4 HO8 OW8
              go_wp2_with fail
              go_ret2
              exact Or.inr ⟨⟨t, HME.out t (by rw [E1.out]; simp), hb⟩, rfl, hxF⟩
            · have g4' : decide (nb < 0) = false := decide_eq_false g4
              have hgood : t = [10] ∨ t ∈ W := Decidable.byContradiction fun q => g4 (HB.out.2 q)
              have HG := Lib.hid hgood
              obtain ⟨ln, hln⟩ : ∃ ln, (tkP L i k).length = ln := ⟨_, rfl⟩
              have HLN := Lib.hid hln
              rw [hln] at tl HO8
              clear g4 hgood hln
              go_wp2_with (at_builtin; refine wpList_app1 (by rfl) _ _ 24 rfl w3.heap.size 3 ii (.int .i64 0) 8 Tryz.underlying24 hi hj0 hj1 hj2 rfl _ ln _ rfl w8 (.int .i64 nb) 3 rfl HO8.out rfl rfl ?d1 ?d2 hsz8 ?_)
              case d1 => omega
              case d2 => omega
              intro gb cap w9 own9 hgr9
              have hx9 := hxr8.grown hgr9 (fun k hk => (own_row_ge HO8.out k hk).1)
              have HO9 : Hid (NbR W w9 w3.heap.size (.slice (some ⟨gb, 0, none⟩) (ln + 1) cap) (tkP L i (k + 1))) := by
                show World.ownsRow _ _ _ _ _ _ _
                rw [E1.out, List.length_append, List.map_append, HLN.out, List.length_singleton, List.map_singleton, HNB.out]; exact own9
              have OW9 := Lib.hid (own_grown OW8 hgr9 (own_own_ne OW8 HO8.out (by decide)))
              have HJ9 : Hid (∀ t ∈ tkP L i (k + 1), t = [10] ∨ t ∈ W) := fun t' ht => by
                rw [E1.out] at ht
                rcases List.mem_append.1 ht with h | h
                · exact HJ.out t' h
                · rw [List.mem_singleton.1 h]; exact HG.out
              clear own9 hgr9 HO8 OW8 HJ HG
              go_wp2_with fail
              refine ⟨⟨k + 1, by go_num, by omega, HO9, hx9, HJ9, OW9⟩, by simp [intOf]; omega⟩
        · obtain rfl : k = M := by omega
          have HO' := HO.out
          rw [PA.out] at HO'
          replace HO' := Lib.hid HO'
          have HJ' : Hid (∀ t ∈ tkL L (i + 1), t = [10] ∨ t ∈ W) := fun t ht => HJ.out t (by rw [PA.out]; exact ht)
          clear HO HJ OW
          go_wp2_with fail
          refine ⟨⟨i + 1, by go_num, by omega, HO', hxr, HJ'⟩, by simp [intOf]; omega⟩
    · obtain rfl : i = N := by omega
      obtain ⟨P, p, rfl⟩ := own_form HO.out
      have hall : ∀ t ∈ T, t = [10] ∨ t ∈ W := by rw [← ALL.out]; exact HJ.out
      have HO1 : Hid (wr.ownsRow w3.heap.size 3 1 (.slice P T.length p) T.length (T.map fun t => Value.int .i64 (nbF W t))) := by
        show World.ownsRow _ _ _ _ _ _ _
        rw [← ALL.out]; exact HO.out
      rw [ALL.out]
      clear HO HJ
      go_wp2_with fail
      go_ret2
      refine Or.inl ⟨hall, P, p, rfl, ⟨own_noneR HO1.out, own_capR HO1.out⟩, ?_, hxx.trans hxr⟩
      exact (Rd.of_own (d := .int .i64 0) HO1.out).congr fun k hk => by simp [nth, hk]
theorem rsigns_calls (W : List (List UInt8)) (hW : W.Pairwise fun x y => x < y) (hl : W.length ≤ 1000000) (WA TA : Option Addr) (wk tn tc : Nat) (s : List UInt8) (hs : s.length ≤ 16777216) (m : Int) (w : World) (hm : w.cell? ⟨0, 0, none⟩ = some (.int .i64 m)) (hr : RdS w WA W) :
    Calls Tryz.prog 16 #[bookV WA TA W.length wk tn tc, str s] w fun e w' =>
      ((∀ t ∈ toks s, t = [10] ∨ t ∈ W) ∧ ∃ P p, e = .returned (.tuple #[.slice P (toks s).length p, .bool true]) ∧ Rd w' P (toks s).length (fun k => .int .i64 (nth ((toks s).map (nbF W)) k)) ∧ Ext w w') ∨
      ((∃ t ∈ toks s, ¬ (t = [10] ∨ t ∈ W)) ∧ e = .returned (.tuple #[.slice none 0 0, .bool false]) ∧ Ext w w') := by
  refine (rsigns_callsC W hW hl WA TA wk tn tc s hs m w hm hr).mono ?_
  rintro e w' (⟨h1, P, p, h2, _, h3, h4⟩ | h)
  · exact Or.inl ⟨h1, P, p, h2, h3, h4⟩
  · exact Or.inr h
end Go.Proofs.YtjfdlibceldanabGreatDoor
