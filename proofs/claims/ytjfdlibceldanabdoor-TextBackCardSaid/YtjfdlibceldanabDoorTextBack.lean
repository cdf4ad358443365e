/- TextBack: the law's walk. -/
import Derived.Test.YtjfdlibceldanabDoorTxtK
import Derived.ChangeMaps5
namespace Go.Proofs.YtjfdlibceldanabDoor
open Go.RowKit Go.Sort Tx

theorem toks_ok (s : List UInt8) : ∀ t ∈ toks (wrL (linesF s)), t = [10] ∨ t ∈ wordsF s := by
  rw [toks_again]
  intro t ht
  obtain ⟨l, hl, hm⟩ := List.mem_flatMap.1 ht
  rcases List.mem_append.1 hm with h | h
  · exact Or.inr (words_mem hl h)
  · exact Or.inl (List.mem_singleton.1 h)
theorem sigs_again (s : List UInt8) : sigs (wordsF s) (toks (wrL (linesF s))) (toks (wrL (linesF s))).length = textN (wordsF s) (linesF s) := by
  unfold sigs
  rw [List.take_length, toks_again, List.map_flatMap]
  unfold textN
  refine fm_congr _ _ _ fun l hl => ?_
  rw [List.map_append]
  congr 1
  refine List.map_congr_left fun w hw => ?_
  unfold signV
  rw [if_neg fun q => ?_]
  exact ((lines_words hl hw).2 10 (by rw [q]; simp)).2 rfl
theorem wrL_len {s : List UInt8} (h : errF s = 0) : (wrL (linesF s)).length ≤ 1000 := by
  obtain ⟨hok, hT⟩ : (linesF s).all (fun l => l.all okW) = true ∧ (textN (wordsF s) (linesF s)).length ≤ 100 := by
    unfold errF at h
    split at h
    · cases h
    · split at h
      · cases h
      · rename_i g
        split at h
        · cases h
        · exact ⟨by simpa using g, by omega⟩
  rw [← piece_all]
  have key : ∀ T : List Nat, (T.flatMap (piece (wordsF s))).length ≤ 9 * T.length := by
    intro T
    induction T with
    | nil => simp
    | cons k T ih =>
      rw [List.flatMap_cons, List.length_append, List.length_cons]
      have : (piece (wordsF s) k).length ≤ 9 := by
        unfold piece
        split
        · simp
        · split
          · rename_i g
            obtain ⟨l, hl, hw⟩ := mem_words (nth_mem g.2)
            have h1 := List.all_eq_true.1 (List.all_eq_true.1 hok l hl) _ hw
            unfold okW at h1
            rw [Bool.and_eq_true] at h1
            have h2 := of_decide_eq_true h1.1
            simp only [List.length_cons]; omega
          · simp
      omega
  have := key (textN (wordsF s) (linesF s) ++ [0])
  rw [List.length_append, List.length_singleton] at this
  omega
theorem word_len {s : List UInt8} (h : errF s = 0) : ∀ w ∈ wordsF s, w.length ≤ 8 := by
  intro w hw
  have hok : (linesF s).all (fun l => l.all okW) = true := by
    unfold errF at h
    split at h
    · cases h
    · split at h
      · cases h
      · rename_i g; simpa using g
  obtain ⟨l, hl, hm⟩ := mem_words hw
  have h1 := List.all_eq_true.1 (List.all_eq_true.1 hok l hl) _ hm
  unfold okW at h1
  rw [Bool.and_eq_true] at h1
  exact of_decide_eq_true h1.1
theorem err_len {s : List UInt8} (h : errF s = 0) : s.length ≤ 400 ∧ (textN (wordsF s) (linesF s)).length ≤ 100 := by
  unfold errF at h
  split at h
  · cases h
  · split at h
    · cases h
    · split at h
      · cases h
      · exact ⟨by omega, by omega⟩
theorem words_len {s : List UInt8} (h : errF s = 0) : (wordsF s).length ≤ 400 := by
  have h1 := lines_flat s
  have h2 := ordW_len (linesF s).flatten
  have h3 := (err_len h).1
  unfold wordsF
  omega

set_option maxHeartbeats 4000000 in
set_option maxRecDepth 100000 in
theorem tb_no (s : List UInt8) (hs : s.length ≤ 9223372036854775807) (m : Int) (w : World) (hm : w.cell? ⟨0, 0, none⟩ = some (.int .i64 m)) (h : errF s ≠ 0) :
    Calls Tryd.prog 4 #[str s] w fun e w' => e = .returned (.bool true) ∧ Ext w w' := by
  have cr : Calls Tryd.prog 5 #[str s] w fun e w' => e = .returned (.tuple #[noBook, .int .i64 (errF s : Nat)]) ∧ Ext w w' := by
    refine (read_calls s hs m w hm).mono ?_
    rintro e w' (⟨_, h1, h2⟩ | ⟨h1, _⟩)
    · exact ⟨h1, h2⟩
    · exact absurd h1 h
  obtain ⟨er, her⟩ : ∃ er, errF s = er := ⟨_, rfl⟩
  rw [her] at cr h
  have h' : (((er : Nat) : Int) != 0) = true := by simp; omega
  have CR := Lib.hid cr; have HM := Lib.hid hm
  clear cr hm her
  go_enter Tryd.func4, Tryd.ntmps4
  go_wp2_with fail
  with_reducible refine CR.out.mono ?_
  rintro e w1 ⟨rfl, hx1⟩
  go_wp2_with fail
  with_reducible refine (readsK_calls m _ (ecell HM.out (hx1.alloc _))).mono ?_
  rintro e w2 ⟨rfl, hx2⟩
  go_wp2_with fail
  go_ret
  exact ⟨rfl, (hx1.alloc _).trans hx2⟩

theorem cat_eq (a b : List UInt8) : (ByteArray.mk a.toArray ++ ByteArray.mk b.toArray) = ByteArray.mk (a ++ b).toArray := by
  apply ByteArray.ext
  simp [ByteArray.data_append]
theorem cat_str {a b c : List UInt8} (h : c = a ++ b) : Value.string (ByteArray.mk a.toArray ++ ByteArray.mk b.toArray) = str c := by rw [cat_eq, h]

set_option maxHeartbeats 8000000 in
set_option maxRecDepth 100000 in
theorem tb_walk (s t : List UInt8) (m : Int) (w : World) (hm : w.cell? ⟨0, 0, none⟩ = some (.int .i64 m))
    (W : List (List UInt8)) (TN : List Nat) (n n1 N : Nat) (hnn : n + 1 = n1) (hn : TN.length = n1) (hN : W.length = N) (hn1 : n ≤ 100) (hN4 : N ≤ 400) (ht : t.length ≤ 1000)
    (bt : Nat → List UInt8) (bt0 : bt 0 = []) (btn : bt n1 = t) (bs : ∀ i, i < n1 → bt (i + 1) = bt i ++ piece W (nth TN i)) (bl : ∀ i, (bt i).length ≤ 1000) (wl : ∀ k, k < N → (nth W k).length ≤ 8) (tk : ∀ i, i < n1 → nth TN i ≤ N + 1) (X : List UInt8)
    (cr : ∀ w, w.cell? ⟨0, 0, none⟩ = some (.int .i64 m) → Calls Tryd.prog 5 #[str s] w fun e w' => ∃ WA TA wc tc, e = .returned (.tuple #[bookV WA TA N wc n1 tc, .int .i64 0]) ∧ n1 ≤ tc ∧ N ≤ wc ∧ RdS w' WA W ∧ Rd w' TA n1 (fun k => .int .i64 (nth TN k : Nat)) ∧ Ext w w')
    (cr2 : t.length ≤ 400 → ∀ w, w.cell? ⟨0, 0, none⟩ = some (.int .i64 m) → Calls Tryd.prog 5 #[str t] w fun e w' => ∃ WA TA wc tc, e = .returned (.tuple #[bookV WA TA N wc n1 tc, .int .i64 0]) ∧ n1 ≤ tc ∧ N ≤ wc ∧ RdS w' WA W ∧ Rd w' TA n1 (fun k => .int .i64 (nth TN k : Nat)) ∧ Ext w w')
    (cs : ∀ WA TA wc tc w, w.cell? ⟨0, 0, none⟩ = some (.int .i64 m) → RdS w WA W → Calls Tryd.prog 7 #[bookV WA TA N wc n1 tc, str t] w fun e w' => ∃ P p, e = .returned (.tuple #[.slice P n p, .bool true]) ∧ Rd w' P n (fun k => .int .i64 (nth TN k : Nat)) ∧ Ext w w')
    (cg : ∀ WA TA wc tc w, RdS w WA W → n1 ≤ tc → Rd w TA n1 (fun k => .int .i64 (nth TN k : Nat)) → Calls Tryd.prog 11 #[bookV WA TA N wc n1 tc] w fun e w' => e = .returned (.bool true) ∧ Ext w w')
    (cj : ∀ A c w, N ≤ c → RdS w A W → Calls Tryd.prog 15 #[.slice A N c, .string ⟨#[32]⟩] w fun e w' => e = .returned (str X) ∧ Ext w w') :
    Calls Tryd.prog 4 #[str s] w fun e w' => e = .returned (.bool true) ∧ Ext w w' := by
  have CR := Lib.hid cr; have CR2 := Lib.hid cr2; have CS := Lib.hid cs; have CG := Lib.hid cg; have CJ := Lib.hid cj; have HM := Lib.hid hm
  have BS := Lib.hid bs; have B0 := Lib.hid bt0; have BN := Lib.hid btn; have BL := Lib.hid bl; have WL := Lib.hid wl; have TK := Lib.hid tk; have HNW := Lib.hid hN; have HNT := Lib.hid hn
  clear cr cr2 cs cg cj hm bs bt0 btn hN hn bl wl tk
  go_enter Tryd.func4, Tryd.ntmps4
  go_wp2_with fail
  with_reducible refine (CR.out w HM.out).mono ?_
  rintro e w1 ⟨WA, TA, wc, tc, rfl, htc, hwc, hS, hT, hx1⟩
  have w1n : n1 ≤ 101 := by omega
  generalize hB : w1.heap.size = B
  have hxB : Ext w1 (w1.alloc (.cells #[.slice WA N wc, .slice TA n1 tc] 25)) := (Ext.refl w1).alloc _
  have bx : Bk (w1.alloc (.cells #[.slice WA N wc, .slice TA n1 tc] 25)) B 25 #[.slice WA N wc, .slice TA n1 tc] := by rw [← hB]; exact bk_of rfl
  go_wp2_with fail

  generalize World.alloc w1 _ = W1 at *
  have hx := hx1.trans hxB
  have HS := Lib.hid (hS.ext hxB); have HT := Lib.hid (Rd.ext hT hxB); have BX := Lib.hid bx
  clear hx1 hxB hB hS hT bx CR
  go_loopw [24, 5] (fun vi v5 wr => ∃ i : Nat, vi = .int .i64 i ∧ v5 = str (bt i) ∧ i ≤ n1 ∧ Ext W1 wr) (fun vi _ _ => n1 - (intOf vi).toNat)
  case atStart => exact ⟨0, rfl, by rw [B0.out], Nat.zero_le _, Ext.refl _⟩
  case round => as_aux_lemma =>
    obtain ⟨i, rfl, rfl, hi', hxr⟩ := hrel
    have b0 := (BX.out.ext hxr).cell 0
    have b1 := (BX.out.ext hxr).cell 1
    by_cases g : i < n1
    · obtain ⟨bT, oT, rfl, hbT, hcT⟩ := (HT.out.ext hxr) (by omega)
      have p1 := hcT i g
      dsimp only at p1
      have bs := BS.out i g
      have tk := TK.out i g
      obtain ⟨k, hk⟩ : ∃ k, nth TN i = k := ⟨_, rfl⟩
      rw [hk] at p1 bs tk
      have BSI := Lib.hid bs
      clear hcT hk bs
      by_cases g1 : k = 1
      · subst g1
        have e1 : bt (i + 1) = bt i ++ [10] := by rw [BSI.out]; rfl
        have hbl := BL.out i
        go_wp2_with fail
        refine ⟨⟨i + 1, by go_num, cat_str e1, by omega, hxr⟩, by simp [intOf]; omega⟩
      · have g1' : (((k : Nat) : Int) == 1) = false := by simp; omega
        by_cases g2 : 1 < k ∧ k - 2 < N
        · have g2' : decide ((1 : Int) < k) = true := by simp; omega
          have g3' : decide ((k : Int) - 2 < N) = true := by simp; omega
          have e2 : ((k - 2 : Nat) : Int) = (k : Int) - 2 := by omega
          have hw : IntKind.i64.wrap ((k : Int) - 2) = (k : Int) - 2 := IntWalk.i64_in _ (by omega)
          obtain ⟨bW, oW, rfl, hbW, hcW⟩ := (RdS.ext HS.out hxr) (by rw [HNW.out]; omega)
          have p2 := hcW (k - 2) (by rw [HNW.out]; omega)
          dsimp only at p2
          have e1 : bt (i + 1) = bt i ++ 32 :: nth W (k - 2) := by
            rw [BSI.out]; unfold piece; rw [if_neg g1, if_pos ⟨by omega, by rw [HNW.out]; omega⟩]
          clear hcW
          have hbl := BL.out i
          have hwl := WL.out (k - 2) (by omega)
          go_wp2_with fail
          refine ⟨⟨i + 1, by go_num, ?_, by omega, hxr⟩, by simp [intOf]; omega⟩
          rw [show (ByteArray.mk #[32]) = ⟨([32] : List UInt8).toArray⟩ from rfl, cat_eq, cat_eq, e1]
          rfl
        · have e1 : bt (i + 1) = bt i := by
            rw [BSI.out]; unfold piece; rw [if_neg g1, if_neg (by rw [HNW.out]; omega), List.append_nil]
          by_cases g2a : 1 < k
          · omega
          · have g2' : decide ((1 : Int) < k) = false := by simp; omega
            go_wp2_with fail
            refine ⟨⟨i + 1, by go_num, by rw [e1], by omega, hxr⟩, by simp [intOf]; omega⟩
    · obtain rfl : i = n1 := by omega
      rw [BN.out]
      have cs := CS.out WA TA wc tc wr (ecell HM.out (hx.trans hxr)) (HS.out.ext hxr)
      have htl : ((n : Int) + 1 != i) = false := by rw [bne_eq_false_iff_eq]; omega
      have hnw : IntKind.i64.wrap ((n : Int) + 1) = (n : Int) + 1 := IntWalk.i64_in _ (by omega)
      go_wp2_with fail
      with_reducible refine cs.mono ?_
      rintro e w2 ⟨P, p, rfl, hP, hx2⟩
      have hxr2 := hxr.trans hx2
      clear cs b0 b1
      have b0 := (BX.out.ext hxr2).cell 0
      have b1 := (BX.out.ext hxr2).cell 1
      have cg := CG.out WA TA wc tc w2 (HS.out.ext hxr2) htc (HT.out.ext hxr2)
      go_wp2_with fail
      with_reducible refine cg.mono ?_
      rintro e w3 ⟨rfl, hx3⟩
      have hxr3 := hxr2.trans hx3
      have HP := Lib.hid (hP.ext hx3)
      clear cg b0 b1 hP
      have b0 := (BX.out.ext hxr3).cell 0
      have b1 := (BX.out.ext hxr3).cell 1
      go_wp2_with fail
      clear b0 b1 hxr hxr2 hx2 hx3
      go_loopw [78] (fun vi wr => ∃ j : Nat, vi = .int .i64 j ∧ j ≤ n ∧ Ext w3 wr) (fun vi _ => n - (intOf vi).toNat)
      case atStart => exact ⟨0, rfl, Nat.zero_le _, Ext.refl _⟩
      case round => as_aux_lemma =>
        obtain ⟨j, rfl, hj', hxj⟩ := hrel
        have hxw := hxr3.trans hxj
        have b0 := (BX.out.ext hxw).cell 0
        have b1 := (BX.out.ext hxw).cell 1
        by_cases gj : j < n
        · obtain ⟨bP, oP, rfl, hbP, hcP⟩ := (HP.out.ext hxj) (by omega)
          obtain ⟨bT, oT, rfl, hbT, hcT⟩ := (HT.out.ext hxw) (by omega)
          have p1 := hcP j gj
          have p2 := hcT j (by omega)
          dsimp only at p1 p2
          have hji : (j : Int) < i := by omega
          clear hcP hcT
          go_wp2_with fail
          go_quiet (fail)
          go_wp2_with fail
          refine ⟨⟨j + 1, by go_num, by omega, hxj.drewN _⟩, by simp [intOf]; omega⟩
        · obtain rfl : j = n := by omega
          by_cases g4 : 400 < t.length
          · have g4' : decide ((400 : Int) < t.length) = true := by simp; omega
            go_wp2_with fail
            with_reducible refine (readsK_calls m _ (ecell HM.out (hx.trans hxw))).mono ?_
            rintro e w5 ⟨rfl, hx5⟩
            go_wp2_with fail
            go_ret
            exact ⟨rfl, (hx.trans hxw).trans hx5⟩
          · have g4' : decide ((400 : Int) < t.length) = false := by simp; omega
            have cr2 := CR2.out (by omega) _ (ecell HM.out (hx.trans hxw))
            go_wp2_with fail
            with_reducible refine cr2.mono ?_
            rintro e w5 ⟨WA2, TA2, wc2, tc2, rfl, htc2, hwc2, hS2, hT2, hx5⟩
            go_wp2_with fail
            generalize hW6 : World.alloc w5 _ = W6
            have bc := bk_of hW6
            have hx6 := hx5.trans (ext_of_alloc hW6)
            have HS2 := Lib.hid (hS2.ext (ext_of_alloc hW6))
            generalize w5.heap.size = C at *
            clear cr2 hS2 hT2 hW6 hx5 b0 b1
            have hxw6 := hxw.trans hx6
            have b0 := (BX.out.ext hxw6).cell 0
            have b1 := (BX.out.ext hxw6).cell 1
            have d0 := bc.cell 0
            have d1 := bc.cell 1
            have hcur : Ext W6 W6.drew := (Ext.refl W6).drew
            go_region_held3 (fun w' => w'.cell? ⟨B, 0, none⟩ = some (.slice WA N wc) ∧ w'.cell? ⟨B, 1, none⟩ = some (.slice TA i tc) ∧ w'.cell? ⟨C, 0, none⟩ = some (.slice WA2 N wc2) ∧ w'.cell? ⟨C, 1, none⟩ = some (.slice TA2 i tc2))
              (first | (exact ⟨ecell b0 hcur, ecell b1 hcur, ecell d0 hcur, ecell d1 hcur⟩) | go_keep)
              (first
                | (go_at_call 15; with_reducible refine (CJ.out WA2 wc2 _ hwc2 (HS2.out.ext hcur)).mono ?_; rintro e wn ⟨rfl, hxn⟩; replace hcur := hcur.trans hxn)
                | (go_at_call 15; with_reducible refine (CJ.out WA wc _ hwc (HS.out.ext (hxw6.trans hcur))).mono ?_; rintro e wn ⟨rfl, hxn⟩; replace hcur := hcur.trans hxn)
                | (go_at_call 14; with_reducible refine (readsK_calls m _ (ecell HM.out ((hx.trans hxw6).trans hcur))).mono ?_; rintro e wn ⟨rfl, hxn⟩; replace hcur := hcur.trans hxn))
            all_goals
              go_wp2_with fail
              go_ret
              exact ⟨rfl, (hx.trans hxw6).trans hcur⟩
theorem rd_castT {w : World} {A : Option Addr} {ln : List Nat} (h : Rd w A ln.length (fun k => .int .i64 (nth ln k : Nat))) : Rd w A (ln.map Int.ofNat).length (fun k => .int .i64 (nth (ln.map Int.ofNat) k)) := by
  rw [List.length_map]
  exact h.congr fun k hk => by rw [nth_lt hk, nth_lt (by rw [List.length_map]; exact hk), List.getElem_map]; rfl
theorem bt_len {s : List UInt8} (h : errF s = 0) (i : Nat) : (((textN (wordsF s) (linesF s) ++ [0]).take i).flatMap (piece (wordsF s))).length ≤ 1000 := by
  have hT := (err_len h).2
  have key : ∀ T : List Nat, (T.flatMap (piece (wordsF s))).length ≤ 9 * T.length := by
    intro T
    induction T with
    | nil => simp
    | cons k T ih =>
      rw [List.flatMap_cons, List.length_append, List.length_cons]
      have : (piece (wordsF s) k).length ≤ 9 := by
        unfold piece
        split
        · simp
        · split
          · rename_i g
            have h2 := word_len h _ (nth_mem g.2)
            simp only [List.length_cons]; omega
          · simp
      omega
  have := key ((textN (wordsF s) (linesF s) ++ [0]).take i)
  rw [List.length_take, List.length_append, List.length_singleton] at this
  omega
theorem tn_le {s : List UInt8} {i : Nat} (hi : i < (textN (wordsF s) (linesF s) ++ [0]).length) : nth (textN (wordsF s) (linesF s) ++ [0]) i ≤ (wordsF s).length + 1 := by
  rcases List.mem_append.1 (nth_mem hi) with h | h
  · obtain ⟨l, hl, hc⟩ := mem_textN.1 h
    rcases hc with e | ⟨w, hw, e⟩
    · omega
    · have := (nth_num (ordW_sorted _) (words_mem hl hw)).1
      have : num (wordsF s) w < (wordsF s).length := this
      omega
  · have := List.mem_singleton.1 h
    omega
theorem textBack_walk (s : List UInt8) (hs : s.length ≤ 9223372036854775807) (m : Int) (w : World) (hm : w.cell? ⟨0, 0, none⟩ = some (.int .i64 m)) :
    Calls Tryd.prog 4 #[str s] w fun e w' => e = .returned (.bool true) ∧ Ext w w' := by
  by_cases h : errF s = 0
  · have hel : (textN (wordsF s) (linesF s) ++ [0] : List Nat).length = (textN (wordsF s) (linesF s)).length + 1 := by simp
    have hT := (err_len h).2
    have hrd : ∀ s', s'.length ≤ 9223372036854775807 → errF s' = 0 → wordsF s' = wordsF s → linesF s' = linesF s → ∀ w, w.cell? ⟨0, 0, none⟩ = some (.int .i64 m) → Calls Tryd.prog 5 #[str s'] w fun e w' => ∃ WA TA wc tc, e = .returned (.tuple #[bookV WA TA (wordsF s).length wc ((textN (wordsF s) (linesF s)).length + 1) tc, .int .i64 0]) ∧ (textN (wordsF s) (linesF s)).length + 1 ≤ tc ∧ (wordsF s).length ≤ wc ∧ RdS w' WA (wordsF s) ∧ Rd w' TA ((textN (wordsF s) (linesF s)).length + 1) (fun k => .int .i64 (nth (textN (wordsF s) (linesF s) ++ [0]) k : Nat)) ∧ Ext w w' := by
      intro s' hs' h1 h2 h3 w hm
      refine (read_calls s' hs' m w hm).mono ?_
      rintro e w' (⟨h', _⟩ | ⟨_, WA, TA, wc, tc, rfl, htc, hWA, hwc, hS, hTr, hx⟩)
      · exact absurd h1 h'
      · rw [h2, h3] at htc hTr ⊢
        rw [h2] at hS hwc
        rw [hel] at htc hTr ⊢
        exact ⟨WA, TA, wc, tc, rfl, htc, hwc, hS, hTr, hx⟩
    refine tb_walk s (wrL (linesF s)) m w hm (wordsF s) (textN (wordsF s) (linesF s) ++ [0]) (textN (wordsF s) (linesF s)).length ((textN (wordsF s) (linesF s)).length + 1) (wordsF s).length rfl hel rfl hT (words_len h) (wrL_len h)
      (fun i => ((textN (wordsF s) (linesF s) ++ [0]).take i).flatMap (piece (wordsF s))) (by simp) ?_ ?_ (bt_len h) (fun k hk => word_len h _ (nth_mem hk)) (fun i hi => tn_le (by rw [hel]; exact hi)) (Lib.join (wordsF s) [32]) ?_ ?_ ?_ ?_ ?_
    · show ((textN (wordsF s) (linesF s) ++ [0]).take _).flatMap (piece (wordsF s)) = wrL (linesF s)
      rw [List.take_of_length_le (by rw [hel]; exact Nat.le_refl _), piece_all]
    · intro i hi
      show ((textN (wordsF s) (linesF s) ++ [0]).take (i + 1)).flatMap (piece (wordsF s)) = _
      rw [List.take_succ_eq_append_getElem (by rw [hel]; exact hi), List.flatMap_append, nth_lt (by rw [hel]; exact hi)]
      simp
    · exact hrd s hs h rfl rfl
    · intro ht
      obtain ⟨h1, h2, h3⟩ := again h ht
      exact hrd (wrL (linesF s)) (by omega) h1 h2 h3
    · intro WA TA wc tc w hm hS
      refine (signs_walk (wordsF s) (ordW_sorted _) (by have := words_len h; omega) WA TA wc ((textN (wordsF s) (linesF s)).length + 1) tc (wrL (linesF s)) (by have := wrL_len h; omega) m w hm hS).mono ?_
      rintro e w' (⟨_, P, p, rfl, _, hP, hx⟩ | ⟨⟨t, ht, hbad⟩, _⟩)
      · rw [sigs_again] at hP ⊢
        refine ⟨P, p, rfl, hP.congr fun k hk => ?_, hx⟩
        rw [nth_lt hk, nth_lt (by rw [hel]; omega), List.getElem_append_left hk]
      · exact absurd (toks_ok s t ht) hbad
    · intro WA TA wc tc w hS htc hTr
      have hg := good_calls (wordsF s) ((textN (wordsF s) (linesF s) ++ [0]).map Int.ofNat) WA TA wc tc w (by have := words_len h; omega) (fun k hk => by have := word_len h _ (nth_mem hk); omega) (by rw [List.length_map, hel]; omega) hS (by rw [List.length_map, hel]; exact htc) (rd_castT (by rw [hel]; exact hTr))
      rw [List.length_map, hel, good_read h] at hg
      exact hg
    · intro A c w hc hS
      exact join_calls (wordsF s) (word_len h) (words_len h) A c w hc hS
  · exact tb_no s hs m w hm h

section
open Go.ChangeShapes Go.WideShapes Go.ChangeAt Go.ChangeMaps
variable {H : Type} {enc : TypeId × Value → H} {W : World}
set_option maxRecDepth 100000 in
theorem textBack_calls {r : Reach} {base : Nat} {v0 : Value} {d0 : DataW H} {p0 : List MemPlace} (hsh : W.ShapedOpen Tryd.prog)
    (_hsz : (DataW.weightsEach Tryd.prog [9] [d0]).all (· ≤ reachBytes) = true)
    (hv0 : Value.okWide Tryd.prog W r base 9 v0) (h0 : DataW.Trod enc Tryd.prog W 0 (fun _ => true) true 9 v0 d0 p0) :
    Calls Tryd.prog 4 #[v0] W fun e w' => e = .returned (.bool true) ∧ Ext W w' := by
  obtain ⟨s, rfl, rfl, rfl, hs⟩ := open_string Tryd.underlying9 hv0 h0
  obtain ⟨m, hm⟩ := Tryd.laysM146.s1_3 W hsh
  have hs' : s.data.toList.length ≤ 9223372036854775807 := by
    have : s.data.toList.length ≤ maxLen := hs
    unfold maxLen at this; omega
  exact textBack_walk s.data.toList hs' m W hm
end
end Go.Proofs.YtjfdlibceldanabDoor
