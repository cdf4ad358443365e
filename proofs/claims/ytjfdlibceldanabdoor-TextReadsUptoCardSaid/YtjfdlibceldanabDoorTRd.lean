/- TextReads: the law's walk. -/
import Derived.Test.YtjfdlibceldanabDoorRdC
import Derived.Test.YtjfdlibceldanabDoorRdS
import Derived.Test.YtjfdlibceldanabDoorRdI
import Derived.Test.YtjfdlibceldanabDoorTxtO
import Derived.Test.YtjfdlibceldanabDoorUpB
import Derived.Test.YtjfdlibceldanabDoorOpen
import Derived.Lib.SmallJoins
namespace Go.Proofs.YtjfdlibceldanabDoor
open Go.RowKit Go.Sort Tx

/-! ### What the two readers and the two numberers answer, alike -/
def bkW (s : List UInt8) : List (List UInt8) := if errF s = 0 then wordsF s else []
def bkT (s : List UInt8) : List Int := if errF s = 0 then (textN (wordsF s) (linesF s) ++ [0]).map Int.ofNat else []
def RetBk (s : List UInt8) (w : World) (e : Ending) (w' : World) : Prop :=
  ∃ WA TA wc tc, e = .returned (.tuple #[bookV WA TA (bkW s).length wc (bkT s).length tc, .int .i64 (errF s : Nat)]) ∧ RdS w' WA (bkW s) ∧ Rd w' TA (bkT s).length (fun k => .int .i64 (nth (bkT s) k)) ∧ Ext w w'
theorem ret_bk {s : List UInt8} {w w' : World} {e : Ending} (h : RetRead s w e w') : RetBk s w e w' := by
  unfold RetBk bkW bkT
  rcases h with ⟨h0, rfl, hx⟩ | ⟨h0, WA, TA, wc, tc, rfl, _, _, _, hS, hT, hx⟩
  · rw [if_neg h0, if_neg h0]
    exact ⟨none, none, 0, 0, rfl, Rd.zero, Rd.zero, hx⟩
  · rw [if_pos h0, if_pos h0, List.length_map]
    refine ⟨WA, TA, wc, tc, by rw [h0]; rfl, hS, hT.congr fun k hk => ?_, hx⟩
    rw [nth_lt hk, nth_lt (by rw [List.length_map]; exact hk), List.getElem_map]
    rfl
theorem bk_sorted (s : List UInt8) : (bkW s).Pairwise fun x y => x < y := by
  unfold bkW
  split
  · exact ordW_sorted _
  · exact List.Pairwise.nil
theorem bk_len (s : List UInt8) : (bkW s).length ≤ 1000 ∧ (bkT s).length ≤ 101 := by
  unfold bkW bkT
  split
  · rename_i h
    have h4 : s.length ≤ 400 ∧ (textN (wordsF s) (linesF s)).length ≤ 100 := by
      unfold errF at h
      split at h
      · cases h
      · split at h
        · cases h
        · split at h
          · cases h
          · exact ⟨by omega, by omega⟩
    have hlf := lines_flat s
    have hol := ordW_len (linesF s).flatten
    refine ⟨by unfold wordsF; omega, ?_⟩
    rw [List.length_map, List.length_append, List.length_singleton]; omega
  · exact ⟨by simp, by simp⟩
def okAll (W : List (List UInt8)) (ws : List UInt8) : Prop := ∀ t ∈ toks ws, t = [10] ∨ t ∈ W
instance (W : List (List UInt8)) (ws : List UInt8) : Decidable (okAll W ws) := inferInstanceAs (Decidable (∀ t ∈ toks ws, t = [10] ∨ t ∈ W))
def sgL (W : List (List UInt8)) (ws : List UInt8) : List Int := if okAll W ws then (toks ws).map (nbF W) else []
def RetSg (W : List (List UInt8)) (ws : List UInt8) (w : World) (e : Ending) (w' : World) : Prop :=
  ∃ P p, e = .returned (.tuple #[.slice P (sgL W ws).length p, .bool (decide (okAll W ws))]) ∧ Rd w' P (sgL W ws).length (fun k => .int .i64 (nth (sgL W ws) k)) ∧ Ext w w'
theorem sgL_len (W : List (List UInt8)) (ws : List UInt8) (h : ws.length ≤ 16777216) : (sgL W ws).length ≤ 50331648 := by
  have h1 := toks_len ws
  have h2 : (ws.flatMap nl).length ≤ 50331648 := by
    rw [nl_count]; have := List.count_le_length (a := 10) (l := ws); omega
  unfold sgL
  split
  · rw [List.length_map]; omega
  · simp
theorem sg_calls (W : List (List UInt8)) (hW : W.Pairwise fun x y => x < y) (hWl : W.length ≤ 1000) (WA TA : Option Addr) (wc tn tc : Nat) (ws : List UInt8) (hs : ws.length ≤ 16777216) (m : Int) (w : World) (hm : w.cell? ⟨0, 0, none⟩ = some (.int .i64 m)) (hr : RdS w WA W) :
    Calls Tryd.prog 7 #[bookV WA TA W.length wc tn tc, str ws] w (RetSg W ws w) := by
  refine (signs_walkC W hW (by omega) WA TA wc tn tc ws hs m w hm hr).mono ?_
  unfold RetSg sgL
  rintro e w' (⟨h1, P, p, rfl, _, hP, hx, _⟩ | ⟨h1, rfl, hx⟩)
  · have hok : okAll W ws := h1
    have e1 : (toks ws).map (nbF W) = (sigs W (toks ws) (toks ws).length).map Int.ofNat := by
      rw [sigs_nb h1]
      unfold sigs
      rw [List.take_length, List.map_map]
      rfl
    rw [if_pos hok, decide_eq_true hok, e1, List.length_map]
    refine ⟨P, p, rfl, hP.congr fun k hk => ?_, hx⟩
    rw [nth_lt hk, nth_lt (by rw [List.length_map]; exact hk), List.getElem_map]
    rfl
  · have hno : ¬ okAll W ws := fun q => by
      obtain ⟨t, ht, hn⟩ := h1
      exact hn (q t ht)
    rw [if_neg hno, decide_eq_false hno]
    exact ⟨none, 0, rfl, Rd.zero, hx⟩
theorem rsg_calls (W : List (List UInt8)) (hW : W.Pairwise fun x y => x < y) (hWl : W.length ≤ 1000) (WA TA : Option Addr) (wc tn tc : Nat) (ws : List UInt8) (hs : ws.length ≤ 16777216) (m : Int) (w : World) (hm : w.cell? ⟨0, 0, none⟩ = some (.int .i64 m)) (hr : RdS w WA W) :
    Calls Tryd.prog 8 #[bookV WA TA W.length wc tn tc, str ws] w (RetSg W ws w) := by
  refine (rsigns_calls W hW (by omega) WA TA wc tn tc ws hs m w hm hr).mono ?_
  unfold RetSg sgL
  rintro e w' (⟨h1, P, p, rfl, hP, hx⟩ | ⟨h1, rfl, hx⟩)
  · have hok : okAll W ws := h1
    rw [if_pos hok, decide_eq_true hok, List.length_map]
    exact ⟨P, p, rfl, hP, hx⟩
  · have hno : ¬ okAll W ws := fun q => by
      obtain ⟨t, ht, hn⟩ := h1
      exact hn (q t ht)
    rw [if_neg hno, decide_eq_false hno]
    exact ⟨none, 0, rfl, Rd.zero, hx⟩

/-! ### The law -/
set_option maxHeartbeats 4000000 in
set_option maxRecDepth 100000 in
theorem lreads_calls (m : Int) (w : World) (hm : w.cell? ⟨0, 0, none⟩ = some (.int .i64 m)) : Calls Tryd.prog 13 #[] w fun e w' => e = .returned (.bool true) ∧ Ext w w' := by
  have cr : Calls Tryd.prog 5 #[.string ⟨#[98, 32, 97, 10, 98]⟩] w fun e w' => ∃ WA TA wc tc, e = .returned (.tuple #[bookV WA TA 2 wc 6 tc, .int .i64 0]) ∧ Rd w' TA 6 (fun k => .int .i64 (nth ([3, 2, 1, 3, 1, 0] : List Nat) k : Nat)) ∧ Ext w w' := by
    refine (read_calls sB (by decide) m w hm).mono ?_
    rintro e w' (⟨h, _⟩ | ⟨_, WA, TA, wc, tc, rfl, _, _, _, _, hT, hx⟩)
    · exact absurd err_sB h
    · rw [text_sB, words_sB]
      rw [text_sB] at hT
      exact ⟨WA, TA, wc, tc, rfl, hT, hx⟩
  have CR := Lib.hid cr
  clear cr
  go_enter Tryd.func13, Tryd.ntmps13
  go_wp2_with fail
  with_reducible refine CR.out.mono ?_
  rintro e w1 ⟨WA, TA, wc, tc, rfl, hT, hx1⟩
  go_wp2_with fail
  generalize hW1 : World.alloc w1 _ = W1
  have bx := bk_of hW1
  have hx2 := ext_of_alloc hW1
  obtain ⟨b, o, rfl, hb, hc⟩ := hT (by decide)
  have p0 : W1.cell? ⟨b, o, none⟩ = some (.int .i64 3) := ecell (hc 0 (by decide)) hx2
  have p2 : W1.cell? ⟨b, o + 2, none⟩ = some (.int .i64 1) := ecell (hc 2 (by decide)) hx2
  have b0 := bx.cell 0
  have b1 := bx.cell 1
  clear hW1 hc hT
  go_wp2_with fail
  go_simp
  go_wp2_with fail
  go_simp
  go_wp2_with fail
  go_ret
  exact ⟨rfl, hx1.trans hx2⟩
set_option maxHeartbeats 8000000 in
set_option maxRecDepth 100000 in
theorem treads_walk (s ws : List UInt8) (er N n1 L : Nat) (W : List (List UInt8)) (T X : List Int) (q r : Bool) (BA BT : Option Addr) (bn bc tn tc' : Nat) (w : World) (R : World → Prop) (hR : ∀ w w', Ext w w' → R w → R w') (h0 : R w)
    (cr : ∀ w, R w → Calls Tryd.prog 5 #[str s] w fun e w' => ∃ WA TA wc tc, e = .returned (.tuple #[bookV WA TA N wc n1 tc, .int .i64 (er : Nat)]) ∧ RdS w' WA W ∧ Rd w' TA n1 (fun k => .int .i64 (nth T k)) ∧ Ext w w')
    (cr2 : ∀ w, R w → Calls Tryd.prog 6 #[str s] w fun e w' => ∃ WA TA wc tc, e = .returned (.tuple #[bookV WA TA N wc n1 tc, .int .i64 (er : Nat)]) ∧ RdS w' WA W ∧ Rd w' TA n1 (fun k => .int .i64 (nth T k)) ∧ Ext w w')
    (cs : ∀ WA TA wc tc w, R w → RdS w WA W → Calls Tryd.prog 7 #[bookV WA TA N wc n1 tc, str ws] w fun e w' => ∃ P p, e = .returned (.tuple #[.slice P L p, .bool q]) ∧ Rd w' P L (fun k => .int .i64 (nth X k)) ∧ Ext w w')
    (cs2 : ∀ WA TA wc tc w, R w → RdS w WA W → Calls Tryd.prog 8 #[bookV WA TA N wc n1 tc, str ws] w fun e w' => ∃ P p, e = .returned (.tuple #[.slice P L p, .bool q]) ∧ Rd w' P L (fun k => .int .i64 (nth X k)) ∧ Ext w w')
    (csb : ∀ WA TA WA' TA' wc tc wc' tc' w, RdS w WA W → RdS w WA' W → Rd w TA n1 (fun k => .int .i64 (nth T k)) → Rd w TA' n1 (fun k => .int .i64 (nth T k)) → Calls Tryd.prog 9 #[bookV WA TA N wc n1 tc, bookV WA' TA' N wc' n1 tc'] w fun e w' => e = .returned (.bool true) ∧ Ext w w')
    (csi : ∀ P P' p p' w, Rd w P L (fun k => .int .i64 (nth X k)) → Rd w P' L (fun k => .int .i64 (nth X k)) → Calls Tryd.prog 10 #[.slice P L p, .slice P' L p'] w fun e w' => e = .returned (.bool true) ∧ Ext w w')
    (cg : ∀ w, R w → Calls Tryd.prog 11 #[bookV BA BT bn bc tn tc'] w fun e w' => e = .returned (.bool r) ∧ Ext w w')
    (cg2 : ∀ w, R w → Calls Tryd.prog 12 #[bookV BA BT bn bc tn tc'] w fun e w' => e = .returned (.bool r) ∧ Ext w w')
    (cl : ∀ w, R w → Calls Tryd.prog 13 #[] w fun e w' => e = .returned (.bool true) ∧ Ext w w') :
    Calls Tryd.prog 3 #[str s, str ws, bookV BA BT bn bc tn tc'] w fun e w' => e = .returned (.bool true) ∧ Ext w w' := by
  have CR := Lib.hid cr; have CR2 := Lib.hid cr2; have CS := Lib.hid cs; have CS2 := Lib.hid cs2; have CSB := Lib.hid csb; have CSI := Lib.hid csi; have CG := Lib.hid cg; have CG2 := Lib.hid cg2; have CL := Lib.hid cl; have HR := Lib.hid hR
  clear cr cr2 cs cs2 csb csi cg cg2 cl hR
  go_enter Tryd.func3, Tryd.ntmps3
  go_upto_region 1 with fail
  generalize hW1 : World.alloc w _ = W1
  have bz := bk_of hW1
  have hx := ext_of_alloc hW1
  have hr := HR.out _ _ hx h0
  obtain ⟨Z, hZ⟩ : ∃ Z, w.heap.size = Z := ⟨_, rfl⟩
  rw [hZ] at bz
  simp only [hZ]
  clear hW1 h0 hZ
  have cr := CR.out W1 hr
  go_wp2_with fail
  with_reducible refine cr.mono ?_
  rintro e w1 ⟨WA, TA, wc, tc, rfl, hS, hT, hx1⟩
  go_upto_region 2 with fail
  generalize hW2 : World.alloc w1 _ = W2
  have bx := bk_of hW2
  have hx2 := ext_of_alloc hW2
  obtain ⟨XB, hXB⟩ : ∃ Z, w1.heap.size = Z := ⟨_, rfl⟩
  rw [hXB] at bx
  simp only [hXB]
  have hr2 := HR.out _ _ (hx1.trans hx2) hr
  have hS2 := hS.ext hx2
  have hT2 := Rd.ext hT hx2
  have bz2 := bz.ext (hx1.trans hx2)
  have hxx := hx.trans (hx1.trans hx2)
  clear hW2 hXB cr hr hx hx1 hx2 hS hT bz
  have cr := CR2.out W2 hr2
  go_wp2_with fail
  with_reducible refine cr.mono ?_
  rintro e w3 ⟨WA', TA', wc', tc2, rfl, hS', hT', hx3⟩
  go_upto_region 3 with fail
  generalize hW4 : World.alloc w3 _ = W4
  have by4 := bk_of hW4
  have hx4 := ext_of_alloc hW4
  obtain ⟨YB, hYB⟩ : ∃ Z, w3.heap.size = Z := ⟨_, rfl⟩
  rw [hYB] at by4
  simp only [hYB]
  have hx34 := hx3.trans hx4
  have hr4 := HR.out _ _ hx34 hr2
  have hS4 := hS2.ext hx34
  have hT4 := Rd.ext hT2 hx34
  have hS4' := hS'.ext hx4
  have hT4' := Rd.ext hT' hx4
  have bz4 := bz2.ext hx34
  have bx4 := bx.ext hx34
  have hxx4 := hxx.trans hx34
  clear hW4 hYB cr hr2 hxx hx3 hx4 hx34 hS2 hT2 hS' hT' bz2 bx
  have x0 := bx4.cell 0
  have x1 := bx4.cell 1
  have cs := CS.out WA TA wc tc W4 hr4 hS4
  go_wp2_with fail
  with_reducible refine cs.mono ?_
  rintro e w5 ⟨P, p, rfl, hP, hx5⟩
  have hr5 := HR.out _ _ hx5 hr4
  have by5 := by4.ext hx5
  have hS5' := hS4'.ext hx5
  clear x0 x1 cs
  have y0 := by5.cell 0
  have y1 := by5.cell 1
  have cs := CS2.out WA' TA' wc' tc2 w5 hr5 hS5'
  go_wp2_with fail
  with_reducible refine cs.mono ?_
  rintro e w6 ⟨P', p', rfl, hP', hx6⟩
  have hx56 := hx5.trans hx6
  have hr6 := HR.out _ _ hx6 hr5
  have hS6 := hS4.ext hx56
  have hT6 := Rd.ext hT4 hx56
  have hS6' := hS4'.ext hx56
  have hT6' := Rd.ext hT4' hx56
  have hP6 := Rd.ext hP hx6
  have BX := Lib.hid (bx4.ext hx56); have BY := Lib.hid (by4.ext hx56); have BZ := Lib.hid (bz4.ext hx56)
  have hx06 := hxx4.trans hx56
  have HS := Lib.hid hS6; have HT := Lib.hid hT6; have HS' := Lib.hid hS6'; have HT' := Lib.hid hT6'; have HP := Lib.hid hP6; have HP' := Lib.hid hP'
  clear y0 y1 cs by5 by4 bx4 bz4 hS5' hr5 hr4 hx5 hx6 hx56 hxx4 hS4 hT4 hS4' hT4' hP hP' hS6 hT6 hS6' hT6' hP6
  go_upto_region 5 with fail
  have hcur : Ext w6 w6.drew := (Ext.refl w6).drew
  have x0 := BX.out.cell 0
  have x1 := BX.out.cell 1
  have y0 := BY.out.cell 0
  have y1 := BY.out.cell 1
  have z0 := BZ.out.cell 0
  have z1 := BZ.out.cell 1
  go_region_held3 (fun w' => (w'.cell? ⟨XB, 0, none⟩ = some (.slice WA N wc) ∧ w'.cell? ⟨XB, 1, none⟩ = some (.slice TA n1 tc)) ∧ (w'.cell? ⟨YB, 0, none⟩ = some (.slice WA' N wc') ∧ w'.cell? ⟨YB, 1, none⟩ = some (.slice TA' n1 tc2)) ∧ w'.cell? ⟨Z, 0, none⟩ = some (.slice BA bn bc) ∧ w'.cell? ⟨Z, 1, none⟩ = some (.slice BT tn tc'))
    (first | (exact ⟨⟨ecell x0 hcur, ecell x1 hcur⟩, ⟨ecell y0 hcur, ecell y1 hcur⟩, ecell z0 hcur, ecell z1 hcur⟩) | go_keep)
    (first
      | (go_at_call 9; with_reducible refine (CSB.out _ _ _ _ _ _ _ _ _ (HS.out.ext hcur) (HS'.out.ext hcur) (Rd.ext HT.out hcur) (Rd.ext HT'.out hcur)).mono ?_; rintro e wn ⟨rfl, hxn⟩; replace hcur := hcur.trans hxn)
      | (go_at_call 10; with_reducible refine (CSI.out _ _ _ _ _ (Rd.ext HP.out hcur) (Rd.ext HP'.out hcur)).mono ?_; rintro e wn ⟨rfl, hxn⟩; replace hcur := hcur.trans hxn)
      | (go_at_call 11; with_reducible refine (CG.out _ (HR.out _ _ hcur hr6)).mono ?_; rintro e wn ⟨rfl, hxn⟩; replace hcur := hcur.trans hxn)
      | (go_at_call 12; with_reducible refine (CG2.out _ (HR.out _ _ hcur hr6)).mono ?_; rintro e wn ⟨rfl, hxn⟩; replace hcur := hcur.trans hxn)
      | (go_at_call 13; with_reducible refine (CL.out _ (HR.out _ _ hcur hr6)).mono ?_; rintro e wn ⟨rfl, hxn⟩; replace hcur := hcur.trans hxn))
  all_goals
    go_wp2_with fail
    go_ret
    exact ⟨by simp, hx06.trans hcur⟩
end Go.Proofs.YtjfdlibceldanabDoor
