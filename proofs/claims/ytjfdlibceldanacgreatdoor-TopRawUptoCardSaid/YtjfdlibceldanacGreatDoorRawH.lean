/- TopRaw: of whatever shelf, every call ends: the law's walk. -/
import Derived.Test.YtjfdlibceldanacGreatDoorRawE1
import Derived.Test.YtjfdlibceldanacGreatDoorRawS1
import Derived.Test.YtjfdlibceldanacGreatDoorUpS
namespace Go.Proofs.YtjfdlibceldanacGreatDoor.Raw
open Go.Proofs.YtjfdlibceldanacGreatDoor Go.RowKit Go.Sort Tx En Wv Gu Ri

/-- Are all words of the book, as the search finds? -/
def inR (W : List (List UInt8)) (ws : List UInt8) : Prop := ∀ t ∈ toks ws, t = [10] ∨ foundR W t
instance (W : List (List UInt8)) (ws : List UInt8) : Decidable (inR W ws) := inferInstanceAs (Decidable (∀ t ∈ toks ws, t = [10] ∨ foundR W t))
def sgR (W : List (List UInt8)) (ws : List UInt8) : List Int := (sigsR W (toks ws) (toks ws).length).map Int.ofNat
theorem sgR_len (W : List (List UInt8)) (ws : List UInt8) (h : ws.length ≤ 16777216) : (sgR W ws).length ≤ 50331648 := by
  have h1 := toks_len ws
  have h2 : (ws.flatMap nl).length ≤ 50331648 := by
    rw [nl_count]; have := List.count_le_length (a := 10) (l := ws); omega
  unfold sgR
  rw [List.length_map, sigsR_len (Nat.le_refl _)]
  omega
theorem sgR_ok (W : List (List UInt8)) (hW : W.length ≤ 1048576) (ws : List UInt8) : signOk (sgR W ws) := fun x hx => by
  unfold sgR sigsR at hx
  obtain ⟨k, hk, rfl⟩ := List.mem_map.1 hx
  obtain ⟨t, _, rfl⟩ := List.mem_map.1 hk
  have h1 := numR_le W t
  unfold signVR
  split
  · exact ⟨by decide, by decide⟩
  · show -9223372036854775808 ≤ ((numR W t + 2 : Nat) : Int) ∧ ((numR W t + 2 : Nat) : Int) < 9223372036854775807
    omega
/-- Words' signs, in memory. -/
def SgR (W : List (List UInt8)) (ws : List UInt8) (w : World) (P : Option Addr) (p : Nat) : Prop := (P = none → p = 0) ∧ (sgR W ws).length ≤ p ∧ Rd w P (sgR W ws).length (fun k => .int .i64 (nth (sgR W ws) k))
theorem SgR.ext {W : List (List UInt8)} {ws : List UInt8} {w w' : World} {P : Option Addr} {p : Nat} (hx : Ext w w') (r : SgR W ws w P p) : SgR W ws w' P p := ⟨r.1, r.2.1, r.2.2.ext hx⟩
theorem xsigns_calls (W : List (List UInt8)) (hWl : W.length ≤ 1048576) (WA TA : Option Addr) (wc tn tc : Nat) (ws : List UInt8) (hs : ws.length ≤ 16777216) (m : Int) (w : World) (hm : w.cell? ⟨0, 0, none⟩ = some (.int .i64 m)) (hr : RdS w WA W) :
    Calls Tryz.prog 9 #[bookV WA TA W.length wc tn tc, str ws] w (SgRet (decide (inR W ws)) (sgR W ws).length (SgR W ws) w) := by
  refine (signs_calls W hWl WA TA wc tn tc ws hs m w hm hr).mono ?_
  unfold SgRet
  rintro e w' (⟨h1, P, p, rfl, h2, h3, h4, h5⟩ | ⟨⟨t, ht, hn⟩, rfl, hx⟩)
  · have e1 : (sgR W ws).length = (sigsR W (toks ws) (toks ws).length).length := List.length_map _
    refine Or.inl ⟨decide_eq_true h1, P, p, by rw [e1], ⟨h2, by rw [e1]; exact h5, ?_⟩, h4⟩
    exact rd_castS h3
  · exact Or.inr ⟨decide_eq_false (fun q => hn (q t ht)), rfl, hx⟩

set_option maxHeartbeats 4000000 in
set_option maxRecDepth 100000 in
theorem traw_walk (sv : Value) (c0 c1 c2 c3 c4 c5 c6 : Value) (hsv : sv = .agg #[c0, c1, c2, c3, c4, c5, c6]) (ws wd : List UInt8) (w : World) (R : World → Prop) (hR : ∀ w w', Ext w w' → R w → R w') (h0 : R w)
    (cc : ∀ w, R w → Calls Tryz.prog 4 #[.agg #[c0, c1, c2, c3, c4, c5, c6], str ws] w fun e w' => ∃ v, e = .returned v ∧ Ext w w')
    (cp : ∀ w, R w → Calls Tryz.prog 5 #[.agg #[c0, c1, c2, c3, c4, c5, c6], str ws] w fun e w' => ∃ v, e = .returned v ∧ Ext w w')
    (cl : ∀ w, R w → Calls Tryz.prog 6 #[.agg #[c0, c1, c2, c3, c4, c5, c6], str ws, str wd] w fun e w' => ∃ v, e = .returned v ∧ Ext w w')
    (cg : ∀ w, R w → Calls Tryz.prog 7 #[.agg #[c0, c1, c2, c3, c4, c5, c6], str ws] w fun e w' => ∃ v, e = .returned v ∧ Ext w w')
    (ca : ∀ w, R w → Calls Tryz.prog 8 #[] w fun e w' => e = .returned (.bool true) ∧ Ext w w') :
    Calls Tryz.prog 3 #[sv, str ws, str wd] w fun e w' => e = .returned (.bool true) ∧ Ext w w' := by
  subst hsv
  have CC := Lib.hid cc; have CP := Lib.hid cp; have CL := Lib.hid cl; have CG := Lib.hid cg; have CA := Lib.hid ca; have HR := Lib.hid hR
  clear cc cp cl cg ca hR
  go_enter Tryz.func3, Tryz.ntmps3
  go_upto_region 1 with fail
  generalize hW : World.alloc w _ = W
  have bx := bk_of hW
  have hx := ext_of_alloc hW
  have hr := HR.out _ _ hx h0
  generalize w.heap.size = g at *
  clear hW h0
  have z0 := bx.cell 0
  have z1 := bx.cell 1
  have z2 := bx.cell 2
  have z3 := bx.cell 3
  have z4 := bx.cell 4
  have z5 := bx.cell 5
  have z6 := bx.cell 6
  have cc := CC.out W hr
  go_wp2_with fail
  with_reducible refine cc.mono ?_
  rintro e w1 ⟨v1, rfl, hx1⟩
  have bx1 := bx.ext hx1
  have hx01 := hx.trans hx1
  have hr1 := HR.out _ _ hx1 hr
  clear z0 z1 z2 z3 z4 z5 z6 cc hx hr bx hx1
  have z0 := bx1.cell 0
  have z1 := bx1.cell 1
  have z2 := bx1.cell 2
  have z3 := bx1.cell 3
  have z4 := bx1.cell 4
  have z5 := bx1.cell 5
  have z6 := bx1.cell 6
  have cc := CP.out w1 hr1
  go_wp2_with fail
  with_reducible refine cc.mono ?_
  rintro e w2 ⟨v2, rfl, hx2⟩
  have bx2 := bx1.ext hx2
  have hx02 := hx01.trans hx2
  have hr2 := HR.out _ _ hx2 hr1
  clear z0 z1 z2 z3 z4 z5 z6 cc hx01 hr1 bx1 hx2
  have z0 := bx2.cell 0
  have z1 := bx2.cell 1
  have z2 := bx2.cell 2
  have z3 := bx2.cell 3
  have z4 := bx2.cell 4
  have z5 := bx2.cell 5
  have z6 := bx2.cell 6
  have cc := CL.out w2 hr2
  go_wp2_with fail
  with_reducible refine cc.mono ?_
  rintro e w3 ⟨v3, rfl, hx3⟩
  have bx3 := bx2.ext hx3
  have hx03 := hx02.trans hx3
  have hr3 := HR.out _ _ hx3 hr2
  clear z0 z1 z2 z3 z4 z5 z6 cc hx02 hr2 bx2 hx3
  have z0 := bx3.cell 0
  have z1 := bx3.cell 1
  have z2 := bx3.cell 2
  have z3 := bx3.cell 3
  have z4 := bx3.cell 4
  have z5 := bx3.cell 5
  have z6 := bx3.cell 6
  have cc := CG.out w3 hr3
  go_wp2_with fail
  with_reducible refine cc.mono ?_
  rintro e w4 ⟨v4, rfl, hx4⟩
  have hx04 := hx03.trans hx4
  have hr4 := HR.out _ _ hx4 hr3
  clear z0 z1 z2 z3 z4 z5 z6 cc hx03 hr3 bx3 hx4
  have ca := CA.out w4 hr4
  go_wp2_with fail
  with_reducible refine ca.mono ?_
  rintro e w5 ⟨rfl, hx5⟩
  go_wp2_with fail
  go_ret
  exact ⟨rfl, hx04.trans hx5⟩
/-- What every call of the law reads. -/
def RwR (m : Int) (WA E B D : Option Addr) (W : List (List UInt8)) (es ls : List Int) (x : PW) (w : World) : Prop :=
  w.cell? ⟨0, 0, none⟩ = some (.int .i64 m) ∧ RdS w WA W ∧ RdL w B x.L ∧ Rd w D ls.length (fun j => .int .i64 (nth ls j)) ∧ Rd w E es.length (fun j => .int .i64 (nth es j))
theorem RwR.ext {m : Int} {WA E B D : Option Addr} {W : List (List UInt8)} {es ls : List Int} {x : PW} {w w' : World} (hx : Ext w w') (r : RwR m WA E B D W es ls x w) : RwR m WA E B D W es ls x w' :=
  ⟨ecell r.1 hx, r.2.1.ext hx, r.2.2.1.ext hx, r.2.2.2.1.ext hx, r.2.2.2.2.ext hx⟩
theorem traw_calls (ws wd : List UInt8) (hws : ws.length ≤ 1048576) (hwd : wd.length ≤ 1048576) (WA TA E B D : Option Addr) (wc tc ec bc dc : Nat) (W : List (List UInt8)) (ts es ls : List Int) (x : PW) (m : Int) (w : World) (hm : w.cell? ⟨0, 0, none⟩ = some (.int .i64 m))
    (h : ShAny w WA TA E B D wc ec bc dc W ts es ls x) :
    Calls Tryz.prog 3 #[.agg #[.slice WA W.length wc, .slice TA ts.length tc, .slice E es.length ec, .int .i64 x.N, .int .i64 x.Deep, .slice B x.L.length bc, .slice D ls.length dc], str ws, str wd] w fun e w' => e = .returned (.bool true) ∧ Ext w w' := by
  obtain ⟨cf, kf, kb, hcf, hkf⟩ := wave_ex x h.xo h.xp
  have hW := h.wl
  have hI : Ix x.N x.Deep x.L.length es.length ls.length ls es cf kf E B D ec bc dc (fun w => RdL w B x.L ∧ Rd w D ls.length (fun j => .int .i64 (nth ls j)) ∧ Rd w E es.length (fun j => .int .i64 (nth es j))) := {
    ext := fun _ _ hx r => ⟨r.1.ext hx, r.2.1.ext hx, r.2.2.ext hx⟩
    n4 := h.el
    m4 := h.ll
    ll := rfl
    li := h.li
    le := rfl
    ce := h.ecap
    en := h.en
    rd := fun _ r => r.2.1
    re := fun _ r => r.2.2
    cc := fun y i w r => hcf B bc y i w r.1
    ck := fun f t w r => hkf B bc f t w r.1
    kb := kb }
  have hl1 := sgR_len W ws (by omega)
  have hl2 := sgR_len W wd (by omega)
  have hok := sgR_ok W hW ws
  refine traw_walk _ _ _ _ _ _ _ _ rfl ws wd w (RwR m WA E B D W es ls x)
    (fun _ _ hx r => RwR.ext hx r) ⟨hm, h.wd, h.xv, h.lr, h.er⟩ ?_ ?_ ?_ ?_ (fun w r => alive_calls m w r.1)
  · intro w r
    refine (scount_walk (decide (inR W ws)) x.N x.Deep ws W.length es.length ls.length x.L.length ts.length (sgR W ws).length (if inR W ws then countR cf es.length ls.length ls (sgR W ws) else 0) WA TA E B D wc tc ec bc dc w (RwR m WA E B D W es ls x) (SgR W ws)
      (fun _ _ hx r => RwR.ext hx r) r (fun w r => xsigns_calls W hW WA TA wc _ tc ws (by omega) m w r.1 r.2.1) (fun hb P p w hP r => ?_) (fun hb => by rw [if_neg (of_decide_eq_false hb)])).mono ?_
    · rw [if_pos (of_decide_eq_true hb)]
      exact xcount_calls hI _ hok (by omega) P p w r.2.2 hP.2.2
    · rintro e w' ⟨rfl, hx⟩
      exact ⟨_, rfl, hx⟩
  · intro w r
    refine (splaces_walk (decide (inR W ws)) x.N x.Deep ws W.length es.length ls.length x.L.length ts.length (sgR W ws).length (countR cf es.length ls.length ls (sgR W ws)) WA TA E B D wc tc ec bc dc w (RwR m WA E B D W es ls x) (SgR W ws)
      (fun _ _ hx r => RwR.ext hx r) r (fun w r => xsigns_calls W hW WA TA wc _ tc ws (by omega) m w r.1 r.2.1) (fun hb P p w hP r => xplaces_calls hI _ hok (by omega) P p w r.2.2 hP.2.2)).mono ?_
    rintro e w' ⟨A, k, c, rfl, hx⟩
    exact ⟨_, rfl, hx⟩
  · intro w r
    refine (slikely_walk (decide (inR W ws)) (decide (inR W wd)) x.N x.Deep ws wd W.length es.length ls.length x.L.length ts.length (sgR W ws).length (sgR W wd).length WA TA E B D wc tc ec bc dc w (RwR m WA E B D W es ls x) (SgR W ws) (SgR W wd) (nth (sgR W wd) 0) (likR cf kf es.length ls.length ls (sgR W ws) (nth (sgR W wd) 0))
      (if inR W ws ∧ inR W wd ∧ (sgR W wd).length = 1 then likR cf kf es.length ls.length ls (sgR W ws) (nth (sgR W wd) 0) else (0, 0)) (if inR W ws ∧ inR W wd ∧ (sgR W wd).length = 1 then 0 else 3)
      (fun _ _ hx r => RwR.ext hx r) (fun _ _ _ _ hx r => SgR.ext hx r) r (fun w r => xsigns_calls W hW WA TA wc _ tc ws (by omega) m w r.1 r.2.1) (fun w r => xsigns_calls W hW WA TA wc _ tc wd (by omega) m w r.1 r.2.1)
      (fun w P p hP hl => ?_) (fun _ _ _ P p w hP r => xlikely_calls hI _ hok (by omega) P p hP.2.1 hP.1 _ w r.2.2 hP.2.2) (fun h1 h2 h3 => ?_) (fun hn => ?_)).mono ?_
    · obtain ⟨b, o, hA, _, hc⟩ := hP.2.2 (by omega)
      exact ⟨b, o, hA, hc 0 (by omega)⟩
    · have h1 := of_decide_eq_true h1
      have h2 := of_decide_eq_true h2
      rw [if_pos ⟨h1, h2, h3⟩, if_pos ⟨h1, h2, h3⟩]
      exact ⟨rfl, rfl⟩
    · have hn2 : ¬ (inR W ws ∧ inR W wd ∧ (sgR W wd).length = 1) := fun q => hn ⟨decide_eq_true q.1, decide_eq_true q.2.1, q.2.2⟩
      rw [if_neg hn2, if_neg hn2]
      exact ⟨rfl, rfl⟩
    · rintro e w' ⟨rfl, hx⟩
      exact ⟨_, rfl, hx⟩
  · intro w r
    by_cases ht : ts.length = 0
    · rw [ht]
      refine (sguess_none (decide (inR W ws)) x.N x.Deep ws W.length es.length ls.length x.L.length (sgR W ws).length WA TA E B D wc tc ec bc dc w (RwR m WA E B D W es ls x) (SgR W ws)
        (fun _ _ hx r => RwR.ext hx r) r (fun w r => xsigns_calls W hW WA TA wc _ tc ws (by omega) m w r.1 r.2.1)).mono ?_
      rintro e w' ⟨rfl, hx⟩
      exact ⟨_, rfl, hx⟩
    · have hll := h.ll
      obtain ⟨out, hout⟩ : ∃ out : List UInt8, (if inR W ws then (if (gF (fun i => likR cf kf es.length ls.length ls (sgR W ws) ((i : Int) + 1)) (ls.length - 2)).1 = 0 ∨ W.length < (gF (fun i => likR cf kf es.length ls.length ls (sgR W ws) ((i : Int) + 1)) (ls.length - 2)).1 then [10] else nth W ((gF (fun i => likR cf kf es.length ls.length ls (sgR W ws) ((i : Int) + 1)) (ls.length - 2)).1 - 1)) else []) = out := ⟨_, rfl⟩
      obtain ⟨er, her⟩ : ∃ er : Nat, (if inR W ws then 0 else 3) = er := ⟨_, rfl⟩
      refine (sguess_walk (decide (inR W ws)) x.N x.Deep ws W.length es.length ls.length x.L.length ts.length (sgR W ws).length (ls.length - 2) WA TA E B D wc tc ec bc dc w (RwR m WA E B D W es ls x) (SgR W ws) (fun i => likR cf kf es.length ls.length ls (sgR W ws) ((i : Int) + 1)) W rfl (by omega) (by omega) hW
        (fun _ _ hx r => RwR.ext hx r) (fun _ _ _ _ hx r => SgR.ext hx r) r (fun _ r => r.2.1) (fun w r => xsigns_calls W hW WA TA wc _ tc ws (by omega) m w r.1 r.2.1)
        (fun hb P p w hP r => ?_) out er (fun hb => ?_) (fun hb => ?_)).mono ?_
      · by_cases hm2 : ls.length < 2
        · exact all_none x.N x.Deep x.L.length es.length ls.length E B D ec bc dc hm2 P _ p w _
        · exact all_walk x.N x.Deep x.L.length es.length ls.length E B D ec bc dc (by omega) hll P _ p w (fun w => (RdL w B x.L ∧ Rd w D ls.length (fun j => .int .i64 (nth ls j)) ∧ Rd w E es.length (fun j => .int .i64 (nth es j))) ∧ Rd w P (sgR W ws).length (fun k => .int .i64 (nth (sgR W ws) k)))
            (fun _ _ hx r => ⟨⟨r.1.1.ext hx, r.1.2.1.ext hx, r.1.2.2.ext hx⟩, r.2.ext hx⟩) ⟨r.2.2, hP.2.2⟩ _ (fun i w hi r => xlikely_calls hI _ hok (by omega) P p hP.2.1 hP.1 _ w r.1 r.2)
      · have := of_decide_eq_false hb
        rw [← hout, ← her, if_neg this, if_neg this]
        exact ⟨rfl, rfl⟩
      · have := of_decide_eq_true hb
        rw [← hout, ← her, if_pos this, if_pos this]
        exact ⟨rfl, rfl⟩
      · rintro e w' ⟨rfl, hx⟩
        exact ⟨_, rfl, hx⟩

end Go.Proofs.YtjfdlibceldanacGreatDoor.Raw
namespace Go.Proofs.YtjfdlibceldanacGreatDoor
section
open Go.ChangeShapes Go.WideShapes Go.ChangeAt Go.ChangeMaps
variable {H : Type} {enc : TypeId × Value → H} {W : World}
set_option maxRecDepth 100000 in
theorem topRaw_calls {r : Reach} {base : Nat} {v0 v1 v2 : Value} {d0 d1 d2 : DataW H} {p0 p1 p2 : List MemPlace} (hsh : W.ShapedOpen Tryz.prog) (hk : Rows.uptoSmall H ([d0, d1, d2] ++ []) = true)
    (_hsz : (DataW.weightsEach Tryz.prog [32, 9, 9] [d0, d1, d2]).all (· ≤ reachBytes) = true)
    (hv0 : Value.okWide Tryz.prog W r base 32 v0) (h0 : DataW.Trod enc Tryz.prog W 0 (fun _ => true) true 32 v0 d0 p0)
    (hv1 : Value.okWide Tryz.prog W r base 9 v1) (h1 : DataW.Trod enc Tryz.prog W 0 (fun _ => true) true 9 v1 d1 p1)
    (hv2 : Value.okWide Tryz.prog W r base 9 v2) (h2 : DataW.Trod enc Tryz.prog W 0 (fun _ => true) true 9 v2 d2 p2) :
    Calls Tryz.prog 3 #[v0, v1, v2] W fun e w' => e = .returned (.bool true) ∧ Ext W w' := by
  obtain ⟨a, rfl, rfl, rfl, _⟩ := open_string Tryz.underlying9 hv1 h1
  obtain ⟨b, rfl, rfl, rfl, _⟩ := open_string Tryz.underlying9 hv2 h2
  have hb := of_decide_eq_true hk
  simp only [List.cons_append, List.nil_append, Rows.uptoBulkAll, Rows.uptoBulk] at hb
  obtain ⟨WA, TA, E, B, D, wc, tc, ec, bc, dc, ws, ts, es, ls, x, rfl, hS⟩ := open_shelf (b := 1048576) hv0 h0 (by omega) (by omega)
  obtain ⟨m, hm⟩ := Tryz.laysM146.s1_3 W hsh
  exact Raw.traw_calls a.data.toList b.data.toList (by omega) (by omega) WA TA E B D wc tc ec bc dc ws ts es ls x m W hm hS
end
end Go.Proofs.YtjfdlibceldanacGreatDoor
