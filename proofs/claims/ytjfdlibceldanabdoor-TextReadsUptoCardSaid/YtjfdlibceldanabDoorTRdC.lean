/- TextReads: the law over opened arguments. -/
import Derived.Test.YtjfdlibceldanabDoorTRd
import Derived.Test.YtjfdlibceldanabDoorUpO
namespace Go.Proofs.YtjfdlibceldanabDoor
open Go.RowKit Go.Sort Tx

theorem treads_calls (s ws : List UInt8) (hs : s.length + ws.length ≤ 1048576) (W : List (List UInt8)) (T : List Int) (BA BT : Option Addr) (bc tc : Nat) (hW : W.length ≤ 1048576) (hWl : ∀ x ∈ W, x.length ≤ 9223372036854775807) (hT : T.length ≤ 1048576) (hI : ∀ x ∈ T, I64 x) (htc : T.length ≤ tc)
    (m : Int) (w : World) (hm : w.cell? ⟨0, 0, none⟩ = some (.int .i64 m)) (h1 : RdS w BA W) (h2 : Rd w BT T.length (fun j => .int .i64 (nth T j))) :
    Calls Tryd.prog 3 #[str s, str ws, bookV BA BT W.length bc T.length tc] w fun e w' => e = .returned (.bool true) ∧ Ext w w' := by
  obtain ⟨hl1, hl2⟩ := bk_len s
  have hso := bk_sorted s
  have hsl := sgL_len (bkW s) ws (by omega)
  have hwl : ∀ k, k < W.length → (nth W k).length ≤ 9223372036854775807 := fun k hk => by have := hWl _ (nth_mem hk); omega
  exact treads_walk s ws (errF s) (bkW s).length (bkT s).length (sgL (bkW s) ws).length (bkW s) (bkT s) (sgL (bkW s) ws) (decide (okAll (bkW s) ws)) (goodB W T) BA BT W.length bc T.length tc w
    (fun w => w.cell? ⟨0, 0, none⟩ = some (.int .i64 m) ∧ RdS w BA W ∧ Rd w BT T.length (fun j => .int .i64 (nth T j))) (fun _ _ hx r => ⟨ecell r.1 hx, r.2.1.ext hx, r.2.2.ext hx⟩) ⟨hm, h1, h2⟩
    (fun w r => (read_calls s (by omega) m w r.1).mono fun e w' h => ret_bk h) (fun w r => (rread_calls s (by omega) w).mono fun e w' h => ret_bk h)
    (fun WA TA wc tc w r hr => sg_calls (bkW s) hso hl1 WA TA wc _ tc ws (by omega) m w r.1 hr) (fun WA TA wc tc w r hr => rsg_calls (bkW s) hso hl1 WA TA wc _ tc ws (by omega) m w r.1 hr)
    (fun WA TA WA' TA' wc tc wc' tc' w a1 a2 a3 a4 => sameBook_calls (bkW s) (bkT s) WA TA WA' TA' wc tc wc' tc' w (by omega) (by omega) a1 a2 a3 a4)
    (fun P P' p p' w a1 a2 => (sameInts_calls (sgL (bkW s) ws) (sgL (bkW s) ws) P P' p p' w (by omega) a1 a2).mono fun e w' h => ⟨by rw [h.1, decide_eq_true rfl], h.2.ext⟩)
    (fun w r => tgood_calls W T BA BT bc tc w (by omega) hwl (by omega) r.2.1 htc r.2.2)
    (fun w r => risbook_calls W T BA BT bc tc w hW hwl (by omega) r.2.1 htc hI r.2.2)
    (fun w r => lreads_calls m w r.1)

section
open Go.ChangeShapes Go.WideShapes Go.ChangeAt Go.ChangeMaps
variable {H : Type} {enc : TypeId × Value → H} {W : World}
set_option maxRecDepth 100000 in
theorem textReads_calls {r : Reach} {base : Nat} {v0 v1 v2 : Value} {d0 d1 d2 : DataW H} {p0 p1 p2 : List MemPlace} (hsh : W.ShapedOpen Tryd.prog) (hk : Rows.uptoSmall H ([d0, d1, d2] ++ []) = true)
    (_hsz : (DataW.weightsEach Tryd.prog [9, 9, 25] [d0, d1, d2]).all (· ≤ reachBytes) = true)
    (hv0 : Value.okWide Tryd.prog W r base 9 v0) (h0 : DataW.Trod enc Tryd.prog W 0 (fun _ => true) true 9 v0 d0 p0)
    (hv1 : Value.okWide Tryd.prog W r base 9 v1) (h1 : DataW.Trod enc Tryd.prog W 0 (fun _ => true) true 9 v1 d1 p1)
    (hv2 : Value.okWide Tryd.prog W r base 25 v2) (h2 : DataW.Trod enc Tryd.prog W 0 (fun _ => true) true 25 v2 d2 p2) :
    Calls Tryd.prog 3 #[v0, v1, v2] W fun e w' => e = .returned (.bool true) ∧ Ext W w' := by
  obtain ⟨a, rfl, rfl, rfl, _⟩ := open_string Tryd.underlying9 hv0 h0
  obtain ⟨b, rfl, rfl, rfl, _⟩ := open_string Tryd.underlying9 hv1 h1
  have hb := of_decide_eq_true hk
  simp only [List.cons_append, List.nil_append, Rows.uptoBulkAll, Rows.uptoBulk] at hb
  obtain ⟨WA, TA, wc, tc, ws, ts, rfl, w1, w2, w3, w4, _, t1, t2, t3, t4⟩ := open_book (b := 1048576) hv2 h2 (by omega)
  obtain ⟨m, hm⟩ := Tryd.laysM146.s1_3 W hsh
  exact treads_calls a.data.toList b.data.toList (by omega) ws ts WA TA wc tc (by omega) w2 (by omega) t2 t3 m W hm w1 t1
end
end Go.Proofs.YtjfdlibceldanabDoor
