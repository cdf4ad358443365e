/- TopLonger: the law's walk. -/
import Derived.Test.YtjfdlibceldanaaGreatDoorShA
import Derived.Test.YtjfdlibceldanaaGreatDoorUpB
namespace Go.Proofs.YtjfdlibceldanaaGreatDoor
open Go.RowKit Go.Sort Tx En Wv Gu

theorem catL_eq (a b : List UInt8) : (ByteArray.mk a.toArray ++ ByteArray.mk b.toArray) = ByteArray.mk (a ++ b).toArray := by
  apply ByteArray.ext
  simp [ByteArray.data_append]
set_option maxHeartbeats 4000000 in
set_option maxRecDepth 100000 in
theorem tlong_no (s a b : List UInt8) (hs : s.length ≤ 9223372036854775807) (m : Int) (w : World) (hm : w.cell? ⟨0, 0, none⟩ = some (.int .i64 m)) (h : errF s ≠ 0) :
    Calls Tryz.prog 3 #[str s, str a, str b] w fun e w' => e = .returned (.bool true) ∧ Ext w w' := by
  have co : Calls Tryz.prog 5 #[str s] w fun e w' => e = .returned (.tuple #[noShelf, .int .i64 (errF s : Nat)]) ∧ Ext w w' := by
    refine (open_calls s hs m w hm).mono ?_
    rintro e w' (⟨_, h1, h2⟩ | ⟨h1, _⟩)
    · exact ⟨h1, h2⟩
    · exact absurd h1 h
  obtain ⟨er, her⟩ : ∃ er, errF s = er := ⟨_, rfl⟩
  rw [her] at co h
  have h' : (((er : Nat) : Int) != 0) = true := by simp; omega
  have CO := Lib.hid co; have HM := Lib.hid hm
  have CA := Lib.hid (fun w hm => alive_calls m w hm)
  clear co hm her
  go_enter Tryz.func3, Tryz.ntmps3
  go_wp2_with fail
  with_reducible refine CO.out.mono ?_
  rintro e w1 ⟨rfl, hx1⟩
  go_upto_region 2 with fail
  generalize hW : World.alloc w1 _ = W
  have hx := hx1.trans (ext_of_alloc hW)
  generalize w1.heap.size = g at *
  clear hW hx1
  have ca := CA.out W (ecell HM.out hx)
  go_wp2_with fail
  with_reducible refine ca.mono ?_
  rintro e w3 ⟨rfl, hx3⟩
  go_wp2_with fail
  go_ret
  exact ⟨rfl, hx.trans hx3⟩

set_option maxHeartbeats 8000000 in
set_option maxRecDepth 100000 in
theorem tlong_walk (s a b ab : List UInt8) (hab : ab = a ++ 32 :: b) (hl : a.length + b.length ≤ 1048576) (m : Int) (w : World) (hm : w.cell? ⟨0, 0, none⟩ = some (.int .i64 m)) (N n1 m2 r ra rb : Nat) (h1 : r ≤ ra) (h2 : r ≤ rb)
    (R : World → Option Addr → Option Addr → Option Addr → Option Addr → Option Addr → Nat → Nat → Nat → Nat → Nat → Prop)
    (hR : ∀ w w' a b c d e f g h i j, Ext w w' → R w a b c d e f g h i j → R w' a b c d e f g h i j)
    (co : Calls Tryz.prog 5 #[str s] w fun e w' => ∃ WA TA E B D wc tc ec bc dc, e = .returned (.tuple #[shV WA TA N wc n1 tc E B D m2 ec bc dc, .int .i64 0]) ∧ R w' WA TA E B D wc tc ec bc dc ∧ Ext w w')
    (cab : ∀ WA TA E B D wc tc ec bc dc w, R w WA TA E B D wc tc ec bc dc → Calls Tryz.prog 7 #[shV WA TA N wc n1 tc E B D m2 ec bc dc, str ab] w fun e w' => e = .returned (.int .i64 r) ∧ Ext w w')
    (ca : ∀ WA TA E B D wc tc ec bc dc w, R w WA TA E B D wc tc ec bc dc → Calls Tryz.prog 7 #[shV WA TA N wc n1 tc E B D m2 ec bc dc, str a] w fun e w' => e = .returned (.int .i64 ra) ∧ Ext w w')
    (cb : ∀ WA TA E B D wc tc ec bc dc w, R w WA TA E B D wc tc ec bc dc → Calls Tryz.prog 7 #[shV WA TA N wc n1 tc E B D m2 ec bc dc, str b] w fun e w' => e = .returned (.int .i64 rb) ∧ Ext w w') :
    Calls Tryz.prog 3 #[str s, str a, str b] w fun e w' => e = .returned (.bool true) ∧ Ext w w' := by
  have hcat : (ByteArray.mk a.toArray ++ ByteArray.mk #[32]) ++ ByteArray.mk b.toArray = ByteArray.mk ab.toArray := by
    rw [show (ByteArray.mk #[32]) = ⟨([32] : List UInt8).toArray⟩ from rfl, catL_eq, catL_eq, hab]
    simp
  have CO := Lib.hid co; have CAB := Lib.hid cab; have CA := Lib.hid ca; have CB := Lib.hid cb; have HM := Lib.hid hm; have HR := Lib.hid hR; have HC := Lib.hid hcat
  have CAL := Lib.hid (fun w hm => alive_calls m w hm)
  clear co cab ca cb hm hR hab hcat
  go_enter Tryz.func3, Tryz.ntmps3
  go_wp2_with fail
  with_reducible refine CO.out.mono ?_
  rintro e w1 ⟨WA, TA, E, B, D, wc, tc, ec, bc, dc, rfl, hr1, hx1⟩
  go_upto_region 2 with fail
  generalize hW : World.alloc w1 _ = W
  have bx := bk_of hW
  have hx := hx1.trans (ext_of_alloc hW)
  have hr := HR.out _ _ _ _ _ _ _ _ _ _ _ _ (ext_of_alloc hW) hr1
  generalize w1.heap.size = g at *
  clear hW hx1 hr1 CO
  have z0 := bx.cell 0
  have z1 := bx.cell 1
  have z2 := bx.cell 2
  have z3 := bx.cell 3
  have z4 := bx.cell 4
  have z5 := bx.cell 5
  have z6 := bx.cell 6
  have cab := CAB.out _ _ _ _ _ _ _ _ _ _ W hr
  go_wp2_with fail
  rw [HC.out]
  with_reducible refine cab.mono ?_
  rintro e w2 ⟨rfl, hx2⟩
  have hr2 := HR.out _ _ _ _ _ _ _ _ _ _ _ _ hx2 hr
  have bx2 := bx.ext hx2
  have ca := CA.out _ _ _ _ _ _ _ _ _ _ w2 hr2
  clear z0 z1 z2 z3 z4 z5 z6 bx cab hr
  have z0 := bx2.cell 0
  have z1 := bx2.cell 1
  have z2 := bx2.cell 2
  have z3 := bx2.cell 3
  have z4 := bx2.cell 4
  have z5 := bx2.cell 5
  have z6 := bx2.cell 6
  go_wp2_with fail
  with_reducible refine ca.mono ?_
  rintro e w3 ⟨rfl, hx3⟩
  have hr3 := HR.out _ _ _ _ _ _ _ _ _ _ _ _ hx3 hr2
  have bx3 := bx2.ext hx3
  have cb := CB.out _ _ _ _ _ _ _ _ _ _ w3 hr3
  clear z0 z1 z2 z3 z4 z5 z6 bx2 ca hr2
  have z0 := bx3.cell 0
  have z1 := bx3.cell 1
  have z2 := bx3.cell 2
  have z3 := bx3.cell 3
  have z4 := bx3.cell 4
  have z5 := bx3.cell 5
  have z6 := bx3.cell 6
  go_wp2_with fail
  with_reducible refine cb.mono ?_
  rintro e w4 ⟨rfl, hx4⟩
  have hx04 := ((hx.trans hx2).trans hx3).trans hx4
  have cal := CAL.out w4 (ecell HM.out hx04)
  clear z0 z1 z2 z3 z4 z5 z6 bx3 cb
  go_wp2_with fail
  with_reducible refine cal.mono ?_
  rintro e w5 ⟨rfl, hx5⟩
  go_wp2_with fail
  go_ret
  exact ⟨rfl, hx04.trans hx5⟩
theorem tlong_calls (s a b : List UInt8) (hs : s.length ≤ 9223372036854775807) (hab : a.length + b.length ≤ 1048576) (m : Int) (w : World) (hm : w.cell? ⟨0, 0, none⟩ = some (.int .i64 m)) :
    Calls Tryz.prog 3 #[str s, str a, str b] w fun e w' => e = .returned (.bool true) ∧ Ext w w' := by
  by_cases h : errF s = 0
  · obtain ⟨h1, h2⟩ := cnt_longer s a b
    refine tlong_walk s a b _ rfl hab m w hm (wordsF s).length (bT s).length ((wordsF s).length + 3) (cntF s (a ++ 32 :: b)) (cntF s a) (cntF s b) h1 h2
      (fun w WA TA E B D wc tc ec bc dc => ShR m s WA TA E B D wc tc ec bc dc w) (fun _ _ _ _ _ _ _ _ _ _ _ _ hx r => r.ext m hx) ?_ ?_ ?_ ?_
    · refine (open_calls s hs m w hm).mono ?_
      rintro e w' (⟨h', _⟩ | ⟨_, WA, TA, E, B, D, wc, tc, ec, bc, dc, rfl, hs, hx⟩)
      · exact absurd h h'
      · exact ⟨WA, TA, E, B, D, wc, tc, ec, bc, dc, rfl, ⟨ecell hm hx, hs⟩, hx⟩
    · intro WA TA E B D wc tc ec bc dc w r
      exact scount_calls h _ (by simp; omega) m w r
    · intro WA TA E B D wc tc ec bc dc w r
      exact scount_calls h a (by omega) m w r
    · intro WA TA E B D wc tc ec bc dc w r
      exact scount_calls h b (by omega) m w r
  · exact tlong_no s a b hs m w hm h

section
open Go.ChangeShapes Go.WideShapes Go.ChangeAt Go.ChangeMaps
variable {H : Type} {enc : TypeId × Value → H} {W : World}
set_option maxRecDepth 100000 in
theorem topLonger_calls {r : Reach} {base : Nat} {v0 v1 v2 : Value} {d0 d1 d2 : DataW H} {p0 p1 p2 : List MemPlace} (hsh : W.ShapedOpen Tryz.prog) (hk : Rows.uptoSmall H ([d0, d1, d2] ++ []) = true)
    (_hsz : (DataW.weightsEach Tryz.prog [9, 9, 9] [d0, d1, d2]).all (· ≤ reachBytes) = true)
    (hv0 : Value.okWide Tryz.prog W r base 9 v0) (h0 : DataW.Trod enc Tryz.prog W 0 (fun _ => true) true 9 v0 d0 p0)
    (hv1 : Value.okWide Tryz.prog W r base 9 v1) (h1 : DataW.Trod enc Tryz.prog W 0 (fun _ => true) true 9 v1 d1 p1)
    (hv2 : Value.okWide Tryz.prog W r base 9 v2) (h2 : DataW.Trod enc Tryz.prog W 0 (fun _ => true) true 9 v2 d2 p2) :
    Calls Tryz.prog 3 #[v0, v1, v2] W fun e w' => e = .returned (.bool true) ∧ Ext W w' := by
  obtain ⟨a, b, c, rfl, rfl, rfl, hl⟩ := open_three hk hv0 h0 hv1 h1 hv2 h2
  obtain ⟨m, hm⟩ := Tryz.laysM146.s1_3 W hsh
  exact tlong_calls a b c (by omega) (by omega) m W hm
end
end Go.Proofs.YtjfdlibceldanaaGreatDoor
