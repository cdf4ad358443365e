/- TopCounts: over the opened arguments. -/
import Derived.Test.YtjfdlibceldanabGreatDoorTCnt
import Derived.Test.YtjfdlibceldanabGreatDoorUpB
namespace Go.Proofs.YtjfdlibceldanabGreatDoor
open Go.ChangeShapes Go.WideShapes Go.ChangeAt Go.RowKit Go.ChangeMaps
variable {H : Type} {enc : TypeId × Value → H} {W : World}
set_option maxRecDepth 100000 in
theorem topCounts_calls {r : Reach} {base : Nat} {v0 v1 : Value} {d0 d1 : DataW H} {p0 p1 : List MemPlace} (hsh : W.ShapedOpen Tryz.prog) (hk : Rows.uptoSmall H ([d0, d1] ++ []) = true)
    (_hsz : (DataW.weightsEach Tryz.prog [9, 9] [d0, d1]).all (· ≤ reachBytes) = true)
    (hv0 : Value.okWide Tryz.prog W r base 9 v0) (h0 : DataW.Trod enc Tryz.prog W 0 (fun _ => true) true 9 v0 d0 p0)
    (hv1 : Value.okWide Tryz.prog W r base 9 v1) (h1 : DataW.Trod enc Tryz.prog W 0 (fun _ => true) true 9 v1 d1 p1) :
    Calls Tryz.prog 7 #[v0, v1] W fun e w' => e = .returned (.bool true) ∧ Ext W w' := by
  obtain ⟨a, b, rfl, rfl, hl⟩ := open_two hk hv0 h0 hv1 h1
  obtain ⟨m, hm⟩ := Tryz.laysM146.s1_3 W hsh
  exact tcnt_calls a b (by omega) (by omega) m W hm
end Go.Proofs.YtjfdlibceldanabGreatDoor
