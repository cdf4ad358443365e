/- BitsTells: the law's walk, its cases joined, and its arguments opened. -/
import Derived.Test.YtjfdlibceldanaaBitsTells00
import Derived.Test.YtjfdlibceldanaaBitsTells01
import Derived.Test.YtjfdlibceldanaaBitsTells10
import Derived.Test.YtjfdlibceldanaaBitsTells11
import Derived.Test.YtjfdlibceldanaaBitsTells20
import Derived.Test.YtjfdlibceldanaaBitsTells21
namespace Go.Proofs.Ytjfdlibceldanaa
open Go.ChangeShapes Go.WideShapes Go.ChangeAt Go.RowKit

set_option maxHeartbeats 8000000 in
set_option maxRecDepth 100000 in
theorem bitsTells_walk (l : List Bool) (A : Option Addr) (c : Nat) (i k : Int) (w : World) (hl : l.length ≤ 140737488351232) (hA : A = none → c = 0) (hi : I64 i) (hk : I64 k) (hr : Rd w A l.length (fun j => .bool (nth l j))) :
    Calls Try.prog 5 #[.slice A l.length c, .int .i64 i, .int .i64 k] w fun e w' => e = .returned (.bool true) ∧ Ext w w' := by
  by_cases g0 : 1000 < l.length
  · have g0' : decide ((1000 : Int) < l.length) = true := by simp; omega
    go_enter Try.func5, Try.ntmps5
    go_wp2_with fail
    refine (made_calls _).mono ?_
    rintro e w1 ⟨rfl, hx⟩
    go_wp2_with fail
    go_ret
    exact ⟨rfl, hx⟩
  by_cases h1 : 0 ≤ i
  · by_cases h2 : i < (l.length : Int)
    · by_cases h3 : 0 ≤ k
      · exact bitsTells_00 l A c i k w hl hA hi hk hr g0 h1 h2 h3
      · exact bitsTells_01 l A c i k w hl hA hi hk hr g0 h1 h2 h3
    · by_cases h3 : 0 ≤ k
      · exact bitsTells_10 l A c i k w hl hA hi hk hr g0 h1 h2 h3
      · exact bitsTells_11 l A c i k w hl hA hi hk hr g0 h1 h2 h3
  · by_cases h3 : 0 ≤ k
    · exact bitsTells_20 l A c i k w hl hA hi hk hr g0 h1 h3
    · exact bitsTells_21 l A c i k w hl hA hi hk hr g0 h1 h3

section
variable {H : Type} {enc : TypeId × Value → H} {W : World}
set_option maxRecDepth 100000 in
theorem open_bools {v : Value} {d : DataW H} {p : List MemPlace} {r : Reach} {base : Nat} (hv : Value.okWide Try.prog W r base 27 v) (h : DataW.Trod enc Try.prog W 0 (fun _ => true) true 27 v d p)
    (hw : (d.weights Try.prog 27).all (· ≤ reachBytes) = true) :
    ∃ (A : Option Addr) (c : Nat) (xs : List Bool), v = .slice A xs.length c ∧ Rd W A xs.length (fun j => .bool (nth xs j)) ∧ xs.length ≤ 140737488351232 ∧ (A = none → c = 0) := by
  obtain ⟨a0, len, cap, rfl⟩ := okWide_slice Try.underlying27 hv
  obtain ⟨fuel, hf⟩ := h
  exact opened_bools Try.underlying27 Try.underlying4 (by kernel_rfl) (by kernel_rfl) (by simpa [Value.cells] using hf) hw
set_option maxRecDepth 100000 in
theorem bitsTells_calls {r : Reach} {base : Nat} {v0 v1 v2 : Value} {d0 d1 d2 : DataW H} {p0 p1 p2 : List MemPlace}
    (hsz : (DataW.weightsEach Try.prog [27, 3, 3] [d0, d1, d2]).all (· ≤ reachBytes) = true)
    (hv0 : Value.okWide Try.prog W r base 27 v0) (h0 : DataW.Trod enc Try.prog W 0 (fun _ => true) true 27 v0 d0 p0)
    (hv1 : Value.okWide Try.prog W r base 3 v1) (h1 : DataW.Trod enc Try.prog W 0 (fun _ => true) true 3 v1 d1 p1)
    (hv2 : Value.okWide Try.prog W r base 3 v2) (h2 : DataW.Trod enc Try.prog W 0 (fun _ => true) true 3 v2 d2 p2) :
    Calls Try.prog 5 #[v0, v1, v2] W fun e w' => e = .returned (.bool true) ∧ Ext W w' := by
  simp only [DataW.weightsEach, List.all_append, Bool.and_eq_true] at hsz
  obtain ⟨A, c, l, rfl, hr, hl, hA⟩ := open_bools hv0 h0 hsz.1
  obtain ⟨i, rfl, rfl, rfl, wi⟩ := open_int Try.underlying3 hv1 h1
  obtain ⟨k, rfl, rfl, rfl, wk⟩ := open_int Try.underlying3 hv2 h2
  exact bitsTells_walk l A c i k W hl hA (wf_i64 wi) (wf_i64 wk) hr
end
end Go.Proofs.Ytjfdlibceldanaa
