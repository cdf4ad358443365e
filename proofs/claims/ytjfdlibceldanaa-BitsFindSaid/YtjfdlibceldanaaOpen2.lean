/- The shape of an argument []bool. -/
import Derived.Test.YtjfdlibceldanaaOpen
import Derived.Test.YtjfdlibceldanaaBits
namespace Go.Proofs.Ytjfdlibceldanaa
open Go.ChangeShapes Go.WideShapes Go.ChangeAt Go.RowKit

section
variable {H : Type} {enc : TypeId × Value → H} {W : World}
set_option maxRecDepth 100000 in
theorem open_bools {v : Value} {d : DataW H} {p : List MemPlace} {r : Reach} {base : Nat} (hv : Value.okWide Try.prog W r base 27 v) (h : DataW.Trod enc Try.prog W 0 (fun _ => true) true 27 v d p)
    (hw : (d.weights Try.prog 27).all (· ≤ reachBytes) = true) :
    ∃ (A : Option Addr) (c : Nat) (xs : List Bool), v = .slice A xs.length c ∧ Rd W A xs.length (fun j => .bool (nth xs j)) ∧ xs.length ≤ 140737488351232 ∧ (A = none → c = 0) := by
  obtain ⟨a0, len, cap, rfl⟩ := okWide_slice Try.underlying27 hv
  obtain ⟨fuel, hf⟩ := h
  exact opened_bools Try.underlying27 Try.underlying4 (by kernel_rfl) (by kernel_rfl) (by simpa [Value.cells] using hf) hw
end
end Go.Proofs.Ytjfdlibceldanaa
