/- The shape of an argument []bool. -/
import Derived.Test.YtjfdlibceldanabOpen
import Derived.Test.YtjfdlibceldanabBits
namespace Go.Proofs.Ytjfdlibceldanab
open Go.ChangeShapes Go.WideShapes Go.ChangeAt Go.RowKit

section
variable {H : Type} {enc : TypeId × Value → H} {W : World}
set_option maxRecDepth 100000 in
theorem open_ints {v : Value} {d : DataW H} {p : List MemPlace} {r : Reach} {base : Nat} (hv : Value.okWide Try.prog W r base 22 v) (h : DataW.Trod enc Try.prog W 0 (fun _ => true) true 22 v d p)
    (hw : (d.weights Try.prog 22).all (· ≤ reachBytes) = true) :
    ∃ (A : Option Addr) (c : Nat) (xs : List Int), v = .slice A xs.length c ∧ Rd W A xs.length (fun j => .int .i64 (nth xs j)) ∧ (∀ x ∈ xs, I64 x) ∧ xs.length ≤ 17592186044416 ∧ (A = none → c = 0) := by
  obtain ⟨a0, len, cap, rfl⟩ := okWide_slice Try.underlying22 hv
  obtain ⟨fuel, hf⟩ := h
  exact opened_ints Try.underlying22 Try.underlying3 (by kernel_rfl) (by kernel_rfl) (by simpa [Value.cells] using hf) hw
end
end Go.Proofs.Ytjfdlibceldanab
