/- The second form's bound: of two, of three strings. -/
import Derived.Test.YtjfdlibceldanabGreatDoorRows
import Derived.Test.YtjfdlibceldanabGreatDoorTxtQ
import Derived.ChangeMaps5
namespace Go.Proofs.YtjfdlibceldanabGreatDoor
open Go.ChangeShapes Go.WideShapes Go.ChangeAt Go.RowKit Go.ChangeMaps
set_option maxRecDepth 100000 in
theorem bulk2 {H : Type} {a b : List UInt8} (hk : Rows.uptoSmall H [.lit (.string a), .lit (.string b)] = true) : a.length + b.length ≤ 1048576 := by
  have h := of_decide_eq_true hk
  simp only [Rows.uptoBulkAll, Rows.uptoBulk] at h
  omega
set_option maxRecDepth 100000 in
theorem bulk3 {H : Type} {a b c : List UInt8} (hk : Rows.uptoSmall H [.lit (.string a), .lit (.string b), .lit (.string c)] = true) : a.length + b.length + c.length ≤ 1048576 := by
  have h := of_decide_eq_true hk
  simp only [Rows.uptoBulkAll, Rows.uptoBulk] at h
  omega
variable {H : Type} {enc : TypeId × Value → H} {W : World}
set_option maxRecDepth 100000 in
/-- Two strings opened, and their bound. -/
theorem open_two {r : Reach} {base : Nat} {v0 v1 : Value} {d0 d1 : DataW H} {p0 p1 : List MemPlace} (hk : Rows.uptoSmall H ([d0, d1] ++ []) = true)
    (hv0 : Value.okWide Tryz.prog W r base 9 v0) (h0 : DataW.Trod enc Tryz.prog W 0 (fun _ => true) true 9 v0 d0 p0)
    (hv1 : Value.okWide Tryz.prog W r base 9 v1) (h1 : DataW.Trod enc Tryz.prog W 0 (fun _ => true) true 9 v1 d1 p1) :
    ∃ a b : List UInt8, v0 = str a ∧ v1 = str b ∧ a.length + b.length ≤ 1048576 := by
  obtain ⟨a, rfl, rfl, rfl, _⟩ := open_string Tryz.underlying9 hv0 h0
  obtain ⟨b, rfl, rfl, rfl, _⟩ := open_string Tryz.underlying9 hv1 h1
  exact ⟨a.data.toList, b.data.toList, rfl, rfl, bulk2 hk⟩
set_option maxRecDepth 100000 in
theorem open_three {r : Reach} {base : Nat} {v0 v1 v2 : Value} {d0 d1 d2 : DataW H} {p0 p1 p2 : List MemPlace} (hk : Rows.uptoSmall H ([d0, d1, d2] ++ []) = true)
    (hv0 : Value.okWide Tryz.prog W r base 9 v0) (h0 : DataW.Trod enc Tryz.prog W 0 (fun _ => true) true 9 v0 d0 p0)
    (hv1 : Value.okWide Tryz.prog W r base 9 v1) (h1 : DataW.Trod enc Tryz.prog W 0 (fun _ => true) true 9 v1 d1 p1)
    (hv2 : Value.okWide Tryz.prog W r base 9 v2) (h2 : DataW.Trod enc Tryz.prog W 0 (fun _ => true) true 9 v2 d2 p2) :
    ∃ a b c : List UInt8, v0 = str a ∧ v1 = str b ∧ v2 = str c ∧ a.length + b.length + c.length ≤ 1048576 := by
  obtain ⟨a, rfl, rfl, rfl, _⟩ := open_string Tryz.underlying9 hv0 h0
  obtain ⟨b, rfl, rfl, rfl, _⟩ := open_string Tryz.underlying9 hv1 h1
  obtain ⟨c, rfl, rfl, rfl, _⟩ := open_string Tryz.underlying9 hv2 h2
  exact ⟨a.data.toList, b.data.toList, c.data.toList, rfl, rfl, rfl, bulk3 hk⟩
end Go.Proofs.YtjfdlibceldanabGreatDoor
