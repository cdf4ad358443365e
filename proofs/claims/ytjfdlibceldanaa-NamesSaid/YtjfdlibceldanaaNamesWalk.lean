/- Names: the walk. It reads nothing and returns true. -/
import Derived.Test.YtjfdlibceldanaaProg
import Derived.Test.YtjfdlibceldanaaBase
namespace Go.Proofs.Ytjfdlibceldanaa
open Go.RowKit
theorem names_calls {H : Type} {enc : TypeId × Value → H} {W : World} {X : Prop} (_ : X) : Calls Try.prog 3 #[] W fun e w' => e = .returned (.bool true) ∧ Ext W w' := by
  have _ := enc
  go_enter Try.func3, Try.ntmps3
  go_wp2
  go_ret
  exact ⟨rfl, Ext.refl _⟩
end Go.Proofs.Ytjfdlibceldanaa
