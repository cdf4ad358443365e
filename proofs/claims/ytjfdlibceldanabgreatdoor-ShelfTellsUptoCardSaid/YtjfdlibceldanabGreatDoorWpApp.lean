/- An append of one element, one operation. -/
import Derived.Test.YtjfdlibceldanabGreatDoorBitsA
import Derived.Test.YtjfdlibceldanabGreatDoorOrd
namespace Go.Proofs.YtjfdlibceldanabGreatDoor
open Go.RowKit
section
variable {ops : Array Oper} {o : Oper} {a : Act} {K : Act → World → Prop} {Q : Exit → Act → World → Prop} {E : Prop} {w : World}
/-- An append of one element, one operation. -/
theorem wp_app (s x : Operand) (t : TypeId) (ho : o.op = .call { callee := .builtin .append, args := #[s, x], argTypes := #[t, t] })
    (base : Nat) (e : TypeId) (i : TypeInfo) (z : Value) (ht : Tryz.prog.underlying t = some (.slice e)) (hi : Tryz.prog.info? e = some i) (hz : i.zero = some z)
    (hsize : i.size = 1) (hby : i.bytes = 8) (hzs : z.cells.size = 1) (v : Value) (n : Nat) (xs : List Value) (hs : a.eval s = v) (hown : w.ownsRow base e 1 v n xs)
    (u : Value) (g2 : Nat) (T : TypeId) (hx : a.eval x = .slice (some ⟨g2, 0, none⟩) 1 1) (hc : Bk w g2 T #[u]) (hu : u.oneCell' = true) (hn : n ≤ 1099511627776) (hbase : base ≤ w.heap.size)
    (h : ∀ g cap w', w'.ownsRow base e 1 (.slice (some ⟨g, 0, none⟩) (n + 1) cap) (n + 1) (xs ++ [u]) → w.grownBy w' v.ownBlock → K (a.put o.dst (.slice (some ⟨g, 0, none⟩) (n + 1) cap)) w') :
    Oper.wp Tryz.prog o a w K Q :=
  wp_append_lies w s x t ho base e i z 1 8 ht hi hz hsize hby hzs (by omega) v n xs hs hown ⟨g2, 0, none⟩ 1 1 [u] hx rfl
    (fun j u' hu' => World.news_of_block (show w.heap[g2]? = some (.cells #[u] T (0, 0)) from hc) j u' hu') (fun u' hu' => by rw [List.mem_singleton.1 hu']; exact hu) (by omega) (by unfold maxLen; omega) (by omega) hbase _ rfl (fun g cap w' h1 h2 _ _ => h g cap w' h1 h2)
end
end Go.Proofs.YtjfdlibceldanabGreatDoor
