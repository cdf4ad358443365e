/- A map of bools that the call makes: what it says of each number, laid, asked and written. -/
import Derived.Maps.Own
import Derived.Maps.OwnOps
import Derived.Maps.Views
namespace Go.Proofs.YtjfdlibceldanabDoor
open Go Go.Maps

/-- Block b is a map of at most n entries that says U of each number. -/
def OwnsU (P : Program) (w : World) (k e : TypeId) (b n : Nat) (U : Int → Bool) : Prop :=
  ∃ D : DataW Unit, w.ownsMap P k (plainElem P e) b n D ∧ IsMap D ∧ ∀ x, (Lit.int .i64 x).wf = true → D.atKey (.int .i64 x) (.lit (.bool false)) = .lit (.bool (U x))
theorem OwnsU.made (P : Program) (w : World) (k e : TypeId) : OwnsU P (w.alloc (.map #[] 0)) k e w.heap.size 0 fun _ => false :=
  ⟨.map [], World.ownsMap_made w P k _, isMap_empty, fun _ _ => rfl⟩
theorem OwnsU.kept {P : Program} {w w' : World} {k e : TypeId} {b n : Nat} {U : Int → Bool} {row : Option Nat} (h : OwnsU P w k e b n U) (hg : w.grownBy w' row) (hne : some b ≠ row) : OwnsU P w' k e b n U := by
  obtain ⟨D, h1, h2, h3⟩ := h
  exact ⟨D, h1.kept hg hne, h2, h3⟩
theorem OwnsU.eq {P : Program} {w : World} {k e : TypeId} {b n : Nat} {U V : Int → Bool} (h : OwnsU P w k e b n U) (hv : ∀ x, U x = V x) : OwnsU P w k e b n V := by
  obtain ⟨D, h1, h2, h3⟩ := h
  exact ⟨D, h1, h2, fun x hx => by rw [h3 x hx, hv]⟩
theorem plainElem_bool_inv {H : Type} {P : Program} {e : TypeId} (he : P.underlying e = some .bool) {v : Value} {z : DataW H × List MemPlace} (h : plainElem P e v = some z) : ∃ a, v = .bool a ∧ z = (.lit (.bool a), []) := by
  unfold plainElem at h
  rw [he] at h
  cases v <;> simp at h
  exact ⟨_, rfl, h.symm⟩
theorem OwnsU.look {P : Program} {w : World} {t k e : TypeId} {b n : Nat} {U : Int → Bool} (h : OwnsU P w k e b n U) (K : Keyed P k) (ht : P.underlying t = some (.map k e)) (hk : P.underlying k = some (.int .i64)) (he : P.underlying e = some .bool) (hz : (zeroValue e).run P w = .ok (.bool false) w)
    (x : Int) (hx : (Lit.int .i64 x).wf = true) : (Instr.lookup t (.map (some b)) (.int .i64 x) false).run P w = .ok (.bool (U x)) w := by
  obtain ⟨D, h1, h2, h3⟩ := h
  obtain ⟨v, ps, hrun, hv⟩ := h1.lookup K ht hz (plainElem_bool he false) (keyOf_int_mk hk hx)
  obtain ⟨c, rfl, hc⟩ := plainElem_bool_inv he hv
  simp only [Prod.mk.injEq] at hc
  rw [h3 x hx] at hc
  have := hc.1
  injection this with this
  injection this with this
  rw [this]
  exact hrun
theorem OwnsU.put {P : Program} {w : World} {t k e : TypeId} {b n : Nat} {U : Int → Bool} (h : OwnsU P w k e b n U) (K : Keyed P k) (ht : P.underlying t = some (.map k e)) (hk : P.underlying k = some (.int .i64)) (he : P.underlying e = some .bool) (hn : n < maxLen)
    (x : Int) (hx : (Lit.int .i64 x).wf = true) (v : Bool) : ∃ w', (Instr.mapUpdate t (.map (some b)) (.int .i64 x) (.bool v)).run P w = .ok () w' ∧ OwnsU P w' k e b (n + 1) (fun y => if y = x then v else U y) ∧ w.grownBy w' (some b) := by
  obtain ⟨D, h1, h2, h3⟩ := h
  obtain ⟨w', hrun, r1, r2⟩ := h1.update K ht hn (keyOf_int_mk hk hx) (plainElem_bool he v)
  refine ⟨w', hrun, ⟨_, r1, h2.put _ _, fun y hy => ?_⟩, r2⟩
  dsimp only
  by_cases g : y = x
  · subst g
    rw [if_pos rfl]
    exact atKey_put_same h2 (by first | trivial | exact True.intro | simp [WideAt.IsKeyLit]) _ _
  · rw [if_neg g, atKey_put_other (fun q => g (by injection q)) _ _]
    exact h3 y hy
theorem wpList_lookU {P : Program} (w : World) {ops : Array Oper} {rest : List Oper} {o : Oper} {a : Act} {Q : Exit → Act → World → Prop}
    (hg : o.guard = none) (m x : Operand) (t : TypeId) (hop : o.op = Op.lookup t m x false)
    (k e : TypeId) (K : Keyed P k) (ht : P.underlying t = some (.map k e)) (hk : P.underlying k = some (.int .i64)) (he : P.underlying e = some .bool) (hz : (zeroValue e).run P w = .ok (.bool false) w) (b n : Nat) (U : Int → Bool)
    (hm : a.eval m = .map (some b)) (hown : OwnsU P w k e b n U) (key : Int) (hx : a.eval x = .int .i64 key) (hkey : (Lit.int .i64 key).wf = true)
    (hK : wpList P ops Q rest (a.put o.dst (.bool (U key))) w) :
    wpList P ops Q (o :: rest) a w := by
  refine wpList_plain hg fun K' hK' => ?_
  have hrun := hown.look K ht hk he hz key hkey
  unfold Oper.wp
  simp [execOp, hop, hm, hx, hrun, Result.andThen]
  exact hK' _ _ hK
theorem wpList_putU {P : Program} (w : World) {ops : Array Oper} {rest : List Oper} {o : Oper} {a : Act} {Q : Exit → Act → World → Prop}
    (hg : o.guard = none) (m x v : Operand) (t : TypeId) (hop : o.op = Op.mapUpdate t m x v)
    (k e : TypeId) (K : Keyed P k) (ht : P.underlying t = some (.map k e)) (hk : P.underlying k = some (.int .i64)) (he : P.underlying e = some .bool) (b n : Nat) (U : Int → Bool)
    (hm : a.eval m = .map (some b)) (hown : OwnsU P w k e b n U) (hn : n < maxLen) (key : Int) (val : Bool) (hx : a.eval x = .int .i64 key) (hv : a.eval v = .bool val) (hkey : (Lit.int .i64 key).wf = true)
    (hK : ∀ w', OwnsU P w' k e b (n + 1) (fun y => if y = key then val else U y) → w.grownBy w' (some b) → wpList P ops Q rest (a.put o.dst undef) w') :
    wpList P ops Q (o :: rest) a w := by
  refine wpList_plain hg fun K' hK' => ?_
  obtain ⟨w', hrun, r1, r2⟩ := hown.put K ht hk he hn key hkey val
  unfold Oper.wp
  simp [execOp, hop, hm, hx, hv, hrun, Result.andThen]
  exact hK' _ _ (hK w' r1 r2)
end Go.Proofs.YtjfdlibceldanabDoor
