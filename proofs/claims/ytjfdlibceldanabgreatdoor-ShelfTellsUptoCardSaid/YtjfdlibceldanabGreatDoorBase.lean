/- Words for memory that all walks of this seat use: the world only grows (Ext), a slice reads as a function on its places (Rd); and how a law's row is closed once its walk is done. No program in sight. -/
import Derived.WalkKit
import Derived.ProofKit
import Derived.OpenShut
import Derived.SizedLaws
import Derived.Lib.Hide
import Derived.BigQuiet
import Derived.WalkLawsBesides
import Derived.WalkSpells
import Derived.Outline
import Derived.Deep.Slices
import Derived.Deep.AppendLies
import Derived.Laws.AppendOwnNone
import Derived.Deep.LoopGhost
import Derived.Deep.RegionHeld3
import Derived.Deep.DeepCutAuto
import Derived.Deep.DeepFit
namespace Go.Proofs.YtjfdlibceldanabGreatDoor
open Go.ChangeShapes Go.WideShapes Go.ChangeAt Go.RowKit

/-! ### The world only grows -/
/-- Whatever lay in memory lies there unchanged; blocks may have come. -/
def Ext (w w' : World) : Prop := Below w.heap.size w w'

theorem Ext.refl (w : World) : Ext w w := Below.refl _ _
theorem Ext.trans {a b c : World} (h : Ext a b) (k : Ext b c) : Ext a c := Below.trans h (Below.mono k (Below.size h))
theorem Ext.drew {a w : World} (h : Ext a w) : Ext a w.drew := Below.drew h
theorem Ext.drewN {a w : World} (h : Ext a w) (n : Nat) : Ext a (w.drewN n) := h.trans ⟨rfl, rfl, rfl, Nat.le_refl _, fun _ _ => rfl⟩
theorem Ext.alloc {a w : World} (h : Ext a w) (o : Obj) : Ext a (w.alloc o) := Below.alloc h (Below.size h) o
theorem Ext.setCell {a w : World} (h : Ext a w) {p : Addr} (hp : a.heap.size ≤ p.block) (u : Value) : Ext a (w.setCell p u) := Below.setCell h hp u
theorem Ext.size {a w : World} (h : Ext a w) : a.heap.size ≤ w.heap.size := Below.size h
theorem Ext.below {a w : World} (h : Ext a w) : Below a.heap.size a w := h
theorem Ext.cell {w w' : World} (h : Ext w w') {b o : Nat} (hb : b < w.heap.size) : w'.cell? ⟨b, o, none⟩ = w.cell? ⟨b, o, none⟩ := Below.cell h hb
theorem Ext.frozen {w w' : World} (h : Ext w w') {b o : Nat} (hb : b < w.heap.size) : w'.frozen? ⟨b, o, none⟩ = w.frozen? ⟨b, o, none⟩ := Below.frozen h hb

/-! ### A slice of one-cell elements reads as a function -/
/-- The slice at address 'A' of length 'n' holds 'f k' at each place 'k'. -/
def Rd (w : World) (A : Option Addr) (n : Nat) (f : Nat → Value) : Prop :=
  0 < n → ∃ b o, A = some ⟨b, o, none⟩ ∧ b < w.heap.size ∧ ∀ k, k < n → w.cell? ⟨b, o + k, none⟩ = some (f k)

theorem Rd.ext {w w' : World} {A : Option Addr} {n : Nat} {f : Nat → Value} (h : Rd w A n f) (hx : Ext w w') : Rd w' A n f := fun hn => by
  obtain ⟨b, o, rfl, hb, hc⟩ := h hn
  exact ⟨b, o, rfl, Nat.lt_of_lt_of_le hb hx.size, fun k hk => (hx.cell hb).trans (hc k hk)⟩
theorem Rd.drewN {w : World} {A : Option Addr} {n : Nat} {f : Nat → Value} (h : Rd w A n f) (q : Nat) : Rd (w.drewN q) A n f := h
theorem Rd.zero {w : World} {A : Option Addr} {f : Nat → Value} : Rd w A 0 f := fun h => absurd h (Nat.lt_irrefl _)
theorem Rd.congr {w : World} {A : Option Addr} {n : Nat} {f g : Nat → Value} (h : Rd w A n f) (hfg : ∀ k, k < n → f k = g k) : Rd w A n g := fun hn => by
  obtain ⟨b, o, rfl, hb, hc⟩ := h hn
  exact ⟨b, o, rfl, hb, fun k hk => by rw [← hfg k hk]; exact hc k hk⟩
/-- A slice that the call itself owns, row by row. -/
theorem Rd.of_own {w : World} {base : Nat} {e : TypeId} {A : Option Addr} {n c : Nat} {xs : List Value} {d : Value} (h : w.ownsRow base e 1 (.slice A n c) n xs) : Rd w A n (fun k => xs[k]?.getD d) := fun hn => by
  obtain ⟨g, cap, hv, _, hlt⟩ := h.form hn
  have hl : xs.length = n := by simpa using h.1
  injection hv with hA
  subst hA
  refine ⟨g, 0, rfl, hlt, fun k hk => ?_⟩
  have := h.cells (g := g) rfl k xs[k] (List.getElem?_eq_getElem (by omega))
  rw [Go.WideShapes.add_plain] at this
  rw [this]
  show some xs[k] = some (xs[k]?.getD d)
  rw [List.getElem?_eq_getElem (by omega)]; rfl

/-- The element at a place; nought, false, .. behind the end. -/
def nth {α : Type} [Inhabited α] (l : List α) (k : Nat) : α := l[k]?.getD default
theorem nth_lt {α : Type} [Inhabited α] {l : List α} {k : Nat} (h : k < l.length) : nth l k = l[k] := by unfold nth; rw [List.getElem?_eq_getElem h]; rfl
theorem nth_ge {α : Type} [Inhabited α] {l : List α} {k : Nat} (h : l.length ≤ k) : nth l k = default := by unfold nth; rw [List.getElem?_eq_none h]; rfl
theorem nth_mem {α : Type} [Inhabited α] {l : List α} {k : Nat} (h : k < l.length) : nth l k ∈ l := by rw [nth_lt h]; exact List.getElem_mem h
theorem nth_ext {α : Type} [Inhabited α] {l r : List α} (hl : l.length = r.length) (h : ∀ k, k < l.length → nth l k = nth r k) : l = r := by
  apply List.ext_getElem hl
  intro i h1 h2
  rw [← nth_lt h1, ← nth_lt h2]; exact h i h1

/-- A callee that leaves the world as it is, in a region that draws its order. -/
theorem q_same {P : Program} {f : FuncId} {args : Array Value} {w : World} {n : Nat} {v : Value}
    (h : Calls P f args (w.drewN n) fun e w' => e = .returned v ∧ w.drewN n = w') : Calls P f args (w.drewN n) fun e w'' => e = .returned v ∧ ∃ m, w'' = w.drewN m :=
  h.mono fun _ _ ⟨he, hm⟩ => ⟨he, n, hm.symm⟩

/-! ### A region that draws its order, whose calls make memory but return known values -/
open Classical in
/-- 'u', if it only grew out of 'W'. So 'grow W u' ranges over all worlds that did. -/
noncomputable def grow (W u : World) : World := if Ext W u then u else W
theorem grow_ext (W u : World) : Ext W (grow W u) := by
  unfold grow; split
  · assumption
  · exact Ext.refl _
theorem grow_of {W u : World} (h : Ext W u) : grow W u = u := by unfold grow; rw [if_pos h]
theorem cell_lt {w : World} {b o : Nat} {v : Value} (h : w.cell? ⟨b, o, none⟩ = some v) : b < w.heap.size := by
  rcases Nat.lt_or_ge b w.heap.size with hb | hb
  · exact hb
  · simp [World.cell?, Array.getElem?_eq_none hb] at h
theorem gcell {W : World} {b o : Nat} {v : Value} (h : W.cell? ⟨b, o, none⟩ = some v) (u : World) : (grow W u).cell? ⟨b, o, none⟩ = some v :=
  ((grow_ext W u).cell (cell_lt h)).trans h
theorem ecell {W w' : World} {b o : Nat} {v : Value} (h : W.cell? ⟨b, o, none⟩ = some v) (hx : Ext W w') : w'.cell? ⟨b, o, none⟩ = some v :=
  (hx.cell (cell_lt h)).trans h

section
variable {P : Program}
theorem wp_region_grow_lit {id : Nat} {Q : Exit → Act → World → Prop} {a : Act} {w : World} {l : List Oper} (hm : P.follows .mixedOrders = true) (hB : Region.lexB .any l.toArray = true)
    (h : wpQuiet P l.toArray (fun w' => ∃ u, w' = grow w u) (fun a' => ∀ w', (∃ u, w' = grow w u) → Q .normal a' w') l a) : (Code.region id l.toArray true).wp P Q a w :=
  wp_region_quiet (C := fun w' => ∃ u, w' = grow w u) hm hB ⟨_, (grow_of ((Ext.refl w).drewN 1)).symm⟩ (by simpa using h)
theorem q_grow {f : FuncId} {args : Array Value} {W u : World} {v : Value}
    (h : Calls P f args (grow W u) fun e w' => e = .returned v ∧ Ext (grow W u) w') : Calls P f args (grow W u) fun e w'' => e = .returned v ∧ ∃ u', w'' = grow W u' :=
  h.mono fun _ w' ⟨he, hx⟩ => ⟨he, w', (grow_of ((grow_ext W u).trans hx)).symm⟩
theorem val_eq {f : FuncId} {args : Array Value} {W : World} {v v' : Value} (h : Calls P f args W fun e w' => e = .returned v ∧ Ext W w') (hv : v = v') : Calls P f args W fun e w' => e = .returned v' ∧ Ext W w' := hv ▸ h
theorem q_grow_same {f : FuncId} {args : Array Value} {W u : World} {v : Value}
    (h : Calls P f args (grow W u) fun e w' => e = .returned v ∧ grow W u = w') : Calls P f args (grow W u) fun e w'' => e = .returned v ∧ ∃ u', w'' = grow W u' :=
  h.mono fun _ _ ⟨he, hx⟩ => ⟨he, u, hx.symm⟩
end

/-! ### A struct of three cells in a block of its own -/
def BX3 (w : World) (B : Nat) (x y z : Value) : Prop := w.cell? ⟨B, 0, none⟩ = some x ∧ w.cell? ⟨B, 1, none⟩ = some y ∧ w.cell? ⟨B, 2, none⟩ = some z
theorem BX3.new (w : World) (x y z : Value) (T : TypeId) : BX3 (w.alloc (.cells #[x, y, z] T)) w.heap.size x y z :=
  ⟨by simp [World.cell?_alloc_new], by simp [World.cell?_alloc_new], by simp [World.cell?_alloc_new]⟩
theorem bx3_of {w W : World} {x y z : Value} {T : TypeId} (h : w.alloc (.cells #[x, y, z] T) = W) : BX3 W w.heap.size x y z := h ▸ BX3.new ..
theorem BX3.ext {w w' : World} {B : Nat} {x y z : Value} (h : BX3 w B x y z) (hx : Ext w w') : BX3 w' B x y z := ⟨ecell h.1 hx, ecell h.2.1 hx, ecell h.2.2 hx⟩
theorem BX3.grow {w : World} {B : Nat} {x y z : Value} (h : BX3 w B x y z) :
    (∀ u, (grow w u).cell? ⟨B, 0, none⟩ = some x) ∧ (∀ u, (grow w u).cell? ⟨B, 1, none⟩ = some y) ∧ (∀ u, (grow w u).cell? ⟨B, 2, none⟩ = some z) := ⟨gcell h.1, gcell h.2.1, gcell h.2.2⟩

/-! ### A block that is known whole -/
/-- Block g holds just these cells, none frozen. -/
def Bk (w : World) (g : Nat) (T : TypeId) (cs : Array Value) : Prop := w.heap[g]? = some (.cells cs T (0, 0))
section
variable {w w' : World} {g : Nat} {T : TypeId} {cs : Array Value}
theorem Bk.lt (h : Bk w g T cs) : g < w.heap.size := by
  rcases Nat.lt_or_ge g w.heap.size with hlt | hge
  · exact hlt
  · rw [Bk, Array.getElem?_eq_none hge] at h; cases h
theorem Bk.cell (h : Bk w g T cs) (i : Nat) : w.cell? ⟨g, i, none⟩ = cs[i]? := cell_of_row w g i cs T (0, 0) h
theorem Bk.frozen (h : Bk w g T cs) (i : Nat) : w.frozen? ⟨g, i, none⟩ = false := by
  rw [Bk] at h
  simp [World.frozen?, h]
theorem Bk.new (w : World) (T : TypeId) (cs : Array Value) : Bk (w.alloc (.cells cs T)) w.heap.size T cs := heap_alloc_new w _
theorem bk_of {W : World} (h : w.alloc (.cells cs T) = W) : Bk W w.heap.size T cs := h ▸ Bk.new ..
theorem ext_of_alloc {W : World} {o : Obj} (h : w.alloc o = W) : Ext w W := h ▸ (Ext.refl w).alloc o
theorem Bk.drewN (h : Bk w g T cs) (q : Nat) : Bk (w.drewN q) g T cs := h
theorem Bk.alloc (h : Bk w g T cs) (o : Obj) : Bk (w.alloc o) g T cs := (Below.heap_alloc w o g h.lt).trans h
theorem Bk.set (h : Bk w g T cs) (i : Nat) (u : Value) : Bk (w.setCell ⟨g, i, none⟩ u) g T (cs.setIfInBounds i u) := by
  rw [Bk] at h ⊢
  simp [World.setCell, Array.getElem?_modify, h]
theorem Bk.far (h : Bk w g T cs) {p : Addr} (hp : g ≠ p.block) (u : Value) : Bk (w.setCell p u) g T cs := (Below.heap_setCell w p u g hp).trans h
theorem Bk.ext (h : Bk w g T cs) (hx : Ext w w') : Bk w' g T cs := (Below.block hx g h.lt).trans h
theorem Bk.grown {row : Option Nat} (h : Bk w g T cs) (hb : w.grownBy w' row) (hg : some g ≠ row) : Bk w' g T cs := (hb.block g h.lt hg).trans h
/-- Two rows of unlike element types share no block. -/
theorem Bk.own_ne {base : Nat} {e : TypeId} {size n : Nat} {v : Value} {xs : List Value} (h : w.ownsRow base e size v n xs) (hg : Bk w g T cs) (hne : e ≠ T) : some g ≠ v.ownBlock := by
  rcases h.2 with ⟨rfl, _⟩ | ⟨g', cap, cur, rfl, _, hh, _⟩
  · simp [Value.ownBlock]
  · intro he
    have : g = g' := by simpa [Value.ownBlock] using he
    subst this
    rw [Bk, hh] at hg
    injection hg with hg
    injection hg with _ ht
    exact hne ht
theorem Ext.grown {a : World} {row : Option Nat} (h : Ext a w) (hg : w.grownBy w' row) (hr : ∀ k, row = some k → a.heap.size ≤ k) : Ext a w' := Below.grown h hg h.size hr
theorem ext_of_grown (hg : w.grownBy w' none) : Ext w w' := (Ext.refl w).grown hg (fun k hk => by cases hk)
theorem own_ext {base : Nat} {e : TypeId} {size n : Nat} {v : Value} {xs : List Value} (h : w.ownsRow base e size v n xs) (hx : Ext w w') : w'.ownsRow base e size v n xs := by
  refine ⟨h.1, ?_⟩
  rcases h.2 with h2 | ⟨g, cap, cur, hv, hg, hh, r⟩
  · exact .inl h2
  · have hlt : g < w.heap.size := by
      rcases Nat.lt_or_ge g w.heap.size with hlt | hge
      · exact hlt
      · rw [Array.getElem?_eq_none hge] at hh; cases hh
    exact .inr ⟨g, cap, cur, hv, hg, (Below.block hx g hlt).trans hh, r⟩
theorem own_far {base : Nat} {e : TypeId} {size n : Nat} {v : Value} {xs : List Value} (h : w.ownsRow base e size v n xs) {p : Addr} (hp : v.ownBlock ≠ some p.block) (u : Value) : (w.setCell p u).ownsRow base e size v n xs := by
  refine ⟨h.1, ?_⟩
  rcases h.2 with h2 | ⟨g, cap, cur, hv, hg, hh, r⟩
  · exact .inl h2
  · subst hv
    exact .inr ⟨g, cap, cur, rfl, hg, by rw [Below.heap_setCell _ _ _ _ (fun e => hp (by simp [Value.ownBlock, e]))]; exact hh, r⟩
theorem own_grown {base : Nat} {e : TypeId} {size n : Nat} {v : Value} {xs : List Value} {row : Option Nat} (h : w.ownsRow base e size v n xs) (hg : w.grownBy w' row) (hr : v.ownBlock = none ∨ v.ownBlock ≠ row) : w'.ownsRow base e size v n xs := by
  refine ⟨h.1, ?_⟩
  rcases h.2 with h2 | ⟨g, cap, cur, hv, hg', hh, r⟩
  · exact .inl h2
  · subst hv
    have hlt : g < w.heap.size := by
      rcases Nat.lt_or_ge g w.heap.size with hlt | hge
      · exact hlt
      · rw [Array.getElem?_eq_none hge] at hh; cases hh
    refine .inr ⟨g, cap, cur, rfl, hg', (hg.block g hlt (fun e => ?_)).trans hh, r⟩
    rcases hr with hr | hr
    · cases hr
    · exact hr (by rw [← e]; rfl)
/-- What an owned value looks like, and that all it owns lies from 'base' on. -/
theorem own_row_ge {base : Nat} {e : TypeId} {size n : Nat} {v : Value} {xs : List Value} (h : w.ownsRow base e size v n xs) : ∀ k, v.ownBlock = some k → base ≤ k ∧ k < w.heap.size := fun k hk => by
  rcases h.2 with ⟨rfl, _⟩ | ⟨g, cap, cur, rfl, hg', hh, r⟩
  · cases hk
  · have : g = k := by simpa [Value.ownBlock] using hk
    subst this
    refine ⟨hg', ?_⟩
    rcases Nat.lt_or_ge g w.heap.size with hlt | hge
    · exact hlt
    · rw [Array.getElem?_eq_none hge] at hh; cases hh
theorem own_form {base : Nat} {e : TypeId} {size n : Nat} {v : Value} {xs : List Value} (h : w.ownsRow base e size v n xs) : ∃ A c, v = .slice A n c := by
  rcases h.2 with ⟨rfl, rfl⟩ | ⟨g, cap, cur, rfl, _⟩
  · exact ⟨none, 0, rfl⟩
  · exact ⟨_, _, rfl⟩
theorem own_own_ne {base base' : Nat} {e e' : TypeId} {size size' n n' : Nat} {v v' : Value} {xs xs' : List Value} (h : w.ownsRow base e size v n xs) (h' : w.ownsRow base' e' size' v' n' xs') (hne : e ≠ e') : v.ownBlock = none ∨ v.ownBlock ≠ v'.ownBlock := by
  rcases h.2 with ⟨rfl, _⟩ | ⟨g, cap, cur, rfl, _, hh, _⟩
  · exact .inl rfl
  · right
    intro he
    exact Bk.own_ne h' (show Bk w g e cur from hh) (fun q => hne q.symm) (by rw [← he]; rfl)
theorem own_nil (w : World) (base : Nat) (e : TypeId) (size : Nat) : w.ownsRow base e size (.slice none 0 0) 0 [] := ⟨by simp, .inl ⟨rfl, rfl⟩⟩
end

/-! ### append of one element to a row of the call's own -/
theorem wpList_app1 {P : Program} {ops : Array Oper} {rest : List Oper} {o : Oper} {a : Act} {w : World} {Q : Exit → Act → World → Prop} (hgd : o.guard = none) (s x : Operand) (t : TypeId)
    (ho : o.op = .call { callee := .builtin .append, args := #[s, x], argTypes := #[t, t] })
    (base : Nat) (e : TypeId) (i : TypeInfo) (z : Value) (bytes : Nat) (ht : P.underlying t = some (.slice e)) (hi : P.info? e = some i) (hz : i.zero = some z)
    (hsize : i.size = 1) (hby : i.bytes = bytes) (hzs : z.cells.size = 1)
    (v : Value) (n : Nat) (xs : List Value) (hs : a.eval s = v) (w0 : World) (u : Value) (T : TypeId) (hw : w = w0.alloc (.cells #[u] T)) (hown : w0.ownsRow base e 1 v n xs)
    (hx : a.eval x = .slice (some ⟨w0.heap.size, 0, none⟩) 1 1) (hu : u.oneCell' = true) (h63 : n ≤ 1125899906842624) (hbytes : (n + 1) * bytes ≤ 140737488355328) (hbase : base ≤ w0.heap.size)
    (h : ∀ g cap w', w'.ownsRow base e 1 (.slice (some ⟨g, 0, none⟩) (n + 1) cap) (n + 1) (xs ++ [u]) → w0.grownBy w' v.ownBlock → wpList P ops Q rest (a.put o.dst (.slice (some ⟨g, 0, none⟩) (n + 1) cap)) w') : wpList P ops Q (o :: rest) a w := by
  subst hw
  refine wpList_append_lies (w0.alloc (.cells #[u] T)) hgd s x t ho base e i z 1 bytes ht hi hz hsize hby hzs (by omega) v n xs hs (own_ext hown ((Ext.refl _).alloc _)) ⟨w0.heap.size, 0, none⟩ 1 1 [u] hx rfl
    (fun j u' hu' => World.news_of_block (heap_alloc_new w0 (.cells #[u] T)) j u' hu') (fun u' hu' => by rw [List.mem_singleton.1 hu']; exact hu) (by omega) (by unfold maxLen; omega) hbytes (by simp; omega) _ rfl ?_
  intro g cap w' hown' hg _ _
  refine h g cap w' hown' ?_
  exact ⟨hg.os, hg.tape, hg.output, Nat.le_trans (by simp) hg.size, fun k hk hne => (hg.block k (by simp; omega) hne).trans (Below.heap_alloc w0 _ k hk)⟩
theorem wpList_appAll {P : Program} {ops : Array Oper} {rest : List Oper} {o : Oper} {a : Act} {w : World} {Q : Exit → Act → World → Prop} (hgd : o.guard = none) (s x : Operand) (t : TypeId)
    (ho : o.op = .call { callee := .builtin .append, args := #[s, x], argTypes := #[t, t] })
    (base : Nat) (e : TypeId) (i : TypeInfo) (z : Value) (bytes : Nat) (ht : P.underlying t = some (.slice e)) (hi : P.info? e = some i) (hz : i.zero = some z)
    (hsize : i.size = 1) (hby : i.bytes = bytes) (hzs : z.cells.size = 1)
    (v : Value) (n : Nat) (xs : List Value) (hs : a.eval s = v) (hown : w.ownsRow base e 1 v n xs)
    (A : Option Addr) (m c : Nat) (f : Nat → Value) (hx : a.eval x = .slice A m c) (hA : A = none → c = 0) (hr : Rd w A m f) (hu : ∀ k, k < m → (f k).oneCell' = true) (hn : n ≤ 1125899906842624) (hm : m ≤ 1125899906842624)
    (hbytes : (n + m) * bytes ≤ 140737488355328) (hbase : base ≤ w.heap.size)
    (h : ∀ v' w', w'.ownsRow base e 1 v' (n + m) (xs ++ (List.range m).map f) → w.grownBy w' v.ownBlock → wpList P ops Q rest (a.put o.dst v') w') : wpList P ops Q (o :: rest) a w := by
  cases A with
  | none =>
    have hm0 : m = 0 := by
      rcases Nat.eq_zero_or_pos m with h0 | h0
      · exact h0
      · obtain ⟨b, o, hA', _⟩ := hr h0; cases hA'
    subst hm0
    have hc := hA rfl
    subst hc
    refine wpList_append_own_none hgd s x t ho base e i 1 ht hi v n xs hs hown hx ?_
    exact h v w (by simpa using hown) ⟨rfl, rfl, rfl, Nat.le_refl _, fun _ _ _ => rfl⟩
  | some ad =>
    refine wpList_append_own w hgd s x t ho base e i z 1 bytes ht hi hz hsize hby hzs (by omega) v n xs hs hown ad m c ((List.range m).map f) hx (by simp) ?_ ?_ (by unfold maxLen; omega) hbytes hbase (fun v' w' h1 h2 _ => h v' w' h1 h2)
    · intro j u hu'
      have hj : j < m := by
        have := (List.getElem?_eq_some_iff.1 hu').1
        simpa using this
      obtain ⟨b, o, hA', _, hc⟩ := hr (by omega)
      injection hA' with hA'
      subst hA'
      rw [Go.WideShapes.add_plain, hc j hj]
      simp [hj] at hu'
      rw [hu']
    · intro u hu'
      obtain ⟨k, hk, rfl⟩ := List.mem_map.1 hu'
      exact hu k (List.mem_range.1 hk)
theorem bx3_bk {w : World} {g : Nat} {T : TypeId} {x y z : Value} (h : Bk w g T #[x, y, z]) : BX3 w g x y z := ⟨h.cell 0, h.cell 1, h.cell 2⟩
/-- An owned row, as a slice that is read. -/
theorem rd_own {w : World} {base : Nat} {e : TypeId} {A : Option Addr} {n c : Nat} {f : Nat → Value} (h : w.ownsRow base e 1 (.slice A n c) n ((List.range n).map f)) : Rd w A n f :=
  (Rd.of_own (d := default) h).congr fun k hk => by simp [hk]

/-! ### Bits: the plain data of api.Bits -/
structure PB where
  N : Int
  P : List Nat
  A : List Int

/-- An int of 64 bits. -/
def I64 (x : Int) : Prop := -9223372036854775808 ≤ x ∧ x ≤ 9223372036854775807

structure PB.Ok (b : PB) : Prop where
  n : I64 b.N
  p : ∀ x ∈ b.P, x < 18446744073709551616
  a : ∀ x ∈ b.A, I64 x
  lp : b.P.length ≤ 1125899906842624
  la : b.A.length ≤ 1125899906842624

theorem PB.Ok.p_at {b : PB} (h : b.Ok) (k : Nat) : nth b.P k < 18446744073709551616 := by
  by_cases hk : k < b.P.length
  · exact h.p _ (nth_mem hk)
  · rw [nth_ge (by omega)]; decide
theorem PB.Ok.a_at {b : PB} (h : b.Ok) (k : Nat) : I64 (nth b.A k) := by
  by_cases hk : k < b.A.length
  · exact h.a _ (nth_mem hk)
  · rw [nth_ge (by omega)]; constructor <;> decide

/-- The two lists of bits, in memory. -/
def RdB (w : World) (A1 A2 : Option Addr) (b : PB) : Prop :=
  Rd w A1 b.P.length (fun k => .int .u64 (nth b.P k : Nat)) ∧ Rd w A2 b.A.length (fun k => .int .i64 (nth b.A k))
theorem RdB.ext {w w' : World} {A1 A2 : Option Addr} {b : PB} (h : RdB w A1 A2 b) (hx : Ext w w') : RdB w' A1 A2 b := ⟨h.1.ext hx, h.2.ext hx⟩

/-! ### How a law's row is closed -/
section
variable {H : Type} {enc : TypeId × Value → H} {P : Program}
theorem trodAll_below {W W' : World} (hl : laidOutB P = true) (hb : Below W.heap.size W W') :
    ∀ (ts : List TypeId) (vs : List Value) (ds : List (DataW H)) (ps : List MemPlace), (∀ t ∈ ts, P.readableRec t = true ∧ t < P.types.size) → (∀ x ∈ ps, x.block < W.heap.size) →
      DataW.TrodAll enc P W 0 (fun _ => true) true ts vs ds ps → DataW.TrodAll enc P W' 0 (fun b => decide (b < W.heap.size)) true ts vs ds ps
  | [], [], [], _, _, _, h => h
  | [], _ :: _, _, _, _, _, h => h.elim
  | [], [], _ :: _, _, _, _, h => h.elim
  | _ :: _, [], _, _, _, _, h => h.elim
  | _ :: _, _ :: _, [], _, _, _, h => h.elim
  | t :: ts, v :: vs, d :: ds, ps, hr, hlt, h => by
    obtain ⟨p, q, h1, h2, rfl⟩ := h
    have := hr t (List.mem_cons_self ..)
    exact ⟨p, q, Below.trod hl this.1 this.2 h1 hb (fun x hx => hlt x (List.mem_append.2 (.inl hx))),
      trodAll_below hl hb ts vs ds q (fun t' ht' => hr t' (List.mem_cons_of_mem _ ht')) (fun x hx => hlt x (List.mem_append.2 (.inr hx))) h2, rfl⟩

/-- A law that returned true in a world that only grew: what its row asks of the end. -/
theorem law_post {f : Func} {s : ChangeSpec} {W W' : World} {args : Array Value} {ds gs : List (DataW H)} {before : List MemPlace} {T : TypeId}
    (hl : laidOutB P = true) (hr : ∀ t ∈ f.params.toList, P.readableRec t = true ∧ t < P.types.size) (hT : P.underlying T = some .bool) (hres : f.resultTypes = #[T]) (hvars : s.vars = [])
    (hW : DataW.Whole enc P f.params.toList s.vars false W args.toList ds gs before) (hs : s.fn H (ds ++ gs) = { results := [.lit (.bool true)], args := ds, vars := [] }) (hb : Ext W W') :
    s.post enc P f false true false false W args (.bool true) W' := by
  have hW' := hW
  have hlt : ∀ x ∈ before, x.block < W.heap.size := fun x hx => by simpa using hW.lt x hx
  obtain ⟨p, q, hA, hV, rfl, _, _⟩ := hW
  refine ⟨ds, gs, p ++ q, [], p, [], hW', ?_, ?_, ?_, Below.frame hb _, fun h => by cases h⟩
  · rw [hs, hres]; exact trodAll_mk1 (shut_bool hT true)
  · rw [hs]; exact trodAll_below hl hb _ _ _ _ hr (fun x hx => hlt x (List.mem_append.2 (.inl hx))) hA
  · rw [hs, hvars]; rfl
end
end Go.Proofs.YtjfdlibceldanabGreatDoor
