/- Waves in memory: slices of bits; a row of numbers sorted in place. -/
import Derived.Test.YtjfdlibceldanabGreatDoorSymA
import Derived.Test.YtjfdlibceldanabGreatDoorWvPl
import Derived.Test.YtjfdlibceldanabGreatDoorBitsA
namespace Go.Proofs.YtjfdlibceldanabGreatDoor
open Go.RowKit Go.Sort Stab Wv

instance : Inhabited PB := ⟨⟨0, [], []⟩⟩
/-- A wave. -/
structure PW where
  N : Int
  Deep : Int
  L : List PB

/-- The three cells of bits at a place. -/
def RdB3 (w : World) (b o : Nat) (x : PB) : Prop :=
  ∃ (A1 A2 : Option Addr) (c1 c2 : Nat), w.cell? ⟨b, o, none⟩ = some (.int .i64 x.N) ∧ w.cell? ⟨b, o + 1, none⟩ = some (.slice A1 x.P.length c1) ∧ w.cell? ⟨b, o + 2, none⟩ = some (.slice A2 x.A.length c2) ∧ RdB w A1 A2 x
theorem RdB3.ext {w w' : World} {b o : Nat} {x : PB} (h : RdB3 w b o x) (hx : Ext w w') : RdB3 w' b o x := by
  obtain ⟨A1, A2, c1, c2, h1, h2, h3, h4⟩ := h
  exact ⟨A1, A2, c1, c2, ecell h1 hx, ecell h2 hx, ecell h3 hx, h4.ext hx⟩
/-- A slice of bits. -/
def RdL (w : World) (A : Option Addr) (ls : List PB) : Prop := 0 < ls.length → ∃ b o, A = some ⟨b, o, none⟩ ∧ b < w.heap.size ∧ ∀ k, k < ls.length → RdB3 w b (o + k * 3) (nth ls k)
theorem RdL.ext {w w' : World} {A : Option Addr} {ls : List PB} (h : RdL w A ls) (hx : Ext w w') : RdL w' A ls := fun hn => by
  obtain ⟨b, o, hA, hb, hc⟩ := h hn
  exact ⟨b, o, hA, Nat.lt_of_lt_of_le hb hx.size, fun k hk => (hc k hk).ext hx⟩

/-! ### The cells of an owned row of bits -/
theorem own_base {w : World} {base base' : Nat} {e : TypeId} {size n : Nat} {v : Value} {xs : List Value} (h : w.ownsRow base e size v n xs) (hb : base' ≤ base) : w.ownsRow base' e size v n xs := by
  refine ⟨h.1, ?_⟩
  rcases h.2 with h2 | ⟨g, cap, cur, hv, hg, r⟩
  · exact .inl h2
  · exact .inr ⟨g, cap, cur, hv, Nat.le_trans hb hg, r⟩
theorem OwnB.base {w : World} {base base' : Nat} {A1 A2 : Option Addr} {c1 c2 : Nat} {b : PB} (h : OwnB w base A1 A2 c1 c2 b) (hb : base' ≤ base) : OwnB w base' A1 A2 c1 c2 b := ⟨own_base h.1 hb, own_base h.2 hb⟩
/-- What writes elsewhere leaves them. -/
theorem OwnB.grown {w w' : World} {base : Nat} {A1 A2 : Option Addr} {c1 c2 : Nat} {b : PB} {row : Option Nat} (h : OwnB w base A1 A2 c1 c2 b) (hg : w.grownBy w' row) (hr : ∀ k, row = some k → k < base) : OwnB w' base A1 A2 c1 c2 b := by
  have key : ∀ {e size n v xs}, w.ownsRow base e size v n xs → v.ownBlock = none ∨ v.ownBlock ≠ row := fun {e size n v xs} q => by
    cases hv : v.ownBlock with
    | none => exact .inl rfl
    | some k => right; intro e'; have h1 := (own_row_ge q k hv).1; have h2 := hr k e'.symm; omega
  exact ⟨own_grown h.1 hg (key h.1), own_grown h.2 hg (key h.2)⟩
theorem OwnB.grownT {w w' : World} {base base2 : Nat} {A1 A2 : Option Addr} {c1 c2 : Nat} {b : PB} {e : TypeId} {size n : Nat} {v : Value} {xs : List Value} (h : OwnB w base A1 A2 c1 c2 b) (hv : w.ownsRow base2 e size v n xs) (hg : w.grownBy w' v.ownBlock) (h1 : 145 ≠ e) (h2 : 3 ≠ e) : OwnB w' base A1 A2 c1 c2 b :=
  ⟨own_grown h.1 hg (own_own_ne h.1 hv h1), own_grown h.2 hg (own_own_ne h.2 hv h2)⟩
/-- Three cells a piece. -/
def OkCells (w : World) (base : Nat) (xs : List Value) (ls : List PB) : Prop := xs.length = ls.length * 3 ∧ ∀ k, k < ls.length → ∃ (A1 A2 : Option Addr) (c1 c2 : Nat), xs[k * 3]? = some (.int .i64 (nth ls k).N) ∧ xs[k * 3 + 1]? = some (.slice A1 (nth ls k).P.length c1) ∧ xs[k * 3 + 2]? = some (.slice A2 (nth ls k).A.length c2) ∧ OwnB w base A1 A2 c1 c2 (nth ls k)
theorem OkCells.ext {w w' : World} {base : Nat} {xs : List Value} {ls : List PB} (h : OkCells w base xs ls) (hx : ∀ A1 A2 c1 c2 b, OwnB w base A1 A2 c1 c2 b → OwnB w' base A1 A2 c1 c2 b) : OkCells w' base xs ls := ⟨h.1, fun k hk => by
  obtain ⟨A1, A2, c1, c2, h1, h2, h3, h4⟩ := h.2 k hk
  exact ⟨A1, A2, c1, c2, h1, h2, h3, hx _ _ _ _ _ h4⟩⟩
theorem OkCells.nil (w : World) (base : Nat) : OkCells w base [] [] := ⟨rfl, fun _ hk => absurd hk (Nat.not_lt_zero _)⟩
theorem OkCells.snoc {w : World} {base : Nat} {xs : List Value} {ls : List PB} {x : PB} {A1 A2 : Option Addr} {c1 c2 : Nat} (h : OkCells w base xs ls) (hr : OwnB w base A1 A2 c1 c2 x) : OkCells w base (xs ++ [.int .i64 x.N, .slice A1 x.P.length c1, .slice A2 x.A.length c2]) (ls ++ [x]) := by
  refine ⟨by simp [h.1]; omega, fun k hk => ?_⟩
  rw [List.length_append, List.length_singleton] at hk
  have hl := h.1
  by_cases g : k < ls.length
  · obtain ⟨B1, B2, d1, d2, h1, h2, h3, h4⟩ := h.2 k g
    have e : nth (ls ++ [x]) k = nth ls k := by unfold nth; rw [List.getElem?_append_left g]
    rw [e]
    exact ⟨B1, B2, d1, d2, by rw [List.getElem?_append_left (by omega)]; exact h1, by rw [List.getElem?_append_left (by omega)]; exact h2, by rw [List.getElem?_append_left (by omega)]; exact h3, h4⟩
  · have hk' : k = ls.length := by omega
    subst hk'
    have e : nth (ls ++ [x]) ls.length = x := by unfold nth; simp
    rw [e]
    refine ⟨A1, A2, c1, c2, ?_, ?_, ?_, hr⟩
    · rw [List.getElem?_append_right (by omega), hl]; simp
    · rw [List.getElem?_append_right (by omega), show ls.length * 3 + 1 - xs.length = 1 from by omega]; rfl
    · rw [List.getElem?_append_right (by omega), show ls.length * 3 + 2 - xs.length = 2 from by omega]; rfl
theorem rdL_own {w : World} {base : Nat} {e : TypeId} {A : Option Addr} {n c : Nat} {xs : List Value} {ls : List PB} {base2 : Nat} (h : w.ownsRow base e 3 (.slice A n c) n xs) (hc : OkCells w base2 xs ls) : RdL w A ls := fun hn => by
  have hl := h.1
  have hl' := hc.1
  obtain ⟨g, cap, hv, _, hlt⟩ : ∃ g cap, Value.slice A n c = .slice (some ⟨g, 0, none⟩) n cap ∧ base ≤ g ∧ g < w.heap.size := by
    rcases h.2 with ⟨_, h0⟩ | ⟨g, cap, cur, hv, hb, hh, _⟩
    · omega
    · refine ⟨g, cap, hv, hb, ?_⟩
      rcases Nat.lt_or_ge g w.heap.size with hlt | hge
      · exact hlt
      · rw [Array.getElem?_eq_none hge] at hh; cases hh
  injection hv with hA _ hc'
  subst hA
  refine ⟨g, 0, rfl, hlt, fun k hk => ?_⟩
  obtain ⟨A1, A2, c1, c2, h1, h2, h3, h4⟩ := hc.2 k hk
  have cl : ∀ j, j < n * 3 → w.cell? ⟨g, j, none⟩ = xs[j]? := fun j hj => h.cellAt j hj
  refine ⟨A1, A2, c1, c2, ?_, ?_, ?_, h4.rd⟩
  · rw [Nat.zero_add, cl _ (by omega)]; exact h1
  · rw [Nat.zero_add, cl _ (by omega)]; exact h2
  · rw [Nat.zero_add, cl _ (by omega)]; exact h3

/-! ### A row of numbers of its own, sorted in place -/
theorem own_holds {w : World} {base : Nat} {e : TypeId} {g c : Nat} {ds : List V} (h : w.ownsRow base e 1 (.slice (some ⟨g, 0, none⟩) ds.length c) ds.length (ds.map encV)) : Holds encV w g 0 ds.toArray := fun j hj => by
  have hj' : j < ds.length := by simpa using hj
  rw [Nat.zero_add]
  refine ⟨?_, h.frozenAt j⟩
  rw [h.cellAt j (by omega)]
  simp [hj', getElem!_pos]
theorem own_sorted {w w' : World} {base : Nat} {e : TypeId} {g c : Nat} {ds : List V} {D : Array V} (h : w.ownsRow base e 1 (.slice (some ⟨g, 0, none⟩) ds.length c) ds.length (ds.map encV)) (hD : D.size = ds.length) (hR : RowAt w g 0 D w') :
    w'.ownsRow base e 1 (.slice (some ⟨g, 0, none⟩) ds.length c) ds.length (D.toList.map encV) ∧ w.grownBy w' (some g) := by
  obtain ⟨q, rfl⟩ := hR
  constructor
  · refine ⟨by simp [hD], .inr ?_⟩
    rcases h.2 with ⟨h', _⟩ | ⟨g', cap', cur, h', hb, hg, hnc, hcm, hcs, htake⟩
    · simp at h'
    · simp only [Value.slice.injEq, Option.some.injEq, Addr.mk.injEq, and_true, true_and] at h'
      obtain ⟨rfl, rfl⟩ := h'
      refine ⟨g, c, putCells encV 0 D cur, rfl, hb, ?_, hnc, hcm, ?_, ?_⟩
      · show (w.heap.modify g (onCells (putCells encV 0 D)))[g]? = _
        rw [Array.getElem?_modify, if_pos rfl, hg]; rfl
      · simp [putCells, hcs]
      · apply List.ext_getElem
        · simp [putCells, hD]; omega
        · intro k h1 h2
          have hk : k < D.size := by simpa using h2
          simp [putCells, hk, getElem!_pos]
  · refine ⟨rfl, rfl, rfl, by simp [putRow, mapBlock], fun k hk hne => ?_⟩
    show (mapBlock w g (putCells encV 0 D)).heap[k]? = _
    have : g ≠ k := fun e => hne (by rw [e])
    simp [mapBlock, Array.getElem?_modify, this]

/-! ### The numbers as what is sorted -/
def toV (x : Nat) : V := ⟨x % 65536, Nat.mod_lt _ (by omega)⟩
theorem encV_toV {x : Nat} (h : x < 65536) : encV (toV x) = .int .i64 (x : Nat) := by
  show Value.int .i64 ((x % 65536 : Nat) : Int) = _
  rw [Nat.mod_eq_of_lt h]
theorem keyV_toV {x : Nat} (h : x < 65536) (s : Nat) : keyV s (toV x) = x / 2 ^ s := by
  show (x % 65536) / 2 ^ s = _
  rw [Nat.mod_eq_of_lt h]
theorem pow16 {deep : Nat} (h : deep ≤ 16) : 2 ^ deep ≤ 65536 := by
  have := Nat.pow_le_pow_right (show 0 < 2 by omega) h
  simpa using this
theorem map_encV {deep : Nat} {l : List Nat} (hd : deep ≤ 16) (hl : ∀ x ∈ l, x < 2 ^ deep) : (l.map toV).map encV = l.map fun x => Value.int .i64 (x : Nat) := by
  rw [List.map_map]
  refine List.map_congr_left fun x hx => ?_
  exact encV_toV (Nat.lt_of_lt_of_le (hl x hx) (pow16 hd))
theorem stable_rows {deep L : Nat} {l : List Nat} (hd : deep ≤ 16) (hl : ∀ x ∈ l, x < 2 ^ deep) (hL : L < deep) :
    (stableS (ltk (keyV (deep - 1 - L))) ((rowsAt deep l L).map toV).toArray).toList = (rowsAt deep l (L + 1)).map toV := by
  have hx : ∀ x ∈ rowsAt deep l L, x < 65536 := fun x hx => Nat.lt_of_lt_of_le (hl x (rowsAt_mem hx)) (pow16 hd)
  have hk : ∀ x ∈ rowsAt deep l L, keyV (deep - 1 - L) (toV x) = pre deep (L + 1) x := fun x h => by
    rw [keyV_toV (hx x h)]; unfold pre; congr 2; omega
  rw [stable_list (2 ^ (L + 1)) _ (by
    intro v hv
    obtain ⟨x, h, rfl⟩ := List.mem_map.1 hv
    rw [hk x h]
    exact pre_lt hL (hl x (rowsAt_mem h)))]
  rw [← rowsAt_step hl hL]
  unfold rows
  rw [List.map_flatMap]
  rw [List.flatMap_def, List.flatMap_def]
  refine congrArg _ (List.map_congr_left fun p _ => ?_)
  rw [List.filter_map]
  refine congrArg _ (List.filter_congr fun x h => ?_)
  simp [hk x h]
end Go.Proofs.YtjfdlibceldanabGreatDoor
