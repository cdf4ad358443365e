/- sort.Ends: slices.SortFunc on a row of ends, by rank. -/
import Derived.Test.YtjfdlibceldanabGreatDoorSortKey
import Derived.Test.YtjfdlibceldanabGreatDoorWvSort
namespace Go.Proofs.YtjfdlibceldanabGreatDoor
open Go.RowKit Go.Sort En

/-! ### Nothing to sort -/
set_option maxHeartbeats 1000000 in
set_option maxRecDepth 100000 in
theorem ins0_calls (A : Option Addr) (c : Nat) (f : Value) (w : World) :
    Calls Tryz.prog 143 #[.slice A 0 c, .int .i64 0, .int .i64 0, f] w fun e w' => e = .returned (.tuple #[]) ∧ w' = w := by
  go_enter Tryz.func143, Tryz.ntmps143
  go_wp2_with fail
  go_loopw [8] (fun v wr => v = .int .i64 1 ∧ wr = w) (fun _ _ => 0)
  case atStart => exact ⟨rfl, rfl⟩
  case round =>
    obtain ⟨rfl, rfl⟩ := hrel
    go_wp2_with fail
    go_end0
    exact ⟨rfl, rfl⟩
set_option maxHeartbeats 1000000 in
set_option maxRecDepth 100000 in
theorem pdq0_calls (A : Option Addr) (c : Nat) (f u : Value) (w : World) :
    Calls Tryz.prog 116 #[.slice A 0 c, .int .i64 0, .int .i64 0, u, f] w fun e w' => e = .returned (.tuple #[]) ∧ w' = w := by
  go_enter Tryz.func116, Tryz.ntmps116
  go_wp2_with fail
  go_loopw [1, 2] (fun v1 v2 wr => v1 = .int .i64 0 ∧ v2 = .int .i64 0 ∧ wr = w) (fun _ _ _ => 0)
  case atStart => exact ⟨rfl, rfl, rfl⟩
  case round =>
    obtain ⟨rfl, rfl, rfl⟩ := hrel
    go_wp2_with fail
    refine (ins0_calls A c f _).mono ?_
    rintro e w' ⟨rfl, rfl⟩
    go_wp2_with fail
    refine bodyPost_ret (results_none rfl _ _ _) rfl ?_
    exact ⟨rfl, rfl⟩
set_option maxHeartbeats 1000000 in
set_option maxRecDepth 100000 in
theorem sort0_calls (A : Option Addr) (c : Nat) (f : Value) (w : World) :
    Calls Tryz.prog 83 #[.slice A 0 c, f] w fun e w' => e = .returned (.tuple #[]) ∧ w' = w := by
  go_enter Tryz.func83, Tryz.ntmps83
  go_wp2_with fail
  refine (Tryz.bits_Len 0 w (by omega) (by omega)).mono ?_
  rintro e w' ⟨rfl, rfl⟩
  go_wp2_with fail
  refine (pdq0_calls A c f _ _).mono ?_
  rintro e w' ⟨rfl, rfl⟩
  go_wp2_with fail
  go_end0
  exact ⟨rfl, rfl⟩

/-! ### Ends, sorted -/
theorem own_sortedG {α : Type} [Inhabited α] (enc : α → Value) {w w' : World} {base : Nat} {e : TypeId} {g c m : Nat} {ds : List α} {D : Array α} {os : Array Obj} (h : w.ownsRow base e 1 (.slice (some ⟨g, 0, none⟩) ds.length c) ds.length (ds.map enc)) (hD : D.size = ds.length) (hw : w' = sortWorld enc w g 0 m D os) :
    w'.ownsRow base e 1 (.slice (some ⟨g, 0, none⟩) ds.length c) ds.length (D.toList.map enc) ∧ w.grownBy w' (some g) := by
  subst hw
  have hg0 : g < w.heap.size := (own_row_ge h g rfl).2
  have hblk : ∀ k, k < w.heap.size → (sortWorld enc w g 0 m D os).heap[k]? = (putRow enc w g 0 D).heap[k]? := fun k hk => by
    unfold sortWorld Sort.grow
    show ((putRow enc w g 0 D).heap ++ os)[k]? = _
    rw [Array.getElem?_append_left]
    simpa [putRow, mapBlock] using hk
  constructor
  · refine ⟨by simp [hD], .inr ?_⟩
    rcases h.2 with ⟨h', _⟩ | ⟨g', cap', cur, h', hb, hg, hnc, hcm, hcs, htake⟩
    · simp at h'
    · simp only [Value.slice.injEq, Option.some.injEq, Addr.mk.injEq, and_true, true_and] at h'
      obtain ⟨rfl, rfl⟩ := h'
      refine ⟨g, c, putCells enc 0 D cur, rfl, hb, ?_, hnc, hcm, ?_, ?_⟩
      · rw [hblk g hg0]
        show (w.heap.modify g (onCells (putCells enc 0 D)))[g]? = _
        rw [Array.getElem?_modify, if_pos rfl, hg]; rfl
      · simp [putCells, hcs]
      · apply List.ext_getElem
        · simp [putCells, hD]; omega
        · intro k h1 h2
          have hk : k < D.size := by simpa using h2
          simp [putCells, hk, getElem!_pos]
  · refine ⟨rfl, rfl, rfl, ?_, fun k hk hne => ?_⟩
    · unfold sortWorld Sort.grow
      simp [putRow, mapBlock]
    · rw [hblk k hk]
      show (mapBlock w g (putCells enc 0 D)).heap[k]? = _
      have : g ≠ k := fun e => hne (by rw [e])
      simp [mapBlock, Array.getElem?_modify, this]

def encF {n : Nat} (x : Fin n) : Value := .int .i64 (x.val : Nat)
theorem oneF (n : Nat) : OneCell (encF (n := n)) := fun _ => rfl
theorem fins {n : Nat} : ∀ {e : List Nat}, (∀ x ∈ e, x < n) → ∃ ds : List (Fin n), ds.map Fin.val = e
  | [], _ => ⟨[], rfl⟩
  | a :: t, h => by
    obtain ⟨ds, hds⟩ := fins fun x hx => h x (List.mem_cons_of_mem _ hx)
    exact ⟨⟨a, h a (List.mem_cons_self ..)⟩ :: ds, by rw [List.map_cons, hds]⟩
theorem map_encF {n : Nat} (ds : List (Fin n)) : ds.map encF = (ds.map Fin.val).map fun x => Value.int .i64 (x : Nat) := by rw [List.map_map]; rfl
theorem own_holdsG {α : Type} [Inhabited α] (enc : α → Value) {w : World} {base : Nat} {e : TypeId} {g c : Nat} {ds : List α} (h : w.ownsRow base e 1 (.slice (some ⟨g, 0, none⟩) ds.length c) ds.length (ds.map enc)) : Holds enc w g 0 ds.toArray := fun j hj => by
  have hj' : j < ds.length := by simpa using hj
  rw [Nat.zero_add]
  refine ⟨?_, h.frozenAt j⟩
  rw [h.cellAt j (by omega)]
  simp [hj', getElem!_pos]
theorem cell_sorted {α : Type} [Inhabited α] (enc : α → Value) {w : World} {g m : Nat} {D : Array α} {os : Array Obj} {b o : Nat} {v : Value} (h : w.cell? ⟨b, o, none⟩ = some v) (hne : b ≠ g) : (sortWorld enc w g 0 m D os).cell? ⟨b, o, none⟩ = some v := by
  unfold sortWorld
  rw [cell?_grow _ _ _ (by simp; exact cell_lt h), cell?_putRow_other enc _ g 0 D _ (.inl hne)]
  exact h
set_option maxRecDepth 100000 in
theorem sortRank_calls (l : List Int) (hn : 0 < l.length) (hl : l.length ≤ 1099511627776) (k : Nat) (hk : k ≤ 1099511627776) (R : Nat → Int) (hR : Rank l k R) (w : World) (base OB oc : Nat) (e : List Nat)
    (ho : w.ownsRow base 3 1 (.slice (some ⟨OB, 0, none⟩) l.length oc) l.length (e.map fun x => Value.int .i64 (x : Nat))) (hp : e.Perm (List.range l.length))
    (RB FB LB rc lc rb : Nat) (La : Option Addr) (hK : KeyIn w RB FB LB l.length k rc lc (some ⟨rb, 0, none⟩) La R) (h1 : RB ≠ OB) (h2 : FB ≠ OB) (h3 : LB ≠ OB) (h4 : rb ≠ OB) :
    Calls Tryz.prog 83 #[.slice (some ⟨OB, 0, none⟩) l.length oc, .func (.func 81) #[] #[.pointer (some ⟨RB, 0, none⟩), .pointer (some ⟨FB, 0, none⟩), .pointer (some ⟨LB, 0, none⟩)]] w fun e' w' =>
      e' = .returned (.tuple #[]) ∧ ∃ e2, Ord l (k + k) e2 ∧ w'.ownsRow base 3 1 (.slice (some ⟨OB, 0, none⟩) l.length oc) l.length (e2.map fun x => Value.int .i64 (x : Nat)) ∧ w.grownBy w' (some OB) := by
  obtain ⟨ds, hds⟩ := fins (n := l.length) (e := e) fun x hx => by simpa using hp.mem_iff.1 hx
  subst hds
  have hlen : ds.length = l.length := by have := hp.length_eq; simpa using this
  have hI : Inhabited (Fin l.length) := ⟨⟨0, hn⟩⟩
  rw [← map_encF] at ho
  have ho' : w.ownsRow base 3 1 (.slice (some ⟨OB, 0, none⟩) ds.length oc) ds.length (ds.map encF) := by rw [hlen]; exact ho
  have hs : ds.toArray.size = l.length := by simpa using hlen
  have hc := Tryz.slices_SortFunc encF (oneF l.length) (fun x y : Fin l.length => keyF l.length R k x y) (swo_key hR) 81 #[.pointer (some ⟨RB, 0, none⟩), .pointer (some ⟨FB, 0, none⟩), .pointer (some ⟨LB, 0, none⟩)] OB 0 oc ds.toArray w (fun _ _ => rfl)
    (CmpReads.lays fun m os dk hdk x y => by
      refine (key_calls _ RB FB LB l.length k rc lc x.val y.val (some ⟨rb, 0, none⟩) La R ⟨cell_sorted encF hK.r h1, cell_sorted encF hK.f h2, cell_sorted encF hK.l h3, fun hn => ?_⟩ hl hk x.2 y.2).mono fun e w' ⟨he, q, hq⟩ => ⟨he, q, hq⟩
      obtain ⟨b, o, hA, hb, hcc⟩ := hK.v hn
      injection hA with hA
      injection hA with hA1 hA2
      subst hA1; subst hA2
      exact ⟨rb, 0, rfl, cell_lt (cell_sorted encF (hcc 0 hn) h4), fun j hj => cell_sorted encF (hcc j hj) h4⟩)
    (own_holdsG encF ho') (own_row_ge ho OB rfl).2 (by rw [hs]; omega)
  rw [hs] at hc
  refine hc.mono fun e' w' ⟨he, d', n, os, hperm, hsort, hw⟩ => ⟨he, d'.toList.map Fin.val, ?_, ?_⟩
  · exact ord_sorted hR ds.toArray d' (by simpa using hp) (by rw [hs]; exact hperm) (by rw [hs]; exact hsort)
  · have hD : d'.size = ds.length := by have := hperm.1; omega
    have := own_sortedG encF ho' hD hw
    rw [hlen, map_encF] at this
    exact this
end Go.Proofs.YtjfdlibceldanabGreatDoor
