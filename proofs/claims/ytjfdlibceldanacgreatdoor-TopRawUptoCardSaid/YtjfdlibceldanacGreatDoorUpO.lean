/- The second form's bound of slices and books: opened, and how long they are. -/
import Derived.Test.YtjfdlibceldanacGreatDoorUpB
import Derived.Test.YtjfdlibceldanacGreatDoorOpen
import Derived.Test.YtjfdlibceldanacGreatDoorTxtR
import Derived.Lib.SmallJoins
namespace Go.Proofs.YtjfdlibceldanacGreatDoor
open Go.ChangeShapes Go.WideShapes Go.ChangeAt Go.RowKit Go.ChangeMaps Go.Joins
variable {H : Type} {enc : TypeId × Value → H} {W : World}
theorem bulk_pos (d : DataW H) : 1 ≤ Rows.uptoBulk d := by
  cases d with
  | lit x => cases x <;> simp [Rows.uptoBulk]
  | _ => simp [Rows.uptoBulk]
theorem bulkAll_len : ∀ l : List (DataW H), l.length ≤ Rows.uptoBulkAll l
  | [] => Nat.le_refl _
  | d :: r => by
    have h1 := bulk_pos d
    have h2 := bulkAll_len r
    simp only [Rows.uptoBulkAll, List.length_cons]
    omega
theorem bulkAll_mem : ∀ (l : List (DataW H)) (d : DataW H), d ∈ l → Rows.uptoBulk d ≤ Rows.uptoBulkAll l
  | [], _, h => by cases h
  | d :: r, x, h => by
    simp only [Rows.uptoBulkAll]
    rcases List.mem_cons.1 h with e | e
    · subst e; omega
    · have := bulkAll_mem r x e; omega
theorem opened_up {α : Type} [Inhabited α] (val : α → Value) (good : α → Prop) {T E : TypeId} (hT : Tryz.prog.underlying T = some (.slice E)) (hC : Tryz.prog.cellsOf E = 1)
    (hel : ∀ n V y, DataW.trod enc Tryz.prog W 0 (fun _ => true) true n E [V] = some y → ∃ x, V = val x ∧ good x)
    {fuel : Nat} {v : Value} {y : DataW H × List MemPlace} (h : DataW.trod enc Tryz.prog W 0 (fun _ => true) true fuel T [v] = some y) {b : Nat} (hb : Rows.uptoBulk y.1 ≤ b) :
    ∃ (A : Option Addr) (c : Nat) (xs : List α), v = .slice A xs.length c ∧ Rd W A xs.length (fun j => val (nth xs j)) ∧ (∀ x ∈ xs, good x) ∧ xs.length ≤ c ∧ c ≤ b ∧ (A = none → c = 0) := by
  rcases Go.Deep.open_slice1 hT hC h with ⟨hcs, hx⟩ | ⟨a, len, cap, m, n, V, D, Pl, hcs, _, hl, _, hm, hx, hV⟩
  · injection hcs with hcs
    subst hcs
    exact ⟨none, 0, [], rfl, Rd.zero, (fun x hx => by cases hx), Nat.le_refl _, Nat.zero_le _, fun _ => rfl⟩
  · injection hcs with hcs
    subst hcs
    simp only [if_true] at hm
    subst hm
    obtain ⟨f, hf⟩ := Go.Deep.choose_lt (α := α) (p := fun i x => V i = val x ∧ good x) (fun i hi => hel n (V i) _ (hV i hi).2)
    refine ⟨some a, m, (List.range len).map f, by simp, ?_, ?_, by simpa using hl, ?_, fun h => by cases h⟩
    · intro hn
      have hn' : 0 < len := by simpa using hn
      have h0 := (hV 0 (by omega)).1
      obtain ⟨b, off, spot⟩ := a
      have hspot : spot = none := by simpa [Addr.add] using World.cell?_spot h0
      subst hspot
      rw [add_plain] at h0
      refine ⟨b, off, rfl, cell_lt h0, fun k hk => ?_⟩
      have hk' : k < len := by simpa using hk
      have := (hV k (by omega)).1
      rw [add_plain] at this
      rw [this, (hf k (by omega)).1]
      show some (val (f k)) = some (val (nth ((List.range len).map f) k))
      rw [nth_lt (l := (List.range len).map f) (k := k) (by simpa using hk')]
      simp
    · intro x hx
      obtain ⟨i, hi, rfl⟩ := List.mem_map.1 hx
      exact (hf i (by have := List.mem_range.1 hi; omega)).2
    · subst hx
      simp only [Rows.uptoBulk] at hb
      have h1 := bulkAll_len ((List.range len).map D)
      have h2 := bulkAll_len ((List.range (m - len)).map fun j => D (len + j))
      rw [List.length_map, List.length_range] at h1 h2
      omega
theorem up_ints {T E : TypeId} (hT : Tryz.prog.underlying T = some (.slice E)) (hE : Tryz.prog.underlying E = some (.int .i64)) (hC : Tryz.prog.cellsOf E = 1)
    {fuel : Nat} {v : Value} {y : DataW H × List MemPlace} (h : DataW.trod enc Tryz.prog W 0 (fun _ => true) true fuel T [v] = some y) {b : Nat} (hb : Rows.uptoBulk y.1 ≤ b) :
    ∃ (A : Option Addr) (c : Nat) (xs : List Int), v = .slice A xs.length c ∧ Rd W A xs.length (fun j => .int .i64 (nth xs j)) ∧ (∀ x ∈ xs, I64 x) ∧ xs.length ≤ c ∧ c ≤ b ∧ (A = none → c = 0) :=
  opened_up (fun x : Int => .int .i64 x) I64 hT hC (fun n V y hy => by
    obtain ⟨x, hx, _, hwf⟩ := DataW.trod_int hE hy
    injection hx with hx
    exact ⟨x, hx, wf_i64 hwf⟩) h hb
theorem up_strs {T E : TypeId} (hT : Tryz.prog.underlying T = some (.slice E)) (hE : Tryz.prog.underlying E = some .string) (hC : Tryz.prog.cellsOf E = 1)
    {fuel : Nat} {v : Value} {y : DataW H × List MemPlace} (h : DataW.trod enc Tryz.prog W 0 (fun _ => true) true fuel T [v] = some y) {b : Nat} (hb : Rows.uptoBulk y.1 ≤ b) :
    ∃ (A : Option Addr) (c : Nat) (xs : List (List UInt8)), v = .slice A xs.length c ∧ RdS W A xs ∧ (∀ x ∈ xs, x.length ≤ 9223372036854775807) ∧ xs.length ≤ c ∧ c ≤ b ∧ (A = none → c = 0) :=
  opened_up (fun x : List UInt8 => str x) (fun x => x.length ≤ 9223372036854775807) hT hC (fun n V y hy => by
    obtain ⟨s, hx, _, hs⟩ := DataW.trod_string hE hy
    injection hx with hx
    refine ⟨s.data.toList, hx, ?_⟩
    have h2 : s.data.toList.length ≤ maxLen := hs
    unfold maxLen at h2
    omega) h hb
set_option maxRecDepth 100000 in
/-- api.Book, opened. -/
theorem open_book {v : Value} {d : DataW H} {p : List MemPlace} {r : Reach} {base : Nat} (hv : Value.okWide Tryz.prog W r base 25 v) (h : DataW.Trod enc Tryz.prog W 0 (fun _ => true) true 25 v d p) {b : Nat} (hb : Rows.uptoBulk d ≤ b) :
    ∃ (WA TA : Option Addr) (wc tc : Nat) (ws : List (List UInt8)) (ts : List Int), v = bookV WA TA ws.length wc ts.length tc ∧ RdS W WA ws ∧ (∀ x ∈ ws, x.length ≤ 9223372036854775807) ∧ ws.length ≤ wc ∧ wc ≤ b ∧ (WA = none → wc = 0) ∧
      Rd W TA ts.length (fun j => .int .i64 (nth ts j)) ∧ (∀ x ∈ ts, I64 x) ∧ ts.length ≤ tc ∧ tc ≤ b := by
  obtain ⟨v0, v1, y0, y1, n, rfl, rfl, rfl, h0, h1⟩ := Joins.open_agg2 Tryz.underlying25 (by kernel_rfl) (by kernel_rfl) hv h
  simp only [Rows.uptoBulk, Rows.uptoBulkAll] at hb
  obtain ⟨WA, wc, ws, rfl, w1, w2, w3, w4, w5⟩ := up_strs (b := b) Tryz.underlying22 Tryz.underlying9 (by kernel_rfl) h0 (by omega)
  obtain ⟨TA, tc, ts, rfl, t1, t2, t3, t4, _⟩ := up_ints (b := b) Tryz.underlying23 Tryz.underlying3 (by kernel_rfl) h1 (by omega)
  exact ⟨WA, TA, wc, tc, ws, ts, rfl, w1, w2, w3, w4, w5, t1, t2, t3, t4⟩
end Go.Proofs.YtjfdlibceldanacGreatDoor
