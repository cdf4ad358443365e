/- Arguments, opened: a slice of one-cell elements that came in, and a struct of three fields with two such slices. No program in sight. -/
import Derived.Test.YtjfdlibceldanacGreatDoorBase
import Derived.Lib.SmallJoins
namespace Go.Proofs.YtjfdlibceldanacGreatDoor
open Go.ChangeShapes Go.WideShapes Go.ChangeAt Go.RowKit Go.Joins Go.Deep
section
variable {H : Type} {enc : TypeId × Value → H} {P : Program} {W : World}

theorem opened_slice {α : Type} [Inhabited α] (val : α → Value) (good : α → Prop) {T E : TypeId} {bytes : Nat} (hT : P.underlying T = some (.slice E)) (hC : P.cellsOf E = 1) (hB : P.bytesOf E = bytes)
    (hel : ∀ n V y, DataW.trod enc P W 0 (fun _ => true) true n E [V] = some y → ∃ x, V = val x ∧ good x)
    {fuel : Nat} {v : Value} {y : DataW H × List MemPlace} (h : DataW.trod enc P W 0 (fun _ => true) true fuel T [v] = some y) (hw : (y.1.weights P T).all (· ≤ reachBytes) = true) :
    ∃ (A : Option Addr) (c : Nat) (xs : List α), v = .slice A xs.length c ∧ Rd W A xs.length (fun j => val (nth xs j)) ∧ (∀ x ∈ xs, good x) ∧ xs.length * bytes ≤ 140737488351232 ∧ (A = none → c = 0) := by
  rcases Go.Deep.open_slice1 hT hC h with ⟨hcs, hx⟩ | ⟨a, len, cap, m, n, V, D, Pl, hcs, _, hl, _, hm, hx, hV⟩
  · injection hcs with hcs
    subst hcs
    exact ⟨none, 0, [], rfl, Rd.zero, (fun x hx => by cases hx), by simp, fun _ => rfl⟩
  · injection hcs with hcs
    subst hcs
    simp only [if_true] at hm
    subst hm
    obtain ⟨f, hf⟩ := Go.Deep.choose_lt (α := α) (p := fun i x => V i = val x ∧ good x) (fun i hi => hel n (V i) _ (hV i hi).2)
    refine ⟨some a, m, (List.range len).map f, by simp, ?_, ?_, ?_, fun h => by cases h⟩
    · intro hn
      have hn' : 0 < len := by simpa using hn
      have h0 := (hV 0 (by omega)).1
      obtain ⟨b, off, spot⟩ := a
      have hspot : spot = none := by simpa [Addr.add] using World.cell?_spot h0
      subst hspot
      rw [add_plain] at h0
      refine ⟨b, off, rfl, cell_lt h0, fun k hk => ?_⟩
      have hk' : k < len := by simpa using hk
      have := (hV k (by omega)).1
      rw [add_plain] at this
      rw [this, (hf k (by omega)).1]
      show some (val (f k)) = some (val (nth ((List.range len).map f) k))
      rw [nth_lt (l := (List.range len).map f) (k := k) (by simpa using hk')]
      simp
    · intro x hx
      obtain ⟨i, hi, rfl⟩ := List.mem_map.1 hx
      exact (hf i (by have := List.mem_range.1 hi; omega)).2
    · subst hx
      simp only [DataW.weights, hT, List.all_cons, Bool.and_eq_true, decide_eq_true_eq, hB, List.length_map, List.length_range] at hw
      have h1 := hw.1
      unfold reachBytes at h1
      have h2 : len * bytes ≤ (len + (m - len)) * bytes := Nat.mul_le_mul_right _ (by omega)
      simp only [List.length_map, List.length_range]
      omega

theorem wf_i64 {x : Int} (h : (Lit.int .i64 x).wf = true) : I64 x := by
  simp only [Lit.wf, Bool.and_eq_true, decide_eq_true_eq] at h
  have e1 : IntKind.i64.min = -9223372036854775808 := rfl
  have e2 : IntKind.i64.max = 9223372036854775807 := rfl
  rw [e1, e2] at h
  exact h
theorem wf_u64 {x : Int} (h : (Lit.int .u64 x).wf = true) : 0 ≤ x ∧ x < 18446744073709551616 := by
  simp only [Lit.wf, Bool.and_eq_true, decide_eq_true_eq] at h
  have e1 : IntKind.u64.min = 0 := rfl
  have e2 : IntKind.u64.max = 18446744073709551615 := rfl
  rw [e1, e2] at h
  omega

theorem opened_ints {T E : TypeId} (hT : P.underlying T = some (.slice E)) (hE : P.underlying E = some (.int .i64)) (hC : P.cellsOf E = 1) (hB : P.bytesOf E = 8)
    {fuel : Nat} {v : Value} {y : DataW H × List MemPlace} (h : DataW.trod enc P W 0 (fun _ => true) true fuel T [v] = some y) (hw : (y.1.weights P T).all (· ≤ reachBytes) = true) :
    ∃ (A : Option Addr) (c : Nat) (xs : List Int), v = .slice A xs.length c ∧ Rd W A xs.length (fun j => .int .i64 (nth xs j)) ∧ (∀ x ∈ xs, I64 x) ∧ xs.length ≤ 17592186044416 ∧ (A = none → c = 0) := by
  obtain ⟨A, c, xs, h1, h2, h3, h4, h5⟩ := opened_slice (fun x : Int => .int .i64 x) I64 hT hC hB (fun n V y hy => by
    obtain ⟨x, hx, _, hwf⟩ := DataW.trod_int hE hy
    injection hx with hx
    exact ⟨x, hx, wf_i64 hwf⟩) h hw
  exact ⟨A, c, xs, h1, h2, h3, by omega, h5⟩
theorem opened_words {T E : TypeId} (hT : P.underlying T = some (.slice E)) (hE : P.underlying E = some (.int .u64)) (hC : P.cellsOf E = 1) (hB : P.bytesOf E = 8)
    {fuel : Nat} {v : Value} {y : DataW H × List MemPlace} (h : DataW.trod enc P W 0 (fun _ => true) true fuel T [v] = some y) (hw : (y.1.weights P T).all (· ≤ reachBytes) = true) :
    ∃ (A : Option Addr) (c : Nat) (xs : List Nat), v = .slice A xs.length c ∧ Rd W A xs.length (fun j => .int .u64 (nth xs j : Nat)) ∧ (∀ x ∈ xs, x < 18446744073709551616) ∧ xs.length ≤ 17592186044416 ∧ (A = none → c = 0) := by
  obtain ⟨A, c, xs, h1, h2, h3, h4, h5⟩ := opened_slice (fun x : Nat => .int .u64 (x : Int)) (fun x => x < 18446744073709551616) hT hC hB (fun n V y hy => by
    obtain ⟨x, hx, _, hwf⟩ := DataW.trod_int hE hy
    injection hx with hx
    have hw2 := wf_u64 hwf
    exact ⟨x.toNat, by rw [hx, Int.toNat_of_nonneg hw2.1], by omega⟩) h hw
  exact ⟨A, c, xs, h1, h2, h3, by omega, h5⟩
theorem opened_bools {T E : TypeId} (hT : P.underlying T = some (.slice E)) (hE : P.underlying E = some .bool) (hC : P.cellsOf E = 1) (hB : P.bytesOf E = 1)
    {fuel : Nat} {v : Value} {y : DataW H × List MemPlace} (h : DataW.trod enc P W 0 (fun _ => true) true fuel T [v] = some y) (hw : (y.1.weights P T).all (· ≤ reachBytes) = true) :
    ∃ (A : Option Addr) (c : Nat) (xs : List Bool), v = .slice A xs.length c ∧ Rd W A xs.length (fun j => .bool (nth xs j)) ∧ xs.length ≤ 140737488351232 ∧ (A = none → c = 0) := by
  obtain ⟨A, c, xs, h1, h2, h3, h4, h5⟩ := opened_slice (fun x : Bool => .bool x) (fun _ => True) hT hC hB (fun n V y hy => by
    obtain ⟨x, hx, _⟩ := DataW.trod_bool hE hy
    injection hx with hx
    exact ⟨x, hx, trivial⟩) h hw
  exact ⟨A, c, xs, h1, h2, by omega, h5⟩

/-- api.Bits, opened. -/
theorem opened_bits {T Tw Ti Eu Ei : TypeId} {r : Reach} {base : Nat} {f0 f1 f2 : Field} {v : Value} {d : DataW H} {p : List MemPlace} (hs : P.underlying T = some (.struct #[f0, f1, f2])) (hone : oneCellFields P #[f0, f1, f2] = true) (hC : P.cellsOf T = 3)
    (e0 : f0.type = Ei) (e1 : f1.type = Tw) (e2 : f2.type = Ti) (hTw : P.underlying Tw = some (.slice Eu)) (hTi : P.underlying Ti = some (.slice Ei)) (hEu : P.underlying Eu = some (.int .u64)) (hEi : P.underlying Ei = some (.int .i64))
    (hCu : P.cellsOf Eu = 1) (hCi : P.cellsOf Ei = 1) (hBu : P.bytesOf Eu = 8) (hBi : P.bytesOf Ei = 8)
    (hv : Value.okWide P W r base T v) (h : DataW.Trod enc P W 0 (fun _ => true) true T v d p) (hw : (d.weights P T).all (· ≤ reachBytes) = true) :
    ∃ (b : PB) (A1 A2 : Option Addr) (c1 c2 : Nat), v = .agg #[.int .i64 b.N, .slice A1 b.P.length c1, .slice A2 b.A.length c2] ∧ b.Ok ∧ RdB W A1 A2 b := by
  obtain ⟨v0, v1, v2, y0, y1, y2, n, rfl, rfl, rfl, h0, h1, h2⟩ := Joins.open_agg3 hs hone hC hv h
  rw [e0] at h0; rw [e1] at h1; rw [e2] at h2
  have hww : ((y0.1.weights P Ei) ++ ((y1.1.weights P Tw) ++ ((y2.1.weights P Ti) ++ []))).all (· ≤ reachBytes) = true := by
    simpa [DataW.weights, hs, DataW.weightsEach, e0, e1, e2] using hw
  simp only [List.all_append, Bool.and_eq_true] at hww
  obtain ⟨N, hN, _, hwf⟩ := DataW.trod_int hEi h0
  injection hN with hN
  subst hN
  obtain ⟨A1, c1, xs, rfl, r1, g1, l1, _⟩ := opened_words hTw hEu hCu hBu h1 hww.2.1
  obtain ⟨A2, c2, ys, rfl, r2, g2, l2, _⟩ := opened_ints hTi hEi hCi hBi h2 hww.2.2.1
  exact ⟨⟨N, xs, ys⟩, A1, A2, c1, c2, rfl, ⟨wf_i64 hwf, g1, g2, by show xs.length ≤ _; omega, by show ys.length ≤ _; omega⟩, r1, r2⟩
end
end Go.Proofs.YtjfdlibceldanacGreatDoor
