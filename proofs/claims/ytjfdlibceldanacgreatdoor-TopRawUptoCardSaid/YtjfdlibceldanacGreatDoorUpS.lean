/- api.Shelf, opened, of whatever numbers. -/
import Derived.Test.YtjfdlibceldanacGreatDoorUpO
import Derived.Test.YtjfdlibceldanacGreatDoorWvGood
namespace Go.Proofs.YtjfdlibceldanacGreatDoor
open Go.ChangeShapes Go.WideShapes Go.ChangeAt Go.RowKit Go.ChangeMaps Go.Joins Wv
variable {H : Type} {enc : TypeId × Value → H} {W : World}
theorem array7 {α : Type} {cs : Array α} (h : cs.size = 7) : ∃ c0 c1 c2 c3 c4 c5 c6, cs = #[c0, c1, c2, c3, c4, c5, c6] := by
  obtain ⟨l⟩ := cs
  match l, h with
  | [c0, c1, c2, c3, c4, c5, c6], _ => exact ⟨c0, c1, c2, c3, c4, c5, c6, rfl⟩
theorem list3 {α : Type} {cs : List α} (h : cs.length = 3) : ∃ c0 c1 c2, cs = [c0, c1, c2] := by
  match cs, h with
  | [c0, c1, c2], _ => exact ⟨c0, c1, c2, rfl⟩
theorem up_words {T E : TypeId} (hT : Tryz.prog.underlying T = some (.slice E)) (hE : Tryz.prog.underlying E = some (.int .u64)) (hC : Tryz.prog.cellsOf E = 1)
    {fuel : Nat} {v : Value} {y : DataW H × List MemPlace} (h : DataW.trod enc Tryz.prog W 0 (fun _ => true) true fuel T [v] = some y) {b : Nat} (hb : Rows.uptoBulk y.1 ≤ b) :
    ∃ (A : Option Addr) (c : Nat) (xs : List Nat), v = .slice A xs.length c ∧ Rd W A xs.length (fun j => .int .u64 (nth xs j : Nat)) ∧ (∀ x ∈ xs, x < 18446744073709551616) ∧ xs.length ≤ c ∧ c ≤ b ∧ (A = none → c = 0) :=
  opened_up (fun x : Nat => .int .u64 (x : Int)) (fun x => x < 18446744073709551616) hT hC (fun n V y hy => by
    obtain ⟨x, hx, _, hwf⟩ := DataW.trod_int hE hy
    injection hx with hx
    have hw2 := wf_u64 hwf
    exact ⟨x.toNat, by rw [hx, Int.toNat_of_nonneg hw2.1], by omega⟩) h hb
set_option maxRecDepth 100000 in
/-- One bits among a wave's levels. -/
theorem up_bits {n : Nat} {cs : List Value} {y : DataW H × List MemPlace} (h : DataW.trod enc Tryz.prog W 0 (fun _ => true) true n 137 cs = some y) {b : Nat} (hb : Rows.uptoBulk y.1 ≤ b) (hb2 : b ≤ 1048576) :
    ∃ (x : PB) (A1 A2 : Option Addr) (c1 c2 : Nat), cs = [.int .i64 x.N, .slice A1 x.P.length c1, .slice A2 x.A.length c2] ∧ x.Ok ∧ x.P.length ≤ 1048576 ∧ RdB W A1 A2 x := by
  obtain ⟨y0, y1, y2, n, rfl, hl, h0, h1, h2⟩ := Go.Deep.trod_struct3 Tryz.underlying137 h
  have e3 : Tryz.prog.cellsOf 137 = 3 := by kernel_rfl
  have ei : Tryz.prog.cellsOf 3 = 1 := by kernel_rfl
  have eu : Tryz.prog.cellsOf 135 = 1 := by kernel_rfl
  have el : Tryz.prog.cellsOf 23 = 1 := by kernel_rfl
  rw [e3] at hl
  obtain ⟨v0, v1, v2, rfl⟩ := list3 hl
  simp only [ei, eu, el, List.drop_zero, List.drop_succ_cons, List.take_succ_cons, List.take_zero] at h0 h1 h2
  simp only [Rows.uptoBulk, Rows.uptoBulkAll] at hb
  obtain ⟨N, hN, _, hwf⟩ := DataW.trod_int Tryz.underlying3 h0
  injection hN with hN
  subst hN
  obtain ⟨A1, c1, xs, rfl, r1, g1, l1, m1, _⟩ := up_words (b := b) Tryz.underlying135 Tryz.underlying118 (by kernel_rfl) h1 (by omega)
  obtain ⟨A2, c2, ys, rfl, r2, g2, l2, m2, _⟩ := up_ints (b := b) Tryz.underlying23 Tryz.underlying3 (by kernel_rfl) h2 (by omega)
  exact ⟨⟨N, xs, ys⟩, A1, A2, c1, c2, rfl, ⟨wf_i64 hwf, g1, g2, by show xs.length ≤ _; omega, by show ys.length ≤ _; omega⟩, by show xs.length ≤ _; omega, r1, r2⟩
set_option maxRecDepth 100000 in
/-- A wave's levels. -/
theorem up_levels {fuel : Nat} {v : Value} {y : DataW H × List MemPlace} (h : DataW.trod enc Tryz.prog W 0 (fun _ => true) true fuel 26 [v] = some y) {b : Nat} (hb : Rows.uptoBulk y.1 ≤ b) (hb2 : b ≤ 1048576) :
    ∃ (A : Option Addr) (c : Nat) (xs : List PB), v = .slice A xs.length c ∧ RdL W A xs ∧ (∀ x ∈ xs, x.Ok ∧ x.P.length ≤ 1048576) ∧ xs.length ≤ 1048576 := by
  have e3 : Tryz.prog.cellsOf 137 = 3 := by kernel_rfl
  rcases Go.Deep.open_slice Tryz.underlying26 h with ⟨hcs, hx⟩ | ⟨a, len, cap, m, n, D, Pl, hcs, _, hl, _, hm, hx, hV⟩
  · injection hcs with hcs
    subst hcs
    exact ⟨none, 0, [], rfl, (fun h => absurd h (Nat.lt_irrefl _)), (fun x hx => by cases hx), Nat.zero_le _⟩
  · injection hcs with hcs
    subst hcs
    simp only [if_true] at hm
    subst hm
    subst hx
    simp only [Rows.uptoBulk] at hb
    have h1 := bulkAll_len ((List.range len).map D)
    rw [List.length_map, List.length_range] at h1
    have hel : ∀ i, i < len → ∃ x : PB, (x.Ok ∧ x.P.length ≤ 1048576) ∧ ∃ (A1 A2 : Option Addr) (c1 c2 : Nat), W.cells? 0 (a.add (i * 3)) 3 = some [.int .i64 x.N, .slice A1 x.P.length c1, .slice A2 x.A.length c2] ∧ RdB W A1 A2 x := fun i hi => by
      obtain ⟨cs', q1, q2⟩ := hV i (by omega)
      have hm := bulkAll_mem ((List.range len).map D) (D i) (List.mem_map.2 ⟨i, List.mem_range.2 hi, rfl⟩)
      obtain ⟨x, A1, A2, c1, c2, rfl, ok, hp, hr⟩ := up_bits (b := b) q2 (show Rows.uptoBulk (D i) ≤ b by omega) hb2
      rw [e3] at q1
      exact ⟨x, ⟨ok, hp⟩, A1, A2, c1, c2, q1, hr⟩
    obtain ⟨f, hf⟩ := Go.Deep.choose_lt (α := PB) hel
    refine ⟨some a, m, (List.range len).map f, by simp, ?_, ?_, by rw [List.length_map, List.length_range]; omega⟩
    · intro hn
      have hn' : 0 < len := by simpa using hn
      have cells : ∀ i, i < len → ∃ (A1 A2 : Option Addr) (c1 c2 : Nat), W.cell? ((a.add (i * 3)).add 0) = some (.int .i64 (f i).N) ∧ W.cell? ((a.add (i * 3)).add 1) = some (.slice A1 (f i).P.length c1) ∧ W.cell? ((a.add (i * 3)).add 2) = some (.slice A2 (f i).A.length c2) ∧ RdB W A1 A2 (f i) := fun i hi => by
        obtain ⟨_, A1, A2, c1, c2, q1, hr⟩ := hf i hi
        obtain ⟨_, _, hc⟩ := World.cells?_some q1
        exact ⟨A1, A2, c1, c2, hc 0 (by decide), hc 1 (by decide), hc 2 (by decide), hr⟩
      obtain ⟨_, _, _, _, k0, _⟩ := cells 0 hn'
      obtain ⟨bb, off, spot⟩ := a
      have hspot : spot = none := by simpa [Addr.add] using World.cell?_spot k0
      subst hspot
      refine ⟨bb, off, rfl, ?_, fun k hk => ?_⟩
      · rw [add_plain, add_plain] at k0
        exact cell_lt k0
      · have hk' : k < len := by simpa using hk
        obtain ⟨A1, A2, c1, c2, q0, q1, q2, hr⟩ := cells k hk'
        rw [add_plain, add_plain] at q0 q1 q2
        have e : nth ((List.range len).map f) k = f k := by rw [nth_lt (by simpa using hk')]; simp
        rw [e]
        exact ⟨A1, A2, c1, c2, q0, q1, q2, hr⟩
    · intro x hx
      obtain ⟨i, hi, rfl⟩ := List.mem_map.1 hx
      exact (hf i (List.mem_range.1 hi)).1
/-- What a shelf of whatever numbers holds. -/
structure ShAny (W : World) (WA TA E B D : Option Addr) (wc ec bc dc : Nat) (ws : List (List UInt8)) (ts es ls : List Int) (x : PW) : Prop where
  wd : RdS W WA ws
  wl : ws.length ≤ 1048576
  tx : Rd W TA ts.length (fun j => .int .i64 (nth ts j))
  tl : ts.length ≤ 1048576
  er : Rd W E es.length (fun j => .int .i64 (nth es j))
  el : es.length ≤ 1048576
  ecap : es.length ≤ ec
  en : E = none → ec = 0
  lr : Rd W D ls.length (fun j => .int .i64 (nth ls j))
  ll : ls.length ≤ 1048576
  li : ∀ y ∈ ls, I64 y
  xo : x.Ok
  xp : ∀ b ∈ x.L, b.P.length ≤ 1048576
  xv : RdL W B x.L
set_option maxHeartbeats 1000000 in
set_option maxRecDepth 100000 in
theorem open_shelf {v : Value} {d : DataW H} {p : List MemPlace} {r : Reach} {base : Nat} (hv : Value.okWide Tryz.prog W r base 32 v) (h : DataW.Trod enc Tryz.prog W 0 (fun _ => true) true 32 v d p) {b : Nat} (hb : Rows.uptoBulk d ≤ b) (hb2 : b ≤ 1048576) :
    ∃ (WA TA E B D : Option Addr) (wc tc ec bc dc : Nat) (ws : List (List UInt8)) (ts es ls : List Int) (x : PW), v = .agg #[.slice WA ws.length wc, .slice TA ts.length tc, .slice E es.length ec, .int .i64 x.N, .int .i64 x.Deep, .slice B x.L.length bc, .slice D ls.length dc] ∧ ShAny W WA TA E B D wc ec bc dc ws ts es ls x := by
  obtain ⟨cs, rfl, hsz⟩ := okWide_struct Tryz.underlying32 hv
  have e7 : Tryz.prog.cellsOf 32 = 7 := by kernel_rfl
  have e2 : Tryz.prog.cellsOf 25 = 2 := by kernel_rfl
  have e5 : Tryz.prog.cellsOf 30 = 5 := by kernel_rfl
  have e3 : Tryz.prog.cellsOf 28 = 3 := by kernel_rfl
  have ei : Tryz.prog.cellsOf 3 = 1 := by kernel_rfl
  have es1 : Tryz.prog.cellsOf 22 = 1 := by kernel_rfl
  have el : Tryz.prog.cellsOf 23 = 1 := by kernel_rfl
  have eb : Tryz.prog.cellsOf 26 = 1 := by kernel_rfl
  rw [e7] at hsz
  obtain ⟨c0, c1, c2, c3, c4, c5, c6, rfl⟩ := array7 hsz
  obtain ⟨fuel, hf⟩ := h
  simp only [Value.cells] at hf
  obtain ⟨y0, y1, n, hx, _, h0, h1⟩ := Go.ChangeShapes.trod_struct2 Tryz.underlying32 hf
  simp only [Prod.mk.injEq] at hx
  obtain ⟨rfl, rfl⟩ := hx
  simp only [e2, e5, List.drop_zero, List.drop_succ_cons, List.take_succ_cons, List.take_zero] at h0 h1
  simp only [Rows.uptoBulk, Rows.uptoBulkAll] at hb
  obtain ⟨u0, u1, n2, rfl, _, k0, k1⟩ := Go.ChangeShapes.trod_struct2 Tryz.underlying25 h0
  obtain ⟨w0, w1, w2, n3, rfl, _, j0, j1, j2⟩ := Go.Deep.trod_struct3 Tryz.underlying30 h1
  simp only [es1, el, e3, List.drop_zero, List.drop_succ_cons, List.take_succ_cons, List.take_zero] at k0 k1 j0 j1 j2
  obtain ⟨z0, z1, z2, n4, rfl, _, i0, i1, i2⟩ := Go.Deep.trod_struct3 Tryz.underlying28 j1
  simp only [ei, eb, List.drop_zero, List.drop_succ_cons, List.take_succ_cons, List.take_zero] at i0 i1 i2
  simp only [Rows.uptoBulk, Rows.uptoBulkAll] at hb
  obtain ⟨WA, wc, ws, rfl, a1, _, a3, a4, _⟩ := up_strs (b := b) Tryz.underlying22 Tryz.underlying9 (by kernel_rfl) k0 (by omega)
  obtain ⟨TA, tc, ts, rfl, b1, _, b3, b4, _⟩ := up_ints (b := b) Tryz.underlying23 Tryz.underlying3 (by kernel_rfl) k1 (by omega)
  obtain ⟨E, ec, es, rfl, d1, _, d3, d4, d5⟩ := up_ints (b := b) Tryz.underlying23 Tryz.underlying3 (by kernel_rfl) j0 (by omega)
  obtain ⟨D, dc, ls, rfl, l1, l2, l3, l4, _⟩ := up_ints (b := b) Tryz.underlying23 Tryz.underlying3 (by kernel_rfl) j2 (by omega)
  obtain ⟨N, hN, _, hNw⟩ := DataW.trod_int Tryz.underlying3 i0
  obtain ⟨K, hK, _, hKw⟩ := DataW.trod_int Tryz.underlying3 i1
  injection hN with hN
  injection hK with hK
  subst hN; subst hK
  obtain ⟨B, bc, xs, rfl, x1, x2, x3⟩ := up_levels (b := b) i2 (by omega) hb2
  exact ⟨WA, TA, E, B, D, wc, tc, ec, bc, dc, ws, ts, es, ls, ⟨N, K, xs⟩, rfl, a1, by omega, b1, by omega, d1, by omega, d3, d5, l1, by omega, l2,
    ⟨wf_i64 hNw, wf_i64 hKw, fun y hy => (x2 y hy).1, by show xs.length ≤ _; omega⟩, fun y hy => (x2 y hy).2, x1⟩
end Go.Proofs.YtjfdlibceldanacGreatDoor
