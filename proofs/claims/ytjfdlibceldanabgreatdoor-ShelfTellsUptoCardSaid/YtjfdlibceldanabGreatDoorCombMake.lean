/- comb.Make: the walk. -/
import Derived.Test.YtjfdlibceldanabGreatDoorSortAhead
import Derived.Test.YtjfdlibceldanabGreatDoorWvGood
import Derived.Test.YtjfdlibceldanabGreatDoorWvDown
import Derived.Test.YtjfdlibceldanabGreatDoorPlainE
namespace Go.Proofs.YtjfdlibceldanabGreatDoor
open Go.RowKit En Wv

/-- Lists of which an index is made. -/
def combOk (l : List Int) : Prop := isLB l = true ∧ mostI l < 1024 ∧ l.length ≤ 4096
theorem isLB_IsL (l : List Int) : isLB l = true ↔ IsL l := by
  unfold isLB IsL hasLow
  simp only [Bool.and_eq_true, decide_eq_true_eq, beq_iff_eq, Bool.not_eq_true', List.any_eq_false, List.mem_range]
  constructor
  · rintro ⟨⟨h1, h2⟩, h3⟩
    exact ⟨h1, fun i hi => by have := h3 i (by omega); omega, h2⟩
  · rintro ⟨h1, h2, h3⟩
    exact ⟨⟨h1, h3⟩, fun i hi => by have := h2 i (by omega); omega⟩
theorem isLB_nonneg {l : List Int} (h : isLB l = true) : ∀ x ∈ l, 0 ≤ x := fun x hx => by
  obtain ⟨j, hj, rfl⟩ := List.getElem_of_mem hx
  have := ((isLB_iff l).1 h).2 j hj
  rw [nth_lt hj |>.symm]
  exact this.2
theorem max_calls (l : List Int) (A : Option Addr) (c : Nat) (w : World) (hl : l.length ≤ 1125899906842624) (hn : 0 < l.length) (h0 : ∀ x ∈ l, 0 ≤ x) (hr : Rd w A l.length (fun k => .int .i64 (nth l k))) :
    Calls Tryz.prog 49 #[.slice A l.length c] w fun e w' => e = .returned (.int .i64 (mostI l)) ∧ w' = w := by
  obtain ⟨b, o, rfl, hc⟩ := rd_cells hr hn
  have h := Tryz.slices_Max_int b o l.length c l w hn (Nat.le_refl _) (by omega) hc
  rw [List.take_length, maxOf_eq hn h0] at h
  exact h
/-- No index. -/
def NoComb (w : World) (e : Ending) (w' : World) : Prop := e = .returned (.tuple #[.agg #[.slice none 0 0, .int .i64 0, .int .i64 0, .slice none 0 0, .slice none 0 0], .bool false]) ∧ Ext w w'

/-- Five cells of a struct, stored one by one. -/
theorem bk5 {w : World} {B : Nat} {T : TypeId} {a0 a1 a2 a3 a4 v0 v1 v2 v3 v4 : Value} (h : Bk w B T #[a0, a1, a2, a3, a4]) :
    Bk (((((w.setCell ⟨B, 0, none⟩ v0).setCell ⟨B, 1, none⟩ v1).setCell ⟨B, 2, none⟩ v2).setCell ⟨B, 3, none⟩ v3).setCell ⟨B, 4, none⟩ v4) B T #[v0, v1, v2, v3, v4] :=
  ((((h.set 0 v0).set 1 v1).set 2 v2).set 3 v3).set 4 v4
theorem ext5 {a w : World} {B : Nat} (hx : Ext a w) (hb : a.heap.size ≤ B) (v0 v1 v2 v3 v4 : Value) : Ext a (((((w.setCell ⟨B, 0, none⟩ v0).setCell ⟨B, 1, none⟩ v1).setCell ⟨B, 2, none⟩ v2).setCell ⟨B, 3, none⟩ v3).setCell ⟨B, 4, none⟩ v4) :=
  ((((hx.setCell (p := ⟨B, 0, none⟩) hb v0).setCell (p := ⟨B, 1, none⟩) hb v1).setCell (p := ⟨B, 2, none⟩) hb v2).setCell (p := ⟨B, 3, none⟩) hb v3).setCell (p := ⟨B, 4, none⟩) hb v4

set_option maxHeartbeats 4000000 in
set_option maxRecDepth 100000 in
theorem cmake_no (l : List Int) (A : Option Addr) (c : Nat) (w : World) (hl : l.length ≤ 17592186044416) (hcap : l.length ≤ c) (hr : Rd w A l.length (fun k => .int .i64 (nth l k))) (h : ¬ combOk l) :
    Calls Tryz.prog 27 #[.slice A l.length c] w (NoComb w) := by
  have hg := fun w hr => sgood_calls l A c w (by omega) hcap hr
  cases hG : isLB l with
  | false =>
    rw [hG] at hg
    have HG := Lib.hid hg
    clear hg hG h
    go_enter Tryz.func27, Tryz.ntmps27
    go_wp2_with fail
    generalize hW : World.alloc w _ = W
    have bx := bk_of hW
    have hx : Ext w W := ext_of_alloc hW
    have hrW := hr.ext hx
    clear hW
    refine (HG.out W hrW).mono ?_
    rintro e w1 ⟨rfl, rfl⟩
    have y0 := bx.cell 0
    have y1 := bx.cell 1
    have y2 := bx.cell 2
    have y3 := bx.cell 3
    have y4 := bx.cell 4
    have f0 := bx.frozen 0
    have f1 := bx.frozen 1
    have f2 := bx.frozen 2
    have f3 := bx.frozen 3
    have f4 := bx.frozen 4
    have BF := Lib.hid (bk5 (v0 := .slice none 0 0) (v1 := .int .i64 0) (v2 := .int .i64 0) (v3 := .slice none 0 0) (v4 := .slice none 0 0) bx)
    have HXF := Lib.hid (ext5 (B := w.heap.size) hx (Nat.le_refl _) (.slice none 0 0) (.int .i64 0) (.int .i64 0) (.slice none 0 0) (.slice none 0 0))
    go_wp2_with fail
    clear y0 y1 y2 y3 y4 f0 f1 f2 f3 f4
    have bF := BF.out
    have hxF := HXF.out
    generalize ((((w1.setCell _ _).setCell _ _).setCell _ _).setCell _ _).setCell _ _ = wF at *
    have z0 : wF.cell? ⟨w.heap.size, 0, none⟩ = some (.slice none 0 0) := bF.cell 0
    have z1 : wF.cell? ⟨w.heap.size, 1, none⟩ = some (.int .i64 0) := bF.cell 1
    have z2 : wF.cell? ⟨w.heap.size, 2, none⟩ = some (.int .i64 0) := bF.cell 2
    have z3 : wF.cell? ⟨w.heap.size, 3, none⟩ = some (.slice none 0 0) := bF.cell 3
    have z4 : wF.cell? ⟨w.heap.size, 4, none⟩ = some (.slice none 0 0) := bF.cell 4
    exact bodyPost_ret (v := .tuple #[.agg #[.slice none 0 0, .int .i64 0, .int .i64 0, .slice none 0 0, .slice none 0 0], .bool false]) (by simp [results, Tryz.results27, go_sem, z0, z1, z2, z3, z4]) rfl ⟨rfl, hxF⟩
  | true =>
    rw [hG] at hg
    have hn := ((isLB_iff l).1 hG).1
    have hm := fun w hr => max_calls l A c w (by omega) hn (isLB_nonneg hG) hr
    obtain ⟨M, hM⟩ : ∃ M, mostI l = M := ⟨_, rfl⟩
    rw [hM] at hm
    have HG := Lib.hid hg; have HM := Lib.hid hm
    by_cases g1 : M < 1024
    · have g1' : decide (1024 ≤ M) = false := by simp; omega
      have g2 : 4096 < l.length := by
        rcases Nat.lt_or_ge 4096 l.length with q | q
        · exact q
        · exact absurd ⟨hG, by rw [hM]; exact g1, q⟩ h
      have g2' : decide ((4096 : Int) < l.length) = true := by simp; omega
      clear hg hm hG h g1 hM g2
      go_enter Tryz.func27, Tryz.ntmps27
      go_wp2_with fail
      generalize hW : World.alloc w _ = W
      have bx := bk_of hW
      have hx : Ext w W := ext_of_alloc hW
      have hrW := hr.ext hx
      clear hW
      refine (HG.out W hrW).mono ?_
      rintro e w1 ⟨rfl, rfl⟩
      go_wp2_with fail
      refine (HM.out _ hrW).mono ?_
      rintro e w2 ⟨rfl, rfl⟩
      have y0 := bx.cell 0
      have y1 := bx.cell 1
      have y2 := bx.cell 2
      have y3 := bx.cell 3
      have y4 := bx.cell 4
      have f0 := bx.frozen 0
      have f1 := bx.frozen 1
      have f2 := bx.frozen 2
      have f3 := bx.frozen 3
      have f4 := bx.frozen 4
      have BF := Lib.hid (bk5 (v0 := .slice none 0 0) (v1 := .int .i64 0) (v2 := .int .i64 0) (v3 := .slice none 0 0) (v4 := .slice none 0 0) bx)
      have HXF := Lib.hid (ext5 (B := w.heap.size) hx (Nat.le_refl _) (.slice none 0 0) (.int .i64 0) (.int .i64 0) (.slice none 0 0) (.slice none 0 0))
      go_wp2_with fail
      clear y0 y1 y2 y3 y4 f0 f1 f2 f3 f4
      have bF := BF.out
      have hxF := HXF.out
      generalize ((((w2.setCell _ _).setCell _ _).setCell _ _).setCell _ _).setCell _ _ = wF at *
      have z0 : wF.cell? ⟨w.heap.size, 0, none⟩ = some (.slice none 0 0) := bF.cell 0
      have z1 : wF.cell? ⟨w.heap.size, 1, none⟩ = some (.int .i64 0) := bF.cell 1
      have z2 : wF.cell? ⟨w.heap.size, 2, none⟩ = some (.int .i64 0) := bF.cell 2
      have z3 : wF.cell? ⟨w.heap.size, 3, none⟩ = some (.slice none 0 0) := bF.cell 3
      have z4 : wF.cell? ⟨w.heap.size, 4, none⟩ = some (.slice none 0 0) := bF.cell 4
      exact bodyPost_ret (v := .tuple #[.agg #[.slice none 0 0, .int .i64 0, .int .i64 0, .slice none 0 0, .slice none 0 0], .bool false]) (by simp [results, Tryz.results27, go_sem, z0, z1, z2, z3, z4]) rfl ⟨rfl, hxF⟩
    · have g1' : decide (1024 ≤ M) = true := by simp; omega
      clear hg hm hG h g1 hM
      go_enter Tryz.func27, Tryz.ntmps27
      go_wp2_with fail
      generalize hW : World.alloc w _ = W
      have bx := bk_of hW
      have hx : Ext w W := ext_of_alloc hW
      have hrW := hr.ext hx
      clear hW
      refine (HG.out W hrW).mono ?_
      rintro e w1 ⟨rfl, rfl⟩
      go_wp2_with fail
      refine (HM.out _ hrW).mono ?_
      rintro e w2 ⟨rfl, rfl⟩
      have y0 := bx.cell 0
      have y1 := bx.cell 1
      have y2 := bx.cell 2
      have y3 := bx.cell 3
      have y4 := bx.cell 4
      have f0 := bx.frozen 0
      have f1 := bx.frozen 1
      have f2 := bx.frozen 2
      have f3 := bx.frozen 3
      have f4 := bx.frozen 4
      have BF := Lib.hid (bk5 (v0 := .slice none 0 0) (v1 := .int .i64 0) (v2 := .int .i64 0) (v3 := .slice none 0 0) (v4 := .slice none 0 0) bx)
      have HXF := Lib.hid (ext5 (B := w.heap.size) hx (Nat.le_refl _) (.slice none 0 0) (.int .i64 0) (.int .i64 0) (.slice none 0 0) (.slice none 0 0))
      go_wp2_with fail
      clear y0 y1 y2 y3 y4 f0 f1 f2 f3 f4
      have bF := BF.out
      have hxF := HXF.out
      generalize ((((w2.setCell _ _).setCell _ _).setCell _ _).setCell _ _).setCell _ _ = wF at *
      have z0 : wF.cell? ⟨w.heap.size, 0, none⟩ = some (.slice none 0 0) := bF.cell 0
      have z1 : wF.cell? ⟨w.heap.size, 1, none⟩ = some (.int .i64 0) := bF.cell 1
      have z2 : wF.cell? ⟨w.heap.size, 2, none⟩ = some (.int .i64 0) := bF.cell 2
      have z3 : wF.cell? ⟨w.heap.size, 3, none⟩ = some (.slice none 0 0) := bF.cell 3
      have z4 : wF.cell? ⟨w.heap.size, 4, none⟩ = some (.slice none 0 0) := bF.cell 4
      exact bodyPost_ret (v := .tuple #[.agg #[.slice none 0 0, .int .i64 0, .int .i64 0, .slice none 0 0, .slice none 0 0], .bool false]) (by simp [results, Tryz.results27, go_sem, z0, z1, z2, z3, z4]) rfl ⟨rfl, hxF⟩

/-- An index in memory. -/
structure CombIn (w : World) (l : List Int) (E B D : Option Addr) : Prop where
  e : Rd w E l.length (fun k => .int .i64 (nth (endsF l) k : Nat))
  b : RdL w B (waveOf (ahN l (endsF l)) 10).L
  d : Rd w D ((mostI l).toNat + 2) (fun k => .int .i64 (lessF l k : Nat))
theorem CombIn.ext {w w' : World} {l : List Int} {E B D : Option Addr} (h : CombIn w l E B D) (hx : Ext w w') : CombIn w' l E B D := ⟨h.e.ext hx, h.b.ext hx, h.d.ext hx⟩
def RetComb (l : List Int) (w : World) (e : Ending) (w' : World) : Prop :=
  ∃ (E B D : Option Addr) (ec bc dc : Nat), e = .returned (.tuple #[.agg #[.slice E l.length ec, .int .i64 l.length, .int .i64 10, .slice B 10 bc, .slice D ((mostI l).toNat + 2) dc], .bool true]) ∧ l.length ≤ ec ∧ CombIn w' l E B D ∧ Ext w w'
/-- Its rows are the call's own. -/
structure CombOw (w : World) (l : List Int) (E B D : Option Addr) (ec bc dc m2 : Nat) : Prop where
  e : ∃ base, w.ownsRow base 3 1 (.slice E l.length ec) l.length ((endsF l).map fun x => Value.int .i64 (x : Nat))
  b : ∃ base K xs, w.ownsRow base 116 3 (.slice B 10 bc) 10 xs ∧ OkCells w K xs (waveOf (ahN l (endsF l)) 10).L
  d : ∃ base, w.ownsRow base 3 1 (.slice D m2 dc) m2 ((List.range m2).map fun j => Value.int .i64 (lessF l j : Nat))
/-- What comb.Make answers, with the rows its own. -/
def RetCombO (l : List Int) (w : World) (e : Ending) (w' : World) : Prop :=
  ∃ (E B D : Option Addr) (ec bc dc : Nat), e = .returned (.tuple #[.agg #[.slice E l.length ec, .int .i64 l.length, .int .i64 10, .slice B 10 bc, .slice D ((mostI l).toNat + 2) dc], .bool true]) ∧ l.length ≤ ec ∧ CombOw w' l E B D ec bc dc ((mostI l).toNat + 2) ∧ Ext w w'
theorem OwnB.sto {w : World} {base g k : Nat} {A1 A2 : Option Addr} {c1 c2 : Nat} {b : PB} {cs : Array Value} (h : OwnB w base A1 A2 c1 c2 b) (hb : Bk w g 31 cs) (u : Value) : OwnB (w.setCell ⟨g, k, none⟩ u) base A1 A2 c1 c2 b :=
  ⟨own_far (p := ⟨g, k, none⟩) h.1 (fun q => Bk.own_ne h.1 hb (by decide) q.symm) u, own_far (p := ⟨g, k, none⟩) h.2 (fun q => Bk.own_ne h.2 hb (by decide) q.symm) u⟩
section
variable {w w' : World} {l : List Int} {E B D : Option Addr} {ec bc dc m2 : Nat}
theorem CombOw.sto (h : CombOw w l E B D ec bc dc m2) {g : Nat} {cs : Array Value} (hb : Bk w g 31 cs) (k : Nat) (u : Value) : CombOw (w.setCell ⟨g, k, none⟩ u) l E B D ec bc dc m2 := by
  obtain ⟨⟨b1, h1⟩, ⟨b2, K, xs, h2, h3⟩, ⟨b4, h4⟩⟩ := h
  exact ⟨⟨b1, own_far (p := ⟨g, k, none⟩) h1 (fun q => Bk.own_ne h1 hb (by decide) q.symm) u⟩,
    ⟨b2, K, xs, own_far (p := ⟨g, k, none⟩) h2 (fun q => Bk.own_ne h2 hb (by decide) q.symm) u, h3.ext fun _ _ _ _ _ r => r.sto hb u⟩,
    ⟨b4, own_far (p := ⟨g, k, none⟩) h4 (fun q => Bk.own_ne h4 hb (by decide) q.symm) u⟩⟩
theorem CombOw.ext (h : CombOw w l E B D ec bc dc m2) (hx : Ext w w') : CombOw w' l E B D ec bc dc m2 := by
  obtain ⟨⟨b1, h1⟩, ⟨b2, K, xs, h2, h3⟩, ⟨b4, h4⟩⟩ := h
  exact ⟨⟨b1, own_ext h1 hx⟩, ⟨b2, K, xs, own_ext h2 hx, h3.ext fun _ _ _ _ _ r => r.ext hx⟩, ⟨b4, own_ext h4 hx⟩⟩
theorem CombOw.sto5 (h : CombOw w l E B D ec bc dc m2) {g : Nat} {a0 a1 a2 a3 a4 v0 v1 v2 v3 v4 : Value} (hb : Bk w g 31 #[a0, a1, a2, a3, a4]) :
    CombOw (((((w.setCell ⟨g, 0, none⟩ v0).setCell ⟨g, 1, none⟩ v1).setCell ⟨g, 2, none⟩ v2).setCell ⟨g, 3, none⟩ v3).setCell ⟨g, 4, none⟩ v4) l E B D ec bc dc m2 :=
  ((((h.sto hb 0 v0).sto (hb.set 0 v0) 1 v1).sto ((hb.set 0 v0).set 1 v1) 2 v2).sto (((hb.set 0 v0).set 1 v1).set 2 v2) 3 v3).sto ((((hb.set 0 v0).set 1 v1).set 2 v2).set 3 v3) 4 v4
theorem CombOw.cap (h : CombOw w l E B D ec bc dc m2) : l.length ≤ ec := by
  obtain ⟨b1, h1⟩ := h.e
  exact own_cap h1
theorem CombOw.plain (h : CombOw w l E B D ec bc dc m2) (hm : (mostI l).toNat + 2 = m2) : CombIn w l E B D := by
  obtain ⟨⟨b1, h1⟩, ⟨b2, K, xs, h2, h3⟩, ⟨b4, h4⟩⟩ := h
  refine ⟨?_, rdL_own h2 h3, ?_⟩
  · have hE := (endsF_is l).length
    rw [← hE] at h1 ⊢
    exact rd_ints h1
  · rw [hm]
    refine (Rd.of_own (d := default) h4).congr fun k hk => ?_
    simp [hk]
end
theorem lessA_take {l : List Int} {i n1 : Nat} (h : i < l.length) (hx : nth l i + 1 = (n1 : Int)) (j : Nat) : lessA (l.take (i + 1)) j = if j = n1 then lessA (l.take i) j + 1 else lessA (l.take i) j := by
  unfold lessA
  rw [take_succ_nth l i h, List.countP_append, List.countP_singleton, hx]
  by_cases e : j = n1
  · subst e; simp
  · have : ¬ ((n1 : Int) = (j : Int)) := by omega
    simp [e, this]
theorem aheadL_ends {l : List Int} {e : List Nat} (h : ∀ a ∈ e, a < l.length) : aheadL l (e.map Int.ofNat) = e.map (En.ahead l) := by
  unfold aheadL
  rw [List.filter_eq_self.2, List.map_map]
  · rfl
  · intro x hx
    obtain ⟨a, ha, rfl⟩ := List.mem_map.1 hx
    exact decide_eq_true ⟨Int.natCast_nonneg _, by have := h a ha; show ((a : Nat) : Int) < _; omega⟩
theorem rd_backZ {w : World} {A : Option Addr} {ln : List Nat} (h : Rd w A (ln.map Int.ofNat).length (fun k => .int .i64 (nth (ln.map Int.ofNat) k))) : Rd w A ln.length (fun k => .int .i64 (nth ln k : Nat)) := by
  rw [List.length_map] at h
  exact h.congr fun k _ => by rw [nth_castI]

set_option maxHeartbeats 8000000 in
set_option maxRecDepth 100000 in
theorem cmake_yesO (l : List Int) (A : Option Addr) (c : Nat) (w : World) (hcap : l.length ≤ c) (hr : Rd w A l.length (fun k => .int .i64 (nth l k))) (h : combOk l) :
    Calls Tryz.prog 27 #[.slice A l.length c] w (RetCombO l w) := by
  obtain ⟨ii, hi, hj0, hj1, hj2⟩ := info_parts info_int
  obtain ⟨hG, hM, hl⟩ := h
  have hn := ((isLB_iff l).1 hG).1
  have h0 := isLB_nonneg hG
  have hE := endsF_is l
  have hen := hE.length
  have cG := fun w hr => sgood_calls l A c w (by omega) hcap hr
  rw [hG] at cG
  have cM := fun w hr => max_calls l A c w (by omega) hn h0 hr
  have cE := fun w hr => ends_posO l A c w hn (by omega) hr
  have cA : ∀ D d w, Rd w A l.length (fun k => .int .i64 (nth l k)) → Rd w D l.length (fun k => .int .i64 (nth (endsF l) k : Nat)) → Calls Tryz.prog 52 #[.slice A l.length c, .slice D l.length d] w fun e1 w' => ∃ P p, e1 = .returned (.slice P l.length p) ∧ (P = none → p = 0) ∧ Rd w' P l.length (fun k => .int .i64 (nth (ahN l (endsF l)) k : Nat)) ∧ Ext w w' := fun D d w h1 h2 => by
    have h := sahead_calls l ((endsF l).map Int.ofNat) A D c d w (by omega) (by rw [List.length_map]; omega) h1 (rd_castI (by rw [hen]; exact h2))
    rw [List.length_map, hen, aheadL_ends (fun a ha => hE.lt ha), ← ahN_cast h0 hn] at h
    refine h.mono ?_
    rintro e1 w' ⟨P, p, rfl, hp, hP, hx⟩
    have hP2 := rd_backZ hP
    rw [List.length_map, ahN_length, hen]
    rw [ahN_length, hen] at hP2
    exact ⟨P, p, rfl, hp, hP2, hx⟩
  have hlt : ∀ x ∈ ahN l (endsF l), x < 2 ^ 10 := fun x hx => by
    obtain ⟨a, _, rfl⟩ := List.mem_map.1 hx
    have h1 := (mostI_lt (l := l) (b := 1024) (by omega)).1 hM _ (ahead_mem hn a)
    have : (2 : Nat) ^ 10 = 1024 := by decide
    omega
  have cW : ∀ P p w, (P = none → p = 0) → Rd w P l.length (fun k => .int .i64 (nth (ahN l (endsF l)) k : Nat)) → Calls Tryz.prog 51 #[.slice P l.length p, .int .i64 10] w fun e1 w' => ∃ B b, e1 = .returned (.tuple #[.agg #[.int .i64 l.length, .int .i64 10, .slice B 10 b], .bool true]) ∧ (∃ base K xs, w'.ownsRow base 116 3 (.slice B 10 b) 10 xs ∧ OkCells w' K xs (waveOf (ahN l (endsF l)) 10).L) ∧ Ext w w' := fun P p w hp h1 => by
    have hln : (ahN l (endsF l)).length = l.length := by rw [ahN_length, hen]
    have h := wmake_yesO (ahN l (endsF l)) 10 P p w (by omega) (by rw [hln]; omega) hlt hp (by rw [hln]; exact h1)
    rw [hln] at h
    refine h.mono ?_
    rintro e1 w' ⟨B, b, K, xs, rfl, hB, hC, hx⟩
    have e1 : (waveOf (ahN l (endsF l)) 10).N = (l.length : Int) := by show ((ahN l (endsF l)).length : Int) = _; rw [hln]
    have e2 : (waveOf (ahN l (endsF l)) 10).L.length = 10 := levelsOf_length _ _ _
    rw [e2] at hB
    refine ⟨B, b, ?_, ⟨_, K, xs, hB, hC⟩, hx⟩
    rw [e1, e2]; rfl
  obtain ⟨m, hm⟩ : ∃ m, (mostI l).toNat = m := ⟨_, rfl⟩
  have hmI : mostI l = (m : Int) := by have := mostI_ge l; omega
  have hm2 : m < 1024 := by omega
  have hbd : ∀ k, k < l.length → 0 ≤ nth l k ∧ nth l k ≤ m := fun k hk => ⟨h0 _ (nth_mem hk), by have := le_mostI (nth_mem hk); omega⟩
  rw [hmI] at cM
  have hl0 := lessF_zero h0
  have hls := lessF_succ l
  have hll := lessF_le l
  have hla := lessA_le l
  have hla0 := lessA_zero h0
  have hsucc := fun (i n1 : Nat) (h : i < l.length) hx j => lessA_take (l := l) (n1 := n1) h hx j
  have hlt2 : ∀ i j, lessA (l.take i) j ≤ l.length := fun i j => by
    have := lessA_le (l.take i) j
    rw [List.length_take] at this; omega
  have how : ∀ w' E B D ec b dc, (∃ base, w'.ownsRow base 3 1 (.slice E l.length ec) l.length ((endsF l).map fun x => Value.int .i64 (x : Nat))) → (∃ base K xs, w'.ownsRow base 116 3 (.slice B 10 b) 10 xs ∧ OkCells w' K xs (waveOf (ahN l (endsF l)) 10).L) → (∃ base, w'.ownsRow base 3 1 (.slice D (m + 2) dc) (m + 2) ((List.range (m + 2)).map fun j => Value.int .i64 (lessF l j : Nat))) → CombOw w' l E B D ec b dc (m + 2) := fun w' E B D ec b dc h1 h2 h3 => ⟨h1, h2, h3⟩
  have hcomb : ∀ w' E B D ec b dc, CombOw w' l E B D ec b dc (m + 2) → l.length ≤ ec ∧ CombOw w' l E B D ec b dc ((mostI l).toNat + 2) := fun w' E B D ec b dc h => ⟨h.cap, by rw [hm]; exact h⟩
  have HLT := Lib.hid hlt2; have HBD := Lib.hid hbd; have HSU := Lib.hid hsucc; have HL0 := Lib.hid hl0; have HLS := Lib.hid hls; have HLL := Lib.hid hll; have HLA := Lib.hid hla; have HLA0 := Lib.hid hla0; have HCI := Lib.hid hcomb; have HOWN := Lib.hid how; have HM := Lib.hid hm
  have CG := Lib.hid cG; have CM := Lib.hid cM; have CE := Lib.hid cE; have CA := Lib.hid cA; have CW := Lib.hid cW; have HR := Lib.hid hr; have HEN := Lib.hid hen
  clear hlt2 hbd hsucc hl0 hls hll hla hla0 hcomb how hm hmI cG cM cE cA cW hr hen hE hlt hM hG h0
  go_enter Tryz.func27, Tryz.ntmps27
  go_wp2_with fail
  generalize hW : World.alloc w _ = W
  have bx := bk_of hW
  have hx : Ext w W := ext_of_alloc hW
  clear hW
  refine (CG.out W (HR.out.ext hx)).mono ?_
  rintro e w1 ⟨rfl, rfl⟩
  go_wp2_with fail
  refine (CM.out _ (HR.out.ext hx)).mono ?_
  rintro e w2 ⟨rfl, rfl⟩
  have g1' : decide (1024 ≤ m) = false := by simp; omega
  have g2' : decide (4096 < l.length) = false := by simp; omega
  go_wp2_with fail
  refine (CE.out _ (HR.out.ext hx)).mono ?_
  rintro e w3 ⟨E, ec, rfl, hEo, hx3⟩
  have hEr := rd_ints hEo
  rw [HEN.out] at hEr hEo ⊢
  have HE := Lib.hid hEr
  have HEO := Lib.hid hEo
  clear hEr hEo
  go_wp2_with fail
  with_reducible refine (CA.out E ec w3 (HR.out.ext (hx.trans hx3)) HE.out).mono ?_
  rintro e w4 ⟨P, p, rfl, hp, hP, hx4⟩
  go_wp2_with fail
  with_reducible refine (CW.out P p w4 hp hP).mono ?_
  rintro e w5 ⟨B, b, rfl, hB, hx5⟩
  go_wp2_with fail
  generalize hW6 : World.alloc w5 _ = W6
  have bw := bk_of hW6
  have hx6 := ext_of_alloc hW6
  have HE6 : Hid (∃ base, W6.ownsRow base 3 1 (.slice E l.length ec) l.length ((endsF l).map fun x => Value.int .i64 (x : Nat))) := ⟨_, own_ext HEO.out ((hx4.trans hx5).trans hx6)⟩
  have HB6 : Hid (∃ base K xs, W6.ownsRow base 116 3 (.slice B 10 b) 10 xs ∧ OkCells W6 K xs (waveOf (ahN l (endsF l)) 10).L) := by
    obtain ⟨base, K, xs, h1, h2⟩ := hB
    exact ⟨base, K, xs, own_ext h1 hx6, h2.ext fun _ _ _ _ _ r => r.ext hx6⟩
  have hxW6 := (((hx.trans hx3).trans hx4).trans hx5).trans hx6
  have hWlt : w.heap.size < w5.heap.size := Nat.lt_of_lt_of_le bx.lt (((hx3.trans hx4).trans hx5)).size
  have BX6 := Lib.hid (bx.ext (((hx3.trans hx4).trans hx5).trans hx6))
  generalize w5.heap.size = WB at *
  clear hW6 HE HEO hB hP hp hx3 hx4 hx5 hx6 bx hx CG CE CA CW
  refine (CM.out W6 (HR.out.ext hxW6)).mono ?_
  rintro e w7 ⟨rfl, rfl⟩
  have hmk : IntKind.i64.wrap ((m : Int) + 2) = ((m + 2 : Nat) : Int) := by rw [IntWalk.i64_in _ (by omega)]; omega
  obtain ⟨m2, hm2'⟩ : ∃ x, m + 2 = x := ⟨_, rfl⟩
  have hme : (m : Int) + 2 = (m2 : Int) := by omega
  rw [hm2'] at hmk
  have hb7 : w7.heap.size ≤ w7.heap.size := Nat.le_refl _
  have HM2 := Lib.hid hm2'
  clear CM hmk
  go_wp2_with (at_make; refine wpList_make_full _ rfl _ _ 24 rfl w7.heap.size 3 ii (.int .i64 0) 1 Tryz.underlying24 hi hj0 hj1 _ _ _ _ m2 rfl rfl rfl rfl ?c1 ?c2 ?c3 ?_)
  case c1 => rw [hj2]; omega
  case c2 => unfold maxLen; omega
  case c3 => exact hb7
  intro w8 hown8 hgrow8
  have hx8 : Ext w7 w8 := ext_of_grown hgrow8
  have L0 : Hid (w8.ownsRow w7.heap.size 3 1 (.slice (some ⟨w7.heap.size, 0, none⟩) m2 m2) m2 ((List.range m2).map fun j => Value.int .i64 (lessA (l.take 0) j : Nat))) := by
    show World.ownsRow _ _ _ _ _ _ _
    rw [made_zero] at hown8
    exact hown8
  have hDB : w7.heap.size < w8.heap.size := (own_row_ge hown8 _ rfl).2
  have hwD : w.heap.size < w7.heap.size := BX6.out.lt
  have hWD : WB < w7.heap.size := bw.lt
  have BW := Lib.hid bw
  clear hown8 hgrow8 hb7 bw
  go_wp2_with fail
  go_loopw [40] (fun vi wr => ∃ i : Nat, vi = .int .i64 i ∧ i ≤ l.length ∧ Hid (wr.ownsRow w7.heap.size 3 1 (.slice (some ⟨w7.heap.size, 0, none⟩) m2 m2) m2 ((List.range m2).map fun j => Value.int .i64 (lessA (l.take i) j : Nat))) ∧ Ext w7 wr) (fun vi _ => l.length - (intOf vi).toNat)
  case atStart => exact ⟨0, rfl, by omega, L0, hx8⟩
  case round => as_aux_lemma =>
    clear L0 hx8
    obtain ⟨i, rfl, hi', HO, hxr⟩ := hrel
    by_cases g1 : i < l.length
    · obtain ⟨b1, o1, hAA, hb1, hc1⟩ := (HR.out.ext (hxW6.trans hxr)) (by omega)
      subst hAA
      have p1 := hc1 i g1
      dsimp only at p1
      have hbd := HBD.out i g1
      have hsu := fun n1 h j => HSU.out i n1 g1 h j
      obtain ⟨x, hx'⟩ : ∃ x, nth l i = x := ⟨_, rfl⟩
      rw [hx'] at p1 hbd hsu
      obtain ⟨x1, hx1⟩ := Int.eq_ofNat_of_zero_le hbd.1
      subst hx1
      have hxm : x1 + 1 < m2 := by have := HM2.out; omega
      obtain ⟨n1, hn1⟩ : ∃ n, x1 + 1 = n := ⟨_, rfl⟩
      have hn1' : (x1 : Int) + 1 = (n1 : Int) := by omega
      rw [hn1] at hxm
      have hs := hsu n1 hn1'
      have q1 := (HO.out.cellAt n1 (by omega)).trans (map_range_get _ m2 n1 hxm)
      have q2 := HO.out.frozenAt n1
      have hlt := HLT.out i n1
      obtain ⟨y, hy⟩ : ∃ y, lessA (l.take i) n1 = y := ⟨_, rfl⟩
      rw [hy] at q1 hlt
      have HO2 : Hid ((wr.setCell ⟨w7.heap.size, n1, none⟩ (.int .i64 ((y : Int) + 1))).ownsRow w7.heap.size 3 1 (.slice (some ⟨w7.heap.size, 0, none⟩) m2 m2) m2 ((List.range m2).map fun j => Value.int .i64 (lessA (l.take (i + 1)) j : Nat))) := by
        have := (HO.out.stored n1 (.int .i64 ((y : Int) + 1))).1
        rw [map_range_set] at this
        rw [map_range_congr (g := fun j => if j = n1 then Value.int .i64 ((y : Int) + 1) else Value.int .i64 (lessA (l.take i) j : Nat)) ?_]
        · exact this
        · intro j _
          rw [hs j]
          by_cases ej : j = n1
          · subst ej; rw [if_pos rfl, if_pos rfl, hy]; rfl
          · rw [if_neg ej, if_neg ej]
      have hx2 := hxr.setCell (p := ⟨w7.heap.size, n1, none⟩) (Nat.le_refl _) (.int .i64 ((y : Int) + 1))
      clear hc1 hx' hsu hs hy hn1 HO hbd
      go_wp2_with fail
      refine ⟨⟨i + 1, by go_num, by omega, HO2, hx2⟩, by simp [intOf]; omega⟩
    · obtain rfl : i = l.length := by omega
      have HO1 : Hid (wr.ownsRow w7.heap.size 3 1 (.slice (some ⟨w7.heap.size, 0, none⟩) m2 m2) m2 ((List.range m2).map fun j => Value.int .i64 ((if j < 1 then lessF l j else lessA l j : Nat) : Int))) := by
        show World.ownsRow _ _ _ _ _ _ _
        rw [map_range_congr (g := fun j => Value.int .i64 (lessA (l.take l.length) j : Nat)) ?_]
        · exact HO.out
        · intro j _
          rw [List.take_length]
          by_cases ej : j < 1
          · have : j = 0 := by omega
            subst this
            rw [if_pos ej, HL0.out, HLA0.out]
          · rw [if_neg ej]
      clear HO
      go_wp2_with fail
      go_loopw [10] (fun vi wr => ∃ i : Nat, vi = .int .i64 i ∧ 1 ≤ i ∧ i ≤ m2 ∧ Hid (wr.ownsRow w7.heap.size 3 1 (.slice (some ⟨w7.heap.size, 0, none⟩) m2 m2) m2 ((List.range m2).map fun j => Value.int .i64 ((if j < i then lessF l j else lessA l j : Nat) : Int))) ∧ Ext w7 wr) (fun vi _ => m2 - (intOf vi).toNat)
      case atStart => exact ⟨1, rfl, by omega, by have := HM2.out; omega, HO1, hxr⟩
      case round => as_aux_lemma =>
        clear HO1 hxr
        obtain ⟨i, rfl, h1i, hi', HO, hxr⟩ := hrel
        by_cases g1 : i < m2
        · obtain ⟨i1, rfl⟩ : ∃ i1, i = i1 + 1 := ⟨i - 1, by omega⟩
          have hi1 : ((i1 + 1 : Nat) : Int) - 1 = (i1 : Int) := by omega
          have q1 := (HO.out.cellAt (i1 + 1) (by omega)).trans (map_range_get _ m2 (i1 + 1) g1)
          have q2 := (HO.out.cellAt i1 (by omega)).trans (map_range_get _ m2 i1 (by omega))
          have q3 := HO.out.frozenAt (i1 + 1)
          rw [if_neg (by omega)] at q1
          rw [if_pos (by omega)] at q2
          have hls := HLS.out i1
          have hl1 := HLL.out i1
          have hl2 := HLA.out (i1 + 1)
          obtain ⟨y, hy⟩ : ∃ y, lessA l (i1 + 1) = y := ⟨_, rfl⟩
          obtain ⟨z, hz⟩ : ∃ z, lessF l i1 = z := ⟨_, rfl⟩
          rw [hy] at q1 hls hl2
          rw [hz] at q2 hls hl1
          have hww : IntKind.i64.wrap ((y : Int) + (z : Int)) = (y : Int) + (z : Int) := IntWalk.i64_in _ (by omega)
          have HO2 : Hid ((wr.setCell ⟨w7.heap.size, i1 + 1, none⟩ (.int .i64 ((y : Int) + (z : Int)))).ownsRow w7.heap.size 3 1 (.slice (some ⟨w7.heap.size, 0, none⟩) m2 m2) m2 ((List.range m2).map fun j => Value.int .i64 ((if j < i1 + 1 + 1 then lessF l j else lessA l j : Nat) : Int))) := by
            have := (HO.out.stored (i1 + 1) (.int .i64 ((y : Int) + (z : Int)))).1
            rw [map_range_set] at this
            rw [map_range_congr (g := fun j => if j = i1 + 1 then Value.int .i64 ((y : Int) + (z : Int)) else Value.int .i64 ((if j < i1 + 1 then lessF l j else lessA l j : Nat) : Int)) ?_]
            · exact this
            · intro j _
              by_cases ej : j = i1 + 1
              · subst ej; rw [if_pos (by omega), if_pos rfl, hls]; rfl
              · rw [if_neg ej]
                by_cases g : j < i1 + 1
                · rw [if_pos g, if_pos (by omega)]
                · rw [if_neg g, if_neg (by omega)]
          have hx2 := (hxr.setCell (p := ⟨w7.heap.size, i1 + 1, none⟩) (Nat.le_refl _) (.int .i64 ((y : Int) + (z : Int)))).drew
          clear hls hy hz HO
          go_upto_region 14 with fail
          go_region
          go_wp2_with fail
          refine ⟨⟨i1 + 1 + 1, by go_num, by omega, by omega, own_ext HO2.out ((Ext.refl _).drew), hx2⟩, by simp [intOf]; omega⟩
        · obtain rfl : i = m2 := by omega
          have HOF : Hid (wr.ownsRow w7.heap.size 3 1 (.slice (some ⟨w7.heap.size, 0, none⟩) i i) i ((List.range i).map fun j => Value.int .i64 (lessF l j : Nat))) := by
            show World.ownsRow _ _ _ _ _ _ _
            rw [map_range_congr (g := fun j => Value.int .i64 ((if j < i then lessF l j else lessA l j : Nat) : Int)) (fun j hj => by rw [if_pos hj])]
            exact HO.out
          have hbw : w.heap.size ≤ w7.heap.size := Nat.le_of_lt hwD
          have bx := BX6.out.ext hxr
          have bw := BW.out.ext hxr
          have HBF := Lib.hid (bk5 (v0 := .slice E l.length ec) (v1 := .int .i64 l.length) (v2 := .int .i64 10) (v3 := .slice B 10 b) (v4 := .slice (some ⟨w7.heap.size, 0, none⟩) i i) bx)
          have hCO : Hid (CombOw wr l E B (some ⟨w7.heap.size, 0, none⟩) ec b i i) := by
            have hmm := HM2.out
            have := HOWN.out wr E B (some ⟨w7.heap.size, 0, none⟩) ec b i (by obtain ⟨base, h⟩ := HE6.out; exact ⟨base, own_ext h hxr⟩) (by obtain ⟨base, K, xs, h1, h2⟩ := HB6.out; exact ⟨base, K, xs, own_ext h1 hxr, h2.ext fun _ _ _ _ _ r => r.ext hxr⟩) (by rw [hmm]; exact ⟨_, HOF.out⟩)
            rw [hmm] at this
            exact this
          have HCF := Lib.hid (hCO.out.sto5 (v0 := .slice E l.length ec) (v1 := .int .i64 l.length) (v2 := .int .i64 10) (v3 := .slice B 10 b) (v4 := .slice (some ⟨w7.heap.size, 0, none⟩) i i) bx)
          have y0 := bx.cell 0
          have y1 := bx.cell 1
          have y2 := bx.cell 2
          have y3 := bx.cell 3
          have y4 := bx.cell 4
          have f0 := bx.frozen 0
          have f1 := bx.frozen 1
          have f2 := bx.frozen 2
          have f3 := bx.frozen 3
          have f4 := bx.frozen 4
          have z0 := bw.cell 0
          have z1 := bw.cell 1
          have z2 := bw.cell 2
          have HXF := Lib.hid (ext5 (B := w.heap.size) (hxW6.trans hxr) (Nat.le_refl _) (.slice E l.length ec) (.int .i64 l.length) (.int .i64 10) (.slice B 10 b) (.slice (some ⟨w7.heap.size, 0, none⟩) i i))
          go_wp2_with fail
          clear y0 y1 y2 y3 y4 f0 f1 f2 f3 f4 hCO HOF
          have bF := HBF.out
          have hxF := HXF.out
          have hcF := HCF.out
          have hmm := HM2.out
          have hci := HCI.out _ _ _ _ _ _ _ (by rw [hmm]; exact hcF)
          obtain ⟨hc1, hc2⟩ := hci
          clear hcF HBF HXF HCF hmm bx bw z0 z1 z2
          generalize ((((wr.setCell _ _).setCell _ _).setCell _ _).setCell _ _).setCell _ _ = wF at *
          have z0 : wF.cell? ⟨w.heap.size, 0, none⟩ = some (.slice E l.length ec) := bF.cell 0
          have z1 : wF.cell? ⟨w.heap.size, 1, none⟩ = some (.int .i64 l.length) := bF.cell 1
          have z2 : wF.cell? ⟨w.heap.size, 2, none⟩ = some (.int .i64 10) := bF.cell 2
          have z3 : wF.cell? ⟨w.heap.size, 3, none⟩ = some (.slice B 10 b) := bF.cell 3
          have z4 : wF.cell? ⟨w.heap.size, 4, none⟩ = some (.slice (some ⟨w7.heap.size, 0, none⟩) i i) := bF.cell 4
          have hmm := HM.out
          have hm3 := HM2.out
          have hres : (mostI l).toNat + 2 = i := by omega
          refine bodyPost_ret (v := .tuple #[.agg #[.slice E l.length ec, .int .i64 l.length, .int .i64 10, .slice B 10 b, .slice (some ⟨w7.heap.size, 0, none⟩) i i], .bool true]) (by simp [results, Tryz.results27, go_sem, z0, z1, z2, z3, z4]) rfl ⟨E, B, some ⟨w7.heap.size, 0, none⟩, ec, b, i, ?_, hc1, hc2, hxF⟩
          rw [hres]
theorem cmake_yes (l : List Int) (A : Option Addr) (c : Nat) (w : World) (hcap : l.length ≤ c) (hr : Rd w A l.length (fun k => .int .i64 (nth l k))) (h : combOk l) :
    Calls Tryz.prog 27 #[.slice A l.length c] w (RetComb l w) := by
  refine (cmake_yesO l A c w hcap hr h).mono ?_
  rintro e w' ⟨E, B, D, ec, bc, dc, rfl, h1, h2, hx⟩
  exact ⟨E, B, D, ec, bc, dc, rfl, h1, h2.plain rfl, hx⟩
end Go.Proofs.YtjfdlibceldanabGreatDoor
