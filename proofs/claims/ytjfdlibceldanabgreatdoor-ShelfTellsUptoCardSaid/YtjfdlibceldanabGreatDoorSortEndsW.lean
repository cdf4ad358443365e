/- sort.Ends: the walk. -/
import Derived.Test.YtjfdlibceldanabGreatDoorSortSort
import Derived.Test.YtjfdlibceldanabGreatDoorWvRf
namespace Go.Proofs.YtjfdlibceldanabGreatDoor
open Go.RowKit Go.Sort En

theorem rd_cells {w : World} {A : Option Addr} {l : List Int} (hr : Rd w A l.length (fun k => .int .i64 (nth l k))) (hn : 0 < l.length) : ∃ b o, A = some ⟨b, o, none⟩ ∧ ∀ j, j < l.length → w.cell? ⟨b, o + j, none⟩ = some (.int .i64 (l.getD j 0)) := by
  obtain ⟨b, o, hA, hb, hc⟩ := hr hn
  exact ⟨b, o, hA, fun j hj => by rw [hc j hj]; rfl⟩
theorem clone_calls (l : List Int) (A : Option Addr) (c : Nat) (w : World) (hl : l.length ≤ 17592186044416) (hr : Rd w A l.length (fun k => .int .i64 (nth l k))) (hn : 0 < l.length) :
    Calls Tryz.prog 61 #[.slice A l.length c] w fun e w' => ∃ g c', e = .returned (.slice (some ⟨g, 0, none⟩) l.length c') ∧ w'.ownsRow w.heap.size 3 1 (.slice (some ⟨g, 0, none⟩) l.length c') l.length (l.map fun x => .int .i64 x) ∧ Ext w w' := by
  obtain ⟨b, o, rfl, hc⟩ := rd_cells hr hn
  refine (Tryz.slices_Clone_int b o l.length c l w (Nat.le_refl _) (by omega) hc).mono ?_
  rintro e w' ⟨v', rfl, ho, _, hx⟩
  rw [List.take_length] at ho
  obtain ⟨g, cap, rfl, _, _⟩ := ho.form hn
  exact ⟨g, cap, rfl, ho, hx⟩

/-- A list of numbers in a row of the call's own. -/
def RetIntsO (xs : List Nat) (w : World) (e : Ending) (w' : World) : Prop :=
  ∃ (A : Option Addr) (c : Nat), e = .returned (.slice A xs.length c) ∧ w'.ownsRow w.heap.size 3 1 (.slice A xs.length c) xs.length (xs.map fun x => Value.int .i64 (x : Nat)) ∧ Ext w w'
theorem RetIntsO.plain {xs : List Nat} {w : World} {e : Ending} {w' : World} (h : RetIntsO xs w e w') : RetInts xs w e w' := by
  obtain ⟨A, c, he, ho, hx⟩ := h
  exact ⟨A, c, he, own_none ho, rd_ints ho, hx⟩

/-- What Ends has ahead of a round. -/
structure EnR (l : List Int) (w : World) (LB OB RB c oc : Nat) (A : Option Addr) (FB k rb rc KB : Nat) (R : List Int) (e : List Nat) (wr : World) : Prop where
  o : wr.ownsRow w.heap.size 3 1 (.slice (some ⟨OB, 0, none⟩) l.length oc) l.length (e.map fun x => Value.int .i64 (x : Nat))
  r : wr.ownsRow KB 3 1 (.slice (some ⟨rb, 0, none⟩) l.length rc) l.length (R.map fun x => Value.int .i64 x)
  bl : Bk wr LB 24 #[.slice A l.length c]
  br : Bk wr RB 24 #[.slice (some ⟨rb, 0, none⟩) l.length rc]
  bf : Bk wr FB 3 #[.int .i64 (k : Nat)]
  x : Ext w wr
  p : e.Perm (List.range l.length)
  rk : Rank l k (nth R)
  kb : OB < KB
  rf : rb < FB
  lf : FB ≠ LB
  rf2 : FB ≠ RB
  ob : LB ≠ OB ∧ RB ≠ OB ∧ RB ≠ LB ∧ w.heap.size ≤ LB ∧ w.heap.size ≤ OB ∧ w.heap.size ≤ RB
section
variable {l : List Int} {w : World} {LB OB RB c oc FB k rb rc KB : Nat} {A : Option Addr} {R : List Int} {e : List Nat} {wr : World}
theorem EnR.kr (h : EnR l w LB OB RB c oc A FB k rb rc KB R e wr) : KB ≤ rb := (own_row_ge h.r _ rfl).1
theorem EnR.key (h : EnR l w LB OB RB c oc A FB k rb rc KB R e wr) : KeyIn wr RB FB LB l.length k rc c (some ⟨rb, 0, none⟩) A (nth R) where
  r := h.br.cell 0
  f := h.bf.cell 0
  l := h.bl.cell 0
  v := (Rd.of_own (d := default) h.r).congr fun k hk => by
    have : k < R.length := by have := h.r.1; rw [List.length_map] at this; omega
    simp [this, nth_lt]
theorem EnR.ext (h : EnR l w LB OB RB c oc A FB k rb rc KB R e wr) {wr' : World} (hx : Ext wr wr') : EnR l w LB OB RB c oc A FB k rb rc KB R e wr' :=
  ⟨own_ext h.o hx, own_ext h.r hx, h.bl.ext hx, h.br.ext hx, h.bf.ext hx, h.x.trans hx, h.p, h.rk, h.kb, h.rf, h.lf, h.rf2, h.ob⟩
/-- Sorted anew. -/
theorem EnR.srt (h : EnR l w LB OB RB c oc A FB k rb rc KB R e wr) {wr' : World} {e2 : List Nat} (ho : wr'.ownsRow w.heap.size 3 1 (.slice (some ⟨OB, 0, none⟩) l.length oc) l.length (e2.map fun x => Value.int .i64 (x : Nat))) (hg : wr.grownBy wr' (some OB)) (hp : e2.Perm (List.range l.length)) :
    EnR l w LB OB RB c oc A FB k rb rc KB R e2 wr' :=
  have h1 := h.kr
  have h2 := h.kb
  have h3 := h.rf
  ⟨ho, own_grown h.r hg (.inr fun q => (show rb ≠ OB by omega) (by simpa [Value.ownBlock] using q)), h.bl.grown hg (fun q => by injection q with q; exact h.ob.1 q), h.br.grown hg (fun q => by injection q with q; exact h.ob.2.1 q), h.bf.grown hg (fun q => by injection q with q; omega),
    h.x.grown hg (fun k hk => by injection hk with hk; rw [← hk]; exact h.ob.2.2.2.2.1), hp, h.rk, h.kb, h.rf, h.lf, h.rf2, h.ob⟩
end

theorem own_at {w : World} {base : Nat} {T : TypeId} {g n c : Nat} {α : Type} [Inhabited α] {f : α → Value} {e : List α} (h : w.ownsRow base T 1 (.slice (some ⟨g, 0, none⟩) n c) n (e.map f)) {i : Nat} (hi : i < n) : w.cell? ⟨g, i, none⟩ = some (f (nth e i)) := by
  have hl : e.length = n := by have := h.1; rw [List.length_map] at this; omega
  rw [h.cellAt i (by omega), List.getElem?_map, List.getElem?_eq_getElem (by omega), ← nth_lt (by omega)]; rfl
theorem EnR.sto {l : List Int} {w : World} {LB OB RB c oc FB k rb rc KB : Nat} {A : Option Addr} {R : List Int} {e : List Nat} {wr : World} (h : EnR l w LB OB RB c oc A FB k rb rc KB R e wr) {g a : Nat} (u : Value) (h1 : g ≠ OB) (h2 : g ≠ rb) (h3 : g ≠ LB) (h4 : g ≠ RB) (h5 : g ≠ FB) (h6 : w.heap.size ≤ g) :
    EnR l w LB OB RB c oc A FB k rb rc KB R e (wr.setCell ⟨g, a, none⟩ u) :=
  ⟨own_far h.o (fun q => h1.symm (by simpa [Value.ownBlock] using q)) u, own_far h.r (fun q => h2.symm (by simpa [Value.ownBlock] using q)) u, h.bl.far (p := ⟨g, a, none⟩) h3.symm u, h.br.far (p := ⟨g, a, none⟩) h4.symm u, h.bf.far (p := ⟨g, a, none⟩) h5.symm u,
    h.x.setCell (p := ⟨g, a, none⟩) h6 u, h.p, h.rk, h.kb, h.rf, h.lf, h.rf2, h.ob⟩

def ptrNat (v : Value) (w : World) : Nat := match v with
  | .pointer (some a) => (match w.cell? a with | some (.int _ x) => x.toNat | _ => 0)
  | _ => 0
theorem ptrNat_eq {b o k : Nat} {w : World} (h : w.cell? ⟨b, o, none⟩ = some (.int .i64 (k : Nat))) : ptrNat (.pointer (some ⟨b, o, none⟩)) w = k := by
  unfold ptrNat
  simp only [h]
  exact Int.toNat_natCast k
/-- How many unlike ones there are up to the place ahead. -/
def numB (K : Nat → Nat → Int) (e : List Nat) (i : Nat) : Nat := if i = 0 then 0 else num K e (i - 1)
theorem numB_succ (K : Nat → Nat → Int) (e : List Nat) (i : Nat) : numB K e (i + 1) = num K e i := by unfold numB; rw [if_neg (by omega)]; rfl
theorem num_step (K : Nat → Nat → Int) (e : List Nat) {i : Nat} (h : 0 < i) : num K e i = numB K e i + if K (nth e (i - 1)) (nth e i) ≠ 0 then 1 else 0 := by
  obtain ⟨j, rfl⟩ : ∃ j, i = j + 1 := ⟨i - 1, by omega⟩
  rw [numB_succ, num]; rfl
theorem num_le' (K : Nat → Nat → Int) (e : List Nat) (i : Nat) : numB K e i ≤ i := by
  unfold numB
  split
  · omega
  · have := num_le K e (i - 1); omega
/-- What the round has on its way: the ranks so far. -/
structure NxR (N NB : Nat) (base : Nat) (K : Nat → Nat → Int) (e : List Nat) (i : Nat) (nx : List Int) (wr : World) : Prop where
  o : wr.ownsRow base 3 1 (.slice (some ⟨NB, 0, none⟩) N N) N (nx.map fun x => Value.int .i64 x)
  v : ∀ j, j < i → nth nx (nth e j) = (num K e j : Nat)
theorem nth_set {l : List Int} {a : Nat} (x : Int) (h : a < l.length) (j : Nat) : nth (l.set a x) j = if j = a then x else nth l j := by
  unfold nth
  rw [List.getElem?_set]
  by_cases e : a = j
  · subst e; rw [if_pos rfl, if_pos h, if_pos rfl]; rfl
  · rw [if_neg e, if_neg (fun q => e q.symm)]

set_option maxHeartbeats 8000000 in
set_option maxRecDepth 100000 in
theorem ends_posO (l : List Int) (A : Option Addr) (c : Nat) (w : World) (hn : 0 < l.length) (hl : l.length ≤ 1048576) (hr : Rd w A l.length (fun k => .int .i64 (nth l k))) :
    Calls Tryz.prog 50 #[.slice A l.length c] w (RetIntsO (endsF l) w) := by
  obtain ⟨ii, hi, hj0, hj1, hj2⟩ := info_parts info_int
  go_enter Tryz.func50, Tryz.ntmps50
  go_wp2_with (at_make; refine wpList_make_full _ rfl _ _ 24 rfl w.heap.size 3 ii (.int .i64 0) 1 Tryz.underlying24 hi hj0 hj1 _ _ _ _ l.length rfl rfl rfl rfl ?c1 ?c2 ?c3 ?_)
  case c1 => rw [hj2]; omega
  case c2 => unfold maxLen; omega
  case c3 => simp
  intro w1 hown1 hgrow1
  have bl1 := (bk_of (w := w) rfl).ext (ext_of_grown hgrow1)
  have hx1 : Ext w w1 := ((Ext.refl w).alloc _).trans (ext_of_grown hgrow1)
  have hob := (own_row_ge hown1 _ rfl).2
  have HO1 := Lib.hid hown1
  clear hown1 hgrow1
  obtain ⟨x0, hx0⟩ : ∃ v, w1.cell? ⟨w.heap.size, 0, none⟩ = some v := ⟨_, bl1.cell 0⟩
  have hx0' : w1.cell? ⟨w.heap.size, 0, none⟩ = some (.slice A l.length c) := bl1.cell 0
  clear hx0
  go_wp2_with fail
  refine (clone_calls l A c w1 (by omega) (hr.ext hx1) hn).mono ?_
  rintro e w2 ⟨rb, rc, rfl, own2, hx2⟩
  go_wp2_with fail
  generalize hW : World.alloc w2 _ = W
  have hxA := ext_of_alloc hW
  have br := bk_of hW
  have ho1 := own_ext HO1.out (hx2.trans hxA)
  have hr1 := own_ext own2 hxA
  have bl := bl1.ext (hx2.trans hxA)
  have hx3 := hx1.trans (hx2.trans hxA)
  have hkb := (own_row_ge own2 rb rfl)
  have hsz2 := hx2.size
  rw [made_zero] at ho1
  generalize w2.heap.size = RB at *
  generalize hKB : w1.heap.size = KB at *
  have HOR := Lib.hid hr1; have HBL := Lib.hid bl; have HBR := Lib.hid br
  clear hW HO1 hx0' own2 bl1 hxA hr1 bl br hx1 hx2
  have HO0 : Hid (W.ownsRow w.heap.size 3 1 (.slice (some ⟨w.heap.size + 1, 0, none⟩) l.length l.length) l.length ((List.range l.length).map fun j => Value.int .i64 ((if j < 0 then j else 0 : Nat) : Int))) := by
    show World.ownsRow _ _ _ _ _ _ _
    simp only [Nat.not_lt_zero, if_false]
    exact ho1
  clear ho1
  generalize hOB : w.heap.size + 1 = OB at *
  go_loopw [19] (fun vi wr => ∃ k : Nat, k ≤ l.length ∧ vi = .int .i64 k ∧ Hid (wr.ownsRow w.heap.size 3 1 (.slice (some ⟨OB, 0, none⟩) l.length l.length) l.length ((List.range l.length).map fun j => Value.int .i64 ((if j < k then j else 0 : Nat) : Int))) ∧
      Hid (wr.ownsRow KB 3 1 (.slice (some ⟨rb, 0, none⟩) l.length rc) l.length (l.map fun x => .int .i64 x)) ∧ Hid (Bk wr w.heap.size 24 #[.slice A l.length c]) ∧ Hid (Bk wr RB 24 #[.slice (some ⟨rb, 0, none⟩) l.length rc]) ∧ Ext w wr ∧ RB < wr.heap.size) (fun vi _ => l.length - (intOf vi).toNat)
  case atStart => exact ⟨0, by omega, rfl, HO0, HOR, HBL, HBR, hx3, HBR.out.lt⟩
  case round => as_aux_lemma =>
    clear HO0 HOR HBL HBR hx3
    obtain ⟨k, hk, rfl, HO, HR, HL, HB, hx, hlt⟩ := hrel
    by_cases g1 : k < l.length
    · have q1 := (HO.out.cellAt k (by omega)).trans (map_range_get _ l.length k g1)
      have q2 := HO.out.frozenAt k
      have HO2 : Hid ((wr.setCell ⟨OB, k, none⟩ (.int .i64 k)).ownsRow w.heap.size 3 1 (.slice (some ⟨OB, 0, none⟩) l.length l.length) l.length ((List.range l.length).map fun j => Value.int .i64 ((if j < k + 1 then j else 0 : Nat) : Int))) := by
        have := (HO.out.stored k (.int .i64 k)).1
        rw [map_range_set] at this
        rw [map_range_congr (g := fun j => if j = k then Value.int .i64 k else Value.int .i64 ((if j < k then j else 0 : Nat) : Int)) ?_]
        · exact this
        · intro j _
          by_cases e : j = k
          · subst e; rw [if_pos (by omega), if_pos rfl]
          · rw [if_neg e]
            by_cases g : j < k
            · rw [if_pos g, if_pos (by omega)]
            · rw [if_neg g, if_neg (by omega)]
      have HR2 := Lib.hid (own_far (p := ⟨OB, k, none⟩) HR.out (by simp [Value.ownBlock]; omega) (.int .i64 k))
      have HL2 := Lib.hid (HL.out.far (p := ⟨OB, k, none⟩) (by show w.heap.size ≠ OB; omega) (.int .i64 k))
      have HB2 := Lib.hid (HB.out.far (p := ⟨OB, k, none⟩) (by show RB ≠ OB; omega) (.int .i64 k))
      have hx2 := hx.setCell (p := ⟨OB, k, none⟩) (by show w.heap.size ≤ OB; omega) (.int .i64 k)
      clear HO HR HL HB hx
      go_wp2_with fail
      refine ⟨⟨k + 1, by omega, by go_num, HO2, HR2, HL2, HB2, hx2, by simpa using hlt⟩, by simp [intOf]; omega⟩
    · obtain rfl : k = l.length := by omega
      have HO2 : Hid (wr.ownsRow w.heap.size 3 1 (.slice (some ⟨OB, 0, none⟩) l.length l.length) l.length ((List.range l.length).map fun x => Value.int .i64 (x : Nat))) := by
        show World.ownsRow _ _ _ _ _ _ _
        rw [map_range_congr (g := fun j => Value.int .i64 ((if j < l.length then j else 0 : Nat) : Int)) (fun j hj => by rw [if_pos hj])]
        exact HO.out
      clear HO
      go_wp2_with fail
      generalize hWF : World.alloc wr _ = WF
      have hxF := ext_of_alloc hWF
      have rel0 : EnR l w w.heap.size OB RB c l.length A wr.heap.size 1 rb rc KB l (List.range l.length) WF :=
        ⟨own_ext HO2.out hxF, own_ext HR.out hxF, HL.out.ext hxF, HB.out.ext hxF, bk_of hWF, hx.trans hxF, List.Perm.refl _, rank_one l, by omega, by omega, by omega, by omega, by omega⟩
      clear HO2 HR HL HB hx hxF hWF
      generalize wr.heap.size = FB0 at *
      have REL0 := Lib.hid rel0
      clear rel0
      go_loopw [6] (fun v6 wr => ∃ (FB k rb rc KB : Nat) (R : List Int) (e : List Nat), v6 = .pointer (some ⟨FB, 0, none⟩) ∧ 1 ≤ k ∧ k ≤ 2 * l.length ∧ Hid (EnR l w w.heap.size OB RB c l.length A FB k rb rc KB R e wr)) (fun v6 wr => l.length + 1 - ptrNat v6 wr)
      case atStart => exact ⟨FB0, 1, rb, rc, KB, l, List.range l.length, rfl, by omega, by omega, REL0⟩
      case round => as_aux_lemma =>
        clear REL0
        obtain ⟨FB, k, rb, rc, KB, R, e, rfl, hk1, hk2, REL⟩ := hrel
        have hrelk := ptrNat_eq (REL.out.bf.cell 0)
        have hkc := sortRank_calls l hn (by omega) k (by omega) (nth R) REL.out.rk wr w.heap.size OB l.length e REL.out.o REL.out.p RB FB w.heap.size rc c rb A REL.out.key REL.out.ob.2.1 (by have := REL.out.kb; have := REL.out.kr; have := REL.out.rf; omega) REL.out.ob.1 (by have := REL.out.kb; have := REL.out.kr; omega)
        go_wp2_with fail
        refine hkc.mono ?_
        rintro e' w3 ⟨rfl, e2, hord, ho3, hg3⟩
        have REL3 := Lib.hid (REL.out.srt ho3 hg3 hord.perm)
        have HORD := Lib.hid hord
        have hlc : w3.cell? ⟨w.heap.size, 0, none⟩ = some (.slice A l.length c) := REL3.out.bl.cell 0
        have hb3 : w3.heap.size ≤ w3.heap.size := Nat.le_refl _
        clear hkc ho3 hg3 REL hord
        go_wp2_with (at_make; refine wpList_make_full _ rfl _ _ 24 rfl w3.heap.size 3 ii (.int .i64 0) 1 Tryz.underlying24 hi hj0 hj1 _ _ _ _ l.length rfl rfl rfl rfl ?c1 ?c2 ?c3 ?_)
        case c1 => rw [hj2]; omega
        case c2 => unfold maxLen; omega
        case c3 => exact hb3
        intro w4 hown4 hgrow4
        have REL4 := Lib.hid (REL3.out.ext (ext_of_grown hgrow4))
        have hnb := own_row_ge hown4 _ rfl
        have hx34 := ext_of_grown hgrow4
        obtain ⟨Kf, hKf⟩ : ∃ Kf, cK l (k + k) = Kf := ⟨_, rfl⟩
        have nx0 : NxR l.length w3.heap.size w3.heap.size Kf e2 0 (List.replicate l.length 0) w4 := by
          refine ⟨?_, fun j hj => absurd hj (Nat.not_lt_zero _)⟩
          rw [made_zero] at hown4
          rw [List.map_replicate]
          have : (List.range l.length).map (fun _ => Value.int .i64 0) = List.replicate l.length (Value.int .i64 0) := by
            apply List.ext_getElem
            · simp
            · intro i h1 h2; simp
          rw [this] at hown4
          exact hown4
        have NX0 := Lib.hid nx0
        have hkey : ∀ a b, a < l.length → b < l.length → keyF l.length (nth R) k a b = Kf a b := fun a b ha hb => by rw [← hKf]; exact key_rank REL4.out.rk ha hb
        have hat : ∀ i, i < l.length → nth e2 i < l.length := fun i hi => ord_at HORD.out hi
        have hinj : ∀ i j, i < l.length → j < l.length → nth e2 i = nth e2 j → i = j := fun i j hi hj h => ord_inj HORD.out hi hj h
        have HKEY := Lib.hid hkey; have HAT := Lib.hid hat; have HINJ := Lib.hid hinj; have HKF := Lib.hid hKf
        have hfb : FB < w3.heap.size := REL3.out.bf.lt
        have hrbl : rb < w3.heap.size := (own_row_ge REL3.out.r _ rfl).2
        have hobl : OB < w3.heap.size := (own_row_ge REL3.out.o _ rfl).2
        have hlbl : w.heap.size < w3.heap.size := REL3.out.bl.lt
        have hrbb : RB < w3.heap.size := REL3.out.br.lt
        clear REL3 hlc hown4 hgrow4 nx0 hkey hat hinj hKf hb3
        generalize w3.heap.size = NB at *
        go_wp2_with fail
        go_loopw [9, 38] (fun vn vi wr => ∃ (i : Nat) (nx : List Int), i ≤ l.length ∧ vi = .int .i64 i ∧ vn = .int .i64 (numB Kf e2 i : Nat) ∧ Hid (NxR l.length NB NB Kf e2 i nx wr) ∧ Hid (EnR l w w.heap.size OB RB c l.length A FB k rb rc KB R e2 wr)) (fun _ vi _ => l.length - (intOf vi).toNat)
        case atStart => exact ⟨0, _, by omega, rfl, rfl, NX0, REL4⟩
        case round => as_aux_lemma =>
          clear NX0 REL4
          obtain ⟨i, nx, hi', rfl, rfl, NX, REL⟩ := hrel
          by_cases g2 : i < l.length
          · have ha := HAT.out i g2
            have c1 := own_at REL.out.o g2
            obtain ⟨a, hae⟩ : ∃ a, nth e2 i = a := ⟨_, rfl⟩
            rw [hae] at ha c1
            have c2 := own_at NX.out.o ha
            have c3 := NX.out.o.frozenAt a
            obtain ⟨m, hm⟩ : ∃ m, num Kf e2 i = m := ⟨_, rfl⟩
            have fin : Hid (NxR l.length NB NB Kf e2 (i + 1) (nx.set a (m : Nat)) (wr.setCell ⟨NB, a, none⟩ (.int .i64 (m : Nat)))) := by
              have hnl : nx.length = l.length := by have := NX.out.o.1; rw [List.length_map] at this; omega
              refine ⟨?_, fun j hj => ?_⟩
              · have := (NX.out.o.stored a (.int .i64 (m : Nat))).1
                rw [← List.map_set] at this
                exact this
              · rw [nth_set _ (by omega)]
                by_cases ej : j = i
                · subst ej; rw [if_pos hae, hm]
                · rw [if_neg (fun q => ej (HINJ.out j i (by omega) g2 (q.trans hae.symm)))]
                  exact NX.out.v j (by omega)
            have rel2 : Hid (EnR l w w.heap.size OB RB c l.length A FB k rb rc KB R e2 (wr.setCell ⟨NB, a, none⟩ (.int .i64 (m : Nat)))) := REL.out.sto _ (by omega) (by omega) (by omega) (by omega) (by omega) (by omega)
            have hml : m ≤ i := by rw [← hm]; exact num_le _ _ _
            have hnb' : numB Kf e2 (i + 1) = m := by rw [numB_succ, hm]
            have HNB := Lib.hid hnb'
            by_cases g3 : i = 0
            · subst g3
              have hm0 : m = 0 := by omega
              subst hm0
              have e0 : numB Kf e2 0 = 0 := rfl
              rw [e0]
              clear hm hae hnb' e0 NX REL
              go_wp2_with fail
              refine ⟨⟨1, _, by omega, rfl, by rw [HNB.out], fin, rel2⟩, by simp [intOf]; omega⟩
            · have g3' : 0 < i := by omega
              obtain ⟨i1, hi1⟩ : ∃ j, i - 1 = j := ⟨_, rfl⟩
              have hi2 : (i : Int) - 1 = (i1 : Int) := by omega
              have hi3 : i1 < l.length := by omega
              have c4 := own_at REL.out.o hi3
              have hb := HAT.out i1 hi3
              have hstep := num_step Kf e2 g3'
              rw [hi1, hae, hm] at hstep
              obtain ⟨b, hbe⟩ : ∃ b, nth e2 i1 = b := ⟨_, rfl⟩
              rw [hbe] at c4 hb hstep
              have hkey := key_calls wr RB FB w.heap.size l.length k rc c b a (some ⟨rb, 0, none⟩) A (nth R) REL.out.key (by omega) (by omega) hb ha
              rw [HKEY.out b a hb ha] at hkey
              obtain ⟨q, hq⟩ : ∃ q, Kf b a = q := ⟨_, rfl⟩
              rw [hq] at hkey hstep
              obtain ⟨n0, hn0⟩ : ∃ x, numB Kf e2 i = x := ⟨_, rfl⟩
              rw [hn0] at hstep ⊢
              have HKY := Lib.hid hkey
              have HST := Lib.hid hstep
              clear hm hae hnb' hbe hi1 hkey hq hn0 hstep
              by_cases g4 : q = 0
              · have g4' : (q != 0) = false := by simpa using g4
                have hmn : m = n0 := by have := HST.out; rw [if_neg (by omega)] at this; omega
                subst hmn
                clear g4 HST
                go_wp2_with fail
                refine HKY.out.mono ?_
                rintro e' w5 ⟨rfl, nq, rfl⟩
                clear HKY
                have fin2 : Hid (NxR l.length NB NB Kf e2 (i + 1) (nx.set a (m : Nat)) ((wr.drewN nq).setCell ⟨NB, a, none⟩ (.int .i64 (m : Nat)))) := ⟨fin.out.o, fin.out.v⟩
                have rel3 : Hid (EnR l w w.heap.size OB RB c l.length A FB k rb rc KB R e2 ((wr.drewN nq).setCell ⟨NB, a, none⟩ (.int .i64 (m : Nat)))) := rel2.out.ext ((Ext.refl _).drewN nq)
                go_wp2_with fail
                refine ⟨⟨i + 1, _, by omega, by go_num, by rw [HNB.out], fin2, rel3⟩, by simp [intOf]; omega⟩
              · have g4' : (q != 0) = true := by simpa using g4
                have hmn : m = n0 + 1 := by have := HST.out; rw [if_pos g4] at this; omega
                have hmi : (n0 : Int) + 1 = (m : Int) := by omega
                clear g4 HST
                go_wp2_with fail
                refine HKY.out.mono ?_
                rintro e' w5 ⟨rfl, nq, rfl⟩
                clear HKY
                have fin2 : Hid (NxR l.length NB NB Kf e2 (i + 1) (nx.set a (m : Nat)) ((wr.drewN nq).setCell ⟨NB, a, none⟩ (.int .i64 (m : Nat)))) := ⟨fin.out.o, fin.out.v⟩
                have rel3 : Hid (EnR l w w.heap.size OB RB c l.length A FB k rb rc KB R e2 ((wr.drewN nq).setCell ⟨NB, a, none⟩ (.int .i64 (m : Nat)))) := rel2.out.ext ((Ext.refl _).drewN nq)
                have HMI := Lib.hid hmi
                rw [← hmi] at fin2 rel3
                clear hmi
                go_wp2_with fail
                refine ⟨⟨i + 1, _, by omega, by go_num, by rw [HNB.out, HMI.out], fin2, rel3⟩, by simp [intOf]; omega⟩
          · obtain rfl : i = l.length := by omega
            have hnn : numB Kf e2 l.length = num Kf e2 (l.length - 1) := by unfold numB; rw [if_neg (by omega)]
            obtain ⟨n0, hn0⟩ : ∃ x, numB Kf e2 l.length = x := ⟨_, rfl⟩
            rw [hn0] at hnn ⊢
            have hn0l : n0 ≤ l.length := by rw [hnn]; have := num_le Kf e2 (l.length - 1); omega
            have HNN := Lib.hid hnn
            have f1 := REL.out.br.cell 0
            have f2 := REL.out.br.frozen 0
            have c5 : wr.cell? ⟨w.heap.size, 0, none⟩ = some (.slice A l.length c) := REL.out.bl.cell 0
            clear hn0 hnn
            go_upto_region 22 with fail
            generalize hWS : wr.setCell _ _ = WS
            have hR1 := REL.out.ob
            have o1 : WS.ownsRow w.heap.size 3 1 (.slice (some ⟨OB, 0, none⟩) l.length l.length) l.length (e2.map fun x => Value.int .i64 (x : Nat)) := hWS ▸ own_far (p := ⟨RB, 0, none⟩) REL.out.o (fun q => hR1.2.1 (by simpa [Value.ownBlock] using q.symm)) _
            have r1 : WS.ownsRow NB 3 1 (.slice (some ⟨NB, 0, none⟩) l.length l.length) l.length (nx.map fun x => Value.int .i64 x) := hWS ▸ own_far (p := ⟨RB, 0, none⟩) NX.out.o (fun q => (show NB ≠ RB by omega) (by simpa [Value.ownBlock] using q)) _
            have l1 : Bk WS w.heap.size 24 #[.slice A l.length c] := hWS ▸ REL.out.bl.far (p := ⟨RB, 0, none⟩) hR1.2.2.1.symm _
            have b1 : Bk WS RB 24 #[.slice (some ⟨NB, 0, none⟩) l.length l.length] := hWS ▸ REL.out.br.set 0 _
            have fb1 : Bk WS FB 3 #[.int .i64 (k : Nat)] := hWS ▸ REL.out.bf.far (p := ⟨RB, 0, none⟩) REL.out.rf2 _
            have xx1 : Ext w WS := hWS ▸ REL.out.x.setCell (p := ⟨RB, 0, none⟩) hR1.2.2.2.2.2 _
            have hsz : NB < WS.heap.size := (own_row_ge r1 _ rfl).2
            have O1 := Lib.hid o1; have R1 := Lib.hid r1; have L1 := Lib.hid l1; have B1 := Lib.hid b1; have F1 := Lib.hid fb1; have NXV := Lib.hid NX.out.v
            clear hWS NX REL f1 f2 c5 o1 r1 l1 b1 fb1
            have y0 : WS.cell? ⟨w.heap.size, 0, none⟩ = some (.slice A l.length c) := L1.out.cell 0
            have y1 : WS.cell? ⟨FB, 0, none⟩ = some (.int .i64 (k : Nat)) := F1.out.cell 0
            have ret : (l.length ≤ n0 + 1 ∨ l.length ≤ k + k) → e2 = endsF l := fun h => ends_eq (ends_num HORD.out (by rw [HKF.out, ← HNN.out]; exact h))
            have fin : e2 = endsF l → RetIntsO (endsF l) w (.returned (.slice (some ⟨OB, 0, none⟩) l.length l.length)) WS := fun h => by
              have ho := O1.out
              rw [h] at ho
              refine ⟨some ⟨OB, 0, none⟩, l.length, by rw [(endsF_is l).length], ?_, xx1⟩
              rw [(endsF_is l).length]; exact ho
            have FIN := Lib.hid fin; have RET := Lib.hid ret
            clear fin ret
            by_cases g5 : l.length ≤ n0 + 1
            · go_wp2_with fail
              go_ret
              exact FIN.out (RET.out (.inl g5))
            · have g5' : decide (l.length ≤ n0 + 1) = false := by simpa using g5
              by_cases g6 : l.length < k
              · have g6' : decide (l.length < k) = true := by simpa using g6
                go_wp2_with fail
                go_ret
                exact FIN.out (RET.out (.inr (by omega)))
              · have g6' : decide (l.length < k) = false := by simpa using g6
                go_wp2_with fail
                generalize hWN : World.alloc WS _ = WN
                have hxN := ext_of_alloc hWN
                have bN := bk_of hWN
                rw [show (k : Int) * 2 = ((k + k : Nat) : Int) from by omega] at bN
                have hrb2 : RB < WS.heap.size := B1.out.lt
                have hlb2 : w.heap.size < WS.heap.size := L1.out.lt
                have rk2 : Rank l (k + k) (nth nx) := rank_next HORD.out (fun i hi => by rw [HKF.out]; exact NXV.out i hi)
                refine ⟨⟨WS.heap.size, k + k, NB, l.length, NB, nx, e2, rfl, by omega, by omega, ⟨own_ext O1.out hxN, own_ext R1.out hxN, L1.out.ext hxN, B1.out.ext hxN, bN, xx1.trans hxN, HORD.out.perm, rk2, hobl, hsz, by omega, by omega, hR1⟩⟩, ?_⟩
                rw [hrelk, ptrNat_eq (bN.cell 0)]
                omega

theorem ends_pos (l : List Int) (A : Option Addr) (c : Nat) (w : World) (hn : 0 < l.length) (hl : l.length ≤ 1048576) (hr : Rd w A l.length (fun k => .int .i64 (nth l k))) :
    Calls Tryz.prog 50 #[.slice A l.length c] w (RetInts (endsF l) w) :=
  (ends_posO l A c w hn hl hr).mono fun _ _ h => h.plain
end Go.Proofs.YtjfdlibceldanabGreatDoor
