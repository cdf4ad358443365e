/- The shelf: plain laws of a book's text as a list of numbers. The shelf: Open, Count and Places walked. The shelf: Count and Places walked. The shelf: Likely walked. The shelf: Guess walked. The whole: does the shelf answer at all? The whole: plain laws of counts (longer words, more spaces). The shelf of no text: Count, Signs. -/
import Derived.Test.YtjfdlibceldanabGreatDoorGuA
import Derived.Test.YtjfdlibceldanabGreatDoorTxtR
import Derived.Test.YtjfdlibceldanabGreatDoorTxtPl
import Derived.Test.YtjfdlibceldanabGreatDoorCombPlace
/-! The shelf: plain laws of a book's text as a list of numbers. -/
namespace Go.Proofs.YtjfdlibceldanabGreatDoor
open Go.RowKit Go.Sort Tx En Wv Gu

theorem serr_ok {s : List UInt8} (h : errF s = 0) : s.length ≤ 400 ∧ (linesF s).all (fun l => l.all okW) = true ∧ (textN (wordsF s) (linesF s)).length ≤ 100 := by
  unfold errF at h
  split at h
  · cases h
  · split at h
    · cases h
    · rename_i g
      split at h
      · cases h
      · exact ⟨by omega, by simpa using g, by omega⟩
theorem sword_ok {s : List UInt8} (h : errF s = 0) : ∀ w ∈ wordsF s, okW w = true := by
  intro w hw
  obtain ⟨l, hl, hm⟩ := mem_words hw
  exact List.all_eq_true.1 (List.all_eq_true.1 (serr_ok h).2.1 l hl) _ hm
theorem swords_le {s : List UInt8} (h : errF s = 0) : (wordsF s).length + (linesF s).length ≤ 100 := by
  have h1 := ordW_len (linesF s).flatten
  have h3 := (serr_ok h).2.2
  rw [textN_len] at h3
  unfold wordsF
  omega
/-- A book's text. -/
def bT (s : List UInt8) : List Int := (textN (wordsF s) (linesF s) ++ [0]).map Int.ofNat
theorem bT_len (s : List UInt8) : (bT s).length = (textN (wordsF s) (linesF s)).length + 1 := by unfold bT; simp
theorem textN_bd {s : List UInt8} {k : Nat} (h : k ∈ textN (wordsF s) (linesF s)) : 1 ≤ k ∧ k ≤ (wordsF s).length + 1 := by
  obtain ⟨l, hl, hc⟩ := mem_textN.1 h
  rcases hc with e | ⟨w, hw, e⟩
  · omega
  · have := (nth_num (ordW_sorted _) (words_mem hl hw)).1
    have : num (wordsF s) w < (wordsF s).length := this
    omega
theorem bT_bd {s : List UInt8} {x : Int} (h : x ∈ bT s) : 0 ≤ x ∧ x ≤ (wordsF s).length + 1 := by
  unfold bT at h
  obtain ⟨k, hk, rfl⟩ := List.mem_map.1 h
  show (0 : Int) ≤ (k : Int) ∧ (k : Int) ≤ _
  rcases List.mem_append.1 hk with q | q
  · have := textN_bd q; omega
  · have := List.mem_singleton.1 q; omega
theorem bT_has (s : List UInt8) : (((wordsF s).length + 1 : Nat) : Int) ∈ bT s := by
  unfold bT
  refine List.mem_map.2 ⟨(wordsF s).length + 1, List.mem_append.2 (Or.inl (mem_textN.2 ?_)), rfl⟩
  by_cases g : (wordsF s).length = 0
  · obtain ⟨l, hl⟩ := List.exists_mem_of_ne_nil _ (lines_ne s)
    exact ⟨l, hl, Or.inl (by omega)⟩
  · have hj : (wordsF s).length - 1 < (wordsF s).length := by omega
    have hm : (wordsF s)[(wordsF s).length - 1] ∈ wordsF s := List.getElem_mem hj
    obtain ⟨l, hl, hw⟩ := mem_words hm
    refine ⟨l, hl, Or.inr ⟨_, hw, ?_⟩⟩
    have := num_at (W := wordsF s) (ordW_sorted _) hj
    omega
theorem bT_most (s : List UInt8) : mostI (bT s) = (((wordsF s).length + 1 : Nat) : Int) := by
  have h1 := le_mostI (bT_has s)
  have h2 := (mostI_lt (l := bT s) (b := (wordsF s).length + 2) (by omega)).2 (fun x hx => by have := bT_bd hx; omega)
  omega
theorem bT_ok {s : List UInt8} (h : errF s = 0) : combOk (bT s) := by
  have h1 := swords_le h
  have h2 := (serr_ok h).2.2
  refine ⟨(isLB_iff _).2 ⟨by rw [bT_len]; omega, fun i hi => ?_⟩, by rw [bT_most]; omega, by rw [bT_len]; omega⟩
  unfold okAt
  have hm : nth (bT s) i ∈ bT s := nth_mem hi
  refine ⟨?_, (bT_bd hm).1⟩
  rw [bT_len] at hi ⊢
  have key : nth (bT s) i = ((nth (textN (wordsF s) (linesF s) ++ [0]) i : Nat) : Int) := by
    unfold bT
    rw [nth_castI]
  rw [key]
  by_cases g : i = (textN (wordsF s) (linesF s)).length
  · subst g
    have : nth (textN (wordsF s) (linesF s) ++ [0]) (textN (wordsF s) (linesF s)).length = 0 := by unfold nth; simp
    rw [this]
    simp
  · have hi' : i < (textN (wordsF s) (linesF s)).length := by omega
    have e : nth (textN (wordsF s) (linesF s) ++ [0]) i = nth (textN (wordsF s) (linesF s)) i := by unfold nth; rw [List.getElem?_append_left hi']
    rw [e]
    have := textN_bd (nth_mem hi')
    omega
/-- The signs of words in a book; whether all are in it. -/
def sgI (s ws : List UInt8) : List Int := (sigs (wordsF s) (toks ws) (toks ws).length).map Int.ofNat
def inB (s ws : List UInt8) : Prop := ∀ t ∈ toks ws, t = [10] ∨ t ∈ wordsF s
instance (s ws : List UInt8) : Decidable (inB s ws) := inferInstanceAs (Decidable (∀ t ∈ toks ws, t = [10] ∨ t ∈ wordsF s))
theorem sgI_len (s ws : List UInt8) : (sgI s ws).length = (toks ws).length := by unfold sgI; rw [List.length_map, sigs_len (Nat.le_refl _)]
theorem signV_bd (s t : List UInt8) : 1 ≤ signV (wordsF s) t ∧ signV (wordsF s) t ≤ (wordsF s).length + 2 := by
  unfold signV
  have := num_le (wordsF s) t
  split <;> omega
theorem sgI_bd {s ws : List UInt8} {x : Int} (h : x ∈ sgI s ws) : 1 ≤ x ∧ x ≤ (wordsF s).length + 2 := by
  unfold sgI sigs at h
  obtain ⟨k, hk, rfl⟩ := List.mem_map.1 h
  obtain ⟨t, _, rfl⟩ := List.mem_map.1 hk
  show (1 : Int) ≤ ((signV (wordsF s) t : Nat) : Int) ∧ ((signV (wordsF s) t : Nat) : Int) ≤ _
  have := signV_bd s t
  omega
theorem sgI_ok {s ws : List UInt8} (h : errF s = 0) : signOk (sgI s ws) := fun x hx => by
  have h1 := sgI_bd hx
  have h2 := swords_le h
  omega
theorem stoks_len {ws : List UInt8} (h : ws.length ≤ 16777216) : (toks ws).length ≤ 50331648 := by
  have h1 := toks_len ws
  rw [nl_count] at h1
  have := List.count_le_length (a := 10) (l := ws)
  omega
theorem rd_castS {w : World} {A : Option Addr} {ln : List Nat} (h : Rd w A ln.length (fun k => .int .i64 (nth ln k : Nat))) : Rd w A (ln.map Int.ofNat).length (fun k => .int .i64 (nth (ln.map Int.ofNat) k)) := by
  rw [List.length_map]
  exact h.congr fun k hk => by rw [nth_castI]
/-! ### What the shelf's calls answer -/
def cntF (s ws : List UInt8) : Nat := if inB s ws then (places (bT s) (sgI s ws)).length else 0
end Go.Proofs.YtjfdlibceldanabGreatDoor

/-! The shelf: Open, Count and Places walked. -/
namespace Go.Proofs.YtjfdlibceldanabGreatDoor
open Go.RowKit Go.Sort Tx En Wv Gu

abbrev shV (WA TA : Option Addr) (N wc n1 tc : Nat) (E B D : Option Addr) (m2 ec bc dc : Nat) : Value :=
  .agg #[.slice WA N wc, .slice TA n1 tc, .slice E n1 ec, .int .i64 n1, .int .i64 10, .slice B 10 bc, .slice D m2 dc]
abbrev noShelf : Value := .agg #[.slice none 0 0, .slice none 0 0, .slice none 0 0, .int .i64 0, .int .i64 0, .slice none 0 0, .slice none 0 0]
/-- A shelf of s in memory. -/
structure ShIn (w : World) (s : List UInt8) (WA TA E B D : Option Addr) (wc tc ec bc dc : Nat) : Prop where
  wd : RdS w WA (wordsF s)
  wcap : (wordsF s).length ≤ wc
  wnone : WA = none → wc = 0
  tx : Rd w TA (bT s).length (fun k => .int .i64 (nth (bT s) k))
  tcap : (bT s).length ≤ tc
  ecap : (bT s).length ≤ ec
  c : CombIn w (bT s) E B D
theorem ShIn.ext {w w' : World} {s : List UInt8} {WA TA E B D : Option Addr} {wc tc ec bc dc : Nat} (h : ShIn w s WA TA E B D wc tc ec bc dc) (hx : Ext w w') : ShIn w' s WA TA E B D wc tc ec bc dc :=
  ⟨h.wd.ext hx, h.wcap, h.wnone, h.tx.ext hx, h.tcap, h.ecap, h.c.ext hx⟩
abbrev shOf (s : List UInt8) (WA TA E B D : Option Addr) (wc tc ec bc dc : Nat) : Value := shV WA TA (wordsF s).length wc (bT s).length tc E B D ((wordsF s).length + 3) ec bc dc
/-- What Open answers. -/
def RetOpen (s : List UInt8) (w : World) (e : Ending) (w' : World) : Prop :=
  (errF s ≠ 0 ∧ e = .returned (.tuple #[noShelf, .int .i64 (errF s : Nat)]) ∧ Ext w w') ∨
  (errF s = 0 ∧ ∃ WA TA E B D wc tc ec bc dc, e = .returned (.tuple #[shOf s WA TA E B D wc tc ec bc dc, .int .i64 0]) ∧ ShIn w' s WA TA E B D wc tc ec bc dc ∧ Ext w w')

theorem bk7 {w : World} {g : Nat} {T : TypeId} {a0 a1 a2 a3 a4 a5 a6 v0 v1 v2 v3 v4 v5 v6 : Value} (h : Bk w g T #[a0, a1, a2, a3, a4, a5, a6]) :
    Bk (((((((w.setCell ⟨g, 0, none⟩ v0).setCell ⟨g, 1, none⟩ v1).setCell ⟨g, 2, none⟩ v2).setCell ⟨g, 3, none⟩ v3).setCell ⟨g, 4, none⟩ v4).setCell ⟨g, 5, none⟩ v5).setCell ⟨g, 6, none⟩ v6) g T #[v0, v1, v2, v3, v4, v5, v6] := by
  have h0 : Bk _ g T #[v0, a1, a2, a3, a4, a5, a6] := h.set 0 v0
  have h1 : Bk _ g T #[v0, v1, a2, a3, a4, a5, a6] := h0.set 1 v1
  have h2 : Bk _ g T #[v0, v1, v2, a3, a4, a5, a6] := h1.set 2 v2
  have h3 : Bk _ g T #[v0, v1, v2, v3, a4, a5, a6] := h2.set 3 v3
  have h4 : Bk _ g T #[v0, v1, v2, v3, v4, a5, a6] := h3.set 4 v4
  have h5 : Bk _ g T #[v0, v1, v2, v3, v4, v5, a6] := h4.set 5 v5
  have h6 : Bk _ g T #[v0, v1, v2, v3, v4, v5, v6] := h5.set 6 v6
  exact h6
theorem ext7 {a w : World} {g : Nat} (hx : Ext a w) (hb : a.heap.size ≤ g) (v0 v1 v2 v3 v4 v5 v6 : Value) :
    Ext a (((((((w.setCell ⟨g, 0, none⟩ v0).setCell ⟨g, 1, none⟩ v1).setCell ⟨g, 2, none⟩ v2).setCell ⟨g, 3, none⟩ v3).setCell ⟨g, 4, none⟩ v4).setCell ⟨g, 5, none⟩ v5).setCell ⟨g, 6, none⟩ v6) :=
  ((((((hx.setCell (p := ⟨g, 0, none⟩) hb v0).setCell (p := ⟨g, 1, none⟩) hb v1).setCell (p := ⟨g, 2, none⟩) hb v2).setCell (p := ⟨g, 3, none⟩) hb v3).setCell (p := ⟨g, 4, none⟩) hb v4).setCell (p := ⟨g, 5, none⟩) hb v5).setCell (p := ⟨g, 6, none⟩) hb v6

set_option maxHeartbeats 4000000 in
set_option maxRecDepth 100000 in
theorem sopen_no (s : List UInt8) (hs : s.length ≤ 9223372036854775807) (m : Int) (w : World) (hm : w.cell? ⟨0, 0, none⟩ = some (.int .i64 m)) (h : errF s ≠ 0) :
    Calls Tryz.prog 9 #[str s] w fun e w' => e = .returned (.tuple #[noShelf, .int .i64 (errF s : Nat)]) ∧ Ext w w' := by
  have cr : ∀ w, w.cell? ⟨0, 0, none⟩ = some (.int .i64 m) → Calls Tryz.prog 26 #[str s] w fun e w' => e = .returned (.tuple #[noBook, .int .i64 (errF s : Nat)]) ∧ Ext w w' := by
    intro w hm
    refine (read_calls s hs m w hm).mono ?_
    rintro e w' (⟨_, h1, h2⟩ | ⟨h1, _⟩)
    · exact ⟨h1, h2⟩
    · exact absurd h1 h
  obtain ⟨er, her⟩ : ∃ er, errF s = er := ⟨_, rfl⟩
  rw [her] at cr h ⊢
  have h' : (((er : Nat) : Int) != 0) = true := by simp; omega
  have CR := Lib.hid cr; have HM := Lib.hid hm
  clear cr hm her
  go_enter Tryz.func9, Tryz.ntmps9
  go_wp2_with fail
  generalize hW : World.alloc w _ = W
  have bl := bk_of hW
  have hx : Ext w W := ext_of_alloc hW
  clear hW
  with_reducible refine (CR.out W (ecell HM.out hx)).mono ?_
  rintro e w1 ⟨rfl, hx1⟩
  have bl1 := bl.ext hx1
  have hx01 := hx.trans hx1
  clear hx hx1 bl
  go_upto_region 2 with fail
  generalize hW2 : World.alloc w1 _ = W2
  have b2 := bl1.ext (ext_of_alloc hW2)
  have hx2 := hx01.trans (ext_of_alloc hW2)
  clear hW2 hx01 bl1
  have z0 := b2.cell 0
  have z1 := b2.cell 1
  have z2 := b2.cell 2
  have z3 := b2.cell 3
  have z4 := b2.cell 4
  have z5 := b2.cell 5
  have z6 := b2.cell 6
  have f0 := b2.frozen 0
  have f1 := b2.frozen 1
  have f2 := b2.frozen 2
  have f3 := b2.frozen 3
  have f4 := b2.frozen 4
  have f5 := b2.frozen 5
  have f6 := b2.frozen 6
  have B7 := Lib.hid (bk7 (v0 := .slice none 0 0) (v1 := .slice none 0 0) (v2 := .slice none 0 0) (v3 := .int .i64 0) (v4 := .int .i64 0) (v5 := .slice none 0 0) (v6 := .slice none 0 0) b2)
  have X7 := Lib.hid (ext7 hx2 (Nat.le_refl _) (.slice none 0 0) (.slice none 0 0) (.slice none 0 0) (.int .i64 0) (.int .i64 0) (.slice none 0 0) (.slice none 0 0))
  go_wp2_with fail
  clear z0 z1 z2 z3 z4 z5 z6 f0 f1 f2 f3 f4 f5 f6
  have b7 := B7.out
  have x7 := X7.out
  clear B7 X7
  generalize (World.setCell _ ⟨w.heap.size, 6, none⟩ _) = W7 at *
  have z0 := b7.cell 0
  have z1 := b7.cell 1
  have z2 := b7.cell 2
  have z3 := b7.cell 3
  have z4 := b7.cell 4
  have z5 := b7.cell 5
  have z6 := b7.cell 6
  exact bodyPost_ret (v := .tuple #[noShelf, .int .i64 (er : Nat)]) (by simp [results, Tryz.results9, go_sem, z0, z1, z2, z3, z4, z5, z6]) rfl ⟨rfl, x7⟩
theorem rdB {w : World} {TA : Option Addr} {s : List UInt8} (h : Rd w TA (textN (wordsF s) (linesF s) ++ [0]).length (fun k => .int .i64 (nth (textN (wordsF s) (linesF s) ++ [0]) k : Nat))) : Rd w TA (bT s).length (fun k => .int .i64 (nth (bT s) k)) := rd_castS h

set_option maxHeartbeats 4000000 in
set_option maxRecDepth 100000 in
theorem sopen_walk (s : List UInt8) (m : Int) (w : World) (hm : w.cell? ⟨0, 0, none⟩ = some (.int .i64 m)) (N n1 m2 : Nat)
    (CB : World → Option Addr → Option Addr → Option Addr → Option Addr → Option Addr → Nat → Nat → Nat → Nat → Nat → Prop) (RB : World → Option Addr → Option Addr → Nat → Nat → Prop)
    (hst : ∀ w a b c d e f g h i j (B : Nat) v0 v1 v2 v3 v4 v5 v6, Bk w B 33 #[.slice none 0 0, .slice none 0 0, .slice none 0 0, .int .i64 0, .int .i64 0, .slice none 0 0, .slice none 0 0] → CB w a b c d e f g h i j → CB (((((((w.setCell ⟨B, 0, none⟩ v0).setCell ⟨B, 1, none⟩ v1).setCell ⟨B, 2, none⟩ v2).setCell ⟨B, 3, none⟩ v3).setCell ⟨B, 4, none⟩ v4).setCell ⟨B, 5, none⟩ v5).setCell ⟨B, 6, none⟩ v6) a b c d e f g h i j)
    (hRB : ∀ w w' a b c d, Ext w w' → RB w a b c d → RB w' a b c d) (hCB : ∀ w w' a b c d e f g h i j, Ext w w' → CB w a b c d e f g h i j → CB w' a b c d e f g h i j)
    (cr : ∀ w, w.cell? ⟨0, 0, none⟩ = some (.int .i64 m) → Calls Tryz.prog 26 #[str s] w fun e w' => ∃ WA TA wc tc, e = .returned (.tuple #[bookV WA TA N wc n1 tc, .int .i64 0]) ∧ RB w' WA TA wc tc ∧ Ext w w')
    (cm : ∀ WA TA wc tc w, RB w WA TA wc tc → Calls Tryz.prog 27 #[.slice TA n1 tc] w fun e w' => ∃ E B D ec bc dc, e = .returned (.tuple #[.agg #[.slice E n1 ec, .int .i64 n1, .int .i64 10, .slice B 10 bc, .slice D m2 dc], .bool true]) ∧ CB w' WA TA E B D wc tc ec bc dc ∧ Ext w w') :
    Calls Tryz.prog 9 #[str s] w fun e w' => ∃ WA TA E B D wc tc ec bc dc, e = .returned (.tuple #[shV WA TA N wc n1 tc E B D m2 ec bc dc, .int .i64 0]) ∧ CB w' WA TA E B D wc tc ec bc dc ∧ Ext w w' := by
  have CR := Lib.hid cr; have CM := Lib.hid cm; have HM := Lib.hid hm; have HRB := Lib.hid hRB; have HCB := Lib.hid hCB; have HST := Lib.hid hst
  clear cr cm hm hRB hCB hst
  go_enter Tryz.func9, Tryz.ntmps9
  go_wp2_with fail
  generalize hW : World.alloc w _ = W
  have bl := bk_of hW
  have hx : Ext w W := ext_of_alloc hW
  clear hW
  with_reducible refine (CR.out W (ecell HM.out hx)).mono ?_
  rintro e w1 ⟨WA, TA, wc, tc, rfl, hrb, hx1⟩
  have bl1 := bl.ext hx1
  have hx01 := hx.trans hx1
  clear hx hx1 bl
  go_upto_region 2 with fail
  generalize hW2 : World.alloc w1 _ = W2
  have b2 := bl1.ext (ext_of_alloc hW2)
  have hx2 := hx01.trans (ext_of_alloc hW2)
  have c2 := bk_of hW2
  have hrb2 := HRB.out _ _ _ _ _ _ (ext_of_alloc hW2) hrb
  have hle : w.heap.size ≤ w1.heap.size := hx01.size
  generalize w1.heap.size = g2 at *
  clear hW2 hx01 bl1 hrb
  have d0 := c2.cell 0
  have d1 := c2.cell 1
  have cm := CM.out WA TA wc tc W2 hrb2
  go_wp2_with fail
  with_reducible refine cm.mono ?_
  rintro e w3 ⟨E, B, D, ec, bc, dc, rfl, hcb, hx3⟩
  have b3 := b2.ext hx3
  have c3 := c2.ext hx3
  have hx03 := hx2.trans hx3
  clear d0 d1 cm hx3 hx2 b2 c2
  go_upto_region 5 with fail
  generalize hW4 : World.alloc w3 _ = W4
  have b4 := b3.ext (ext_of_alloc hW4)
  have c4 := c3.ext (ext_of_alloc hW4)
  have e4 := bk_of hW4
  have hx4 := hx03.trans (ext_of_alloc hW4)
  have hcb4 := HCB.out _ _ _ _ _ _ _ _ _ _ _ _ (ext_of_alloc hW4) hcb
  generalize w3.heap.size = g3 at *
  clear hW4 hx03 b3 c3 hcb
  have d0 := c4.cell 0
  have d1 := c4.cell 1
  have x0 := e4.cell 0
  have x1 := e4.cell 1
  have x2 := e4.cell 2
  have x3 := e4.cell 3
  have x4 := e4.cell 4
  have f0 := b4.frozen 0
  have f1 := b4.frozen 1
  have f2 := b4.frozen 2
  have f3 := b4.frozen 3
  have f4 := b4.frozen 4
  have f5 := b4.frozen 5
  have f6 := b4.frozen 6
  have z0 := b4.cell 0
  have z1 := b4.cell 1
  have z2 := b4.cell 2
  have z3 := b4.cell 3
  have z4 := b4.cell 4
  have z5 := b4.cell 5
  have z6 := b4.cell 6
  have B7 := Lib.hid (bk7 (v0 := .slice WA N wc) (v1 := .slice TA n1 tc) (v2 := .slice E n1 ec) (v3 := .int .i64 n1) (v4 := .int .i64 10) (v5 := .slice B 10 bc) (v6 := .slice D m2 dc) b4)
  have X7 := Lib.hid (ext7 hx4 (Nat.le_refl _) (.slice WA N wc) (.slice TA n1 tc) (.slice E n1 ec) (.int .i64 n1) (.int .i64 10) (.slice B 10 bc) (.slice D m2 dc))
  have C7 := Lib.hid (HST.out W4 WA TA E B D wc tc ec bc dc w.heap.size (.slice WA N wc) (.slice TA n1 tc) (.slice E n1 ec) (.int .i64 n1) (.int .i64 10) (.slice B 10 bc) (.slice D m2 dc) b4 hcb4)
  go_wp2_with fail
  clear z0 z1 z2 z3 z4 z5 z6 f0 f1 f2 f3 f4 f5 f6
  have b7 := B7.out
  have x7 := X7.out
  have c7 := C7.out
  clear B7 X7 C7
  generalize (World.setCell _ ⟨w.heap.size, 6, none⟩ _) = W7 at *
  have z0 := b7.cell 0
  have z1 := b7.cell 1
  have z2 := b7.cell 2
  have z3 := b7.cell 3
  have z4 := b7.cell 4
  have z5 := b7.cell 5
  have z6 := b7.cell 6
  exact bodyPost_ret (v := .tuple #[shV WA TA N wc n1 tc E B D m2 ec bc dc, .int .i64 0]) (by simp [results, Tryz.results9, go_sem, z0, z1, z2, z3, z4, z5, z6]) rfl ⟨WA, TA, E, B, D, wc, tc, ec, bc, dc, rfl, c7, x7⟩

/-- A slice that holds a value which a block has not lies in another block. -/
theorem rd_sep {w : World} {A : Option Addr} {n : Nat} {f : Nat → Value} (h : Rd w A n f) {g : Nat} {T : TypeId} {cs : Array Value} (hb : Bk w g T cs) (k0 : Nat) (hk0 : n ≠ 0 → k0 < n ∧ ∀ o : Nat, cs[o]? ≠ some (f k0)) : n ≠ 0 → ∀ b o, A = some ⟨b, o, none⟩ → b ≠ g := fun hn b' o' hA' q => by
  obtain ⟨b, o, hA, hlt, hc⟩ := h (by omega)
  obtain ⟨hk, hne⟩ := hk0 hn
  rw [hA] at hA'
  injection hA' with hA'
  injection hA' with e1 e2
  have h1 := hc k0 hk
  rw [e1, q, hb.cell] at h1
  exact hne _ h1
theorem rd_sto {w : World} {A : Option Addr} {n : Nat} {f : Nat → Value} (h : Rd w A n f) {g : Nat} (hs : n ≠ 0 → ∀ b o, A = some ⟨b, o, none⟩ → b ≠ g) (j : Nat) (u : Value) : Rd (w.setCell ⟨g, j, none⟩ u) A n f := fun hn => by
  obtain ⟨b, o, hA, hlt, hc⟩ := h hn
  have hbg := hs (by omega) b o hA
  refine ⟨b, o, hA, by rw [World.size_setCell]; exact hlt, fun k hk => ?_⟩
  rw [World.cell?_setCell_other _ _ _ _ (by intro q; injection q with q; exact hbg q.symm)]
  exact hc k hk
theorem zeros_str (o : Nat) (l : List UInt8) : (#[Value.slice none 0 0, .slice none 0 0, .slice none 0 0, .int .i64 0, .int .i64 0, .slice none 0 0, .slice none 0 0] : Array Value)[o]? ≠ some (str l) := by
  rcases o with _ | _ | _ | _ | _ | _ | _ | o <;> simp
theorem zeros_int (o : Nat) (x : Int) (hx : x ≠ 0) : (#[Value.slice none 0 0, .slice none 0 0, .slice none 0 0, .int .i64 0, .int .i64 0, .slice none 0 0, .slice none 0 0] : Array Value)[o]? ≠ some (.int .i64 x) := by
  rcases o with _ | _ | _ | _ | _ | _ | _ | o <;> simp <;> omega
theorem OwnB.stoS {w : World} {base g k : Nat} {A1 A2 : Option Addr} {c1 c2 : Nat} {b : PB} {cs : Array Value} (h : OwnB w base A1 A2 c1 c2 b) (hb : Bk w g 33 cs) (u : Value) : OwnB (w.setCell ⟨g, k, none⟩ u) base A1 A2 c1 c2 b :=
  ⟨own_far (p := ⟨g, k, none⟩) h.1 (fun q => Bk.own_ne h.1 hb (by decide) q.symm) u, own_far (p := ⟨g, k, none⟩) h.2 (fun q => Bk.own_ne h.2 hb (by decide) q.symm) u⟩
theorem CombOw.stoS {w : World} {l : List Int} {E B D : Option Addr} {ec bc dc m2 : Nat} (h : CombOw w l E B D ec bc dc m2) {g : Nat} {cs : Array Value} (hb : Bk w g 33 cs) (k : Nat) (u : Value) : CombOw (w.setCell ⟨g, k, none⟩ u) l E B D ec bc dc m2 := by
  obtain ⟨⟨b1, h1⟩, ⟨b2, K, xs, h2, h3⟩, ⟨b4, h4⟩⟩ := h
  exact ⟨⟨b1, own_far (p := ⟨g, k, none⟩) h1 (fun q => Bk.own_ne h1 hb (by decide) q.symm) u⟩,
    ⟨b2, K, xs, own_far (p := ⟨g, k, none⟩) h2 (fun q => Bk.own_ne h2 hb (by decide) q.symm) u, h3.ext fun _ _ _ _ _ r => r.stoS hb u⟩,
    ⟨b4, own_far (p := ⟨g, k, none⟩) h4 (fun q => Bk.own_ne h4 hb (by decide) q.symm) u⟩⟩
/-- What of a shelf lies in memory while Open still writes. -/
def ShOw (s : List UInt8) (w : World) (WA TA E B D : Option Addr) (wc tc ec bc dc : Nat) : Prop :=
  RdS w WA (wordsF s) ∧ ((wordsF s).length ≤ wc ∧ (WA = none → wc = 0)) ∧ Rd w TA (bT s).length (fun k => .int .i64 (nth (bT s) k)) ∧ (bT s).length ≤ tc ∧ (bT s).length ≤ ec ∧ CombOw w (bT s) E B D ec bc dc ((wordsF s).length + 3)
theorem bT_first (s : List UInt8) : nth (bT s) 0 ≠ 0 := by
  obtain ⟨u, hu⟩ := textN_last (wordsF s) (linesF s) (lines_ne s)
  unfold bT
  rw [nth_castI]
  have h1 : nth (textN (wordsF s) (linesF s) ++ [0]) 0 ∈ textN (wordsF s) (linesF s) := by
    have hl : 0 < (textN (wordsF s) (linesF s)).length := by rw [hu]; simp
    have e : nth (textN (wordsF s) (linesF s) ++ [0]) 0 = nth (textN (wordsF s) (linesF s)) 0 := by unfold nth; rw [List.getElem?_append_left hl]
    rw [e]; exact nth_mem hl
  have := textN_bd h1
  omega
set_option maxHeartbeats 4000000 in
theorem ShOw.sto7 {s : List UInt8} {w : World} {WA TA E B D : Option Addr} {wc tc ec bc dc : Nat} {g : Nat} (v0 v1 v2 v3 v4 v5 v6 : Value)
    (hb : Bk w g 33 #[.slice none 0 0, .slice none 0 0, .slice none 0 0, .int .i64 0, .int .i64 0, .slice none 0 0, .slice none 0 0]) (h : ShOw s w WA TA E B D wc tc ec bc dc) :
    ShOw s (((((((w.setCell ⟨g, 0, none⟩ v0).setCell ⟨g, 1, none⟩ v1).setCell ⟨g, 2, none⟩ v2).setCell ⟨g, 3, none⟩ v3).setCell ⟨g, 4, none⟩ v4).setCell ⟨g, 5, none⟩ v5).setCell ⟨g, 6, none⟩ v6) WA TA E B D wc tc ec bc dc := by
  obtain ⟨h1, h2, h3, h4, h5, h6⟩ := h
  have s1 := rd_sep h1 hb 0 (fun hn => ⟨by omega, fun o => zeros_str o _⟩)
  have s3 := rd_sep h3 hb 0 (fun hn => ⟨by omega, fun o => zeros_int o _ (bT_first s)⟩)
  have key : ∀ (w : World) (cs : Array Value) (j : Nat) (u : Value), Bk w g 33 cs → RdS w WA (wordsF s) → Rd w TA (bT s).length (fun k => .int .i64 (nth (bT s) k)) → CombOw w (bT s) E B D ec bc dc ((wordsF s).length + 3) →
      Bk (w.setCell ⟨g, j, none⟩ u) g 33 (cs.setIfInBounds j u) ∧ RdS (w.setCell ⟨g, j, none⟩ u) WA (wordsF s) ∧ Rd (w.setCell ⟨g, j, none⟩ u) TA (bT s).length (fun k => .int .i64 (nth (bT s) k)) ∧ CombOw (w.setCell ⟨g, j, none⟩ u) (bT s) E B D ec bc dc ((wordsF s).length + 3) :=
    fun w cs j u hb a b c => ⟨hb.set j u, rd_sto a s1 j u, rd_sto b s3 j u, c.stoS hb j u⟩
  obtain ⟨b0, p0, q0, r0⟩ := key _ _ 0 v0 hb h1 h3 h6
  obtain ⟨b1, p1, q1, r1⟩ := key _ _ 1 v1 b0 p0 q0 r0
  obtain ⟨b2, p2, q2, r2⟩ := key _ _ 2 v2 b1 p1 q1 r1
  obtain ⟨b3, p3, q3, r3⟩ := key _ _ 3 v3 b2 p2 q2 r2
  obtain ⟨b4, p4, q4, r4⟩ := key _ _ 4 v4 b3 p3 q3 r3
  obtain ⟨b5, p5, q5, r5⟩ := key _ _ 5 v5 b4 p4 q4 r4
  obtain ⟨b6, p6, q6, r6⟩ := key _ _ 6 v6 b5 p5 q5 r5
  exact ⟨p6, h2, q6, h4, h5, r6⟩
theorem open_calls (s : List UInt8) (hs : s.length ≤ 9223372036854775807) (m : Int) (w : World) (hm : w.cell? ⟨0, 0, none⟩ = some (.int .i64 m)) :
    Calls Tryz.prog 9 #[str s] w (RetOpen s w) := by
  by_cases h : errF s = 0
  · have hmo := bT_most s
    have hm2 : (mostI (bT s)).toNat + 2 = (wordsF s).length + 3 := by omega
    refine (sopen_walk s m w hm (wordsF s).length (bT s).length ((wordsF s).length + 3) (ShOw s)
      (fun w WA TA wc tc => RdS w WA (wordsF s) ∧ ((wordsF s).length ≤ wc ∧ (WA = none → wc = 0)) ∧ Rd w TA (bT s).length (fun k => .int .i64 (nth (bT s) k)) ∧ (bT s).length ≤ tc)
      (fun w a b c d e f g h i j B v0 v1 v2 v3 v4 v5 v6 hb hc => hc.sto7 v0 v1 v2 v3 v4 v5 v6 hb)
      (fun w w' a b c d hx r => ⟨r.1.ext hx, r.2.1, r.2.2.1.ext hx, r.2.2.2⟩)
      (fun w w' a b c d e f g h i j hx r => ⟨r.1.ext hx, r.2.1, r.2.2.1.ext hx, r.2.2.2.1, r.2.2.2.2.1, r.2.2.2.2.2.ext hx⟩) ?_ ?_).mono ?_
    · intro w hm
      refine (read_calls s hs m w hm).mono ?_
      rintro e w' (⟨h', _⟩ | ⟨_, WA, TA, wc, tc, rfl, htc, hWA, hwc, hS, hTr, hx⟩)
      · exact absurd h h'
      · have el : (textN (wordsF s) (linesF s) ++ [0] : List Nat).length = (bT s).length := by unfold bT; rw [List.length_map]
        have hTr := rdB hTr
        rw [el] at htc ⊢
        exact ⟨WA, TA, wc, tc, rfl, ⟨hS, ⟨hwc, hWA⟩, hTr, htc⟩, hx⟩
    · rintro WA TA wc tc w ⟨h1, h2, h3, h4⟩
      refine (cmake_yesO (bT s) TA tc w h4 h3 (bT_ok h)).mono ?_
      rintro e w' ⟨E, B, D, ec, bc, dc, rfl, g1, g2, hx⟩
      rw [hm2] at g2 ⊢
      exact ⟨E, B, D, ec, bc, dc, rfl, ⟨h1.ext hx, h2, h3.ext hx, h4, g1, g2⟩, hx⟩
    · rintro e w' ⟨WA, TA, E, B, D, wc, tc, ec, bc, dc, rfl, ⟨h1, h2, h3, h4, h5, h6⟩, hx⟩
      exact Or.inr ⟨h, WA, TA, E, B, D, wc, tc, ec, bc, dc, rfl, ⟨h1, h2.1, h2.2, h3, h4, h5, h6.plain hm2⟩, hx⟩
  · refine (sopen_no s hs m w hm h).mono ?_
    rintro e w' ⟨rfl, hx⟩
    exact Or.inl ⟨h, rfl, hx⟩
end Go.Proofs.YtjfdlibceldanabGreatDoor

/-! The shelf: Count and Places walked. -/
namespace Go.Proofs.YtjfdlibceldanabGreatDoor
open Go.RowKit Go.Sort Tx En Wv Gu

/-- What text.Signs answers, in letters. -/
def SgRet (b : Bool) (L : Nat) (RP : World → Option Addr → Nat → Prop) (w : World) (e : Ending) (w' : World) : Prop :=
  (b = true ∧ ∃ P p, e = .returned (.tuple #[.slice P L p, .bool true]) ∧ RP w' P p ∧ Ext w w') ∨ (b = false ∧ e = .returned (.tuple #[.slice none 0 0, .bool false]) ∧ Ext w w')

set_option maxHeartbeats 4000000 in
set_option maxRecDepth 100000 in
theorem scount_walk (b : Bool) (ws : List UInt8) (N n1 m2 L r : Nat) (WA TA E B D : Option Addr) (wc tc ec bc dc : Nat) (w : World) (R : World → Prop) (RP : World → Option Addr → Nat → Prop)
    (hR : ∀ w w', Ext w w' → R w → R w') (h0 : R w)
    (cs : ∀ w, R w → Calls Tryz.prog 10 #[bookV WA TA N wc n1 tc, str ws] w (SgRet b L RP w))
    (cc : b = true → ∀ P p w, RP w P p → R w → Calls Tryz.prog 32 #[.agg #[.slice E n1 ec, .int .i64 n1, .int .i64 10, .slice B 10 bc, .slice D m2 dc], .slice P L p] w fun e w' => e = .returned (.int .i64 r) ∧ Ext w w') (hb : b = false → r = 0) :
    Calls Tryz.prog 12 #[shV WA TA N wc n1 tc E B D m2 ec bc dc, str ws] w fun e w' => e = .returned (.int .i64 r) ∧ Ext w w' := by
  have CS := Lib.hid cs; have CC := Lib.hid cc; have HR := Lib.hid hR; have HB := Lib.hid hb
  clear cs cc hR hb
  go_enter Tryz.func12, Tryz.ntmps12
  go_upto_region 1 with fail
  generalize hW : World.alloc w _ = W
  have bx := bk_of hW
  have hx := ext_of_alloc hW
  have hr := HR.out _ _ hx h0
  generalize w.heap.size = g at *
  clear hW h0
  have z0 := bx.cell 0
  have z1 := bx.cell 1
  have cs := CS.out W hr
  go_wp2_with fail
  with_reducible refine cs.mono ?_
  rintro e w1 (⟨rfl, P, p, rfl, hP, hx1⟩ | ⟨rfl, rfl, hx1⟩)
  · have cc := CC.out rfl P p w1 hP (HR.out _ _ hx1 hr)
    have hb1 := bx.ext hx1
    clear z0 z1
    have z2 := hb1.cell 2
    have z3 := hb1.cell 3
    have z4 := hb1.cell 4
    have z5 := hb1.cell 5
    have z6 := hb1.cell 6
    go_wp2_with fail
    with_reducible refine cc.mono ?_
    rintro e w2 ⟨rfl, hx2⟩
    go_wp2_with fail
    go_ret
    exact ⟨rfl, (hx.trans hx1).trans hx2⟩
  · have hr0 := HB.out rfl
    subst hr0
    go_wp2_with fail
    go_ret
    exact ⟨rfl, hx.trans hx1⟩
set_option maxHeartbeats 4000000 in
set_option maxRecDepth 100000 in
theorem splaces_walk (b : Bool) (ws : List UInt8) (N n1 m2 L : Nat) (WA TA E B D : Option Addr) (wc tc ec bc dc : Nat) (w : World) (R : World → Prop) (RP : World → Option Addr → Nat → Prop) (pl : List Nat)
    (hR : ∀ w w', Ext w w' → R w → R w') (h0 : R w)
    (cs : ∀ w, R w → Calls Tryz.prog 10 #[bookV WA TA N wc n1 tc, str ws] w (SgRet b L RP w))
    (cc : b = true → ∀ P p w, RP w P p → R w → Calls Tryz.prog 38 #[.agg #[.slice E n1 ec, .int .i64 n1, .int .i64 10, .slice B 10 bc, .slice D m2 dc], .slice P L p] w (RetInts pl w)) (hb : b = false → pl = []) :
    Calls Tryz.prog 19 #[shV WA TA N wc n1 tc E B D m2 ec bc dc, str ws] w (RetInts pl w) := by
  unfold RetInts at cc ⊢
  obtain ⟨L2, hL2⟩ : ∃ k, pl.length = k := ⟨_, rfl⟩
  rw [hL2] at cc ⊢
  have HL2 : Hid (b = false → L2 = 0) := fun q => by rw [← hL2, hb q]; rfl
  have CS := Lib.hid cs; have CC := Lib.hid cc; have HR := Lib.hid hR
  clear cs cc hR hb hL2
  go_enter Tryz.func19, Tryz.ntmps19
  go_upto_region 1 with fail
  generalize hW : World.alloc w _ = W
  have bx := bk_of hW
  have hx := ext_of_alloc hW
  have hr := HR.out _ _ hx h0
  generalize w.heap.size = g at *
  clear hW h0
  have z0 := bx.cell 0
  have z1 := bx.cell 1
  have cs := CS.out W hr
  go_wp2_with fail
  with_reducible refine cs.mono ?_
  rintro e w1 (⟨rfl, P, p, rfl, hP, hx1⟩ | ⟨rfl, rfl, hx1⟩)
  · have cc := CC.out rfl P p w1 hP (HR.out _ _ hx1 hr)
    have hb1 := bx.ext hx1
    clear z0 z1
    have z2 := hb1.cell 2
    have z3 := hb1.cell 3
    have z4 := hb1.cell 4
    have z5 := hb1.cell 5
    have z6 := hb1.cell 6
    go_wp2_with fail
    with_reducible refine cc.mono ?_
    rintro e w2 ⟨A, c, rfl, hA, hrd, hx2⟩
    go_wp2_with fail
    go_ret
    exact ⟨A, c, rfl, hA, hrd, (hx.trans hx1).trans hx2⟩
  · have hr0 := HL2.out rfl
    subst hr0
    go_wp2_with fail
    go_ret
    exact ⟨none, 0, rfl, fun _ => rfl, Rd.zero, hx.trans hx1⟩
section
variable {s : List UInt8} (h : errF s = 0) (ws : List UInt8) (hws : ws.length ≤ 16777216) (m : Int) {WA TA E B D : Option Addr} {wc tc ec bc dc : Nat}
/-- The cell that strings.Split asks, and the shelf. -/
def ShR (m : Int) (s : List UInt8) (WA TA E B D : Option Addr) (wc tc ec bc dc : Nat) (w : World) : Prop := w.cell? ⟨0, 0, none⟩ = some (.int .i64 m) ∧ ShIn w s WA TA E B D wc tc ec bc dc
theorem ShR.ext {w w' : World} (hx : Ext w w') (r : ShR m s WA TA E B D wc tc ec bc dc w) : ShR m s WA TA E B D wc tc ec bc dc w' := ⟨ecell r.1 hx, r.2.ext hx⟩
/-- Words' signs, in memory. -/
def SgR (s ws : List UInt8) (w : World) (P : Option Addr) (p : Nat) : Prop := (P = none → p = 0) ∧ (sgI s ws).length ≤ p ∧ Rd w P (sgI s ws).length (fun k => .int .i64 (nth (sgI s ws) k))
theorem SgR.ext {w w' : World} {P : Option Addr} {p : Nat} (hx : Ext w w') (r : SgR s ws w P p) : SgR s ws w' P p := ⟨r.1, r.2.1, r.2.2.ext hx⟩
include h hws in
theorem ssigns_calls (w : World) (r : ShR m s WA TA E B D wc tc ec bc dc w) :
    Calls Tryz.prog 10 #[bookV WA TA (wordsF s).length wc (bT s).length tc, str ws] w (SgRet (decide (inB s ws)) (sgI s ws).length (SgR s ws) w) := by
  refine (signs_walkC (wordsF s) (ordW_sorted _) (by have := swords_le h; omega) WA TA wc (bT s).length tc ws hws m w r.1 r.2.wd).mono ?_
  rintro e w' (⟨h1, P, p, rfl, h2, h3, h4, h5⟩ | ⟨⟨t, ht, hbad⟩, rfl, hx⟩)
  · have el : (sigs (wordsF s) (toks ws) (toks ws).length).length = (sgI s ws).length := by unfold sgI; rw [List.length_map]
    have h3' : Rd w' P (sgI s ws).length (fun k => .int .i64 (nth (sgI s ws) k)) := rd_castS h3
    rw [el] at h5 ⊢
    exact Or.inl ⟨decide_eq_true h1, P, p, rfl, ⟨h2, h5, h3'⟩, h4⟩
  · exact Or.inr ⟨decide_eq_false fun q => hbad (q t ht), rfl, hx⟩
include h hws in
theorem scount_calls (w : World) (r : ShR m s WA TA E B D wc tc ec bc dc w) :
    Calls Tryz.prog 12 #[shOf s WA TA E B D wc tc ec bc dc, str ws] w fun e w' => e = .returned (.int .i64 (cntF s ws : Nat)) ∧ Ext w w' := by
  have hmo := bT_most s
  have hm2 : (mostI (bT s)).toNat + 2 = (wordsF s).length + 3 := by omega
  refine scount_walk (decide (inB s ws)) ws (wordsF s).length (bT s).length ((wordsF s).length + 3) (sgI s ws).length (cntF s ws) WA TA E B D wc tc ec bc dc w (ShR m s WA TA E B D wc tc ec bc dc) (SgR s ws) (fun _ _ hx r => r.ext m hx) r (ssigns_calls h ws hws m) ?_ ?_
  · intro hb P p w hP r
    have hc := ccount_calls (bT s) (bT_ok h) E B D ec bc dc (sgI s ws) (sgI_ok h) (by rw [sgI_len]; have := stoks_len hws; omega) P p w r.2.c hP.2.2
    rw [hm2, span_places] at hc
    unfold cntF
    rw [if_pos (of_decide_eq_true hb)]
    exact hc
  · intro hb
    unfold cntF
    rw [if_neg (of_decide_eq_false hb)]
def plcF (s ws : List UInt8) : List Nat := if inB s ws then places (bT s) (sgI s ws) else []
include h hws in
theorem splaces_calls (w : World) (r : ShR m s WA TA E B D wc tc ec bc dc w) :
    Calls Tryz.prog 19 #[shOf s WA TA E B D wc tc ec bc dc, str ws] w (RetInts (plcF s ws) w) := by
  have hmo := bT_most s
  have hm2 : (mostI (bT s)).toNat + 2 = (wordsF s).length + 3 := by omega
  refine splaces_walk (decide (inB s ws)) ws (wordsF s).length (bT s).length ((wordsF s).length + 3) (sgI s ws).length WA TA E B D wc tc ec bc dc w (ShR m s WA TA E B D wc tc ec bc dc) (SgR s ws) (plcF s ws) (fun _ _ hx r => r.ext m hx) r (ssigns_calls h ws hws m) ?_ ?_
  · intro hb P p w hP r
    have hc := places_calls (bT s) (bT_ok h) E B D ec bc dc r.2.ecap (sgI s ws) (sgI_ok h) (by rw [sgI_len]; have := stoks_len hws; omega) P p w r.2.c hP.2.2
    rw [hm2] at hc
    unfold plcF
    rw [if_pos (of_decide_eq_true hb)]
    exact hc
  · intro hb
    unfold plcF
    rw [if_neg (of_decide_eq_false hb)]
end
end Go.Proofs.YtjfdlibceldanabGreatDoor

/-! The shelf: Likely walked. -/
namespace Go.Proofs.YtjfdlibceldanabGreatDoor
open Go.RowKit Go.Sort Tx En Wv Gu

set_option maxHeartbeats 8000000 in
set_option maxRecDepth 100000 in
theorem slikely_walk (b1 b2 : Bool) (ws wd : List UInt8) (N n1 m2 L1 L2 : Nat) (WA TA E B D : Option Addr) (wc tc ec bc dc : Nat) (w : World) (R : World → Prop) (RP1 RP2 : World → Option Addr → Nat → Prop) (x : Int) (q pr : Nat × Nat) (er : Nat)
    (hR : ∀ w w', Ext w w' → R w → R w') (h1 : ∀ w w' P p, Ext w w' → RP1 w P p → RP1 w' P p) (h0 : R w)
    (cs1 : ∀ w, R w → Calls Tryz.prog 10 #[bookV WA TA N wc n1 tc, str ws] w (SgRet b1 L1 RP1 w))
    (cs2 : ∀ w, R w → Calls Tryz.prog 10 #[bookV WA TA N wc n1 tc, str wd] w (SgRet b2 L2 RP2 w))
    (hx : ∀ w P p, RP2 w P p → L2 = 1 → ∃ b o, P = some ⟨b, o, none⟩ ∧ w.cell? ⟨b, o, none⟩ = some (.int .i64 x))
    (cl : b1 = true → b2 = true → L2 = 1 → ∀ P p w, RP1 w P p → R w → Calls Tryz.prog 36 #[.agg #[.slice E n1 ec, .int .i64 n1, .int .i64 10, .slice B 10 bc, .slice D m2 dc], .slice P L1 p, .int .i64 x] w (RetPart q w))
    (hyes : b1 = true → b2 = true → L2 = 1 → pr = q ∧ er = 0) (hno : ¬ (b1 = true ∧ b2 = true ∧ L2 = 1) → pr = (0, 0) ∧ er = 3) :
    Calls Tryz.prog 17 #[shV WA TA N wc n1 tc E B D m2 ec bc dc, str ws, str wd] w fun e w' => e = .returned (.tuple #[.agg #[.int .i64 pr.1, .int .i64 pr.2], .int .i64 (er : Nat)]) ∧ Ext w w' := by
  unfold RetPart at cl
  have CS1 := Lib.hid cs1; have CS2 := Lib.hid cs2; have CL := Lib.hid cl; have HR := Lib.hid hR; have H1 := Lib.hid h1; have HX := Lib.hid hx; have HY := Lib.hid hyes; have HN := Lib.hid hno
  clear cs1 cs2 cl hR h1 hx hyes hno
  go_enter Tryz.func17, Tryz.ntmps17
  go_upto_region 1 with fail
  generalize hW1 : World.alloc w _ = W1
  have hs1 : W1.heap.size = w.heap.size + 1 := by rw [← hW1]; simp
  have bq := bk_of hW1
  generalize hW : World.alloc W1 _ = W
  have bl := bk_of hW
  rw [hs1] at bl
  have hx : Ext w W := (ext_of_alloc hW1).trans (ext_of_alloc hW)
  have hB : w.heap.size ≤ w.heap.size + 1 := by omega
  have bqW := bq.ext (ext_of_alloc hW)
  have hr := HR.out _ _ hx h0
  clear hW hW1 bq h0
  obtain ⟨PB, hPB⟩ : ∃ PB, w.heap.size + 1 = PB := ⟨_, rfl⟩
  rw [hPB] at bl hB hs1
  simp only [hPB]
  have z0 := bqW.cell 0
  have z1 := bqW.cell 1
  have cs1 := CS1.out W hr
  clear hs1
  go_wp2_with fail
  with_reducible refine cs1.mono ?_
  rintro e w1 h1
  obtain ⟨v8, v9, P, p, rfl, hb9, hP, hx1⟩ : ∃ (v8 v9 : Value) (P : Option Addr) (p : Nat), e = .returned (.tuple #[v8, v9]) ∧ v9 = .bool b1 ∧ (b1 = true → v8 = .slice P L1 p ∧ RP1 w1 P p) ∧ Ext W w1 := by
    rcases h1 with ⟨h, P, p, rfl, hP, hx1⟩ | ⟨h, rfl, hx1⟩
    · exact ⟨_, _, P, p, rfl, by rw [h], fun _ => ⟨rfl, hP⟩, hx1⟩
    · exact ⟨_, _, none, 0, rfl, by rw [h], (fun q => by rw [h] at q; cases q), hx1⟩
  subst hb9
  have bq1 := bqW.ext hx1
  have hr1 := HR.out _ _ hx1 hr
  have cs2 := CS2.out w1 hr1
  clear z0 z1 bqW cs1 h1
  have z0 := bq1.cell 0
  have z1 := bq1.cell 1
  go_wp2_with fail
  with_reducible refine cs2.mono ?_
  rintro e w2 h2
  obtain ⟨L3, P2, p2, rfl, hP2, hx2⟩ : ∃ (L3 : Nat) (P2 : Option Addr) (p2 : Nat), e = .returned (.tuple #[.slice P2 L3 p2, .bool b2]) ∧ (b2 = true → L3 = L2 ∧ RP2 w2 P2 p2) ∧ Ext w1 w2 := by
    rcases h2 with ⟨h, P, p, rfl, hP, hx1⟩ | ⟨h, rfl, hx1⟩
    · exact ⟨_, P, p, by rw [h], fun _ => ⟨rfl, hP⟩, hx1⟩
    · exact ⟨_, none, 0, by rw [h], (fun q => by rw [h] at q; cases q), hx1⟩
  have bq2 := bq1.ext hx2
  have hx12 := hx1.trans hx2
  have bl2 := bl.ext hx12
  have hxx := hx.trans hx12
  have hr2 := HR.out _ _ hx12 hr
  clear z0 z1 bq1 cs2 h2 bl hx hr
  by_cases hyes : b1 = true ∧ b2 = true ∧ L2 = 1
  · obtain ⟨rfl, rfl, rfl⟩ := hyes
    obtain ⟨rfl, hp1⟩ := hP rfl
    obtain ⟨rfl, hp2⟩ := hP2 rfl
    obtain ⟨b, o, rfl, hc⟩ := HX.out _ _ _ hp2 rfl
    obtain ⟨rfl, rfl⟩ := HY.out rfl rfl rfl
    have cl := CL.out rfl rfl rfl
    go_upto_region 5 with fail
    have hr1 := HR.out _ _ hx2 hr1
    have hp1' := H1.out _ _ _ _ hx2 hp1
    have c2 := bq2.cell 2
    have c3 := bq2.cell 3
    have c4 := bq2.cell 4
    have c5 := bq2.cell 5
    have c6 := bq2.cell 6
    obtain ⟨Q, hQ⟩ : ∃ Q, w.heap.size = Q := ⟨_, rfl⟩
    rw [hQ] at c2 c3 c4 c5 c6 bq2 hB
    simp only [hQ]
    refine wp_region_N (fun w' => w'.cell? ⟨Q, 2, none⟩ = some (.slice E n1 ec) ∧ w'.cell? ⟨Q, 3, none⟩ = some (.int .i64 n1) ∧ w'.cell? ⟨Q, 4, none⟩ = some (.int .i64 10) ∧ w'.cell? ⟨Q, 5, none⟩ = some (.slice B 10 bc) ∧ w'.cell? ⟨Q, 6, none⟩ = some (.slice D m2 dc) ∧ w'.cell? ⟨b, o, none⟩ = some (.int .i64 x)) 7 (by kernel_rfl) ?_
    simp only [List.length_cons, List.length_nil, Nat.zero_add, Nat.reduceAdd]
    have hcur : Ext w2 w2.drew := (Ext.refl w2).drew
    have hSS : w2.drew.cell? ⟨Q, 2, none⟩ = some (.slice E n1 ec) ∧ w2.drew.cell? ⟨Q, 3, none⟩ = some (.int .i64 n1) ∧ w2.drew.cell? ⟨Q, 4, none⟩ = some (.int .i64 10) ∧ w2.drew.cell? ⟨Q, 5, none⟩ = some (.slice B 10 bc) ∧ w2.drew.cell? ⟨Q, 6, none⟩ = some (.slice D m2 dc) ∧ w2.drew.cell? ⟨b, o, none⟩ = some (.int .i64 x) := ⟨ecell c2 hcur, ecell c3 hcur, ecell c4 hcur, ecell c5 hcur, ecell c6 hcur, ecell hc hcur⟩
    have hR2 := HR.out _ _ hcur hr2
    have hP3 := H1.out _ _ _ _ hcur hp1'
    have bl3 := bl2.ext hcur
    have hx3 := hxx.trans hcur
    clear c2 c3 c4 c5 c6 hc hp1 hp1' bl2 hxx
    generalize w2.drew = w0 at *
    refine pure_N (i := 0) (.pointer (some ⟨Q, 2, none⟩)) rfl (by kernel_rfl) (fun _ _ _ h => h) rfl hSS (fun w' => by go_simp) #[true, false, false, false, false, false, false, false, false] (by rfl) ?_
    try simp only [Act.put, List.setIfInBounds_toArray, List.set_cons_zero, List.set_cons_succ]
    refine take_N (i := 1) (.agg #[.slice E n1 ec, .int .i64 n1, .int .i64 10, .slice B 10 bc, .slice D m2 dc]) rfl (by kernel_rfl) (fun _ _ _ h => h) rfl hSS (fun w' hw' => by obtain ⟨k0, k1, k2, k3, k4, k5⟩ := hw'; go_simp) #[true, true, false, false, false, false, false, false, false] (by rfl) ?_
    try simp only [Act.put, List.setIfInBounds_toArray, List.set_cons_zero, List.set_cons_succ]
    refine pure_N (i := 2) (.slice P L1 p) rfl (by kernel_rfl) (fun _ _ _ h => h) rfl hSS (fun w' => by go_simp) #[true, true, true, false, false, false, false, false, false] (by rfl) ?_
    try simp only [Act.put, List.setIfInBounds_toArray, List.set_cons_zero, List.set_cons_succ]
    refine pure_N (i := 3) (.slice (some ⟨b, o, none⟩) 1 p2) rfl (by kernel_rfl) (fun _ _ _ h => h) rfl hSS (fun w' => by go_simp) #[true, true, true, true, false, false, false, false, false] (by rfl) ?_
    try simp only [Act.put, List.setIfInBounds_toArray, List.set_cons_zero, List.set_cons_succ]
    refine pure_N (i := 4) (.pointer (some ⟨b, o, none⟩)) rfl (by kernel_rfl) (fun _ _ _ h => h) rfl hSS (fun w' => by go_simp) #[true, true, true, true, true, false, false, false, false] (by rfl) ?_
    try simp only [Act.put, List.setIfInBounds_toArray, List.set_cons_zero, List.set_cons_succ]
    refine take_N (i := 5) (.int .i64 x) rfl (by kernel_rfl) (fun _ _ _ h => h) rfl hSS (fun w' hw' => by obtain ⟨k0, k1, k2, k3, k4, k5⟩ := hw'; go_simp) #[true, true, true, true, true, true, false, false, false] (by rfl) ?_
    try simp only [Act.put, List.setIfInBounds_toArray, List.set_cons_zero, List.set_cons_succ]
    refine all_N [6] (by kernel_rfl) (by simp) ?_
    rintro i hi'
    obtain rfl := List.mem_singleton.1 hi'
    refine step_N (i := 6) #[true, true, true, true, true, true, true, false, false] rfl rfl (by rfl) (fun K' hK' => ?_)
    go_simp
    refine (cl P p w0 hP3 hR2).mono ?_
    rintro e wn ⟨rfl, hxn⟩
    refine hK' _ _ ⟨ecell hSS.1 hxn, ecell hSS.2.1 hxn, ecell hSS.2.2.1 hxn, ecell hSS.2.2.2.1 hxn, ecell hSS.2.2.2.2.1 hxn, ecell hSS.2.2.2.2.2 hxn⟩ ?_
    have bl4 := bl3.ext hxn
    have hx4 := hx3.trans hxn
    clear K' hK' hi' hSS hR2 hxn hx3 bl3 cl hP3
    have z0 := bl4.cell 0
    have z1 := bl4.cell 1
    have f0 := bl4.frozen 0
    have f1 := bl4.frozen 1
    have BF := Lib.hid (bk2G (v0 := .int .i64 pr.1) (v1 := .int .i64 pr.2) bl4)
    have HXF := Lib.hid (ext2G (B := PB) hx4 (by rw [hQ]; exact hB) (.int .i64 pr.1) (.int .i64 pr.2))
    clear bl4
    try simp only [Act.put, List.setIfInBounds_toArray, List.set_cons_zero, List.set_cons_succ]
    refine wpAnyN_tail 7 _ rfl rfl (by kernel_rfl) (by kernel_rfl) ?_
    go_wp2_with fail
    clear z0 z1 f0 f1
    have bF := BF.out
    have hxF := HXF.out
    generalize (wn.setCell _ _).setCell _ _ = wF at *
    have z0 := bF.cell 0
    have z1 := bF.cell 1
    exact bodyPost_ret (v := .tuple #[.agg #[.int .i64 pr.1, .int .i64 pr.2], .int .i64 0]) (by simp [results, Tryz.results17, go_sem, z0, z1]) rfl ⟨rfl, hxF⟩
  · obtain ⟨rfl, rfl⟩ := HN.out hyes
    have z0 := bl2.cell 0
    have z1 := bl2.cell 1
    have f0 := bl2.frozen 0
    have f1 := bl2.frozen 1
    have BF := Lib.hid (bk2G (v0 := .int .i64 0) (v1 := .int .i64 0) bl2)
    have HXF := Lib.hid (ext2G (B := PB) hxx hB (.int .i64 0) (.int .i64 0))
    clear bl2 bq2
    cases b1 with
    | false =>
      go_wp2_with fail
      clear z0 z1 f0 f1
      have bF := BF.out
      have hxF := HXF.out
      generalize (w2.setCell _ _).setCell _ _ = wF at *
      have z0 := bF.cell 0
      have z1 := bF.cell 1
      exact bodyPost_ret (v := .tuple #[.agg #[.int .i64 0, .int .i64 0], .int .i64 3]) (by simp [results, Tryz.results17, go_sem, z0, z1]) rfl ⟨rfl, hxF⟩
    | true =>
      cases b2 with
      | false =>
        go_wp2_with fail
        clear z0 z1 f0 f1
        have bF := BF.out
        have hxF := HXF.out
        generalize (w2.setCell _ _).setCell _ _ = wF at *
        have z0 := bF.cell 0
        have z1 := bF.cell 1
        exact bodyPost_ret (v := .tuple #[.agg #[.int .i64 0, .int .i64 0], .int .i64 3]) (by simp [results, Tryz.results17, go_sem, z0, z1]) rfl ⟨rfl, hxF⟩
      | true =>
        obtain ⟨rfl, hp2⟩ := hP2 rfl
        have hL : (((L3 : Nat) : Int) != 1) = true := by
          rw [bne_iff_ne]; intro q; exact hyes ⟨rfl, rfl, by omega⟩
        go_wp2_with fail
        clear z0 z1 f0 f1
        have bF := BF.out
        have hxF := HXF.out
        generalize (w2.setCell _ _).setCell _ _ = wF at *
        have z0 := bF.cell 0
        have z1 := bF.cell 1
        exact bodyPost_ret (v := .tuple #[.agg #[.int .i64 0, .int .i64 0], .int .i64 3]) (by simp [results, Tryz.results17, go_sem, z0, z1]) rfl ⟨rfl, hxF⟩

section
variable {s : List UInt8} (h : errF s = 0) (ws : List UInt8) (hws : ws.length ≤ 16777216) (m : Int) {WA TA E B D : Option Addr} {wc tc ec bc dc : Nat}
/-- What Likely answers. -/
def lkOk (s ws wd : List UInt8) : Prop := inB s ws ∧ inB s wd ∧ (sgI s wd).length = 1
instance (s ws wd : List UInt8) : Decidable (lkOk s ws wd) := inferInstanceAs (Decidable (_ ∧ _ ∧ _))
def lkF (s ws wd : List UInt8) : Nat × Nat := if lkOk s ws wd then likG (bT s) (sgI s ws) (nth (sgI s wd) 0) else (0, 0)
def lkE (s ws wd : List UInt8) : Nat := if lkOk s ws wd then 0 else 3
include h hws in
theorem slikely_calls (wd : List UInt8) (hwd : wd.length ≤ 16777216) (w : World) (r : ShR m s WA TA E B D wc tc ec bc dc w) :
    Calls Tryz.prog 17 #[shOf s WA TA E B D wc tc ec bc dc, str ws, str wd] w fun e w' => e = .returned (.tuple #[.agg #[.int .i64 (lkF s ws wd).1, .int .i64 (lkF s ws wd).2], .int .i64 (lkE s ws wd : Nat)]) ∧ Ext w w' := by
  have hmo := bT_most s
  have hm2 : (mostI (bT s)).toNat + 2 = (wordsF s).length + 3 := by omega
  have h1 := swords_le h
  have h2 := (serr_ok h).2.2
  refine slikely_walk (decide (inB s ws)) (decide (inB s wd)) ws wd (wordsF s).length (bT s).length ((wordsF s).length + 3) (sgI s ws).length (sgI s wd).length WA TA E B D wc tc ec bc dc w (ShR m s WA TA E B D wc tc ec bc dc) (SgR s ws) (SgR s wd) (nth (sgI s wd) 0)
    (likG (bT s) (sgI s ws) (nth (sgI s wd) 0)) (lkF s ws wd) (lkE s ws wd) (fun _ _ hx r => r.ext m hx) (fun _ _ _ _ hx r => SgR.ext ws hx r) r (ssigns_calls h ws hws m) (ssigns_calls h wd hwd m) ?_ ?_ ?_ ?_
  · intro w P p hP hl
    obtain ⟨b, o, hA, _, hc⟩ := hP.2.2 (by omega)
    exact ⟨b, o, hA, hc 0 (by omega)⟩
  · intro _ _ _ P p w hP r
    have hc := likely_calls (bT s) (bT_ok h) (by rw [bT_len]; omega) (by rw [hmo]; omega) E B D ec bc dc (sgI s ws) (sgI_ok h) (by rw [sgI_len]; have := stoks_len hws; omega) P p hP.2.1 hP.1 (nth (sgI s wd) 0) w r.2.c hP.2.2
    rw [hm2] at hc
    exact hc
  · intro g1 g2 g3
    have : lkOk s ws wd := ⟨of_decide_eq_true g1, of_decide_eq_true g2, g3⟩
    unfold lkF lkE
    rw [if_pos this, if_pos this]
    exact ⟨rfl, rfl⟩
  · intro g
    have : ¬ lkOk s ws wd := fun q => g ⟨decide_eq_true q.1, decide_eq_true q.2.1, q.2.2⟩
    unfold lkF lkE
    rw [if_neg this, if_neg this]
    exact ⟨rfl, rfl⟩
end
end Go.Proofs.YtjfdlibceldanabGreatDoor

/-! The shelf: Guess walked. -/
namespace Go.Proofs.YtjfdlibceldanabGreatDoor
open Go.RowKit Go.Sort Tx En Wv Gu

/-- The best of the first i parts, and where it is. -/
def gF (f : Nat → Nat × Nat) : Nat → Nat × (Nat × Nat)
  | 0 => (0, (0, 1))
  | i + 1 => if IntKind.i64.wrap (((gF f i).2.1 : Int) * ((f i).2 : Int)) < IntKind.i64.wrap (((f i).1 : Int) * ((gF f i).2.2 : Int)) then (i, f i) else gF f i
theorem gF_le (f : Nat → Nat × Nat) : ∀ i, (gF f i).1 ≤ i
  | 0 => Nat.le_refl _
  | i + 1 => by
    have := gF_le f i
    rw [gF]
    split
    · exact Nat.le_succ _
    · omega

theorem rdP_sto {w : World} {b o n g : Nat} {f : Nat → Nat × Nat} (h : RdP w (some ⟨b, o, none⟩) n f) (hb : b ≠ g) (u v : Value) : RdP ((w.setCell ⟨g, 0, none⟩ u).setCell ⟨g, 1, none⟩ v) (some ⟨b, o, none⟩) n f := fun hn => by
  obtain ⟨b', o', hA, hlt, hc⟩ := h hn
  injection hA with hA
  injection hA with e1 e2
  subst e1; subst e2
  refine ⟨b, o, rfl, by simpa [World.size_setCell] using hlt, fun k hk => ?_⟩
  have hne : ∀ j x, (⟨b, x, none⟩ : Addr) ≠ ⟨g, j, none⟩ := fun j x q => hb (by injection q)
  rw [World.cell?_setCell_other _ _ _ _ (hne 1 _).symm, World.cell?_setCell_other _ _ _ _ (hne 0 _).symm, World.cell?_setCell_other _ _ _ _ (hne 1 _).symm, World.cell?_setCell_other _ _ _ _ (hne 0 _).symm]
  exact hc k hk

set_option maxHeartbeats 8000000 in
set_option maxRecDepth 100000 in
theorem sguess_walk (b : Bool) (ws : List UInt8) (N n1 m2 L S : Nat) (WA TA E B D : Option Addr) (wc tc ec bc dc : Nat) (w : World) (R : World → Prop) (RP : World → Option Addr → Nat → Prop) (f : Nat → Nat × Nat) (W : List (List UInt8)) (hN : W.length = N) (hn1 : 0 < n1) (hS : S ≤ 4096) (hN4 : N ≤ 100)
    (hR : ∀ w w', Ext w w' → R w → R w') (hRP : ∀ w w' P p, Ext w w' → RP w P p → RP w' P p) (h0 : R w) (hW : ∀ w, R w → RdS w WA W)
    (cs : ∀ w, R w → Calls Tryz.prog 10 #[bookV WA TA N wc n1 tc, str ws] w (SgRet b L RP w))
    (cl : b = true → ∀ P p w, RP w P p → R w → Calls Tryz.prog 37 #[.agg #[.slice E n1 ec, .int .i64 n1, .int .i64 10, .slice B 10 bc, .slice D m2 dc], .slice P L p] w fun e w' => ∃ P p, e = .returned (.slice P S p) ∧ RdP w' P S f ∧ Ext w w' ∧ (∀ b o, P = some ⟨b, o, none⟩ → w.heap.size ≤ b))
    (out : List UInt8) (er : Nat) (hno : b = false → out = [] ∧ er = 3) (hyes : b = true → er = 0 ∧ out = if (gF f S).1 = 0 ∨ N < (gF f S).1 then [10] else nth W ((gF f S).1 - 1)) :
    Calls Tryz.prog 18 #[shV WA TA N wc n1 tc E B D m2 ec bc dc, str ws] w fun e w' => e = .returned (.tuple #[str out, .int .i64 (er : Nat)]) ∧ Ext w w' := by
  have CS := Lib.hid cs; have CL := Lib.hid cl; have HR := Lib.hid hR; have HRP := Lib.hid hRP; have HW := Lib.hid hW; have HNO := Lib.hid hno; have HY := Lib.hid hyes; have HNW := Lib.hid hN
  clear cs cl hR hRP hW hno hyes hN
  go_enter Tryz.func18, Tryz.ntmps18
  go_upto_region 1 with fail
  generalize hW : World.alloc w _ = W1
  have bx := bk_of hW
  have hx := ext_of_alloc hW
  have hr := HR.out _ _ hx h0
  have HWR := Lib.hid (HW.out _ hr)
  generalize w.heap.size = g at *
  clear hW h0
  have z0 := bx.cell 0
  have z1 := bx.cell 1
  have cs := CS.out W1 hr
  go_wp2_with fail
  with_reducible refine cs.mono ?_
  rintro e w1 (⟨rfl, P, p, rfl, hP, hx1⟩ | ⟨rfl, rfl, hx1⟩)
  · obtain ⟨rfl, hout⟩ := HY.out rfl
    have hr1 := HR.out _ _ hx1 hr
    have bx1 := bx.ext hx1
    have hx01 := hx.trans hx1
    have HX0 := Lib.hid hx
    have BX := Lib.hid bx
    have hx11 := hx1
    have t1 := bx1.cell 1
    have hlen : (((n1 : Nat) : Int) == 0) = false := by simp; omega
    have HO := Lib.hid hout
    clear z0 z1 bx hx hx1 hr cs hout
    go_upto_region 5 with fail
    generalize hW2 : World.alloc w1 _ = W2
    have bp := bk_of hW2
    have hr2 := HR.out _ _ (ext_of_alloc hW2) hr1
    have bx2 := bx1.ext (ext_of_alloc hW2)
    have hx12 := hx11.trans (ext_of_alloc hW2)
    have hpg : W1.heap.size ≤ w1.heap.size := hx11.size
    have cl := CL.out (by trivial) P p W2 (HRP.out _ _ _ _ (ext_of_alloc hW2) hP) hr2
    generalize w1.heap.size = pB at *
    have x2 := bx2.cell 2
    have x3 := bx2.cell 3
    have x4 := bx2.cell 4
    have x5 := bx2.cell 5
    have x6 := bx2.cell 6
    clear hW2 bx1 hr1 hx01 hx11 t1 CL CS HNO hP
    go_wp2_with fail
    with_reducible refine cl.mono ?_
    rintro e w3 ⟨A, c, rfl, hA, hx3, hge⟩
    have bx3 := bx2.ext hx3
    have bp3 := bp.ext hx3
    have hx13 := hx12.trans hx3
    have hpl := bp.lt
    have HA := Lib.hid hA
    have BP : Hid (Bk w3 pB 45 #[.int .i64 (gF f 0).2.1, .int .i64 (gF f 0).2.2]) := Lib.hid bp3
    have HGE : Hid (∀ b o, A = some ⟨b, o, none⟩ → b ≠ pB) := fun b o h q => by have := hge b o h; omega
    clear x2 x3 x4 x5 x6 bx2 bp bp3 bx3 hx3 hx12 hr2 cl hA HR HRP HW hge hpl
    go_wp2_with fail
    go_loopw [34, 8] (fun vi v8 wr => ∃ i : Nat, vi = .int .i64 i ∧ v8 = .int .i64 (gF f i).1 ∧ i ≤ S ∧ Hid (Bk wr pB 45 #[.int .i64 (gF f i).2.1, .int .i64 (gF f i).2.2]) ∧ Hid (RdP wr A S f) ∧ Ext W1 wr) (fun vi _ _ => S - (intOf vi).toNat)
    case atStart => exact ⟨0, rfl, rfl, Nat.zero_le _, BP, HA, hx13⟩
    case round => as_aux_lemma =>
      clear BP HA hx13
      obtain ⟨i, rfl, rfl, hi, BP, HA, hxr⟩ := hrel
      have bp := BP.out
      have q0 := bp.cell 0
      have q1 := bp.cell 1
      by_cases gi : i < S
      · obtain ⟨b, o, hAA, hb, hc⟩ := HA.out (by omega)
        have hne := HGE.out b o hAA
        obtain ⟨p1, p2⟩ := hc i gi
        have hstep : gF f (i + 1) = if IntKind.i64.wrap (((gF f i).2.1 : Int) * ((f i).2 : Int)) < IntKind.i64.wrap (((f i).1 : Int) * ((gF f i).2.2 : Int)) then (i, f i) else gF f i := rfl
        have hk := gF_le f i
        obtain ⟨G, hG⟩ : ∃ G, gF f i = G := ⟨_, rfl⟩
        obtain ⟨F, hF⟩ : ∃ F, f i = F := ⟨_, rfl⟩
        rw [hG, hF] at hstep
        rw [hG] at hk q0 q1 BP ⊢
        rw [hF] at p1 p2
        have HST := Lib.hid hstep
        subst hAA
        clear hc hstep hG hF bp
        go_upto_region 8 with fail
        generalize hW4 : World.alloc wr _ = W4
        have hx4 := hxr.trans (ext_of_alloc hW4)
        have bz := bk_of hW4
        have bp4 := BP.out.ext (ext_of_alloc hW4)
        have HA4 := Lib.hid (HA.out.ext (ext_of_alloc hW4))
        have hzp := BP.out.lt
        generalize wr.heap.size = zB at *
        clear hW4 q0 q1 p1 p2 BP HA hb hxr
        have q0 := bp4.cell 0
        have q1 := bp4.cell 1
        have q2 := bp4.frozen 0
        have q3 := bp4.frozen 1
        have z0 := bz.cell 0
        have z1 := bz.cell 1
        obtain ⟨xa, hxa⟩ : ∃ xa, IntKind.i64.wrap ((G.2.1 : Int) * (F.2 : Int)) = xa := ⟨_, rfl⟩
        obtain ⟨xb, hxb⟩ : ∃ xb, IntKind.i64.wrap ((F.1 : Int) * (G.2.2 : Int)) = xb := ⟨_, rfl⟩
        have HST' : Hid (gF f (i + 1) = if xa < xb then (i, F) else G) := by
          show _ = _
          rw [HST.out, hxa, hxb]
        clear HST
        by_cases gl : xa < xb
        · have gl' : decide (xa < xb) = true := decide_eq_true gl
          have HS1 : Hid (gF f (i + 1) = (i, F)) := by
            show _ = _
            rw [HST'.out, if_pos gl]
          clear gl
          go_upto_region 9 with fail
          go_region
          go_wp2_with fail
          refine ⟨⟨i + 1, by go_num, by rw [HS1.out], by omega, ?_, ?_, ?_⟩, by simp [intOf]; omega⟩
          · show Bk _ _ _ _
            rw [HS1.out]
            exact (bk2G bp4).ext ((Ext.refl _).drew)
          · exact (rdP_sto HA4.out hne _ _).ext ((Ext.refl _).drew)
          · exact (ext2G hx4 hpg _ _).drew
        · have gl' : decide (xa < xb) = false := decide_eq_false gl
          have HS1 : Hid (gF f (i + 1) = G) := by
            show _ = _
            rw [HST'.out, if_neg gl]
          clear gl
          go_wp2_with fail
          refine ⟨⟨i + 1, by go_num, by rw [HS1.out], by omega, ?_, HA4, hx4⟩, by simp [intOf]; omega⟩
          show Bk _ _ _ _
          rw [HS1.out]
          exact bp4
      · obtain rfl : i = S := by omega
        obtain ⟨k, hk⟩ : ∃ k, (gF f i).1 = k := ⟨_, rfl⟩
        have hle := gF_le f i
        have ho := HO.out
        rw [hk] at hle ho ⊢
        have bx := BX.out.ext hxr
        have x0 := bx.cell 0
        have hxx := HX0.out.trans hxr
        clear bp q0 q1 BP HA HO HY BX
        by_cases k0 : k = 0
        · subst k0
          rw [if_pos (Or.inl rfl)] at ho
          subst ho
          go_wp2_with fail
          go_ret2
          exact ⟨rfl, hxx⟩
        · have k0' : (((k : Nat) : Int) == 0) = false := by simp; omega
          by_cases k1 : N < k
          · have k1' : decide ((N : Int) < (k : Nat)) = true := by simp; omega
            rw [if_pos (Or.inr k1)] at ho
            subst ho
            go_wp2_with fail
            go_ret2
            exact ⟨rfl, hxx⟩
          · have k1' : decide ((N : Int) < (k : Nat)) = false := by simp; omega
            rw [if_neg (by omega)] at ho
            subst ho
            obtain ⟨k2, rfl⟩ : ∃ k2, k = k2 + 1 := ⟨k - 1, by omega⟩
            have e1 : IntKind.i64.wrap (((k2 + 1 : Nat) : Int) - 1) = (k2 : Int) := by rw [IntWalk.i64_in _ (by omega)]; omega
            have k1'' : decide ((N : Int) < (k2 : Int) + 1) = false := decide_eq_false (by omega)
            have k0'' : ((k2 : Int) + 1 == 0) = false := by rw [beq_eq_false_iff_ne]; omega
            have k2N : k2 < N := by omega
            clear k1' k0' k0 k1
            have hr := HWR.out.ext hxr
            obtain ⟨bW, oW, rfl, hbW, hcW⟩ := hr (by rw [HNW.out]; exact Nat.lt_of_le_of_lt (Nat.zero_le _) k2N)
            have p1 := hcW k2 (by rw [HNW.out]; exact k2N)
            dsimp only at p1
            clear hr hcW
            go_wp2_with fail
            go_simp
            go_wp2_with fail
            go_ret2
            exact ⟨rfl, hxx⟩
  · obtain ⟨rfl, rfl⟩ := HNO.out rfl
    have hlen : (((n1 : Nat) : Int) == 0) = false := by simp; omega
    clear z0 z1
    have t1 := (bx.ext hx1).cell 1
    go_wp2_with fail
    go_ret2
    exact ⟨rfl, hx.trans hx1⟩
section
variable {s : List UInt8} (h : errF s = 0) (ws : List UInt8) (hws : ws.length ≤ 16777216) (m : Int) {WA TA E B D : Option Addr} {wc tc ec bc dc : Nat}
/-- How likely each sign is behind words; the likeliest; what Guess answers. -/
def lkA (s ws : List UInt8) (i : Nat) : Nat × Nat := likG (bT s) (sgI s ws) ((i : Int) + 1)
def bestF (s ws : List UInt8) : Nat := (gF (lkA s ws) ((wordsF s).length + 1)).1
def gsF (s ws : List UInt8) : List UInt8 := if inB s ws then (if bestF s ws = 0 ∨ (wordsF s).length < bestF s ws then [10] else nth (wordsF s) (bestF s ws - 1)) else []
def gsE (s ws : List UInt8) : Nat := if inB s ws then 0 else 3
include h hws in
theorem sguess_calls (w : World) (r : ShR m s WA TA E B D wc tc ec bc dc w) :
    Calls Tryz.prog 18 #[shOf s WA TA E B D wc tc ec bc dc, str ws] w fun e w' => e = .returned (.tuple #[str (gsF s ws), .int .i64 (gsE s ws : Nat)]) ∧ Ext w w' := by
  have hmo := bT_most s
  have hm2 : (mostI (bT s)).toNat + 2 = (wordsF s).length + 3 := by omega
  have hm3 : (mostI (bT s)).toNat = (wordsF s).length + 1 := by omega
  have h1 := swords_le h
  have h2 := (serr_ok h).2.2
  refine sguess_walk (decide (inB s ws)) ws (wordsF s).length (bT s).length ((wordsF s).length + 3) (sgI s ws).length ((wordsF s).length + 1) WA TA E B D wc tc ec bc dc w (ShR m s WA TA E B D wc tc ec bc dc) (SgR s ws) (lkA s ws) (wordsF s) rfl (by rw [bT_len]; omega) (by omega) (by omega)
    (fun _ _ hx r => r.ext m hx) (fun _ _ _ _ hx r => SgR.ext ws hx r) r (fun _ r => r.2.wd) (ssigns_calls h ws hws m) ?_ (gsF s ws) (gsE s ws) ?_ ?_
  · intro _ P p w hP r
    have hc := all_calls (bT s) (bT_ok h) (by rw [bT_len]; omega) (by rw [hmo]; omega) E B D ec bc dc (sgI s ws) (sgI_ok h) (by rw [sgI_len]; have := stoks_len hws; omega) P p hP.2.1 hP.1 w r.2.c hP.2.2
    rw [hm2, hm3] at hc
    exact hc
  · intro g
    have : ¬ inB s ws := of_decide_eq_false g
    unfold gsF gsE
    rw [if_neg this, if_neg this]
    exact ⟨rfl, rfl⟩
  · intro g
    have : inB s ws := of_decide_eq_true g
    unfold gsF gsE
    rw [if_pos this, if_pos this]
    exact ⟨rfl, rfl⟩
end
end Go.Proofs.YtjfdlibceldanabGreatDoor

/-! The whole: does the shelf answer at all? -/
namespace Go.Proofs.YtjfdlibceldanabGreatDoor
open Go.RowKit Go.Sort Tx En Wv Gu

def sA : List UInt8 := [97, 32, 98, 10, 97, 32, 98]
theorem lines_sA : linesF sA = [[[97], [98]], [[97], [98]]] := by decide
theorem words_sA : wordsF sA = [[97], [98]] := by
  unfold wordsF
  rw [lines_sA]
  refine ordW_eq (by decide) fun x => ?_
  simp only [List.flatten_cons, List.flatten_nil, List.append_nil, List.cons_append, List.nil_append, List.mem_cons, List.not_mem_nil, or_false]
  constructor
  · rintro (h | h) <;> simp [h]
  · rintro (h | h | h | h) <;> simp [h]
theorem text_sA : textN (wordsF sA) (linesF sA) = [2, 3, 1, 2, 3, 1] := by rw [words_sA, lines_sA]; decide
theorem err_sA : errF sA = 0 := by
  unfold errF
  rw [text_sA, lines_sA]
  decide
theorem bT_sA : bT sA = [2, 3, 1, 2, 3, 1, 0] := by unfold bT; rw [text_sA]; decide
theorem sgI_def' (s ws : List UInt8) : sgI s ws = (toks ws).map fun t => ((signV (wordsF s) t : Nat) : Int) := by
  unfold sgI sigs
  rw [List.take_length, List.map_map]
  rfl
theorem sg1_sA : sgI sA [97] = [2] := by rw [sgI_def', words_sA]; decide
theorem sg2_sA : sgI sA [97, 32, 98] = [2, 3] := by rw [sgI_def', words_sA]; decide
theorem in1_sA : inB sA [97] := by unfold inB; rw [words_sA]; decide
theorem in2_sA : inB sA [97, 32, 98] := by unfold inB; rw [words_sA]; decide
theorem cnt_sA : cntF sA [97, 32, 98] = 2 := by
  unfold cntF
  rw [if_pos in2_sA, bT_sA, sg2_sA]
  decide +kernel
theorem best_sA : bestF sA [97] = 2 := by
  unfold bestF lkA
  rw [words_sA, bT_sA, sg1_sA]
  decide +kernel
theorem gs_sA : gsF sA [97] = [98] := by
  unfold gsF
  rw [if_pos in1_sA, best_sA, words_sA]
  decide
theorem gse_sA : gsE sA [97] = 0 := by unfold gsE; rw [if_pos in1_sA]
set_option maxHeartbeats 4000000 in
set_option maxRecDepth 100000 in
theorem alive_calls (m : Int) (w : World) (hm : w.cell? ⟨0, 0, none⟩ = some (.int .i64 m)) : Calls Tryz.prog 11 #[] w fun e w' => e = .returned (.bool true) ∧ Ext w w' := by
  have co : Calls Tryz.prog 9 #[.string ⟨#[97, 32, 98, 10, 97, 32, 98]⟩] w fun e w' => ∃ WA TA E B D wc tc ec bc dc, e = .returned (.tuple #[shV WA TA 2 wc 7 tc E B D 5 ec bc dc, .int .i64 0]) ∧ ShR m sA WA TA E B D wc tc ec bc dc w' ∧ Ext w w' := by
    refine (open_calls sA (by decide) m w hm).mono ?_
    rintro e w' (⟨h, _⟩ | ⟨_, WA, TA, E, B, D, wc, tc, ec, bc, dc, rfl, hs, hx⟩)
    · exact absurd err_sA h
    · unfold shOf
      rw [bT_sA, words_sA]
      exact ⟨WA, TA, E, B, D, wc, tc, ec, bc, dc, rfl, ⟨ecell hm hx, hs⟩, hx⟩
  have cg : ∀ WA TA E B D wc tc ec bc dc w, ShR m sA WA TA E B D wc tc ec bc dc w → Calls Tryz.prog 18 #[shV WA TA 2 wc 7 tc E B D 5 ec bc dc, .string ⟨#[97]⟩] w fun e w' => e = .returned (.tuple #[.string ⟨#[98]⟩, .int .i64 0]) ∧ Ext w w' := by
    intro WA TA E B D wc tc ec bc dc w r
    have h := sguess_calls err_sA [97] (by decide) m w r
    unfold shOf at h
    rw [bT_sA, words_sA, gs_sA, gse_sA] at h
    exact h
  have cc : ∀ WA TA E B D wc tc ec bc dc w, ShR m sA WA TA E B D wc tc ec bc dc w → Calls Tryz.prog 12 #[shV WA TA 2 wc 7 tc E B D 5 ec bc dc, .string ⟨#[97, 32, 98]⟩] w fun e w' => e = .returned (.int .i64 2) ∧ Ext w w' := by
    intro WA TA E B D wc tc ec bc dc w r
    have h := scount_calls err_sA [97, 32, 98] (by decide) m w r
    unfold shOf at h
    rw [bT_sA, words_sA, cnt_sA] at h
    exact h
  have CO := Lib.hid co; have CG := Lib.hid cg; have CC := Lib.hid cc
  clear co cg cc hm
  go_enter Tryz.func11, Tryz.ntmps11
  go_wp2_with fail
  with_reducible refine CO.out.mono ?_
  rintro e w1 ⟨WA, TA, E, B, D, wc, tc, ec, bc, dc, rfl, hr, hx1⟩
  go_wp2_with fail
  generalize hW : World.alloc w1 _ = W
  have bx := bk_of hW
  have hxW := hx1.trans (ext_of_alloc hW)
  have hr2 := hr.ext m (ext_of_alloc hW)
  generalize w1.heap.size = g at *
  have z0 := bx.cell 0
  have z1 := bx.cell 1
  have z2 := bx.cell 2
  have z3 := bx.cell 3
  have z4 := bx.cell 4
  have z5 := bx.cell 5
  have z6 := bx.cell 6
  clear hW hr hx1
  have cg := CG.out _ _ _ _ _ _ _ _ _ _ _ hr2
  go_wp2_with fail
  refine cg.mono ?_
  rintro e w2 ⟨rfl, hx2⟩
  have bx2 := bx.ext hx2
  have cc := CC.out _ _ _ _ _ _ _ _ _ _ _ (hr2.ext m hx2)
  clear z0 z1 z2 z3 z4 z5 z6 bx cg
  have z0 := bx2.cell 0
  have z1 := bx2.cell 1
  have z2 := bx2.cell 2
  have z3 := bx2.cell 3
  have z4 := bx2.cell 4
  have z5 := bx2.cell 5
  have z6 := bx2.cell 6
  go_wp2_with fail
  refine cc.mono ?_
  rintro e w3 ⟨rfl, hx3⟩
  go_wp2_with fail
  go_ret
  exact ⟨rfl, (hxW.trans hx2).trans hx3⟩
end Go.Proofs.YtjfdlibceldanabGreatDoor

/-! The whole: plain laws of counts (longer words, more spaces). -/
namespace Go.Proofs.YtjfdlibceldanabGreatDoor
open Go.RowKit Go.Sort Tx En Wv Gu

theorem toks_app (a b : List UInt8) : toks (a ++ 32 :: b) = toks a ++ toks b := by
  unfold toks
  rw [List.flatMap_append, List.flatMap_cons, show nl 32 = [32] from rfl, List.singleton_append, wds_app]
theorem toks_nil : toks [] = [] := rfl
theorem toks_sp (w : List UInt8) : toks (32 :: (w ++ [32])) = toks w := by
  have h1 := toks_app [] (w ++ [32])
  have h2 := toks_app w []
  rw [List.nil_append, toks_nil, List.nil_append] at h1
  rw [toks_nil, List.append_nil] at h2
  rw [h1]; exact h2
theorem inB_app (s a b : List UInt8) : inB s (a ++ 32 :: b) ↔ inB s a ∧ inB s b := by
  unfold inB
  rw [toks_app]
  constructor
  · exact fun h => ⟨fun t ht => h t (List.mem_append.2 (Or.inl ht)), fun t ht => h t (List.mem_append.2 (Or.inr ht))⟩
  · intro h t ht
    rcases List.mem_append.1 ht with q | q
    · exact h.1 t q
    · exact h.2 t q
theorem sgI_def (s ws : List UInt8) : sgI s ws = (toks ws).map fun t => ((signV (wordsF s) t : Nat) : Int) := by
  unfold sgI sigs
  rw [List.take_length, List.map_map]
  rfl
theorem sgI_app (s a b : List UInt8) : sgI s (a ++ 32 :: b) = sgI s a ++ sgI s b := by rw [sgI_def, sgI_def, sgI_def, toks_app, List.map_append]
theorem nth_app_l {α : Type} [Inhabited α] {x y : List α} {k : Nat} (h : k < x.length) : nth (x ++ y) k = nth x k := by unfold nth; rw [List.getElem?_append_left h]
theorem nth_app_r {α : Type} [Inhabited α] {x y : List α} {k : Nat} : nth (x ++ y) (x.length + k) = nth y k := by
  unfold nth; rw [List.getElem?_append_right (by omega)]; congr 2; omega
theorem stB_app {l x y : List Int} {a : Nat} (ha : a ≤ l.length) : stB l (x ++ y) a = true ↔ stB l x a = true ∧ stB l y (a + x.length) = true := by
  rw [stB_iff, stB_iff, stB_iff, List.length_append]
  constructor
  · rintro ⟨h1, h2⟩
    refine ⟨⟨by omega, fun k hk => ?_⟩, by omega, fun k hk => ?_⟩
    · rw [h2 k (by omega), nth_app_l hk]
    · rw [Nat.add_assoc, h2 _ (by omega), nth_app_r]
  · rintro ⟨⟨h1, h2⟩, h3, h4⟩
    refine ⟨by omega, fun k hk => ?_⟩
    by_cases g : k < x.length
    · rw [h2 k g, nth_app_l g]
    · have := h4 (k - x.length) (by omega)
      rw [show a + x.length + (k - x.length) = a + k from by omega] at this
      rw [this, ← nth_app_r (x := x), show x.length + (k - x.length) = k from by omega]
theorem places_len (l s : List Int) : (places l s).length = (List.range l.length).countP (stB l s) := by unfold places; rw [List.countP_eq_length_filter]
theorem places_app_l (l x y : List Int) : (places l (x ++ y)).length ≤ (places l x).length := by
  rw [places_len, places_len]
  refine List.countP_mono_left fun a ha h => ?_
  have := List.mem_range.1 ha
  exact ((stB_app (by omega)).1 h).1
theorem places_app_r (l x y : List Int) : (places l (x ++ y)).length ≤ (places l y).length := by
  by_cases hy : y = []
  · subst hy
    have : places l [] = List.range l.length := by
      unfold places
      exact List.filter_eq_self.2 fun a ha => (stB_iff _ _ _).2 ⟨by simp; omega, fun k hk => absurd hk (Nat.not_lt_zero _)⟩
    rw [this, List.length_range]
    exact places_le _ _
  · have hy0 : 0 < y.length := List.length_pos_iff.2 hy
    rw [places_len, places_len]
    by_cases g : x.length ≤ l.length
    · obtain ⟨d, hd⟩ : ∃ d, l.length = x.length + d := ⟨l.length - x.length, by omega⟩
      have e1 : (List.range l.length).countP (stB l (x ++ y)) ≤ (List.range d).countP (fun a => stB l y (x.length + a)) := by
        have e0 : (List.range l.length).countP (stB l (x ++ y)) = (List.range d).countP (stB l (x ++ y)) := by
          rw [hd, Nat.add_comm, List.range_add, List.countP_append]
          have : ((List.range x.length).map fun a => d + a).countP (stB l (x ++ y)) = 0 := by
            refine List.countP_eq_zero.2 fun a ha h => ?_
            obtain ⟨b, hb, rfl⟩ := List.mem_map.1 ha
            have h1 := ((stB_iff _ _ _).1 h).1
            rw [List.length_append] at h1
            have := List.mem_range.1 hb
            omega
          omega
        rw [e0]
        refine List.countP_mono_left fun a ha h => ?_
        have := List.mem_range.1 ha
        rw [Nat.add_comm]
        exact ((stB_app (by omega)).1 h).2
      refine Nat.le_trans e1 ?_
      rw [hd, List.range_add, List.countP_append, List.countP_map]
      exact Nat.le_add_left _ _
    · have : (List.range l.length).countP (stB l (x ++ y)) = 0 := by
        refine List.countP_eq_zero.2 fun a ha h => ?_
        have h1 := ((stB_iff _ _ _).1 h).1
        rw [List.length_append] at h1
        have := List.mem_range.1 ha
        omega
      omega
theorem cnt_longer (s a b : List UInt8) : cntF s (a ++ 32 :: b) ≤ cntF s a ∧ cntF s (a ++ 32 :: b) ≤ cntF s b := by
  unfold cntF
  by_cases h : inB s (a ++ 32 :: b)
  · obtain ⟨h1, h2⟩ := (inB_app s a b).1 h
    rw [if_pos h, if_pos h1, if_pos h2, sgI_app]
    exact ⟨places_app_l _ _ _, places_app_r _ _ _⟩
  · rw [if_neg h]
    exact ⟨Nat.zero_le _, Nat.zero_le _⟩
theorem inB_sp (s w : List UInt8) : inB s (32 :: (w ++ [32])) ↔ inB s w := by unfold inB; rw [toks_sp]
theorem sgI_sp (s w : List UInt8) : sgI s (32 :: (w ++ [32])) = sgI s w := by rw [sgI_def, sgI_def, toks_sp]
theorem cnt_sp (s w : List UInt8) : cntF s (32 :: (w ++ [32])) = cntF s w := by
  unfold cntF
  by_cases h : inB s w
  · rw [if_pos h, if_pos ((inB_sp s w).2 h), sgI_sp]
  · rw [if_neg h, if_neg fun q => h ((inB_sp s w).1 q)]
end Go.Proofs.YtjfdlibceldanabGreatDoor

/-! The shelf of no text: Count, Signs. -/
namespace Go.Proofs.YtjfdlibceldanabGreatDoor
open Go.RowKit Go.Sort Tx En Wv Gu

abbrev noComb : Value := .agg #[.slice none 0 0, .int .i64 0, .int .i64 0, .slice none 0 0, .slice none 0 0]
set_option maxHeartbeats 4000000 in
set_option maxRecDepth 100000 in
theorem cfind_no (A : Option Addr) (L c : Nat) (w : World) (hL : L ≤ 17592186044416) : Calls Tryz.prog 56 #[noComb, .slice A L c] w fun e w' => e = .returned (.agg #[.int .i64 0, .int .i64 0]) ∧ Ext w w' := by
  go_enter Tryz.func56, Tryz.ntmps56
  go_upto_region 1 with fail
  generalize hW1 : World.alloc w _ = W1
  have hs1 : W1.heap.size = w.heap.size + 1 := by rw [← hW1]; simp
  have bq := bk_of hW1
  generalize hW : World.alloc W1 _ = W
  have bl := bk_of hW
  rw [hs1] at bl
  have hx : Ext w W := (ext_of_alloc hW1).trans (ext_of_alloc hW)
  have hB : w.heap.size ≤ w.heap.size + 1 := by omega
  have bqW := bq.ext (ext_of_alloc hW)
  clear hW hW1 bq
  have x0 := bqW.cell 0
  go_upto_region 2 with fail
  generalize hW2 : World.alloc W _ = W2
  have bs := bk_of hW2
  have bl2 := bl.ext (ext_of_alloc hW2)
  have hx2 := hx.trans (ext_of_alloc hW2)
  clear hW2 bl hx x0 bqW
  generalize W.heap.size = SB at *
  have hw : IntKind.i64.wrap ((L : Int) - 1) = (L : Int) - 1 := IntWalk.i64_in _ (by omega)
  go_wp2_with fail
  go_loopw [6] (fun v6 wr => v6 = .int .i64 ((L : Int) - 1) ∧ wr = W2) (fun _ _ => 0)
  case atStart => exact ⟨rfl, rfl⟩
  case round => as_aux_lemma =>
    obtain ⟨rfl, rfl⟩ := hrel
    have s0 := bs.cell 0
    have s1 := bs.cell 1
    have z0 := bl2.cell 0
    have z1 := bl2.cell 1
    have f0 := bl2.frozen 0
    have f1 := bl2.frozen 1
    have BF := Lib.hid ((bl2.set 0 (.int .i64 0)).set 1 (.int .i64 0))
    have XF := Lib.hid ((hx2.setCell (p := ⟨w.heap.size + 1, 0, none⟩) (by show w.heap.size ≤ w.heap.size + 1; omega) (.int .i64 0)).setCell (p := ⟨w.heap.size + 1, 1, none⟩) (by show w.heap.size ≤ w.heap.size + 1; omega) (.int .i64 0))
    cases L with
    | zero =>
      rw [show (((0 : Nat) : Int) - 1) = -1 from rfl]
      go_wp2_with fail
      clear z0 z1 f0 f1 s0 s1
      have bF := BF.out
      have xF := XF.out
      generalize (wr.setCell _ _).setCell _ _ = wF at *
      have z0 : wF.cell? ⟨w.heap.size + 1, 0, none⟩ = some (.int .i64 0) := bF.cell 0
      have z1 : wF.cell? ⟨w.heap.size + 1, 1, none⟩ = some (.int .i64 0) := bF.cell 1
      exact bodyPost_ret (v := .agg #[.int .i64 0, .int .i64 0]) (by simp [results, Tryz.results56, go_sem, z0, z1]) rfl ⟨rfl, xF⟩
    | succ k =>
      rw [show (((k + 1 : Nat) : Int) - 1) = (k : Int) from by omega]
      have hk : decide ((0 : Int) ≤ (k : Int)) = true := by simp
      go_wp2_with fail
      clear z0 z1 f0 f1 s0 s1
      have bF := BF.out
      have xF := XF.out
      generalize (wr.setCell _ _).setCell _ _ = wF at *
      have z0 : wF.cell? ⟨w.heap.size + 1, 0, none⟩ = some (.int .i64 0) := bF.cell 0
      have z1 : wF.cell? ⟨w.heap.size + 1, 1, none⟩ = some (.int .i64 0) := bF.cell 1
      exact bodyPost_ret (v := .agg #[.int .i64 0, .int .i64 0]) (by simp [results, Tryz.results56, go_sem, z0, z1]) rfl ⟨rfl, xF⟩
set_option maxHeartbeats 4000000 in
set_option maxRecDepth 100000 in
theorem ccount_no (A : Option Addr) (L c : Nat) (w : World) (hL : L ≤ 17592186044416) : Calls Tryz.prog 32 #[noComb, .slice A L c] w fun e w' => e = .returned (.int .i64 0) ∧ Ext w w' := by
  go_enter Tryz.func32, Tryz.ntmps32
  go_upto_region 1 with fail
  generalize hW : World.alloc w _ = W
  have bq := bk_of hW
  have hx := ext_of_alloc hW
  clear hW
  have c0 := bq.cell 0
  have c1 := bq.cell 1
  have c2 := bq.cell 2
  have c3 := bq.cell 3
  have c4 := bq.cell 4
  clear bq
  go_wp2_with (go_at_call 56; with_reducible refine (cfind_no A L c _ hL).mono ?_; rintro e wn ⟨rfl, hxn⟩)
  go_ret
  exact ⟨rfl, (hx.trans hxn).alloc _⟩
theorem signs_no (ws : List UInt8) (hws : ws.length ≤ 16777216) (m : Int) (w : World) (hm : w.cell? ⟨0, 0, none⟩ = some (.int .i64 m)) :
    Calls Tryz.prog 10 #[noBook, str ws] w fun e w' => ∃ (b : Bool) (P : Option Addr) (L p : Nat), e = .returned (.tuple #[.slice P L p, .bool b]) ∧ L ≤ 50331648 ∧ (b = true ↔ ∀ t ∈ toks ws, t = [10]) ∧ (P = none → p = 0) ∧ L ≤ p ∧ (b = true → L = (toks ws).length ∧ Rd w' P L (fun _ => .int .i64 1)) ∧ Ext w w' := by
  have htl := stoks_len hws
  refine (signs_walkC [] (by simp) (by simp) none none 0 0 0 ws hws m w hm Rd.zero).mono ?_
  rintro e w' (⟨h1, P, p, rfl, h2, h3, h4, h5⟩ | ⟨⟨t, ht, hbad⟩, rfl, hx⟩)
  · have e1 : (sigs [] (toks ws) (toks ws).length).length = (toks ws).length := sigs_len (Nat.le_refl _)
    have hall : ∀ t ∈ toks ws, t = [10] := fun t ht => (h1 t ht).resolve_right (by simp)
    refine ⟨true, P, _, p, rfl, by omega, ⟨fun _ => hall, fun _ => rfl⟩, h2, h5, fun _ => ⟨e1, h3.congr fun k hk => ?_⟩, h4⟩
    have : nth (sigs [] (toks ws) (toks ws).length) k = 1 := by
      have hm := nth_mem hk
      unfold sigs at hm ⊢
      rw [List.take_length] at hm ⊢
      obtain ⟨t, ht, he⟩ := List.mem_map.1 hm
      rw [← he, hall t ht]; rfl
    rw [this]; rfl
  · refine ⟨false, none, 0, 0, rfl, by omega, ⟨(fun q => by cases q), fun q => ?_⟩, fun _ => rfl, Nat.le_refl _, (fun q => by cases q), hx⟩
    exact absurd (Or.inl (q t ht)) hbad
set_option maxHeartbeats 4000000 in
set_option maxRecDepth 100000 in
theorem scount_no (ws : List UInt8) (hws : ws.length ≤ 16777216) (m : Int) (w : World) (hm : w.cell? ⟨0, 0, none⟩ = some (.int .i64 m)) :
    Calls Tryz.prog 12 #[noShelf, str ws] w fun e w' => e = .returned (.int .i64 0) ∧ Ext w w' := by
  have CS := Lib.hid (fun w hm => signs_no ws hws m w hm); have HM := Lib.hid hm
  clear hm hws
  go_enter Tryz.func12, Tryz.ntmps12
  go_upto_region 1 with fail
  generalize hW : World.alloc w _ = W
  have bx := bk_of hW
  have hx := ext_of_alloc hW
  generalize w.heap.size = g at *
  clear hW
  have z0 := bx.cell 0
  have z1 := bx.cell 1
  have cs := CS.out W (ecell HM.out hx)
  go_wp2_with fail
  with_reducible refine cs.mono ?_
  rintro e w1 ⟨b, P, L, p, rfl, hL, y1, y2, y3, y4, hx1⟩
  clear y1 y2 y3 y4
  cases b with
  | true =>
    have cc := ccount_no P L p w1 (by omega)
    have hb1 := bx.ext hx1
    clear z0 z1
    have z2 := hb1.cell 2
    have z3 := hb1.cell 3
    have z4 := hb1.cell 4
    have z5 := hb1.cell 5
    have z6 := hb1.cell 6
    go_wp2_with fail
    with_reducible refine cc.mono ?_
    rintro e w2 ⟨rfl, hx2⟩
    go_wp2_with fail
    go_ret
    exact ⟨rfl, (hx.trans hx1).trans hx2⟩
  | false =>
    go_wp2_with fail
    go_ret
    exact ⟨rfl, hx.trans hx1⟩
end Go.Proofs.YtjfdlibceldanabGreatDoor
