/- guess.Likely and All: contracts. -/
import Derived.Test.YtjfdlibceldanabGreatDoorGuL
namespace Go.Proofs.YtjfdlibceldanabGreatDoor
open Go.RowKit Go.Sort En Wv Gu Ri

/-! ### The values on the way -/
section
variable (l : List Int) (signs : Nat) (sign : Int) (b : List Int)
def lgF (k : Nat) : Bool := decide (k = 0 ∧ b.length = 2)
/-- What is known when the signs from a place on have been looked at. -/
def VF (j : Nat) : Nat × Nat := if j ≤ b.length then likeF l signs sign (b.drop j) (lgF b j) else (1, max 1 signs)
theorem VF_next {k : Nat} (hk : k ≤ b.length) : VF l signs sign b k = if allF l (b.drop k) (lgF b k) = 0 then VF l signs sign b (k + 1) else stepF l (b.drop k) (lgF b k) sign (VF l signs sign b (k + 1)) := by
  unfold VF
  rw [if_pos hk]
  by_cases h : k < b.length
  · rw [if_pos (by omega : k + 1 ≤ b.length), List.drop_eq_getElem_cons h, likeF]
    have : lgF b (k + 1) = false := by unfold lgF; simp
    rw [this]
  · obtain rfl : k = b.length := by omega
    have e : ¬ b.length + 1 ≤ b.length := by omega
    rw [List.drop_length, likeF, if_neg e]
theorem all_down {k : Nat} (_hk : k ≤ b.length) (h : allF l (b.drop k) (lgF b k) = 0) : ∀ j, j ≤ k → allF l (b.drop j) (lgF b j) = 0 := fun j hj => by
  have e : b.drop j = (b.drop j).take (k - j) ++ b.drop k := by
    conv => lhs; rw [← List.take_append_drop (k - j) (b.drop j), List.drop_drop]
    congr 2; omega
  rw [e]
  exact all_app h _
theorem VF_break {k : Nat} (hk : k ≤ b.length) (h : allF l (b.drop k) (lgF b k) = 0) : VF l signs sign b 0 = VF l signs sign b (k + 1) := by
  have key : ∀ j, j ≤ k + 1 → VF l signs sign b 0 = VF l signs sign b j := by
    intro j
    induction j with
    | zero => intro _; rfl
    | succ j ih =>
      intro hj
      rw [ih (by omega), VF_next l signs sign b (by omega), if_pos (all_down l b hk h j (by omega))]
  exact key (k + 1) (Nat.le_refl _)
theorem pt_mono {p : Nat × Nat} {B B' : Nat} (h : Pt p B) (hb : B ≤ B') : Pt p B' := ⟨h.d, h.n, Nat.le_trans h.b hb⟩
theorem VF_pt (hl : l.length ≤ 101) (hs : signs ≤ 101) : ∀ t, t ≤ b.length + 1 → Pt (VF l signs sign b (b.length + 1 - t)) (163216 ^ t * 101)
  | 0, _ => by
    unfold VF
    rw [if_neg (by omega)]
    exact ⟨by omega, by show 1 ≤ max 1 signs; omega, by show max 1 signs ≤ _; omega⟩
  | t + 1, ht => by
    have ih := VF_pt hl hs t (by omega)
    have e : b.length + 1 - (t + 1) + 1 = b.length + 1 - t := by omega
    rw [VF_next l signs sign b (k := b.length + 1 - (t + 1)) (by omega), e]
    have hp : 163216 ^ t * 101 ≤ 163216 ^ (t + 1) * 101 := Nat.mul_le_mul (Nat.pow_le_pow_right (by omega) (by omega)) (Nat.le_refl _)
    split
    · exact pt_mono ih hp
    · rename_i h
      have hst := step_pt (sign := sign) (Nat.pos_of_ne_zero h) ih
      refine pt_mono hst ?_
      have ha := all_le l (b.drop (b.length + 1 - (t + 1))) (lgF b (b.length + 1 - (t + 1)))
      have h2 : allF l (b.drop (b.length + 1 - (t + 1))) (lgF b (b.length + 1 - (t + 1))) * allF l (b.drop (b.length + 1 - (t + 1))) (lgF b (b.length + 1 - (t + 1))) ≤ 101 * 101 := Nat.mul_le_mul (by omega) (by omega)
      have e2 : 163216 ^ (t + 1) * 101 = 163216 * (163216 ^ t * 101) := by rw [Nat.pow_succ, Nat.mul_comm (163216 ^ t) 163216, Nat.mul_assoc]
      rw [e2]
      exact Nat.mul_le_mul (by omega) (Nat.le_refl _)
end

/-- How likely a sign is behind others. -/
def likG (l s : List Int) (sign : Int) : Nat × Nat :=
  if sign < 1 ∨ mostI l < sign then (0, 1) else VF l (mostI l).toNat sign (s.drop (s.length - 2)) 0
theorem likely_calls (l : List Int) (hok : combOk l) (hl : l.length ≤ 101) (hm : mostI l ≤ 101) (E B D : Option Addr) (ec bc dc : Nat) (s : List Int) (hs : signOk s) (hsl : s.length ≤ 100000000) (A : Option Addr) (c : Nat) (hc : s.length ≤ c) (hA : A = none → c = 0) (sign : Int) (w : World) (h : CombIn w l E B D) (hr : Rd w A s.length (fun k => .int .i64 (nth s k))) :
    Calls Tryz.prog 36 #[combV l.length ((mostI l).toNat + 2) E B D ec bc dc, .slice A s.length c, .int .i64 sign] w (RetPart (likG l s sign) w) := by
  have hmg := mostI_ge l
  have em : (((mostI l).toNat + 2 : Nat) : Int) - 2 = mostI l := by omega
  unfold likG
  by_cases h1 : sign < 1 ∨ mostI l < sign
  · rw [if_pos h1]
    exact likely_out l.length ((mostI l).toNat + 2) E B D ec bc dc (by omega) (by omega) s.length A c sign w (by omega)
  · rw [if_neg h1]
    have hbl : (s.drop (s.length - 2)).length = s.length - (s.length - 2) := List.length_drop
    have hb2 : (s.drop (s.length - 2)).length ≤ 2 := by omega
    obtain ⟨b, hb⟩ : ∃ b, s.drop (s.length - 2) = b := ⟨_, rfl⟩
    rw [hb] at hbl hb2 ⊢
    have hsb : signOk b := fun x hx => hs x (List.mem_of_mem_drop (by rw [← hb] at hx; exact hx))
    have hnb : ∀ j, nth b j = nth s (s.length - 2 + j) := fun j => by rw [← hb]; unfold nth; rw [List.getElem?_drop]
    have hpt := fun t ht => VF_pt l (mostI l).toNat sign b hl (by omega) t ht
    refine likely_walk l.length ((mostI l).toNat + 2) E B D ec bc dc (by omega) (by omega) (nth s) A s.length c b.length (s.length - 2) hsl hc hA rfl (by omega) sign w (fun w => CombIn w l E B D) (fun _ _ hx r => r.ext hx) h hr (by omega) (by omega) (max 1 (mostI l).toNat) (by omega)
      (VF l (mostI l).toNat sign b) (by unfold VF; rw [if_neg (by omega)]) (fun k => ownF l (b.drop k) (lgF b k) sign) (fun k => allF l (b.drop k) (lgF b k)) (fun k => (kn l (b.drop k)).length) (fun k hk => ?_) (fun k hk => ?_) (fun k hk h0 => VF_break l _ sign b hk h0) (fun k hk h0 => ?_) ?_
    · have h1 := all_le l (b.drop k) (lgF b k)
      have h2 := own_le l (b.drop k) (lgF b k) sign
      have h3 := kinds_le l (b.drop k) (lgF b k)
      exact ⟨by omega, by omega, by omega⟩
    · have h1 := hpt (b.length - k) (by omega)
      rw [show b.length + 1 - (b.length - k) = k + 1 from by omega] at h1
      refine ⟨h1.d, h1.n, Nat.le_trans h1.b ?_⟩
      have : 163216 ^ (b.length - k) ≤ 163216 ^ 2 := Nat.pow_le_pow_right (by omega) (by omega)
      omega
    · rw [VF_next l _ sign b hk, if_neg h0]; rfl
    · intro k A3 c3 w' hk r hA3 hr3
      have e : (b.drop k).length = b.length - k := List.length_drop
      have hw := weigh_calls l hok E B D ec bc dc (b.drop k) (fun x hx => hsb x (List.mem_of_mem_drop hx)) (by omega) A3 c3 hA3 sign (lgF b k) w' r (by
        rw [e]
        exact hr3.congr fun j hj => by
          have : nth (b.drop k) j = nth b (k + j) := by unfold nth; rw [List.getElem?_drop]
          rw [this, hnb, Nat.add_assoc])
      rw [e] at hw
      exact hw

/-! ### All -/
theorem info_part : (Tryz.prog.info? 45).map (fun i => (i.zero, i.size, i.bytes)) = some (some (.agg #[.int .i64 0, .int .i64 0]), 2, 16) := by kernel_rfl
/-- Parts as cells. -/
def pcF (f : Nat → Nat × Nat) (i : Nat) : List Value := (List.range i).flatMap fun k => [Value.int .i64 (f k).1, Value.int .i64 (f k).2]
theorem pcF_succ (f : Nat → Nat × Nat) (i : Nat) : pcF f (i + 1) = pcF f i ++ [Value.int .i64 (f i).1, Value.int .i64 (f i).2] := by
  unfold pcF
  rw [List.range_succ, List.flatMap_append]
  simp
theorem pcF_len (f : Nat → Nat × Nat) : ∀ i, (pcF f i).length = i * 2
  | 0 => rfl
  | i + 1 => by rw [pcF_succ, List.length_append, pcF_len f i]; simp; omega
theorem pcF_at (f : Nat → Nat × Nat) : ∀ i k, k < i → (pcF f i)[k * 2]? = some (Value.int .i64 (f k).1) ∧ (pcF f i)[k * 2 + 1]? = some (Value.int .i64 (f k).2)
  | 0, k, h => by omega
  | i + 1, k, h => by
    rw [pcF_succ]
    by_cases g : k < i
    · have h1 := pcF_at f i k g
      rw [List.getElem?_append_left (by rw [pcF_len]; omega), List.getElem?_append_left (by rw [pcF_len]; omega)]
      exact h1
    · obtain rfl : k = i := by omega
      rw [List.getElem?_append_right (by rw [pcF_len]; exact Nat.le_refl _), List.getElem?_append_right (by rw [pcF_len]; omega), pcF_len]
      have e1 : k * 2 - k * 2 = 0 := by omega
      have e2 : k * 2 + 1 - k * 2 = 1 := by omega
      rw [e1, e2]
      exact ⟨rfl, rfl⟩
/-- A list of parts in memory. -/
def RdP (w : World) (A : Option Addr) (n : Nat) (f : Nat → Nat × Nat) : Prop := 0 < n → ∃ b o, A = some ⟨b, o, none⟩ ∧ b < w.heap.size ∧ ∀ k, k < n → w.cell? ⟨b, o + k * 2, none⟩ = some (.int .i64 (f k).1) ∧ w.cell? ⟨b, o + k * 2 + 1, none⟩ = some (.int .i64 (f k).2)
theorem RdP.ext {w w' : World} {A : Option Addr} {n : Nat} {f : Nat → Nat × Nat} (h : RdP w A n f) (hx : Ext w w') : RdP w' A n f := fun hn => by
  obtain ⟨b, o, hA, hb, hc⟩ := h hn
  exact ⟨b, o, hA, Nat.lt_of_lt_of_le hb hx.size, fun k hk => ⟨ecell (hc k hk).1 hx, ecell (hc k hk).2 hx⟩⟩

theorem own_form2 {w : World} {base : Nat} {e : TypeId} {size n : Nat} {v : Value} {xs : List Value} (h : w.ownsRow base e size v n xs) : ∃ P p, v = .slice P n p := by
  rcases h.2 with ⟨rfl, rfl⟩ | ⟨g, cap, cur, rfl, _⟩
  · exact ⟨none, 0, rfl⟩
  · exact ⟨_, cap, rfl⟩
theorem own_ge2 {w : World} {base : Nat} {e : TypeId} {size n : Nat} {P : Option Addr} {p : Nat} {xs : List Value} (h : w.ownsRow base e size (.slice P n p) n xs) : ∀ b o, P = some ⟨b, o, none⟩ → base ≤ b := fun b o hb => by
  subst hb
  rcases h.2 with ⟨hv, _⟩ | ⟨g, cap, cur, hv, _⟩
  · cases hv
  · injection hv with h1 _ _
    injection h1 with h1
    injection h1 with h2 h3
    subst h2
    exact (own_row_ge h _ rfl).1
theorem rdP_own {w : World} {base : Nat} {e : TypeId} {P : Option Addr} {n p : Nat} {f : Nat → Nat × Nat} (h : w.ownsRow base e 2 (.slice P n p) n (pcF f n)) : RdP w P n f := fun hn => by
  rcases h.2 with ⟨_, h0⟩ | ⟨g, cap, cur, hv, _, hg, hnc, _, hcs, htake⟩
  · omega
  · injection hv with h1 _ _
    have hbk : Bk w g e cur := hg
    have hat : ∀ j, j < n * 2 → w.cell? ⟨g, j, none⟩ = (pcF f n)[j]? := fun j hj => by
      rw [hbk.cell, ← htake, List.getElem?_take_of_lt hj, Array.getElem?_toList]
    refine ⟨g, 0, h1, hbk.lt, fun k hk => ?_⟩
    obtain ⟨q1, q2⟩ := pcF_at f n k hk
    rw [Nat.zero_add]
    exact ⟨(hat _ (by omega)).trans q1, (hat _ (by omega)).trans q2⟩

set_option maxHeartbeats 8000000 in
set_option maxRecDepth 100000 in
theorem all_walk (n m2 : Nat) (E B D : Option Addr) (ec bc dc : Nat) (hm : 2 ≤ m2) (hm2 : m2 ≤ 4096) (A : Option Addr) (L c : Nat) (w : World) (R : World → Prop) (hR : ∀ w w', Ext w w' → R w → R w') (hr : R w) (f : Nat → Nat × Nat)
    (cl : ∀ i w, i + 2 < m2 → R w → Calls Tryz.prog 36 #[combV n m2 E B D ec bc dc, .slice A L c, .int .i64 ((i : Int) + 1)] w (RetPart (f i) w)) :
    Calls Tryz.prog 37 #[combV n m2 E B D ec bc dc, .slice A L c] w fun e w' => ∃ P p, e = .returned (.slice P (m2 - 2) p) ∧ RdP w' P (m2 - 2) f ∧ Ext w w' ∧ (∀ b o, P = some ⟨b, o, none⟩ → w.heap.size ≤ b) := by
  obtain ⟨ip, hp, hp0, hp1, hp2⟩ := info_parts info_part
  have cS := fun w => gsigns_calls n m2 E B D ec bc dc hm hm2 w
  obtain ⟨m0, hm0⟩ : ∃ m0, m2 - 2 = m0 := ⟨_, rfl⟩
  rw [hm0] at cS ⊢
  unfold RetPart at cl
  have CS := Lib.hid cS; have CL := Lib.hid cl; have HR := Lib.hid hR; have HPS := Lib.hid (pcF_succ f); have HM0 := Lib.hid hm0
  have hm04 : m0 ≤ 4096 := by omega
  unfold combV at CS CL ⊢
  clear cS cl hR hm0
  go_enter Tryz.func37, Tryz.ntmps37
  go_wp2_with fail
  generalize hW : World.alloc w _ = W
  have bq := bk_of hW
  have hx := ext_of_alloc hW
  have hrW := HR.out _ _ hx hr
  have BQ := Lib.hid bq
  generalize w.heap.size = Q at *
  clear hW hr bq
  go_wp2_with fail
  go_loopw [6, 5] (fun vi v5 wr => ∃ i : Nat, vi = .int .i64 ((i : Int) + 1) ∧ i ≤ m0 ∧ Hid (wr.ownsRow W.heap.size 45 2 v5 i (pcF f i)) ∧ Ext W wr) (fun vi _ _ => m0 + 1 - (intOf vi).toNat)
  case atStart => exact ⟨0, rfl, Nat.zero_le _, own_nil _ _ _ _, Ext.refl _⟩
  case round => as_aux_lemma =>
    obtain ⟨i, rfl, hi', HO, hxr⟩ := hrel
    have bx := BQ.out.ext hxr
    have x0 := bx.cell 0
    have x1 := bx.cell 1
    have x2 := bx.cell 2
    have x3 := bx.cell 3
    have x4 := bx.cell 4
    clear bx
    go_wp2_with fail
    with_reducible refine (CS.out wr).mono ?_
    rintro e w2 ⟨rfl, hx2⟩
    have hx02 := hxr.trans hx2
    have bx := BQ.out.ext hx02
    clear x0 x1 x2 x3 x4
    have x0 := bx.cell 0
    have x1 := bx.cell 1
    have x2 := bx.cell 2
    have x3 := bx.cell 3
    have x4 := bx.cell 4
    clear bx
    by_cases g : i < m0
    · have gt : decide (((i : Nat) : Int) + 1 ≤ m0) = true := by simp; omega
      have cl := CL.out i w2 (by have := HM0.out; omega) (HR.out _ _ hx02 hrW)
      go_wp2_with fail
      with_reducible refine cl.mono ?_
      rintro e w4 ⟨rfl, hx4⟩
      have hx04 := hx02.trans hx4
      have ho4 : w4.ownsRow W.heap.size 45 2 u5 i (pcF f i) := own_ext HO.out (hx2.trans hx4)
      have hsz := hx04.size
      clear HO x0 x1 x2 x3 x4 cl hx2 hx02 hx4
      have ew : IntKind.i64.wrap ((i : Int) + 1 + 1) = (i : Int) + 1 + 1 := IntWalk.i64_in _ (by omega)
      go_wp2_with (at_builtin; refine wpList_append_lies (w4.alloc (.cells #[.int .i64 (f i).1, .int .i64 (f i).2] 45)) (by rfl) _ _ 70 rfl W.heap.size 45 ip (.agg #[.int .i64 0, .int .i64 0]) 2 16 Tryz.underlying70 hp hp0 hp1 hp2 rfl (by omega) u5 i (pcF f i) rfl (own_ext ho4 ((Ext.refl _).alloc _)) ⟨w4.heap.size, 0, none⟩ 1 1 [.int .i64 (f i).1, .int .i64 (f i).2] rfl rfl (fun j u' hu' => World.news_of_block (heap_alloc_new w4 (.cells #[.int .i64 (f i).1, .int .i64 (f i).2] 45)) j u' hu') (fun u' hu' => by rcases List.mem_cons.1 hu' with q | q; rw [q]; rfl; rw [List.mem_singleton.1 q]; rfl) (by omega) (by unfold maxLen; omega) (by omega) (by simp; omega) _ rfl ?_)
      intro gb cap w5 own5 hg5 _ _
      have hx5 : Ext W w5 := (hx04.alloc _).grown hg5 (fun k hk => (own_row_ge ho4 k hk).1)
      have HO5 : Hid (w5.ownsRow W.heap.size 45 2 (.slice (some ⟨gb, 0, none⟩) (i + 1) cap) (i + 1) (pcF f (i + 1))) := by
        show World.ownsRow _ _ _ _ _ _ _
        rw [HPS.out]; exact own5
      clear own5 hg5 ho4
      go_wp2_with fail
      refine ⟨⟨i + 1, rfl, by omega, HO5, hx5⟩, by simp [intOf]; omega⟩
    · have gt : decide (((i : Nat) : Int) + 1 ≤ m0) = false := by simp; omega
      obtain rfl : i = m0 := by omega
      obtain ⟨P, p, rfl⟩ := own_form2 HO.out
      have hrd := rdP_own (own_ext HO.out hx2)
      have hge := own_ge2 HO.out
      go_wp2_with fail
      go_ret
      exact ⟨P, p, rfl, hrd, hx.trans hx02, fun b o h => Nat.le_trans hx.size (hge b o h)⟩
theorem all_calls (l : List Int) (hok : combOk l) (hl : l.length ≤ 101) (hm : mostI l ≤ 101) (E B D : Option Addr) (ec bc dc : Nat) (s : List Int) (hs : signOk s) (hsl : s.length ≤ 100000000) (A : Option Addr) (c : Nat) (hc : s.length ≤ c) (hA : A = none → c = 0) (w : World) (h : CombIn w l E B D) (hr : Rd w A s.length (fun k => .int .i64 (nth s k))) :
    Calls Tryz.prog 37 #[combV l.length ((mostI l).toNat + 2) E B D ec bc dc, .slice A s.length c] w fun e w' => ∃ P p, e = .returned (.slice P (mostI l).toNat p) ∧ RdP w' P (mostI l).toNat (fun i => likG l s ((i : Int) + 1)) ∧ Ext w w' ∧ (∀ b o, P = some ⟨b, o, none⟩ → w.heap.size ≤ b) := by
  have := mostI_ge l
  exact all_walk l.length ((mostI l).toNat + 2) E B D ec bc dc (by omega) (by omega) A s.length c w (fun w => CombIn w l E B D ∧ Rd w A s.length (fun k => .int .i64 (nth s k))) (fun _ _ hx r => ⟨r.1.ext hx, r.2.ext hx⟩) ⟨h, hr⟩ (fun i => likG l s ((i : Int) + 1))
    (fun i w hi r => likely_calls l hok hl hm E B D ec bc dc s hs hsl A c hc hA ((i : Int) + 1) w r.1 r.2)
end Go.Proofs.YtjfdlibceldanabGreatDoor
