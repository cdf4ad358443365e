/- The reference BitsOf: the walk. -/
import Derived.Test.YtjfdlibceldanabBitsA
import Derived.Test.YtjfdlibceldanabOrd
namespace Go.Proofs.Ytjfdlibceldanab
open Go.RowKit

theorem add_eq (p k : Nat) (hp : p < 2 ^ (k % 64)) : IntKind.u64.wrap ((p : Int) + IntKind.u64.wrap ((2 : Int) ^ (k % 64))) = ((p + 2 ^ (k % 64) : Nat) : Int) := by
  have h1 : (2 : Nat) ^ (k % 64) ≤ 9223372036854775808 := by
    have : (2 : Nat) ^ (k % 64) ≤ 2 ^ 63 := Nat.pow_le_pow_right (by omega) (by omega)
    simpa using this
  have e : ((2 : Int) ^ (k % 64)) = ((2 ^ (k % 64) : Nat) : Int) := by simp
  rw [e, Pop.wrap_u64_nat _ (by omega), ← Int.natCast_add, Pop.wrap_u64_nat _ (by omega)]

/-- What the loop has at a place: the words, and the ones ahead of them. -/
def pw (l : List Bool) (i : Nat) : List Value := (List.range ((i + 63) / 64)).map fun j => Value.int .u64 (word (l.take i) j : Nat)
def aw (l : List Bool) (i : Nat) : List Value := (List.range ((i + 63) / 64)).map fun j => Value.int .i64 (cnt (l.take (64 * j)) : Nat)

structure BoRel (l : List Bool) (w : World) (B3 i : Nat) (A1 A2 : Option Addr) (c1 c2 : Nat) (wr : World) : Prop where
  p : wr.ownsRow w.heap.size 88 1 (.slice A1 ((i + 63) / 64) c1) ((i + 63) / 64) (pw l i)
  a : wr.ownsRow w.heap.size 3 1 (.slice A2 ((i + 63) / 64) c2) ((i + 63) / 64) (aw l i)
  b : Bk wr B3 70 #[Value.int IntKind.i64 ↑l.length, .slice A1 ((i + 63) / 64) c1, .slice A2 ((i + 63) / 64) c2]
  z : Bk wr w.heap.size 70 #[Value.int IntKind.i64 0, Value.slice none 0 0, Value.slice none 0 0]
  x : Ext w wr

section
variable {ops : Array Oper} {o : Oper} {a : Act} {K : Act → World → Prop} {Q : Exit → Act → World → Prop} {E : Prop} {w : World}
/-- An append of one element, one operation. -/
theorem wp_app (s x : Operand) (t : TypeId) (ho : o.op = .call { callee := .builtin .append, args := #[s, x], argTypes := #[t, t] })
    (base : Nat) (e : TypeId) (i : TypeInfo) (z : Value) (ht : Try.prog.underlying t = some (.slice e)) (hi : Try.prog.info? e = some i) (hz : i.zero = some z)
    (hsize : i.size = 1) (hby : i.bytes = 8) (hzs : z.cells.size = 1) (v : Value) (n : Nat) (xs : List Value) (hs : a.eval s = v) (hown : w.ownsRow base e 1 v n xs)
    (u : Value) (g2 : Nat) (T : TypeId) (hx : a.eval x = .slice (some ⟨g2, 0, none⟩) 1 1) (hc : Bk w g2 T #[u]) (hu : u.oneCell' = true) (hn : n ≤ 1099511627776) (hbase : base ≤ w.heap.size)
    (h : ∀ g cap w', w'.ownsRow base e 1 (.slice (some ⟨g, 0, none⟩) (n + 1) cap) (n + 1) (xs ++ [u]) → w.grownBy w' v.ownBlock → K (a.put o.dst (.slice (some ⟨g, 0, none⟩) (n + 1) cap)) w') :
    Oper.wp Try.prog o a w K Q :=
  wp_append_lies w s x t ho base e i z 1 8 ht hi hz hsize hby hzs (by omega) v n xs hs hown ⟨g2, 0, none⟩ 1 1 [u] hx rfl
    (fun j u' hu' => World.news_of_block (show w.heap[g2]? = some (.cells #[u] T (0, 0)) from hc) j u' hu') (fun u' hu' => by rw [List.mem_singleton.1 hu']; exact hu) (by omega) (by unfold maxLen; omega) (by omega) hbase _ rfl (fun g cap w' h1 h2 _ _ => h g cap w' h1 h2)
end

/-- What is known between two operations of the region that appends. -/
structure BoSt (l : List Bool) (w : World) (B3 k : Nat) (P0 A0 : Value) (nP nA : Nat) (vP vA : Value) (xP xA : List Value) (w' : World) : Prop where
  p : w'.ownsRow w.heap.size 88 1 vP nP xP
  a : w'.ownsRow w.heap.size 3 1 vA nA xA
  b : Bk w' B3 70 #[Value.int IntKind.i64 ↑l.length, P0, A0]
  z : Bk w' w.heap.size 70 #[Value.int IntKind.i64 0, Value.slice none 0 0, Value.slice none 0 0]
  x : Ext w w'
section
variable {l : List Bool} {w w1 w2 : World} {B3 k nP nA : Nat} {P0 A0 vP vA vP' vA' : Value} {xP xA xP' xA' : List Value}
theorem BoSt.ext (h : BoSt l w B3 k P0 A0 nP nA vP vA xP xA w1) (hx : Ext w1 w2) : BoSt l w B3 k P0 A0 nP nA vP vA xP xA w2 :=
  ⟨own_ext h.p hx, own_ext h.a hx, h.b.ext hx, h.z.ext hx, h.x.trans hx⟩
theorem BoSt.appP {nP' : Nat} (h : BoSt l w B3 k P0 A0 nP nA vP vA xP xA w1) (ho : w2.ownsRow w.heap.size 88 1 vP' nP' xP') (hg : w1.grownBy w2 vP.ownBlock) : BoSt l w B3 k P0 A0 nP' nA vP' vA xP' xA w2 :=
  ⟨ho, own_grown h.a hg (own_own_ne h.a h.p (by decide)), h.b.grown hg (Bk.own_ne h.p h.b (by decide)), h.z.grown hg (Bk.own_ne h.p h.z (by decide)), h.x.grown hg (fun k hk => (own_row_ge h.p k hk).1)⟩
theorem BoSt.appA {nA' : Nat} (h : BoSt l w B3 k P0 A0 nP nA vP vA xP xA w1) (ho : w2.ownsRow w.heap.size 3 1 vA' nA' xA') (hg : w1.grownBy w2 vA.ownBlock) : BoSt l w B3 k P0 A0 nP nA' vP vA' xP xA' w2 :=
  ⟨own_grown h.p hg (own_own_ne h.p h.a (by decide)), ho, h.b.grown hg (Bk.own_ne h.a h.b (by decide)), h.z.grown hg (Bk.own_ne h.a h.z (by decide)), h.x.grown hg (fun k hk => (own_row_ge h.a k hk).1)⟩
theorem BoSt.s (h : BoSt l w B3 k P0 A0 nP nA vP vA xP xA w1) : w1.cell? ⟨B3, 1, none⟩ = some P0 ∧ w1.cell? ⟨B3, 2, none⟩ = some A0 := ⟨h.b.cell 1, h.b.cell 2⟩
end

/-- Behind the test in the loop: there is room for the place's own word. -/
def pm (l : List Bool) (k : Nat) : List Value := (List.range (k / 64 + 1)).map fun j => Value.int .u64 (word (l.take k) j : Nat)
def am (l : List Bool) (k : Nat) : List Value := (List.range (k / 64 + 1)).map fun j => Value.int .i64 (cnt (l.take (64 * j)) : Nat)
structure BoMid (l : List Bool) (w : World) (B3 k : Nat) (A1 A2 : Option Addr) (c1 c2 : Nat) (wr : World) : Prop where
  p : wr.ownsRow w.heap.size 88 1 (.slice A1 (k / 64 + 1) c1) (k / 64 + 1) (pm l k)
  a : wr.ownsRow w.heap.size 3 1 (.slice A2 (k / 64 + 1) c2) (k / 64 + 1) (am l k)
  b : Bk wr B3 70 #[Value.int IntKind.i64 ↑l.length, .slice A1 (k / 64 + 1) c1, .slice A2 (k / 64 + 1) c2]
  z : Bk wr w.heap.size 70 #[Value.int IntKind.i64 0, Value.slice none 0 0, Value.slice none 0 0]
  x : Ext w wr
def BoMidE (l : List Bool) (w : World) (B3 k : Nat) (wr : World) : Prop := ∃ (A1 A2 : Option Addr) (c1 c2 : Nat), BoMid l w B3 k A1 A2 c1 c2 wr
theorem pm_grow (l : List Bool) (k : Nat) (hk : k ≤ l.length) (h : k % 64 = 0) : pw l k ++ [Value.int .u64 0] = pm l k := by
  have e : (k + 63) / 64 = k / 64 := by omega
  have hz : word (l.take k) (k / 64) = 0 := by have := word_low l k hk; rw [h] at this; omega
  unfold pw pm
  rw [e, List.range_succ, List.map_append]
  simp [hz]
theorem am_grow (l : List Bool) (k : Nat) (h : k % 64 = 0) : aw l k ++ [Value.int .i64 (cnt (l.take k) : Nat)] = am l k := by
  have e : (k + 63) / 64 = k / 64 := by omega
  unfold aw am
  rw [e, List.range_succ, List.map_append]
  simp only [List.map_cons, List.map_nil]
  rw [show 64 * (k / 64) = k from by omega]
theorem bo_first {l : List Bool} {w : World} {B3 k : Nat} {P0 A0 : Value} {gP cP gA cA : Nat} {w' : World} (hk : k ≤ l.length) (h : k % 64 = 0) (hB : w.heap.size < B3)
    (st : BoSt l w B3 k P0 A0 ((k + 63) / 64 + 1) ((k + 63) / 64 + 1) (.slice (some ⟨gP, 0, none⟩) ((k + 63) / 64 + 1) cP) (.slice (some ⟨gA, 0, none⟩) ((k + 63) / 64 + 1) cA) (pw l k ++ [Value.int .u64 0]) (aw l k ++ [Value.int .i64 (cnt (l.take k) : Nat)]) w') :
    BoMidE l w B3 k ((w'.setCell ⟨B3, 1, none⟩ (.slice (some ⟨gP, 0, none⟩) ((k + 63) / 64 + 1) cP)).setCell ⟨B3, 2, none⟩ (.slice (some ⟨gA, 0, none⟩) ((k + 63) / 64 + 1) cA)) := by
  have e : (k + 63) / 64 = k / 64 := by omega
  obtain ⟨p, a, b, z, x⟩ := st
  rw [pm_grow l k hk h] at p
  rw [am_grow l k h] at a
  rw [e] at p a ⊢
  have hP := Bk.own_ne p b (by decide)
  have hA := Bk.own_ne a b (by decide)
  have hP' : (Value.slice (some ⟨gP, 0, none⟩) (k / 64 + 1) cP).ownBlock ≠ some B3 := fun q => hP q.symm
  have hA' : (Value.slice (some ⟨gA, 0, none⟩) (k / 64 + 1) cA).ownBlock ≠ some B3 := fun q => hA q.symm
  refine ⟨some ⟨gP, 0, none⟩, some ⟨gA, 0, none⟩, cP, cA, own_far (own_far p hP' _) hP' _, own_far (own_far a hA' _) hA' _, ?_, ?_, ?_⟩
  · exact (b.set 1 _).set 2 _
  · exact (z.far (by show w.heap.size ≠ B3; omega) _).far (by show w.heap.size ≠ B3; omega) _
  · exact (x.setCell (p := ⟨B3, 1, none⟩) (by show w.heap.size ≤ B3; omega) _).setCell (p := ⟨B3, 2, none⟩) (by show w.heap.size ≤ B3; omega) _
theorem bo_skip {l : List Bool} {w : World} {B3 k : Nat} {A1 A2 : Option Addr} {c1 c2 : Nat} {w' : World} (h : k % 64 ≠ 0) (r : BoRel l w B3 k A1 A2 c1 c2 w') : BoMidE l w B3 k w' := by
  have e : (k + 63) / 64 = k / 64 + 1 := by omega
  obtain ⟨p, a, b, z, x⟩ := r
  unfold pw at p; unfold aw at a
  rw [e] at p a b
  exact ⟨A1, A2, c1, c2, p, a, b, z, x⟩

theorem mid_same {l : List Bool} {w : World} {B3 k : Nat} {A1 A2 : Option Addr} {c1 c2 : Nat} {w' : World} (r : BoMid l w B3 k A1 A2 c1 c2 w')
    (h : ∀ j, word (l.take (k + 1)) j = word (l.take k) j) : BoRel l w B3 (k + 1) A1 A2 c1 c2 w' := by
  have e : (k + 1 + 63) / 64 = k / 64 + 1 := by omega
  obtain ⟨p, a, b, z, x⟩ := r
  refine ⟨?_, ?_, ?_, z, x⟩
  · unfold pw; rw [e]; simp only [h]; exact p
  · unfold aw; rw [e]; exact a
  · rw [e]; exact b
theorem mid_one {l : List Bool} {w : World} {B3 k g : Nat} {A2 : Option Addr} {c1 c2 : Nat} {w' : World} (r : BoMid l w B3 k (some ⟨g, 0, none⟩) A2 c1 c2 w') (hk : k < l.length)
    (h : nth l k = true) : BoRel l w B3 (k + 1) (some ⟨g, 0, none⟩) A2 c1 c2 (w'.setCell ⟨g, k / 64, none⟩ (.int .u64 ((word (l.take k) (k / 64) + 2 ^ (k % 64) : Nat) : Int))) := by
  have e : (k + 1 + 63) / 64 = k / 64 + 1 := by omega
  obtain ⟨p, a, b, z, x⟩ := r
  have hg := own_row_ge p g rfl
  have hgB : B3 ≠ g := fun q => Bk.own_ne p b (by decide) (by rw [q]; rfl)
  have hgZ : w.heap.size ≠ g := fun q => Bk.own_ne p z (by decide) (by rw [q]; rfl)
  have hA : (Value.slice A2 (k / 64 + 1) c2).ownBlock ≠ some g := fun q => by
    rcases own_own_ne p a (by decide) with h | h
    · cases h
    · exact h q.symm
  have p2 := (p.stored (k / 64) (.int .u64 ((word (l.take k) (k / 64) + 2 ^ (k % 64) : Nat) : Int))).1
  refine ⟨?_, ?_, ?_, z.far hgZ _, x.setCell (p := ⟨g, k / 64, none⟩) hg.1 _⟩
  · unfold pw
    rw [e]
    unfold pm at p2
    rw [map_range_set] at p2
    rw [map_range_congr (g := fun j => if j = k / 64 then Value.int .u64 ((word (l.take k) (k / 64) + 2 ^ (k % 64) : Nat) : Int) else Value.int .u64 (word (l.take k) j : Nat)) ?_]
    · exact p2
    · intro j _
      rw [word_step l k j hk]
      by_cases hj : j = k / 64
      · rw [if_pos hj, if_pos hj, if_pos h, hj]
      · rw [if_neg hj, if_neg hj]
  · unfold aw; rw [e]; exact own_far a hA _
  · rw [e]; exact b.far hgB _
theorem mid_some {l : List Bool} {w : World} {B3 k : Nat} {A1 A2 : Option Addr} {c1 c2 : Nat} {w' : World} (r : BoMid l w B3 k A1 A2 c1 c2 w') : ∃ g, A1 = some ⟨g, 0, none⟩ := by
  rcases r.p.2 with ⟨_, h⟩ | ⟨g, cap, cur, hv, _⟩
  · omega
  · injection hv with hv; exact ⟨g, hv⟩
theorem word_over (l : List Bool) (j : Nat) : word (l.take (l.length + 1)) j = word (l.take l.length) j := by
  rw [List.take_of_length_le (by omega), List.take_length]

set_option maxHeartbeats 4000000 in
set_option maxRecDepth 100000 in
theorem bitsOf_callsO (l : List Bool) (A : Option Addr) (c : Nat) (w : World) (hl : l.length ≤ 17592186044416) (hr : Rd w A l.length (fun k => .bool (nth l k))) :
    Calls Try.prog 66 #[.slice A l.length c] w (RetBitsO (bitsOf l) w) := by
  obtain ⟨iu, hu, hz0, hz1, hz2⟩ := info_parts info_u64
  obtain ⟨ii, hi, hj0, hj1, hj2⟩ := info_parts info_int
  have HR := Lib.hid hr; clear hr
  go_enter Try.func66, Try.ntmps66
  go_wp2_with fail
  generalize hW : World.alloc w _ = W1
  have bx0 := bk_of hW
  have hx0 := ext_of_alloc hW
  have hs1 : W1.heap.size = w.heap.size + 1 := by rw [← hW]; simp
  clear hW
  generalize hW : World.alloc W1 _ = W2
  have bx := bk_of hW
  rw [hs1] at bx
  have bz := bx0.ext (ext_of_alloc hW)
  have hx := hx0.trans (ext_of_alloc hW)
  clear hW hs1 bx0 hx0
  generalize hB3 : w.heap.size + 1 = B3 at *
  have hB3' : w.heap.size < B3 := by omega
  clear hB3
  go_loopw [4, 5] (fun o i wr => ∃ (k : Nat) (A1 A2 : Option Addr) (c1 c2 : Nat), k ≤ l.length + 1 ∧ i = .int .i64 k ∧ o = .int .i64 (cnt (l.take k) : Nat) ∧ BoRel l w B3 k A1 A2 c1 c2 wr) (fun _ i _ => l.length + 1 - (intOf i).toNat)
  case atStart => exact ⟨0, none, none, 0, 0, by omega, rfl, by simp [cnt], own_nil .., own_nil .., bx, bz, hx⟩
  case round =>
    obtain ⟨k, A1, A2, c1, c2, hk, rfl, rfl, rel⟩ := hrel
    by_cases g1 : k ≤ l.length
    · go_upto_if 17 with fail
      go_cut [] (fun w' => BoMidE l w B3 k w')
      case first =>
        by_cases g2 : k % 64 = 0
        · have g2' : ((k : Int) % 64 == 0) = true := by rw [beq_iff_eq]; omega
          obtain ⟨x0, x1, x2⟩ := bx3_bk rel.b
          have G2 := Lib.hid g2; clear g2
          go_wp2_with fail
          have hmk : (k + 63) / 64 ≤ 1099511627776 := by omega
          have st : BoSt l w B3 k (.slice A1 ((k + 63) / 64) c1) (.slice A2 ((k + 63) / 64) c2) ((k + 63) / 64) ((k + 63) / 64) (.slice A1 ((k + 63) / 64) c1) (.slice A2 ((k + 63) / 64) c2) (pw l k) (aw l k) wr.drew := ⟨rel.p, rel.a, rel.b, rel.z, rel.x.drew⟩
          refine wp_region_N (fun w' => w'.cell? ⟨B3, 1, none⟩ = some (.slice A1 ((k + 63) / 64) c1) ∧ w'.cell? ⟨B3, 2, none⟩ = some (.slice A2 ((k + 63) / 64) c2)) 10 (by kernel_rfl) ?_
          simp only [List.length_cons, List.length_nil, Nat.zero_add, Nat.reduceAdd]
          clear x0 x1 x2 rel
          generalize wr.drew = w0 at *
          refine pure_N (i := 0) (.pointer (some ⟨B3, 1, none⟩)) rfl (by kernel_rfl) (fun _ _ _ h => h) rfl st.s (fun w' => by go_simp) #[true, false, false, false, false, false, false, false, false, false, false, false, false] (by rfl) ?_
          try simp only [Act.put, List.setIfInBounds_toArray, List.set_cons_zero, List.set_cons_succ]
          refine take_N (i := 1) (.slice A1 ((k + 63) / 64) c1) rfl (by kernel_rfl) (fun _ _ _ h => h) rfl st.s (fun w' hw' => by have hw1 := hw'.1; go_simp) #[true, true, false, false, false, false, false, false, false, false, false, false, false] (by rfl) ?_
          try simp only [Act.put, List.setIfInBounds_toArray, List.set_cons_zero, List.set_cons_succ]
          refine pure_N (i := 4) (.pointer (some ⟨B3, 2, none⟩)) rfl (by kernel_rfl) (fun _ _ _ h => h) rfl st.s (fun w' => by go_simp) #[true, true, false, false, true, false, false, false, false, false, false, false, false] (by rfl) ?_
          try simp only [Act.put, List.setIfInBounds_toArray, List.set_cons_zero, List.set_cons_succ]
          refine take_N (i := 5) (.slice A2 ((k + 63) / 64) c2) rfl (by kernel_rfl) (fun _ _ _ h => h) rfl st.s (fun w' hw' => by have hw1 := hw'.2; go_simp) #[true, true, false, false, true, true, false, false, false, false, false, false, false] (by rfl) ?_
          try simp only [Act.put, List.setIfInBounds_toArray, List.set_cons_zero, List.set_cons_succ]
          refine pure_N (i := 6) (.int .i64 (cnt (l.take k) : Nat)) rfl (by kernel_rfl) (fun _ _ _ h => h) rfl st.s (fun w' => by go_simp) #[true, true, false, false, true, true, true, false, false, false, false, false, false] (by rfl) ?_
          try simp only [Act.put, List.setIfInBounds_toArray, List.set_cons_zero, List.set_cons_succ]
          refine all_N [2, 7] (by kernel_rfl) (by simp) ?_
          rintro i hi'
          rcases List.mem_cons.1 hi' with rfl | hi'
          · refine step_N (i := 2) #[true, true, true, false, true, true, true, false, false, false, false, false, false] rfl rfl (by rfl) (fun K' hK' => ?_)
            go_simp
            have st1 := st.ext ((Ext.refl w0).alloc (.cells #[(.int .u64 0)] 88))
            have bP := Bk.new w0 88 #[(.int .u64 0)]
            have hsz1 : w0.heap.size ≤ (w0.alloc (.cells #[(.int .u64 0)] 88)).heap.size := by simp
            generalize World.alloc w0 _ = w1 at *
            refine hK' _ _ st1.s ?_
            clear K' hK'
            try simp only [Act.put, List.setIfInBounds_toArray, List.set_cons_zero, List.set_cons_succ]
            refine all_N [3, 7] (by kernel_rfl) (by simp) ?_
            rintro i hi'
            rcases List.mem_cons.1 hi' with rfl | hi'
            · refine step_N (i := 3) #[true, true, true, true, true, true, true, false, false, false, false, false, false] rfl rfl (by rfl) (fun K' hK' => ?_)
              refine wp_app _ _ 68 rfl w.heap.size 88 iu _ Try.underlying68 hu hz0 hz1 hz2 rfl _ ((k + 63) / 64) _ (by rfl) st1.p (.int .u64 0) _ _ (by rfl) bP rfl hmk st1.x.size ?_
              intro gP cP w2 hown2 hgr2
              have st2 := st1.appP hown2 hgr2
              refine hK' _ _ st2.s ?_
              clear K' hK'
              try simp only [Act.put, List.setIfInBounds_toArray, List.set_cons_zero, List.set_cons_succ]
              refine pure_N (i := 9) (.pointer (some ⟨B3, 1, none⟩)) rfl (by kernel_rfl) (fun _ _ _ h => h) rfl st2.s (fun w' => by go_simp) #[true, true, true, true, true, true, true, false, false, true, false, false, false] (by rfl) ?_
              try simp only [Act.put, List.setIfInBounds_toArray, List.set_cons_zero, List.set_cons_succ]
              refine all_N [7] (by kernel_rfl) (by simp) ?_
              rintro i hi'
              obtain rfl := List.mem_singleton.1 hi'
              refine step_N (i := 7) #[true, true, true, true, true, true, true, true, false, true, false, false, false] rfl rfl (by rfl) (fun K' hK' => ?_)
              go_simp
              have st3 := st2.ext ((Ext.refl w2).alloc (.cells #[(.int .i64 (cnt (l.take k) : Nat))] 3))
              have bA := Bk.new w2 3 #[(.int .i64 (cnt (l.take k) : Nat))]
              have bP := bP.alloc (.cells #[(.int .i64 (cnt (l.take k) : Nat))] 3)
              have hsz3 : w2.heap.size ≤ (w2.alloc (.cells #[(.int .i64 (cnt (l.take k) : Nat))] 3)).heap.size := by simp
              generalize World.alloc w2 _ = w3 at *
              refine hK' _ _ st3.s ?_
              clear K' hK'
              try simp only [Act.put, List.setIfInBounds_toArray, List.set_cons_zero, List.set_cons_succ]
              refine all_N [8] (by kernel_rfl) (by simp) ?_
              rintro i hi'
              obtain rfl := List.mem_singleton.1 hi'
              refine step_N (i := 8) #[true, true, true, true, true, true, true, true, true, true, false, false, false] rfl rfl (by rfl) (fun K' hK' => ?_)
              refine wp_app _ _ 22 rfl w.heap.size 3 ii _ Try.underlying22 hi hj0 hj1 hj2 rfl _ ((k + 63) / 64) _ (by rfl) st3.a (.int .i64 (cnt (l.take k) : Nat)) _ _ (by rfl) bA rfl hmk st3.x.size ?_
              intro gA cA w4 hown4 hgr4
              have st4 := st3.appA hown4 hgr4
              refine hK' _ _ st4.s ?_
              clear K' hK'
              try simp only [Act.put, List.setIfInBounds_toArray, List.set_cons_zero, List.set_cons_succ]
              refine wpAnyN_tail 10 _ rfl rfl (by kernel_rfl) (by kernel_rfl) ?_
              obtain ⟨y0, y1, y2⟩ := bx3_bk st4.b
              have f1 := st4.b.frozen 1
              have f2 := st4.b.frozen 2
              have hfin := Lib.hid (bo_first g1 G2.out hB3' st4)
              clear st st1 st2 st3 st4
              go_wp2_with fail
              go_meet
              exact hfin.out
            · obtain rfl := List.mem_singleton.1 hi'
              refine step_N (i := 7) #[true, true, true, false, true, true, true, true, false, false, false, false, false] rfl rfl (by rfl) (fun K' hK' => ?_)
              go_simp
              have st2 := st1.ext ((Ext.refl w1).alloc (.cells #[(.int .i64 (cnt (l.take k) : Nat))] 3))
              have bA := Bk.new w1 3 #[(.int .i64 (cnt (l.take k) : Nat))]
              have bP := bP.alloc (.cells #[(.int .i64 (cnt (l.take k) : Nat))] 3)
              have hsz2 : w1.heap.size ≤ (w1.alloc (.cells #[(.int .i64 (cnt (l.take k) : Nat))] 3)).heap.size := by simp
              generalize World.alloc w1 _ = w2 at *
              refine hK' _ _ st2.s ?_
              clear K' hK'
              try simp only [Act.put, List.setIfInBounds_toArray, List.set_cons_zero, List.set_cons_succ]
              refine all_N [3] (by kernel_rfl) (by simp) ?_
              rintro i hi'
              obtain rfl := List.mem_singleton.1 hi'
              refine step_N (i := 3) #[true, true, true, true, true, true, true, true, false, false, false, false, false] rfl rfl (by rfl) (fun K' hK' => ?_)
              refine wp_app _ _ 68 rfl w.heap.size 88 iu _ Try.underlying68 hu hz0 hz1 hz2 rfl _ ((k + 63) / 64) _ (by rfl) st2.p (.int .u64 0) _ _ (by rfl) bP rfl hmk st2.x.size ?_
              intro gP cP w3 hown3 hgr3
              have st3 := st2.appP hown3 hgr3
              have bA := bA.grown hgr3 (Bk.own_ne st2.p bA (by decide))
              refine hK' _ _ st3.s ?_
              clear K' hK'
              try simp only [Act.put, List.setIfInBounds_toArray, List.set_cons_zero, List.set_cons_succ]
              refine pure_N (i := 9) (.pointer (some ⟨B3, 1, none⟩)) rfl (by kernel_rfl) (fun _ _ _ h => h) rfl st3.s (fun w' => by go_simp) #[true, true, true, true, true, true, true, true, false, true, false, false, false] (by rfl) ?_
              try simp only [Act.put, List.setIfInBounds_toArray, List.set_cons_zero, List.set_cons_succ]
              refine all_N [8] (by kernel_rfl) (by simp) ?_
              rintro i hi'
              obtain rfl := List.mem_singleton.1 hi'
              refine step_N (i := 8) #[true, true, true, true, true, true, true, true, true, true, false, false, false] rfl rfl (by rfl) (fun K' hK' => ?_)
              refine wp_app _ _ 22 rfl w.heap.size 3 ii _ Try.underlying22 hi hj0 hj1 hj2 rfl _ ((k + 63) / 64) _ (by rfl) st3.a (.int .i64 (cnt (l.take k) : Nat)) _ _ (by rfl) bA rfl hmk st3.x.size ?_
              intro gA cA w4 hown4 hgr4
              have st4 := st3.appA hown4 hgr4
              refine hK' _ _ st4.s ?_
              clear K' hK'
              try simp only [Act.put, List.setIfInBounds_toArray, List.set_cons_zero, List.set_cons_succ]
              refine wpAnyN_tail 10 _ rfl rfl (by kernel_rfl) (by kernel_rfl) ?_
              obtain ⟨y0, y1, y2⟩ := bx3_bk st4.b
              have f1 := st4.b.frozen 1
              have f2 := st4.b.frozen 2
              have hfin := Lib.hid (bo_first g1 G2.out hB3' st4)
              clear st st1 st2 st3 st4
              go_wp2_with fail
              go_meet
              exact hfin.out
          · obtain rfl := List.mem_singleton.1 hi'
            refine step_N (i := 7) #[true, true, false, false, true, true, true, true, false, false, false, false, false] rfl rfl (by rfl) (fun K' hK' => ?_)
            go_simp
            have st1 := st.ext ((Ext.refl w0).alloc (.cells #[(.int .i64 (cnt (l.take k) : Nat))] 3))
            have bA := Bk.new w0 3 #[(.int .i64 (cnt (l.take k) : Nat))]
            have hsz1 : w0.heap.size ≤ (w0.alloc (.cells #[(.int .i64 (cnt (l.take k) : Nat))] 3)).heap.size := by simp
            generalize World.alloc w0 _ = w1 at *
            refine hK' _ _ st1.s ?_
            clear K' hK'
            try simp only [Act.put, List.setIfInBounds_toArray, List.set_cons_zero, List.set_cons_succ]
            refine all_N [2] (by kernel_rfl) (by simp) ?_
            rintro i hi'
            obtain rfl := List.mem_singleton.1 hi'
            refine step_N (i := 2) #[true, true, true, false, true, true, true, true, false, false, false, false, false] rfl rfl (by rfl) (fun K' hK' => ?_)
            go_simp
            have st2 := st1.ext ((Ext.refl w1).alloc (.cells #[(.int .u64 0)] 88))
            have bP := Bk.new w1 88 #[(.int .u64 0)]
            have bA := bA.alloc (.cells #[(.int .u64 0)] 88)
            have hsz2 : w1.heap.size ≤ (w1.alloc (.cells #[(.int .u64 0)] 88)).heap.size := by simp
            generalize World.alloc w1 _ = w2 at *
            refine hK' _ _ st2.s ?_
            clear K' hK'
            try simp only [Act.put, List.setIfInBounds_toArray, List.set_cons_zero, List.set_cons_succ]
            refine all_N [3] (by kernel_rfl) (by simp) ?_
            rintro i hi'
            obtain rfl := List.mem_singleton.1 hi'
            refine step_N (i := 3) #[true, true, true, true, true, true, true, true, false, false, false, false, false] rfl rfl (by rfl) (fun K' hK' => ?_)
            refine wp_app _ _ 68 rfl w.heap.size 88 iu _ Try.underlying68 hu hz0 hz1 hz2 rfl _ ((k + 63) / 64) _ (by rfl) st2.p (.int .u64 0) _ _ (by rfl) bP rfl hmk st2.x.size ?_
            intro gP cP w3 hown3 hgr3
            have st3 := st2.appP hown3 hgr3
            have bA := bA.grown hgr3 (Bk.own_ne st2.p bA (by decide))
            refine hK' _ _ st3.s ?_
            clear K' hK'
            try simp only [Act.put, List.setIfInBounds_toArray, List.set_cons_zero, List.set_cons_succ]
            refine pure_N (i := 9) (.pointer (some ⟨B3, 1, none⟩)) rfl (by kernel_rfl) (fun _ _ _ h => h) rfl st3.s (fun w' => by go_simp) #[true, true, true, true, true, true, true, true, false, true, false, false, false] (by rfl) ?_
            try simp only [Act.put, List.setIfInBounds_toArray, List.set_cons_zero, List.set_cons_succ]
            refine all_N [8] (by kernel_rfl) (by simp) ?_
            rintro i hi'
            obtain rfl := List.mem_singleton.1 hi'
            refine step_N (i := 8) #[true, true, true, true, true, true, true, true, true, true, false, false, false] rfl rfl (by rfl) (fun K' hK' => ?_)
            refine wp_app _ _ 22 rfl w.heap.size 3 ii _ Try.underlying22 hi hj0 hj1 hj2 rfl _ ((k + 63) / 64) _ (by rfl) st3.a (.int .i64 (cnt (l.take k) : Nat)) _ _ (by rfl) bA rfl hmk st3.x.size ?_
            intro gA cA w4 hown4 hgr4
            have st4 := st3.appA hown4 hgr4
            refine hK' _ _ st4.s ?_
            clear K' hK'
            try simp only [Act.put, List.setIfInBounds_toArray, List.set_cons_zero, List.set_cons_succ]
            refine wpAnyN_tail 10 _ rfl rfl (by kernel_rfl) (by kernel_rfl) ?_
            obtain ⟨y0, y1, y2⟩ := bx3_bk st4.b
            have f1 := st4.b.frozen 1
            have f2 := st4.b.frozen 2
            have hfin := Lib.hid (bo_first g1 G2.out hB3' st4)
            clear st st1 st2 st3 st4
            go_wp2_with fail
            go_meet
            exact hfin.out
        · have g2' : ((k : Int) % 64 == 0) = false := by rw [beq_eq_false_iff_ne]; omega
          have hfin := Lib.hid (bo_skip g2 rel)
          clear g2
          go_wp2_with fail
          go_meet
          exact hfin.out
      case rest =>
        obtain ⟨A1, A2, c1, c2, mid⟩ := hcut
        clear rel
        obtain ⟨g, hg⟩ := mid_some mid
        subst hg
        by_cases g2 : k < l.length
        · obtain ⟨b1, o1, hA, hb1, hc1⟩ := HR.out (by omega)
          subst hA
          have p1 := ecell (hc1 k g2) mid.x
          dsimp only at p1
          clear hc1
          have hcs := cnt_take_succ l k g2
          by_cases g3 : nth l k = true
          · rw [g3] at p1 hcs
            have hlow := word_low l k (by omega)
            have q1 := (mid.p.cellAt (k / 64) (by omega)).trans (map_range_get _ (k / 64 + 1) (k / 64) (by omega))
            have q2 := mid.p.frozenAt (k / 64)
            obtain ⟨x0, x1, x2⟩ := bx3_bk mid.b
            have e1 := add_eq (word (l.take k) (k / 64)) k hlow
            have hres := Lib.hid (mid_one mid g2 g3)
            have HCS : Hid (cnt (l.take (k + 1)) = cnt (l.take k) + 1) := Lib.hid hcs
            have hcl := cnt_le (l.take k)
            have hcl2 : cnt (l.take k) ≤ k := by rw [List.length_take] at hcl; omega
            clear hcl
            obtain ⟨y, hy⟩ : ∃ y, word (l.take k) (k / 64) + 2 ^ (k % 64) = y := ⟨_, rfl⟩
            have hw64 : word (l.take k) (k / 64) < 18446744073709551616 := word_lt _ _
            rw [hy] at e1 hres
            clear hy hlow g3 hcs mid
            go_wp2_with fail
            go_roundw
            case rel => exact ⟨k + 1, _, A2, c1, c2, by omega, by go_num, by rw [HCS.out]; go_num, hres.out⟩
            case measure => simp [intOf]; omega
          · have g3' : nth l k = false := by simpa using g3
            rw [g3'] at p1 hcs
            have hst := word_step l k
            have hres := Lib.hid (mid_same mid (fun j => by rw [hst j g2, g3']; split <;> simp))
            have HCS : Hid (cnt (l.take (k + 1)) = cnt (l.take k)) := Lib.hid (by simpa using hcs)
            clear g3 g3' hcs hst mid
            go_wp2_with fail
            go_roundw
            case rel => exact ⟨k + 1, _, A2, c1, c2, by omega, by go_num, by rw [HCS.out], hres.out⟩
            case measure => simp [intOf]; omega
        · have hkl : k = l.length := by omega
          have hres := mid_same mid (fun j => by rw [hkl]; exact word_over l j)
          have hcs : cnt (l.take (k + 1)) = cnt (l.take k) := by rw [hkl, List.take_of_length_le (by omega), List.take_length]
          have HCS := Lib.hid hcs; have HRES := Lib.hid hres
          have HKL := Lib.hid hkl
          have g2' : decide ((k : Int) < l.length) = false := by simp; omega
          clear hcs hres hkl mid
          go_wp2_with fail
          go_roundw
          case rel => exact ⟨k + 1, _, A2, c1, c2, by have := HKL.out; omega, by go_num, by rw [HCS.out], HRES.out⟩
          case measure => simp [intOf]; have := HKL.out; omega
    · have hkl : k = l.length + 1 := by omega
      subst hkl
      obtain ⟨p, a, b, z, x⟩ := rel
      have hn : (l.length + 1 + 63) / 64 = l.length / 64 + 1 := by omega
      unfold pw at p; unfold aw at a
      rw [hn] at p a b
      rw [List.take_of_length_le (by omega : l.length ≤ l.length + 1)] at p
      have HP := Lib.hid p; have HA := Lib.hid a; have HB := Lib.hid b; have HZ := Lib.hid z; have HX := Lib.hid x
      obtain ⟨x0, x1, x2⟩ := bx3_bk b
      obtain ⟨y0, y1, y2⟩ := bx3_bk z
      have f0 := z.frozen 0
      have f1 := z.frozen 1
      have f2 := z.frozen 2
      clear p a b z x
      go_wp2_with fail
      clear x0 x1 x2 y0 y1 y2 f0 f1 f2
      have hneP : (Value.slice A1 (l.length / 64 + 1) c1).ownBlock ≠ some w.heap.size := fun e => Bk.own_ne HP.out HZ.out (by decide) e.symm
      have hneA : (Value.slice A2 (l.length / 64 + 1) c2).ownBlock ≠ some w.heap.size := fun e => Bk.own_ne HA.out HZ.out (by decide) e.symm
      have r3 := own_far (p := ⟨w.heap.size, 2, none⟩) (own_far (p := ⟨w.heap.size, 1, none⟩) (own_far (p := ⟨w.heap.size, 0, none⟩) HP.out hneP (Value.int IntKind.i64 ↑l.length)) hneP (.slice A1 (l.length / 64 + 1) c1)) hneP (.slice A2 (l.length / 64 + 1) c2)
      have s3 := own_far (p := ⟨w.heap.size, 2, none⟩) (own_far (p := ⟨w.heap.size, 1, none⟩) (own_far (p := ⟨w.heap.size, 0, none⟩) HA.out hneA (Value.int IntKind.i64 ↑l.length)) hneA (.slice A1 (l.length / 64 + 1) c1)) hneA (.slice A2 (l.length / 64 + 1) c2)
      have hsz : w.heap.size ≤ w.heap.size := Nat.le_refl _
      have hxF := ((HX.out.setCell (p := ⟨w.heap.size, 0, none⟩) hsz (Value.int IntKind.i64 ↑l.length)).setCell (p := ⟨w.heap.size, 1, none⟩) hsz (.slice A1 (l.length / 64 + 1) c1)).setCell (p := ⟨w.heap.size, 2, none⟩) hsz (.slice A2 (l.length / 64 + 1) c2)
      have bF := (((HZ.out.set 0 (Value.int IntKind.i64 ↑l.length)).set 1 (.slice A1 (l.length / 64 + 1) c1)).set 2 (.slice A2 (l.length / 64 + 1) c2))
      have rdP := r3
      rw [map_range_congr (g := fun j => Value.int .u64 (nth (bitsOf l).P j : Nat)) (fun j hj => by rw [bitsOf_P_at l j (by omega)])] at rdP
      have rdA := s3
      rw [map_range_congr (g := fun j => Value.int .i64 (nth (bitsOf l).A j)) (fun j hj => by rw [bitsOf_A_at l j (by omega), psum_words l j (by omega)])] at rdA
      generalize ((wr.setCell _ _).setCell _ _).setCell _ _ = wF at *
      obtain ⟨z0, z1, z2⟩ := bx3_bk bF
      refine bodyPost_ret (v := .agg #[.int .i64 (l.length : Nat), .slice A1 (l.length / 64 + 1) c1, .slice A2 (l.length / 64 + 1) c2]) (by simp [results, Try.results66, go_sem, z0, z1, z2]) rfl ?_
      refine ⟨A1, c1, A2, c2, ?_, ⟨?_, ?_⟩, hxF⟩
      · rw [bitsOf_P_length, bitsOf_A_length]; rfl
      · rw [bitsOf_P_length]; exact rdP
      · rw [bitsOf_A_length]; exact rdA
theorem bitsOf_calls (l : List Bool) (A : Option Addr) (c : Nat) (w : World) (hl : l.length ≤ 17592186044416) (hr : Rd w A l.length (fun k => .bool (nth l k))) :
    Calls Try.prog 66 #[.slice A l.length c] w (RetBits (bitsOf l) w) :=
  (bitsOf_callsO l A c w hl hr).mono fun _ _ ⟨A1, c1, A2, c2, he, ho, hx⟩ => ⟨A1, c1, A2, c2, he, ho.rd, hx⟩
end Go.Proofs.Ytjfdlibceldanab
