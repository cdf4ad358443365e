/- slices.Sort, Compact and BinarySearch at words: contracts. -/
import Derived.Test.YtjfdlibceldanabDoorTxtC
namespace Go.Proofs.YtjfdlibceldanabDoor
open Go.RowKit Go.Sort Tx

theorem own_holdsS {w : World} {base g c : Nat} {ws : List (List UInt8)} (h : w.ownsRow base 9 1 (.slice (some ⟨g, 0, none⟩) ws.length c) ws.length (ws.map str)) : Holds encStr w g 0 ws.toArray := fun j hj => by
  have hj' : j < ws.length := by simpa using hj
  rw [Nat.zero_add]
  refine ⟨?_, h.frozenAt j⟩
  rw [h.cellAt j (by omega)]
  simp [hj', getElem!_pos]
theorem own_sortedS {w w' : World} {base g c m : Nat} {ds : List (List UInt8)} {D : Array (List UInt8)} {os : Array Obj} (h : w.ownsRow base 9 1 (.slice (some ⟨g, 0, none⟩) ds.length c) ds.length (ds.map str)) (hD : D.size = ds.length) (hw : w' = Sort.grow (putRow encStr (Sort.ahead w m) g 0 D) os) :
    w'.ownsRow base 9 1 (.slice (some ⟨g, 0, none⟩) ds.length c) ds.length (D.toList.map str) ∧ w.grownBy w' (some g) := by
  subst hw
  have hg0 : g < w.heap.size := (own_row_ge h g rfl).2
  have hblk : ∀ k, k < w.heap.size → (Sort.grow (putRow encStr (Sort.ahead w m) g 0 D) os).heap[k]? = (putRow encStr w g 0 D).heap[k]? := fun k hk => by
    unfold Sort.grow
    show ((putRow encStr w g 0 D).heap ++ os)[k]? = _
    rw [Array.getElem?_append_left]
    simpa [putRow, mapBlock] using hk
  constructor
  · refine ⟨by simp [hD], .inr ?_⟩
    rcases h.2 with ⟨h', _⟩ | ⟨g', cap', cur, h', hb, hg, hnc, hcm, hcs, htake⟩
    · simp at h'
    · simp only [Value.slice.injEq, Option.some.injEq, Addr.mk.injEq, and_true, true_and] at h'
      obtain ⟨rfl, rfl⟩ := h'
      refine ⟨g, c, putCells encStr 0 D cur, rfl, hb, ?_, hnc, hcm, ?_, ?_⟩
      · rw [hblk g hg0]
        show (w.heap.modify g (onCells (putCells encStr 0 D)))[g]? = _
        rw [Array.getElem?_modify, if_pos rfl, hg]; rfl
      · simp [putCells, hcs]
      · apply List.ext_getElem
        · simp [putCells, hD]; omega
        · intro k h1 h2
          have hk : k < D.size := by simpa using h2
          simp [putCells, hk, getElem!_pos]
  · refine ⟨rfl, rfl, rfl, ?_, fun k hk hne => ?_⟩
    · unfold Sort.grow
      simp [putRow, mapBlock]
    · rw [hblk k hk]
      show (mapBlock w g (putCells encStr 0 D)).heap[k]? = _
      have : g ≠ k := fun e => hne (by rw [e])
      simp [mapBlock, Array.getElem?_modify, this]
theorem own_take {w : World} {base : Nat} {e : TypeId} {g c n m : Nat} {xs : List Value} (h : w.ownsRow base e 1 (.slice (some ⟨g, 0, none⟩) n c) n xs) (hm : m ≤ n) : w.ownsRow base e 1 (.slice (some ⟨g, 0, none⟩) m c) m (xs.take m) := by
  obtain ⟨h1, h2⟩ := h
  refine ⟨by simp; omega, .inr ?_⟩
  rcases h2 with ⟨h', _⟩ | ⟨g', cap', cur, h', hb, hg, hnc, hcm, hcs, htake⟩
  · simp at h'
  · simp only [Value.slice.injEq, Option.some.injEq, Addr.mk.injEq, and_true, true_and] at h'
    obtain ⟨rfl, rfl⟩ := h'
    refine ⟨g, c, cur, rfl, hb, hg, by omega, hcm, hcs, ?_⟩
    rw [← htake, List.take_take]
    congr 1
    omega
theorem info_intT : (Tryd.prog.info? 3).map (fun i => (i.zero, i.size, i.bytes)) = some (some (.int .i64 0), 1, 8) := by kernel_rfl
theorem rdN_own {w : World} {base : Nat} {e : TypeId} {A : Option Addr} {c : Nat} {xs : List Nat} (h : w.ownsRow base e 1 (.slice A xs.length c) xs.length (xs.map fun x => Value.int .i64 (x : Nat))) : Rd w A xs.length (fun k => .int .i64 (nth xs k : Nat)) :=
  (Rd.of_own (d := default) h).congr fun k hk => by rw [List.getElem?_map, List.getElem?_eq_getElem hk, nth_lt hk]; rfl
theorem own_noneT {w : World} {base : Nat} {e : TypeId} {size n : Nat} {A : Option Addr} {c : Nat} {xs : List Value} (h : w.ownsRow base e size (.slice A n c) n xs) : A = none → c = 0 := fun hA => by
  rcases h.2 with ⟨hv, _⟩ | ⟨g, cap, cur, hv, _⟩
  · injection hv
  · subst hA; simp at hv
theorem grown_refl (w : World) (row : Option Nat) : w.grownBy w row := ⟨rfl, rfl, rfl, Nat.le_refl _, fun _ _ _ => rfl⟩
theorem own_cases {w : World} {base : Nat} {e : TypeId} {v : Value} {n : Nat} {xs : List Value} (h : w.ownsRow base e 1 v n xs) : (v = .slice none 0 0 ∧ n = 0) ∨ ∃ g c, v = .slice (some ⟨g, 0, none⟩) n c ∧ n ≤ c := by
  rcases h.2 with h | ⟨g, cap, cur, rfl, _, _, hnc, _⟩
  · exact Or.inl h
  · exact Or.inr ⟨g, cap, rfl, hnc⟩

theorem sortS_calls {w : World} {base : Nat} {v : Value} {ws : List (List UInt8)} (h : w.ownsRow base 9 1 v ws.length (ws.map str)) (hl : ws.length ≤ 1000000) :
    Calls Tryd.prog 22 #[v] w fun e w' => e = .returned (.tuple #[]) ∧ w'.ownsRow base 9 1 v ws.length ((ws.mergeSort fun x y => decide (x ≤ y)).map str) ∧ w.grownBy w' v.ownBlock := by
  rcases own_cases h with ⟨rfl, hn⟩ | ⟨g, c, rfl, hc⟩
  · obtain rfl : ws = [] := List.length_eq_zero_iff.1 hn
    refine (Tryd.slices_Sort_string_none none 0 w).mono ?_
    rintro e w' ⟨rfl, rfl⟩
    exact ⟨rfl, by simpa using h, grown_refl _ _⟩
  · have hg0 : g < w.heap.size := (own_row_ge h g rfl).2
    refine (Tryd.slices_Sort_string g 0 c ws w (own_holdsS h) hg0 (by omega)).mono ?_
    rintro e w' ⟨rfl, n, os, hw⟩
    obtain ⟨h1, h2⟩ := own_sortedS (D := (ws.mergeSort fun x y => decide (x ≤ y)).toArray) (m := n) (os := os) h (by simp) hw
    exact ⟨rfl, h1, h2⟩
theorem compact_le (zs : List (List UInt8)) : (Lib.compact zs).length ≤ zs.length := by
  unfold Lib.compact Lib.compactUpTo
  rw [List.length_map]
  have := List.length_filter_le (Lib.keeps zs.toArray) (List.range zs.length)
  rwa [List.length_range] at this
theorem compactS_calls {w : World} {base : Nat} {v : Value} {ws : List (List UInt8)} (h : w.ownsRow base 9 1 v ws.length (ws.map str)) (hl : ws.length ≤ 1000000) :
    Calls Tryd.prog 23 #[v] w fun e w' => ∃ v', e = .returned v' ∧ w'.ownsRow base 9 1 v' (Lib.compact ws).length ((Lib.compact ws).map str) ∧ w.grownBy w' v.ownBlock := by
  rcases own_cases h with ⟨rfl, hn⟩ | ⟨g, c, rfl, hc⟩
  · obtain rfl : ws = [] := List.length_eq_zero_iff.1 hn
    refine (Tryd.slices_Compact_string_empty none 0 w).mono ?_
    rintro e w' ⟨rfl, rfl⟩
    exact ⟨_, rfl, h, grown_refl _ _⟩
  · refine (Tryd.slices_Compact_string g 0 c ws w (own_holdsS h) (by omega) hc).mono ?_
    rintro e w' ⟨rfl, q, hw⟩
    have hcl := compact_le ws
    obtain ⟨h1, h2⟩ := own_sortedS (D := (Lib.compact ws ++ List.replicate (ws.length - (Lib.compact ws).length) []).toArray) (w' := w') (m := q) (os := #[]) h (by simp; omega) (by rw [hw, grow_empty])
    refine ⟨_, rfl, ?_, h2⟩
    have h3 := own_take h1 hcl
    simpa using h3
theorem searchS_calls (W : List (List UInt8)) (hW : W.Pairwise fun x y => x < y) (x : List UInt8) (A : Option Addr) (c : Nat) (w : World) (hl : W.length ≤ 1000000) (hr : RdS w A W) :
    Calls Tryd.prog 24 #[.slice A W.length c, str x] w fun e w' => e = .returned (.tuple #[.int .i64 (num W x : Nat), .bool (decide (x ∈ W))]) ∧ Ext w w' := by
  by_cases h0 : W.length = 0
  · obtain rfl : W = [] := List.length_eq_zero_iff.1 h0
    refine (Any2.slices_BinarySearch_string_empty Tryd.laysNm226 A c ⟨x.toArray⟩ w).mono ?_
    rintro e w' ⟨rfl, rfl⟩
    exact ⟨rfl, Ext.refl _⟩
  · obtain ⟨b, o, rfl, hb, hc⟩ := hr (by omega)
    have hnl := num_le W x
    have key : Lib.bsGo (fun t => Op.bytesLess ((if t < W.length then (⟨(nth W t).toArray⟩ : ByteArray) else ⟨x.toArray⟩)).toList (ByteArray.mk x.toArray).toList) W.length 0 W.length = num W x := by
      refine Lib.bsGo_spec _ (num W x) (fun t ht => ?_) (fun t ht => ?_) _ _ _ (by omega) (Nat.zero_le _) hnl
      · have htl : t < W.length := by omega
        have := (num_below hW x t htl).1 ht
        rw [if_pos htl, Lib.toList_data, Lib.toList_data, bytesLess_eq]
        rw [nth_lt htl]
        exact decide_eq_true this
      · by_cases htl : t < W.length
        · have : ¬ W[t] < x := fun q => by have := (num_below hW x t htl).2 q; omega
          rw [if_pos htl, Lib.toList_data, Lib.toList_data, bytesLess_eq, nth_lt htl]
          exact decide_eq_false this
        · rw [if_neg htl, bytesLess_eq]
          exact decide_eq_false (List.lt_irrefl _)
    have h := Any2.slices_BinarySearch_string Tryd.laysNm226 b o W.length c (fun t => if t < W.length then ⟨(nth W t).toArray⟩ else ⟨x.toArray⟩) ⟨x.toArray⟩ w (by omega) (fun j hj => by rw [hc j hj]; simp [hj])
    rw [key] at h
    have hd : decide (num W x < W.length ∧ (if num W x < W.length then (⟨(nth W (num W x)).toArray⟩ : ByteArray) else ⟨x.toArray⟩) = ⟨x.toArray⟩) = decide (x ∈ W) := by
      apply decide_eq_decide.2
      rw [num_found hW]
      constructor
      · rintro ⟨h1, h2⟩
        rw [if_pos h1] at h2
        refine ⟨h1, ?_⟩
        have := congrArg (fun b : ByteArray => b.data.toList) h2
        simpa [nth_lt h1] using this
      · rintro ⟨h1, h2⟩
        exact ⟨h1, by rw [if_pos h1, nth_lt h1, h2]⟩
    rw [hd] at h
    refine h.mono ?_
    rintro e w' ⟨rfl, q, rfl⟩
    exact ⟨rfl, (Ext.refl w).drewN q⟩
end Go.Proofs.YtjfdlibceldanabDoor
