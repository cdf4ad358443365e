/- The document's own stands, PlacesOf, rising, BeforesOf, BehindsOf: walks. The document's own BeforesOf and BehindsOf: walks. -/
import Derived.Test.YtjfdlibceldanabGreatDoorGuBeh
import Derived.Test.YtjfdlibceldanabGreatDoorSortB
import Derived.Test.YtjfdlibceldanabGreatDoorGuP
/-! The document's own stands, PlacesOf, rising, BeforesOf, BehindsOf: walks. -/
namespace Go.Proofs.YtjfdlibceldanabGreatDoor
open Go.RowKit Go.Sort En Wv Gu Ri

set_option maxHeartbeats 4000000 in
set_option maxRecDepth 100000 in
theorem rstands_calls (l s : List Int) (A P : Option Addr) (c p a : Nat) (ha : a < l.length) (hl : l.length ≤ 1000000) (hsl : s.length ≤ 1000000000) (w : World) (hr : Rd w A l.length (fun k => .int .i64 (nth l k))) (hs : Rd w P s.length (fun k => .int .i64 (nth s k))) :
    Calls Tryz.prog 39 #[.slice A l.length c, .slice P s.length p, .int .i64 a] w fun e w' => e = .returned (.bool (stB l s a)) ∧ w' = w := by
  have hst := stB_iff l s a
  rw [show max a l.length = l.length from by omega] at hst
  obtain ⟨q, hq⟩ : ∃ q, stB l s a = q := ⟨_, rfl⟩
  rw [hq] at hst ⊢
  obtain ⟨n, hn⟩ : ∃ n, l.length = n := ⟨_, rfl⟩
  obtain ⟨L, hL⟩ : ∃ L, s.length = L := ⟨_, rfl⟩
  rw [hn] at hr ha hl hst ⊢
  rw [hL] at hs hsl hst ⊢
  have HR := Lib.hid hr; have HS := Lib.hid hs; have HQ := Lib.hid hst
  clear hr hs hst hq hn hL
  have hw1 : IntKind.i64.wrap ((a : Int) + L) = (a : Int) + L := IntWalk.i64_in _ (by omega)
  by_cases h : n < a + L
  · have h' : decide ((n : Int) < (a : Int) + L) = true := by simp; omega
    obtain rfl : q = false := by
      cases q with
      | false => rfl
      | true => have := (HQ.out.1 rfl).1; omega
    clear HQ
    go_enter Tryz.func39, Tryz.ntmps39
    go_wp2_with fail
    go_ret
    exact ⟨rfl, rfl⟩
  · have h' : decide ((n : Int) < (a : Int) + L) = false := by simp; omega
    go_enter Tryz.func39, Tryz.ntmps39
    go_wp2_with fail
    go_loopw [18] (fun vi wr => ∃ k : Nat, vi = .int .i64 k ∧ k ≤ L ∧ Hid (∀ j, j < k → nth l (a + j) = nth s j) ∧ wr = w) (fun vi _ => L - (intOf vi).toNat)
    case atStart => exact ⟨0, rfl, Nat.zero_le _, fun j hj => absurd hj (Nat.not_lt_zero _), rfl⟩
    case round => as_aux_lemma =>
      obtain ⟨k, rfl, hk, HJ, rfl⟩ := hrel
      by_cases g : k < L
      · obtain ⟨b1, o1, rfl, hb1, hc1⟩ := HR.out (by omega)
        obtain ⟨b2, o2, rfl, hb2, hc2⟩ := HS.out (by omega)
        have p1 := hc1 (a + k) (by omega)
        have p2 := hc2 k g
        dsimp only at p1 p2
        obtain ⟨ak, hak⟩ : ∃ ak, a + k = ak := ⟨_, rfl⟩
        have hw2 : IntKind.i64.wrap ((a : Int) + k) = (ak : Int) := by rw [IntWalk.i64_in _ (by omega)]; omega
        have hakn : ak < n := by omega
        have HAK := Lib.hid hak
        rw [hak] at p1
        obtain ⟨x, hx⟩ : ∃ x, nth l ak = x := ⟨_, rfl⟩
        obtain ⟨y, hy⟩ : ∃ y, nth s k = y := ⟨_, rfl⟩
        rw [hx] at p1
        rw [hy] at p2
        have HX := Lib.hid hx; have HY := Lib.hid hy
        clear hc1 hc2 hx hy hak
        by_cases ge : x = y
        · have ge' : (x != y) = false := by simp [ge]
          have HJ2 : Hid (∀ j, j < k + 1 → nth l (a + j) = nth s j) := fun j hj => by
            by_cases e : j = k
            · subst e; rw [HAK.out, HX.out, HY.out, ge]
            · exact HJ.out j (by omega)
          clear ge HJ HQ
          go_wp2_with fail
          refine ⟨⟨k + 1, by go_num, by omega, HJ2, by first | trivial | rfl⟩, by simp [intOf]; omega⟩
        · have ge' : (x != y) = true := by simp [ge]
          obtain rfl : q = false := by
            cases q with
            | false => rfl
            | true => exact absurd ((HQ.out.1 rfl).2 k g) (by rw [HAK.out, HX.out, HY.out]; exact ge)
          clear ge HJ HQ
          go_wp2_with fail
          go_ret
          exact ⟨rfl, rfl⟩
      · obtain rfl : k = L := by omega
        obtain rfl : q = true := HQ.out.2 ⟨by omega, HJ.out⟩
        clear HJ HQ
        go_wp2_with fail
        go_ret
        exact ⟨rfl, rfl⟩
/-- The places among the first. -/
def plI (l s : List Int) (i : Nat) : List Nat := (List.range i).filter (stB l s)
theorem plI_succ (l s : List Int) (i : Nat) : plI l s (i + 1) = if stB l s i = true then plI l s i ++ [i] else plI l s i := by
  unfold plI
  rw [List.range_succ, List.filter_append, List.filter_cons, List.filter_nil]
  split <;> simp
theorem plI_le (l s : List Int) (i : Nat) : (plI l s i).length ≤ i := by
  unfold plI
  have := List.length_filter_le (stB l s) (List.range i)
  rwa [List.length_range] at this
set_option maxHeartbeats 4000000 in
set_option maxRecDepth 100000 in
theorem rplaces_calls (l s : List Int) (A P : Option Addr) (c p : Nat) (hl : l.length ≤ 1000000) (hsl : s.length ≤ 1000000000) (w : World) (hr : Rd w A l.length (fun k => .int .i64 (nth l k))) (hs : Rd w P s.length (fun k => .int .i64 (nth s k))) :
    Calls Tryz.prog 20 #[.slice A l.length c, .slice P s.length p] w (RetInts (places l s) w) := by
  obtain ⟨ii, hi, hj0, hj1, hj2⟩ := info_parts info_int
  have cs := fun a ha w hr hs => rstands_calls l s A P c p a ha hl hsl w hr hs
  have hpl : places l s = plI l s l.length := rfl
  have hsu := plI_succ l s; have hle := plI_le l s
  rw [hpl]
  obtain ⟨n, hn⟩ : ∃ n, l.length = n := ⟨_, rfl⟩
  rw [hn] at cs hl hr ⊢
  have CS := Lib.hid cs; have HR := Lib.hid hr; have HS := Lib.hid hs; have HSU := Lib.hid hsu; have HLE := Lib.hid hle
  clear cs hr hs hsu hle hpl hn
  go_enter Tryz.func20, Tryz.ntmps20
  go_wp2_with fail
  go_loopw [9, 5] (fun vi v5 wr => ∃ i : Nat, vi = .int .i64 i ∧ i ≤ n ∧ Hid (wr.ownsRow w.heap.size 3 1 v5 (plI l s i).length ((plI l s i).map fun x => Value.int .i64 (x : Nat))) ∧ Ext w wr) (fun vi _ _ => n - (intOf vi).toNat)
  case atStart => exact ⟨0, rfl, Nat.zero_le _, own_nil _ _ _ _, Ext.refl _⟩
  case round => as_aux_lemma =>
    obtain ⟨i, rfl, hi', HO, hxr⟩ := hrel
    by_cases g : i < n
    · have cs := CS.out i g wr (HR.out.ext hxr) (HS.out.ext hxr)
      have hsu := HSU.out i
      have hle := HLE.out i
      obtain ⟨q, hq⟩ : ∃ q, stB l s i = q := ⟨_, rfl⟩
      rw [hq] at cs hsu
      have HSi := Lib.hid hsu
      have hsz := hxr.size
      clear hsu hq
      go_wp2_with fail
      with_reducible refine cs.mono ?_
      rintro e w2 ⟨rfl, rfl⟩
      cases q with
      | true =>
        have hs1 : plI l s (i + 1) = plI l s i ++ [i] := by rw [HSi.out, if_pos rfl]
        have HS1 := Lib.hid hs1
        clear hs1 HSi cs
        go_wp2_with (at_builtin; refine wpList_app1 (by rfl) _ _ 24 rfl w.heap.size 3 ii (.int .i64 0) 8 Tryz.underlying24 hi hj0 hj1 hj2 rfl _ (plI l s i).length _ rfl w2 (.int .i64 i) 3 rfl HO.out rfl rfl ?d1 ?d2 hsz ?_)
        case d1 => omega
        case d2 => omega
        intro gb cap w5 own5 hgr5
        have hx5 := hxr.grown hgr5 (fun k hk => (own_row_ge HO.out k hk).1)
        have HO5 : Hid (w5.ownsRow w.heap.size 3 1 (.slice (some ⟨gb, 0, none⟩) ((plI l s i).length + 1) cap) (plI l s (i + 1)).length ((plI l s (i + 1)).map fun x => Value.int .i64 (x : Nat))) := by
          show World.ownsRow _ _ _ _ _ _ _
          rw [HS1.out, List.length_append, List.map_append]; exact own5
        clear own5 hgr5 HO
        go_wp2_with fail
        refine ⟨⟨i + 1, by go_num, by omega, HO5, hx5⟩, by simp [intOf]; omega⟩
      | false =>
        have hs1 : plI l s (i + 1) = plI l s i := by rw [HSi.out, if_neg (by decide)]
        have HO2 := HO.out
        rw [← hs1] at HO2
        have HO5 := Lib.hid HO2
        clear hs1 HSi HO HO2 cs
        go_wp2_with fail
        refine ⟨⟨i + 1, by go_num, by omega, HO5, hxr⟩, by simp [intOf]; omega⟩
    · obtain rfl : i = n := by omega
      obtain ⟨Q, q, rfl⟩ := own_form HO.out
      go_wp2_with fail
      go_ret
      exact ⟨Q, q, rfl, own_noneG HO.out, rd_ints HO.out, hxr⟩

/-! ### Rising -/
theorem insZ_nth {e : List Int} {k j : Nat} {x : Int} (h : k ≤ e.length) (hj : j < k) : nth (e.take k ++ x :: e.drop k) j = nth e j := by
  unfold nth
  rw [List.getElem?_append_left (by rw [List.length_take]; omega), List.getElem?_take_of_lt hj]
theorem insZ_set {e : List Int} {k : Nat} {x y : Int} (h : k ≤ e.length) : (e.take k ++ x :: e.drop k).set k y = e.take k ++ y :: e.drop k := by
  rw [List.set_append_right _ _ (by rw [List.length_take]; omega), List.length_take, show k - min k e.length = 0 from by omega, List.set_cons_zero]
theorem insZ_shift {e : List Int} {k : Nat} (h : k + 1 ≤ e.length) : e.take (k + 1) ++ nth e k :: e.drop (k + 1) = e.take k ++ nth e k :: e.drop k := by
  rw [List.take_add_one, List.getElem?_eq_getElem (by omega), Option.toList_some, nth_lt (by omega), List.append_assoc, List.drop_eq_getElem_cons (show k < e.length by omega)]
  rfl
/-- A row of numbers, answered. -/
def RetZs (xs : List Int) (w : World) (e : Ending) (w' : World) : Prop :=
  ∃ (A : Option Addr) (c : Nat), e = .returned (.slice A xs.length c) ∧ (A = none → c = 0) ∧ Rd w' A xs.length (fun j => .int .i64 (nth xs j)) ∧ Ext w w'
set_option maxHeartbeats 8000000 in
set_option maxRecDepth 100000 in
theorem rrise_calls (l : List Int) (A : Option Addr) (c : Nat) (w : World) (hl : l.length ≤ 1000000) (hr : Rd w A l.length (fun k => .int .i64 (nth l k))) :
    Calls Tryz.prog 99 #[.slice A l.length c] w (RetZs (rise l) w) := by
  obtain ⟨ii, hi, hj0, hj1, hj2⟩ := info_parts info_int
  have hrl := fun i => rise_length (l.take i)
  have hkn := fun i (h : nth l i ∈ rise (l.take i)) => rise_known h
  have hnw := fun i k (hk : k ≤ (rise (l.take i)).length) h1 h2 => rise_new (l := l.take i) (n := nth l i) hk h1 h2
  have htk := fun i (hi : i < l.length) => show l.take i ++ [nth l i] = l.take (i + 1) from by rw [List.take_add_one, List.getElem?_eq_getElem hi, nth_lt hi]; rfl
  have hend : rise (l.take l.length) = rise l := by rw [List.take_length]
  have hup := fun i => rise_up (l.take i)
  obtain ⟨n, hn⟩ : ∃ n, l.length = n := ⟨_, rfl⟩
  rw [hn] at hl hr htk hend ⊢
  have HR := Lib.hid hr; have HRL := Lib.hid hrl; have HKN := Lib.hid hkn; have HNW := Lib.hid hnw; have HTK := Lib.hid htk; have HEND := Lib.hid hend; have HLN := Lib.hid hn
  clear hr hrl hkn hnw htk hend hn hup
  go_enter Tryz.func99, Tryz.ntmps99
  go_wp2_with fail
  go_loopw [12, 3] (fun vi vo wr => ∃ (i : Nat) (B : Option Addr) (d L : Nat), vi = .int .i64 i ∧ i ≤ n ∧ vo = .slice B L d ∧ Hid ((rise (l.take i)).length = L) ∧ Hid (wr.ownsRow w.heap.size 3 1 (.slice B L d) L ((rise (l.take i)).map (Value.int .i64))) ∧ Ext w wr) (fun vi _ _ => n - (intOf vi).toNat)
  case atStart => exact ⟨0, none, 0, 0, rfl, by omega, rfl, rfl, own_nil .., Ext.refl _⟩
  case round => as_aux_lemma =>
    obtain ⟨i, B, d, L, rfl, hi', rfl, HL, HO, hx⟩ := hrel
    by_cases g1 : i < n
    · obtain ⟨b1, o1, hAA, hb1, hc1⟩ := (HR.out.ext hx) (by omega)
      subst hAA
      have p1 := hc1 i g1
      dsimp only at p1
      have hLi : L ≤ 1000000 := by
        have h1 := HRL.out i
        have h2 := HL.out
        rw [List.length_take] at h1
        omega
      have hkn := HKN.out i
      have hnw := HNW.out i
      have htk := HTK.out i g1
      rw [htk] at hkn
      obtain ⟨x, hxx⟩ : ∃ x, nth l i = x := ⟨_, rfl⟩
      rw [hxx] at p1 hkn
      have hnw2 : ∀ k, k ≤ L → (∀ j, k ≤ j → j < L → x < nth (rise (l.take i)) j) → (k = 0 ∨ nth (rise (l.take i)) (k - 1) < x) → (rise (l.take i)).take k ++ x :: (rise (l.take i)).drop k = rise (l.take (i + 1)) := fun k hk h1 h2 => by
        rw [← htk, hxx]
        have := hnw k (by rw [HL.out]; exact hk) (fun j a b => by rw [hxx]; exact h1 j a (by rw [HL.out] at b; exact b)) (by rw [hxx]; exact h2)
        rw [hxx] at this
        exact this
      obtain ⟨o, ho⟩ : ∃ o, rise (l.take i) = o := ⟨_, rfl⟩
      rw [ho] at hkn hnw2 HL HO
      have HK := Lib.hid hkn; have HN := Lib.hid hnw2
      clear hc1 hkn hnw htk hxx hnw2 ho
      obtain ⟨wo, rfl⟩ : ∃ wo, wo = wr := ⟨_, rfl⟩
      go_wp2_with fail
      go_loopw [20, 7] (fun vi vk wr => ∃ j : Nat, vi = .int .i64 j ∧ j ≤ L ∧ vk = .bool ((o.take j).contains x) ∧ wr = wo) (fun vi _ _ => L - (intOf vi).toNat)
      case atStart => exact ⟨0, rfl, Nat.zero_le _, by simp, rfl⟩
      case round => as_aux_lemma =>
        obtain ⟨j, rfl, hj', rfl, hwr⟩ := hrel
        subst hwr
        by_cases g2 : j < L
        · have hrd : Rd wr B L (fun k => .int .i64 (nth o k)) := by
            have h1 : wr.ownsRow w.heap.size 3 1 (.slice B o.length d) o.length (o.map (Value.int .i64)) := by rw [HL.out]; exact HO.out
            have h2 := rdI_own h1
            rw [HL.out] at h2
            exact h2
          obtain ⟨b2, o2, hBB, hb2, hc2⟩ := hrd (by omega)
          subst hBB
          have p2 := hc2 j g2
          dsimp only at p2
          have htj : (o.take (j + 1)).contains x = ((o.take j).contains x || (nth o j == x)) := by
            have hj2 : j < o.length := by rw [HL.out]; exact g2
            rw [List.take_add_one, List.getElem?_eq_getElem hj2, Option.toList_some, ← nth_lt hj2, Bool.eq_iff_iff, List.contains_iff_mem, List.mem_append, List.mem_singleton, Bool.or_eq_true, List.contains_iff_mem, beq_iff_eq]
            constructor
            · rintro (h | h)
              · exact Or.inl h
              · exact Or.inr h.symm
            · rintro (h | h)
              · exact Or.inl h
              · exact Or.inr h.symm
          obtain ⟨y, hy⟩ : ∃ y, nth o j = y := ⟨_, rfl⟩
          rw [hy] at p2 htj
          have HTJ := Lib.hid htj
          clear hc2 hy htj
          obtain ⟨q, hq⟩ : ∃ q, (o.take j).contains x = q := ⟨_, rfl⟩
          have HQ := Lib.hid hq
          rw [hq]
          clear hq
          cases q with
          | true =>
            go_wp2_with fail
            refine ⟨⟨j + 1, by go_num, by omega, by rw [HTJ.out, HQ.out]; rfl, by first | trivial | rfl⟩, by simp [intOf]; omega⟩
          | false =>
            obtain ⟨q2, hq2⟩ : ∃ q2, (y == x) = q2 := ⟨_, rfl⟩
            have HQ2 := Lib.hid hq2
            go_wp2_with fail
            refine ⟨⟨j + 1, by go_num, by omega, by rw [HTJ.out, HQ.out, HQ2.out]; rfl, by first | trivial | rfl⟩, by simp [intOf]; omega⟩
        · obtain rfl : j = L := by omega
          have hoo : o.take j = o := List.take_of_length_le (by rw [HL.out]; exact Nat.le_refl _)
          rw [hoo]
          clear hoo
          obtain ⟨q, hq⟩ : ∃ q, o.contains x = q := ⟨_, rfl⟩
          have HQ := Lib.hid hq
          rw [hq]
          clear hq
          cases q with
          | true =>
            have hmem : x ∈ o := by have := HQ.out; rwa [List.contains_iff_mem] at this
            have e1 := HK.out hmem
            have HO2 := HO.out
            have HL2 := HL.out
            rw [← e1] at HO2 HL2
            have HO3 := Lib.hid HO2; have HL3 := Lib.hid HL2
            clear HO2 HL2 HO HL HQ hmem e1 HK HN
            go_wp2_with fail
            refine ⟨⟨i + 1, B, d, j, by go_num, by omega, rfl, HL3, HO3, hx⟩, by simp [intOf]; omega⟩
          | false =>
            have hnot : ∀ k, k < j → nth o k ≠ x := fun k hk e => by
              have hm : x ∈ o := by rw [← e]; exact nth_mem (by rw [HL.out]; exact hk)
              have := HQ.out
              rw [List.contains_iff_mem.2 hm] at this
              cases this
            have HNOT := Lib.hid hnot
            have hb := hx.size
            clear HQ hnot HK
            go_wp2_with (at_builtin; refine wpList_app1 (by rfl) _ _ 24 rfl w.heap.size 3 ii (.int .i64 0) 8 Tryz.underlying24 hi hj0 hj1 hj2 rfl _ j _ rfl wr (.int .i64 x) 3 rfl HO.out rfl rfl ?d1 ?d2 hb ?_)
            case d1 => omega
            case d2 => omega
            intro g cap w2 own2 hgr2
            have hx2 := hx.grown hgr2 (fun k hk => (own_row_ge HO.out k hk).1)
            have ho3 : w2.ownsRow w.heap.size 3 1 (.slice (some ⟨g, 0, none⟩) (j + 1) cap) (j + 1) ((o.take j ++ x :: o.drop j).map (Value.int .i64)) := by
              have e1 : o.take j = o := List.take_of_length_le (by rw [HL.out]; exact Nat.le_refl _)
              have e2 : o.drop j = [] := List.drop_eq_nil_of_le (by rw [HL.out]; exact Nat.le_refl _)
              rw [e1, e2, List.map_append]; exact own2
            have HO3 := Lib.hid ho3
            clear own2 hgr2 HO ho3
            go_wp2_with fail
            go_loopw [6] (fun vk wr => ∃ (k : Nat) (y : Int), vk = .int .i64 k ∧ k ≤ j ∧ Hid (wr.ownsRow w.heap.size 3 1 (.slice (some ⟨g, 0, none⟩) (j + 1) cap) (j + 1) ((o.take k ++ y :: o.drop k).map (Value.int .i64))) ∧ Hid (∀ t, k ≤ t → t < j → x < nth o t) ∧ Ext w wr) (fun vk _ => (intOf vk).toNat)
            case atStart => exact ⟨j, x, rfl, Nat.le_refl _, HO3, (fun t h1 h2 => absurd h2 (by omega)), hx2⟩
            case round => as_aux_lemma =>
              clear HO3 hx2
              obtain ⟨k, y, rfl, hk, HO, HA, hx3⟩ := hrel
              have hgb := (own_row_ge HO.out g rfl).1
              have hjL := HL.out
              by_cases g2 : k = 0
              · subst g2
                have q1 := own_at HO.out (i := 0) (by omega)
                have q2 := HO.out.frozenAt 0
                have e1 := HN.out 0 (Nat.zero_le _) HA.out (Or.inl rfl)
                have HO4 : Hid ((wr.setCell ⟨g, 0, none⟩ (.int .i64 x)).ownsRow w.heap.size 3 1 (.slice (some ⟨g, 0, none⟩) (j + 1) cap) (j + 1) ((rise (l.take (i + 1))).map (Value.int .i64))) := by
                  have := (HO.out.stored 0 (.int .i64 x)).1
                  rw [← List.map_set, insZ_set (by omega), e1] at this
                  exact this
                have HL4 : Hid ((rise (l.take (i + 1))).length = j + 1) := by
                  show _ = _
                  rw [← e1]; simp; omega
                have hx4 := hx3.setCell (p := ⟨g, 0, none⟩) hgb (.int .i64 x)
                clear HO HA e1 HN HL hjL
                go_wp2_with fail
                refine ⟨⟨i + 1, some ⟨g, 0, none⟩, cap, j + 1, by go_num, by omega, rfl, HL4, HO4, hx4⟩, by simp [intOf]; omega⟩
              · obtain ⟨k1, rfl⟩ : ∃ k1, k = k1 + 1 := ⟨k - 1, by omega⟩
                have hk2 : ((k1 + 1 : Nat) : Int) - 1 = (k1 : Int) := by omega
                have hke : k1 + 1 ≤ o.length := by omega
                have q1 := own_at HO.out (i := k1) (by omega)
                rw [insZ_nth hke (by omega)] at q1
                have hin := insZ_shift hke
                have hst := fun z => insZ_set (x := y) (y := z) hke
                have hne := HNOT.out k1 (by omega)
                obtain ⟨z, hz⟩ : ∃ z, nth o k1 = z := ⟨_, rfl⟩
                rw [hz] at q1 hin hne
                have HZ := Lib.hid hz; have HST := Lib.hid hst; have HIN := Lib.hid hin
                have q2 := HO.out.frozenAt (k1 + 1)
                have q3 := own_at HO.out (i := k1 + 1) (by omega)
                clear hz hst hin
                by_cases gx : x < z
                · have gx' : decide (x < z) = true := decide_eq_true gx
                  have HO4 : Hid ((wr.setCell ⟨g, k1 + 1, none⟩ (.int .i64 z)).ownsRow w.heap.size 3 1 (.slice (some ⟨g, 0, none⟩) (j + 1) cap) (j + 1) ((o.take k1 ++ z :: o.drop k1).map (Value.int .i64))) := by
                    have := (HO.out.stored (k1 + 1) (.int .i64 z)).1
                    rw [← List.map_set, HST.out z, HIN.out] at this
                    exact this
                  have HA4 : Hid (∀ t, k1 ≤ t → t < j → x < nth o t) := fun t h1 h2 => by
                    by_cases ej : t = k1
                    · subst ej; rw [HZ.out]; exact gx
                    · exact HA.out t (by omega) h2
                  have hx4 := hx3.setCell (p := ⟨g, k1 + 1, none⟩) hgb (.int .i64 z)
                  clear HO HA gx hne HN HL hjL HNOT
                  go_wp2_with fail
                  refine ⟨⟨k1, z, rfl, by omega, HO4, HA4, hx4⟩, by simp [intOf]⟩
                · have gx' : decide (x < z) = false := decide_eq_false gx
                  have e1 := HN.out (k1 + 1) hk HA.out (Or.inr (by rw [Nat.add_sub_cancel, HZ.out]; omega))
                  have HO4 : Hid ((wr.setCell ⟨g, k1 + 1, none⟩ (.int .i64 x)).ownsRow w.heap.size 3 1 (.slice (some ⟨g, 0, none⟩) (j + 1) cap) (j + 1) ((rise (l.take (i + 1))).map (Value.int .i64))) := by
                    have := (HO.out.stored (k1 + 1) (.int .i64 x)).1
                    rw [← List.map_set, HST.out x, e1] at this
                    exact this
                  have HL4 : Hid ((rise (l.take (i + 1))).length = j + 1) := by
                    show _ = _
                    rw [← e1]; simp; omega
                  have hx4 := hx3.setCell (p := ⟨g, k1 + 1, none⟩) hgb (.int .i64 x)
                  clear HO HA gx hne HN HL hjL HNOT e1
                  go_wp2_with fail
                  refine ⟨⟨i + 1, some ⟨g, 0, none⟩, cap, j + 1, by go_num, by omega, rfl, HL4, HO4, hx4⟩, by simp [intOf]; omega⟩
    · obtain rfl : i = n := by omega
      have HO2 := HO.out
      have HL2 := HL.out
      rw [HEND.out] at HO2 HL2
      clear HO HL
      subst HL2
      go_wp2_with fail
      go_ret
      exact ⟨B, d, rfl, own_noneG HO2, rdI_own HO2, hx⟩
end Go.Proofs.YtjfdlibceldanabGreatDoor

/-! The document's own BeforesOf and BehindsOf: walks. -/
namespace Go.Proofs.YtjfdlibceldanabGreatDoor
open Go.RowKit Go.Sort En Wv Gu Ri

/-- The signs behind the first places. -/
def bhI (l s : List Int) (i : Nat) : List Int := (((places l s).take i).filter fun a => decide (a + s.length < l.length)).map fun a => nth l (a + s.length)
theorem bhI_succ (l s : List Int) {i : Nat} (h : i < (places l s).length) : bhI l s (i + 1) = if nth (places l s) i + s.length < l.length then bhI l s i ++ [nth l (nth (places l s) i + s.length)] else bhI l s i := by
  unfold bhI
  rw [List.take_add_one, List.getElem?_eq_getElem h, Option.toList_some, ← nth_lt h, List.filter_append, List.filter_cons, List.filter_nil]
  by_cases g : nth (places l s) i + s.length < l.length
  · rw [if_pos (decide_eq_true g), if_pos g, List.map_append]; rfl
  · rw [if_neg (by simpa using g), if_neg g, List.append_nil]
theorem bhI_le (l s : List Int) (i : Nat) : (bhI l s i).length ≤ i := by
  unfold bhI
  rw [List.length_map]
  refine Nat.le_trans (List.length_filter_le _ _) ?_
  rw [List.length_take]; omega
theorem pl_lt {l s : List Int} {i : Nat} (h : i < (places l s).length) : nth (places l s) i < l.length := (places_mem.1 (nth_mem h)).1
set_option maxHeartbeats 4000000 in
set_option maxRecDepth 100000 in
theorem rbehinds_calls (l s : List Int) (A P : Option Addr) (c p : Nat) (hl : l.length ≤ 1000000) (hsl : s.length ≤ 1000000000) (w : World) (hr : Rd w A l.length (fun k => .int .i64 (nth l k))) (hs : Rd w P s.length (fun k => .int .i64 (nth s k))) :
    Calls Tryz.prog 63 #[.slice A l.length c, .slice P s.length p] w (RetZs (behs l s) w) := by
  obtain ⟨ii, hi, hj0, hj1, hj2⟩ := info_parts info_int
  have cp := rplaces_calls l s A P c p hl hsl w hr hs
  have hpl := places_le l s
  have hsu := fun i (h : i < (places l s).length) => bhI_succ l s h
  have hle := bhI_le l s
  have hlt := fun i (h : i < (places l s).length) => pl_lt (l := l) (s := s) h
  have hend : rise (bhI l s (places l s).length) = behs l s := by unfold bhI behs; rw [List.take_length]
  obtain ⟨bs, hbs⟩ : ∃ bs, behs l s = bs := ⟨_, rfl⟩
  rw [hbs] at hend ⊢
  obtain ⟨pl, hpp⟩ : ∃ pl, places l s = pl := ⟨_, rfl⟩
  rw [hpp] at cp hpl hsu hlt hend
  have crs := fun B d w (h : Rd w B (bhI l s pl.length).length (fun k => .int .i64 (nth (bhI l s pl.length) k))) => rrise_calls (bhI l s pl.length) B d w (by have := hle pl.length; omega) h
  rw [hend] at crs
  obtain ⟨n, hn⟩ : ∃ n, l.length = n := ⟨_, rfl⟩
  obtain ⟨L, hL⟩ : ∃ L, s.length = L := ⟨_, rfl⟩
  rw [hn] at cp hl hr hpl hsu hlt ⊢
  rw [hL] at cp hsl hs hsu ⊢
  obtain ⟨M, hM⟩ : ∃ M, pl.length = M := ⟨_, rfl⟩
  unfold RetInts at cp
  rw [hM] at cp hpl hsu hlt crs
  have CP := Lib.hid cp; have CR := Lib.hid crs; have HR := Lib.hid hr; have HS := Lib.hid hs; have HSU := Lib.hid hsu; have HLE := Lib.hid hle; have HLT := Lib.hid hlt
  clear cp crs hr hs hsu hle hlt hend hbs hpp hn hL hM
  go_enter Tryz.func63, Tryz.ntmps63
  go_wp2_with fail
  with_reducible refine CP.out.mono ?_
  rintro e w1 ⟨B, b, rfl, _, hB, hx1⟩
  have HB := Lib.hid hB
  clear CP hB
  go_wp2_with fail
  go_loopw [12, 5] (fun vi v5 wr => ∃ i : Nat, vi = .int .i64 i ∧ i ≤ M ∧ Hid (wr.ownsRow w1.heap.size 3 1 v5 (bhI l s i).length ((bhI l s i).map (Value.int .i64))) ∧ Ext w1 wr) (fun vi _ _ => M - (intOf vi).toNat)
  case atStart => exact ⟨0, rfl, Nat.zero_le _, own_nil _ _ _ _, Ext.refl _⟩
  case round => as_aux_lemma =>
    obtain ⟨i, rfl, hi', HO, hxr⟩ := hrel
    by_cases g : i < M
    · obtain ⟨b1, o1, hBB, hb1, hc1⟩ := (HB.out.ext hxr) (by omega)
      subst hBB
      have p1 := hc1 i g
      dsimp only at p1
      have hsu := HSU.out i g
      have hle := HLE.out i
      have hlt := HLT.out i g
      obtain ⟨a, ha⟩ : ∃ a, nth pl i = a := ⟨_, rfl⟩
      rw [ha] at p1 hsu hlt
      have hw : IntKind.i64.wrap ((a : Int) + L) = (a : Int) + L := IntWalk.i64_in _ (by omega)
      have hsz := hxr.size
      have HSi := Lib.hid hsu
      clear hc1 ha hsu
      by_cases g2 : a + L < n
      · have g2' : decide ((a : Int) + L < n) = true := decide_eq_true (by omega)
        obtain ⟨b2, o2, hAA, hb2, hc2⟩ := (HR.out.ext (hx1.trans hxr)) (by omega)
        subst hAA
        have p2 := hc2 (a + L) g2
        dsimp only at p2
        obtain ⟨x, hx⟩ : ∃ x, nth l (a + L) = x := ⟨_, rfl⟩
        have hs1 : bhI l s (i + 1) = bhI l s i ++ [x] := by rw [HSi.out, if_pos g2, hx]
        rw [hx] at p2
        obtain ⟨al, hal⟩ : ∃ al, a + L = al := ⟨_, rfl⟩
        rw [hal] at p2
        have hwal : IntKind.i64.wrap ((a : Int) + L) = (al : Int) := by rw [hw]; omega
        have haln : al < n := by omega
        have halI : (a : Int) + L = (al : Int) := by omega
        rw [halI] at g2'
        have HS1 := Lib.hid hs1
        clear hs1 HSi hc2 hx hw hal halI g2
        go_wp2_with (at_builtin; refine wpList_app1 (by rfl) _ _ 24 rfl w1.heap.size 3 ii (.int .i64 0) 8 Tryz.underlying24 hi hj0 hj1 hj2 rfl _ (bhI l s i).length _ rfl wr (.int .i64 x) 3 rfl HO.out rfl rfl ?d1 ?d2 hsz ?_)
        case d1 => omega
        case d2 => omega
        intro gb cap w5 own5 hgr5
        have hx5 := hxr.grown hgr5 (fun k hk => (own_row_ge HO.out k hk).1)
        have HO5 : Hid (w5.ownsRow w1.heap.size 3 1 (.slice (some ⟨gb, 0, none⟩) ((bhI l s i).length + 1) cap) (bhI l s (i + 1)).length ((bhI l s (i + 1)).map (Value.int .i64))) := by
          show World.ownsRow _ _ _ _ _ _ _
          rw [HS1.out, List.length_append, List.map_append]; exact own5
        clear own5 hgr5 HO
        go_wp2_with fail
        refine ⟨⟨i + 1, by go_num, by omega, HO5, hx5⟩, by simp [intOf]; omega⟩
      · have g2' : decide ((a : Int) + L < n) = false := decide_eq_false (by omega)
        have hs1 : bhI l s (i + 1) = bhI l s i := by rw [HSi.out, if_neg g2]
        have HO2 := HO.out
        rw [← hs1] at HO2
        have HO5 := Lib.hid HO2
        clear hs1 HSi HO HO2 g2
        go_wp2_with fail
        refine ⟨⟨i + 1, by go_num, by omega, HO5, hxr⟩, by simp [intOf]; omega⟩
    · obtain rfl : i = M := by omega
      obtain ⟨Q, q, rfl⟩ := own_form HO.out
      have crs := CR.out Q q wr (rdI_own HO.out)
      unfold RetZs at crs
      go_wp2_with fail
      with_reducible refine crs.mono ?_
      rintro e w6 ⟨Z, z, rfl, hz, hZ, hx6⟩
      go_wp2_with fail
      go_ret
      exact ⟨Z, z, rfl, hz, hZ, (hx1.trans hxr).trans hx6⟩

/-- The signs ahead of the first places. -/
def bfI (l s : List Int) (i : Nat) : List Int := ((places l s).take i).map (En.ahead l)
theorem bfI_succ (l s : List Int) {i : Nat} (h : i < (places l s).length) : bfI l s (i + 1) = bfI l s i ++ [En.ahead l (nth (places l s) i)] := by
  unfold bfI
  rw [List.take_add_one, List.getElem?_eq_getElem h, Option.toList_some, ← nth_lt h, List.map_append]
  rfl
theorem bfI_len (l s : List Int) {i : Nat} (h : i ≤ (places l s).length) : (bfI l s i).length = i := by
  unfold bfI
  rw [List.length_map, List.length_take]; omega
set_option maxHeartbeats 4000000 in
set_option maxRecDepth 100000 in
theorem rbefores_calls (l s : List Int) (A P : Option Addr) (c p : Nat) (hl : l.length ≤ 1000000) (hsl : s.length ≤ 1000000000) (w : World) (hr : Rd w A l.length (fun k => .int .i64 (nth l k))) (hs : Rd w P s.length (fun k => .int .i64 (nth s k))) :
    Calls Tryz.prog 64 #[.slice A l.length c, .slice P s.length p] w (RetZs (befs l s) w) := by
  obtain ⟨ii, hi, hj0, hj1, hj2⟩ := info_parts info_int
  have cp := rplaces_calls l s A P c p hl hsl w hr hs
  have hpl := places_le l s
  have hsu := fun i (h : i < (places l s).length) => bfI_succ l s h
  have hle := fun i (h : i ≤ (places l s).length) => bfI_len l s h
  have hlt := fun i (h : i < (places l s).length) => pl_lt (l := l) (s := s) h
  have hend : rise (bfI l s (places l s).length) = befs l s := by unfold bfI befs; rw [List.take_length]
  have hah : ∀ a, En.ahead l a = nth l ((a + l.length - 1) % l.length) := fun a => rfl
  obtain ⟨bs, hbs⟩ : ∃ bs, befs l s = bs := ⟨_, rfl⟩
  rw [hbs] at hend ⊢
  obtain ⟨pl, hpp⟩ : ∃ pl, places l s = pl := ⟨_, rfl⟩
  rw [hpp] at cp hpl hsu hlt hend hle
  have crs := fun B d w (h : Rd w B (bfI l s pl.length).length (fun k => .int .i64 (nth (bfI l s pl.length) k))) => rrise_calls (bfI l s pl.length) B d w (by have := hle pl.length (Nat.le_refl _); omega) h
  rw [hend] at crs
  obtain ⟨n, hn⟩ : ∃ n, l.length = n := ⟨_, rfl⟩
  obtain ⟨L, hL⟩ : ∃ L, s.length = L := ⟨_, rfl⟩
  rw [hn] at cp hl hr hpl hlt hah ⊢
  rw [hL] at cp hsl hs ⊢
  obtain ⟨M, hM⟩ : ∃ M, pl.length = M := ⟨_, rfl⟩
  unfold RetInts at cp
  rw [hM] at cp hpl hsu hlt crs hle
  have CP := Lib.hid cp; have CR := Lib.hid crs; have HR := Lib.hid hr; have HS := Lib.hid hs; have HSU := Lib.hid hsu; have HLE := Lib.hid hle; have HLT := Lib.hid hlt; have HAH := Lib.hid hah
  clear cp crs hr hs hsu hle hlt hend hbs hpp hn hL hM hah
  go_enter Tryz.func64, Tryz.ntmps64
  go_wp2_with fail
  with_reducible refine CP.out.mono ?_
  rintro e w1 ⟨B, b, rfl, _, hB, hx1⟩
  have HB := Lib.hid hB
  clear CP hB
  go_wp2_with fail
  go_loopw [12, 5] (fun vi v5 wr => ∃ i : Nat, vi = .int .i64 i ∧ i ≤ M ∧ Hid (wr.ownsRow w1.heap.size 3 1 v5 i ((bfI l s i).map (Value.int .i64))) ∧ Ext w1 wr) (fun vi _ _ => M - (intOf vi).toNat)
  case atStart => exact ⟨0, rfl, Nat.zero_le _, own_nil _ _ _ _, Ext.refl _⟩
  case round => as_aux_lemma =>
    obtain ⟨i, rfl, hi', HO, hxr⟩ := hrel
    by_cases g : i < M
    · obtain ⟨b1, o1, hBB, hb1, hc1⟩ := (HB.out.ext hxr) (by omega)
      subst hBB
      have p1 := hc1 i g
      dsimp only at p1
      have hsu := HSU.out i g
      have hlt := HLT.out i g
      obtain ⟨a, ha⟩ : ∃ a, nth pl i = a := ⟨_, rfl⟩
      rw [ha] at p1 hsu hlt
      obtain ⟨b2, o2, hAA, hb2, hc2⟩ := (HR.out.ext (hx1.trans hxr)) (by omega)
      subst hAA
      have hrn : (a + n - 1) % n < n := Nat.mod_lt _ (by omega)
      have p2 := hc2 ((a + n - 1) % n) hrn
      dsimp only at p2
      rw [← HAH.out a] at p2
      obtain ⟨x, hx⟩ : ∃ x, En.ahead l a = x := ⟨_, rfl⟩
      rw [hx] at p2 hsu
      have hw1 : IntKind.i64.wrap ((a : Int) + n) = ((a + n : Nat) : Int) := by rw [IntWalk.i64_in _ (by omega)]; omega
      have hw2 : IntKind.i64.wrap (((a + n : Nat) : Int) - 1) = ((a + n - 1 : Nat) : Int) := by rw [IntWalk.i64_in _ (by omega)]; omega
      have hm := mod_cast' (a + n - 1) n
      obtain ⟨an, han⟩ : ∃ an, a + n = an := ⟨_, rfl⟩
      rw [han] at hw1 hw2 hm hrn p2
      obtain ⟨am, ham⟩ : ∃ am, an - 1 = am := ⟨_, rfl⟩
      rw [ham] at hw2 hm hrn p2
      obtain ⟨r, hrr⟩ : ∃ r, am % n = r := ⟨_, rfl⟩
      rw [hrr] at hm hrn p2
      have hn0 : (((n : Nat) : Int) == 0) = false := by simp; omega
      have hsz := hxr.size
      have HSi := Lib.hid hsu
      clear hc1 hc2 ha hsu hx han ham hrr
      go_wp2_with (at_builtin; refine wpList_app1 (by rfl) _ _ 24 rfl w1.heap.size 3 ii (.int .i64 0) 8 Tryz.underlying24 hi hj0 hj1 hj2 rfl _ i _ rfl wr (.int .i64 x) 3 rfl HO.out rfl rfl ?d1 ?d2 hsz ?_)
      case d1 => omega
      case d2 => omega
      intro gb cap w5 own5 hgr5
      have hx5 := hxr.grown hgr5 (fun k hk => (own_row_ge HO.out k hk).1)
      have HO5 : Hid (w5.ownsRow w1.heap.size 3 1 (.slice (some ⟨gb, 0, none⟩) (i + 1) cap) (i + 1) ((bfI l s (i + 1)).map (Value.int .i64))) := by
        show World.ownsRow _ _ _ _ _ _ _
        rw [HSi.out, List.map_append]; exact own5
      clear own5 hgr5 HO
      go_wp2_with fail
      refine ⟨⟨i + 1, by go_num, by omega, HO5, hx5⟩, by simp [intOf]; omega⟩
    · obtain rfl : i = M := by omega
      obtain ⟨Q, q, rfl⟩ := own_form HO.out
      have hli := HLE.out i (Nat.le_refl _)
      have crs := CR.out Q q wr (by
        have h1 : wr.ownsRow w1.heap.size 3 1 (.slice Q (bfI l s i).length q) (bfI l s i).length ((bfI l s i).map (Value.int .i64)) := by rw [hli]; exact HO.out
        exact rdI_own h1)
      rw [hli] at crs
      unfold RetZs at crs
      go_wp2_with fail
      with_reducible refine crs.mono ?_
      rintro e w6 ⟨Z, z, rfl, hz, hZ, hx6⟩
      go_wp2_with fail
      go_ret
      exact ⟨Z, z, rfl, hz, hZ, (hx1.trans hxr).trans hx6⟩
end Go.Proofs.YtjfdlibceldanabGreatDoor
