/- The reference KindsIn: the walk. -/
import Derived.Test.YtjfdlibceldanaaWvRef
namespace Go.Proofs.Ytjfdlibceldanaa
open Go.RowKit Wv

/-- A list of numbers that a call returned. -/
def RetInts (xs : List Nat) (w : World) (e : Ending) (w' : World) : Prop :=
  ∃ (A : Option Addr) (c : Nat), e = .returned (.slice A xs.length c) ∧ (A = none → c = 0) ∧ Rd w' A xs.length (fun j => .int .i64 (nth xs j : Nat)) ∧ Ext w w'
theorem own_none {w : World} {base : Nat} {e : TypeId} {size n : Nat} {A : Option Addr} {c : Nat} {xs : List Value} (h : w.ownsRow base e size (.slice A n c) n xs) : A = none → c = 0 := fun hA => by
  rcases h.2 with ⟨hv, _⟩ | ⟨g, cap, cur, hv, _⟩
  · injection hv
  · injection hv with h1; rw [hA] at h1; cases h1
theorem rd_ints {w : World} {base : Nat} {e : TypeId} {A : Option Addr} {c n : Nat} {xs : List Nat} (h : w.ownsRow base e 1 (.slice A n c) n (xs.map fun x => Value.int .i64 (x : Nat))) : Rd w A xs.length (fun j => .int .i64 (nth xs j : Nat)) := by
  have hl : xs.length = n := by have := h.1; rw [List.length_map] at this; omega
  rw [hl]
  refine (Rd.of_own (d := default) h).congr fun k hk => ?_
  have : k < xs.length := by omega
  simp [this, nth_lt]
theorem found_succ (l : List Nat) (f0 t0 v : Int) (k : Nat) : found l f0 t0 v (k + 1) = (found l f0 t0 v k || (decide (((nth l k : Nat) : Int) = v) && (decide (f0 ≤ k) && decide ((k : Int) < t0)))) := by
  unfold found; rw [List.range_succ, List.any_append]; simp

set_option maxHeartbeats 2000000 in
set_option maxRecDepth 100000 in
theorem kindsIn_calls (l : List Nat) (A : Option Addr) (c : Nat) (f0 t0 : Int) (w : World) (hl : l.length ≤ 1125899906842624) (hr : Rd w A l.length (fun k => .int .i64 (nth l k : Nat))) :
    Calls Try.prog 38 #[.slice A l.length c, .int .i64 f0, .int .i64 t0] w (RetInts (kindsRef l f0 t0) w) := by
  obtain ⟨ii, hi, hj0, hj1, hj2⟩ := info_parts info_int
  obtain ⟨G, hG⟩ : ∃ G : Nat → List Nat, G = fun k => (List.range k).filter fun v : Nat => found l f0 t0 v l.length := ⟨_, rfl⟩
  have hG0 : G 0 = [] := by rw [hG]; rfl
  have hGs : ∀ k, G (k + 1) = if found l f0 t0 k l.length then G k ++ [k] else G k := fun k => by
    rw [hG]
    show (List.range (k + 1)).filter _ = _
    rw [List.range_succ, List.filter_append]
    cases h : found l f0 t0 k l.length <;> simp [h]
  have hGl : ∀ k, (G k).length ≤ k := fun k => by
    rw [hG]
    have := List.length_filter_le (fun v : Nat => found l f0 t0 v l.length) (List.range k)
    rw [List.length_range] at this
    exact this
  have hGe : G 2050 = kindsRef l f0 t0 := by rw [hG]; rfl
  have hGn : l.length = 0 → ∀ k, G k = [] := fun h0 k => by
    rw [hG]
    show (List.range k).filter _ = []
    rw [List.filter_eq_nil_iff]
    intro a _
    unfold found
    rw [h0]; simp
  rw [← hGe]
  have HG0 := Lib.hid hG0; have HGs := Lib.hid hGs; have HGl := Lib.hid hGl; have HGn := Lib.hid hGn
  have HR := Lib.hid hr
  clear hG hG0 hGs hGl hGe hGn hr
  go_enter Try.func38, Try.ntmps38
  go_wp2_with fail
  go_loopw [7, 8] (fun vo vn wr => ∃ (k : Nat) (B : Option Addr) (d : Nat), vn = .int .i64 k ∧ k ≤ 2049 ∧ (l.length = 0 → k = 0) ∧ vo = .slice B (G k).length d ∧ Hid (wr.ownsRow w.heap.size 3 1 (.slice B (G k).length d) (G k).length ((G k).map fun x => Value.int .i64 (x : Nat))) ∧ Ext w wr) (fun _ vn _ => 2050 - (intOf vn).toNat)
  case atStart =>
    refine ⟨0, none, 0, rfl, by omega, fun _ => rfl, by rw [HG0.out]; rfl, ?_, Ext.refl _⟩
    show World.ownsRow _ _ _ _ _ _ _
    rw [HG0.out]; exact own_nil ..
  case round =>
    obtain ⟨n, B, d, rfl, hn, hn0, rfl, HO, hx⟩ := hrel
    obtain ⟨wo, rfl⟩ : ∃ wo, wo = wr := ⟨_, rfl⟩
    have hlen := HGl.out n
    have hbig : decide ((n : Int) < 65536) = true := by simp; omega
    have HN := Lib.hid hn; have HN0 := Lib.hid hn0
    clear hn hn0
    go_wp2_with fail
    go_loop [9, 18] (fun vf vj => ∃ j : Nat, vj = .int .i64 j ∧ j ≤ l.length ∧ vf = .bool (found l f0 t0 n j)) (fun _ vj => l.length - (intOf vj).toNat)
    case atStart => exact ⟨0, rfl, by omega, rfl⟩
    case round =>
      obtain ⟨j, rfl, hj, rfl⟩ := hrel
      by_cases g1 : j < l.length
      · obtain ⟨b1, o1, rfl, hb1, hc1⟩ := (HR.out.ext hx) (by omega)
        have p1 := hc1 j g1
        dsimp only at p1
        clear hc1
        have hs := found_succ l f0 t0 n j
        obtain ⟨x, hx'⟩ : ∃ x, nth l j = x := ⟨_, rfl⟩
        rw [hx'] at p1 hs
        clear hx'
        obtain ⟨F0, hF0⟩ : ∃ F0, found l f0 t0 n j = F0 := ⟨_, rfl⟩
        obtain ⟨F1, hF1⟩ : ∃ F1, found l f0 t0 n (j + 1) = F1 := ⟨_, rfl⟩
        rw [hF0, hF1] at hs
        rw [hF0]
        have HF1 := Lib.hid hF1
        clear hF0 hF1
        have e1 : decide ((x : Int) = (n : Int)) = (((x : Int)) == ((n : Int))) := by rw [Bool.eq_iff_iff]; simp
        rw [e1] at hs
        clear e1
        obtain ⟨q1, hq1⟩ : ∃ q, (((x : Int)) == ((n : Int))) = q := ⟨_, rfl⟩
        obtain ⟨q2, hq2⟩ : ∃ q, decide (f0 ≤ (j : Int)) = q := ⟨_, rfl⟩
        obtain ⟨q3, hq3⟩ : ∃ q, decide ((j : Int) < t0) = q := ⟨_, rfl⟩
        rw [hq1, hq2, hq3] at hs
        have HS := Lib.hid hs
        clear hs
        cases F0 with
        | true =>
          go_wp2_with fail
          go_round
          case rel => exact ⟨j + 1, by go_num, by omega, by rw [HF1.out, HS.out]; rfl⟩
          case measure => simp [intOf]; omega
        | false =>
          cases q1 with
          | false =>
            go_wp2_with fail
            go_round
            case rel => exact ⟨j + 1, by go_num, by omega, by rw [HF1.out, HS.out]; rfl⟩
            case measure => simp [intOf]; omega
          | true =>
            cases q2 with
            | false =>
              go_wp2_with fail
              go_round
              case rel => exact ⟨j + 1, by go_num, by omega, by rw [HF1.out, HS.out]; rfl⟩
              case measure => simp [intOf]; omega
            | true =>
              cases q3 with
              | false =>
                go_wp2_with fail
                go_round
                case rel => exact ⟨j + 1, by go_num, by omega, by rw [HF1.out, HS.out]; rfl⟩
                case measure => simp [intOf]; omega
              | true =>
                go_wp2_with fail
                go_round
                case rel => exact ⟨j + 1, by go_num, by omega, by rw [HF1.out, HS.out]; rfl⟩
                case measure => simp [intOf]; omega
      · obtain rfl : j = l.length := by omega
        have hs := HGs.out n
        obtain ⟨F0, hF0⟩ : ∃ F0, found l f0 t0 n l.length = F0 := ⟨_, rfl⟩
        rw [hF0] at hs ⊢
        clear hF0
        cases F0 with
        | true =>
          have hb : w.heap.size ≤ wo.heap.size := hx.size
          rw [if_pos rfl] at hs
          have HS := Lib.hid hs
          have hnz : ((l.length : Int) == 0) = false := by
            rw [beq_eq_false_iff_ne]
            intro h0
            have := HGn.out (by omega) (n + 1)
            rw [hs] at this
            simp at this
          clear hs
          go_wp2_with (at_builtin; refine wpList_app1 (by rfl) _ _ 24 rfl w.heap.size 3 ii (.int .i64 0) 8 Try.underlying24 hi hj0 hj1 hj2 rfl _ (G n).length _ rfl wo (.int .i64 n) 3 rfl HO.out rfl rfl ?d1 ?d2 hb ?_)
          case d1 => have := HN.out; omega
          case d2 => have := HN.out; omega
          intro g cap w2 own2 hgr2
          have hx2 := hx.grown hgr2 (fun k hk => (own_row_ge HO.out k hk).1)
          have hl2 : (G (n + 1)).length = (G n).length + 1 := by rw [HS.out]; simp
          have HO2 : Hid (w2.ownsRow w.heap.size 3 1 (.slice (some ⟨g, 0, none⟩) (G (n + 1)).length cap) (G (n + 1)).length ((G (n + 1)).map fun x => Value.int .i64 (x : Nat))) := by
            show World.ownsRow _ _ _ _ _ _ _
            rw [hl2, HS.out, List.map_append]; exact own2
          clear own2 hgr2 HO
          rw [← hl2]
          by_cases g2 : 2048 < n
          · have g2' : decide ((2048 : Int) < n) = true := by simp; omega
            obtain rfl : n = 2049 := by have := HN.out; omega
            go_wp2_with fail
            go_ret
            exact ⟨some ⟨g, 0, none⟩, cap, rfl, own_none HO2.out, rd_ints HO2.out, hx2⟩
          · have g2' : decide ((2048 : Int) < n) = false := by simp; omega
            go_wp2_with fail
            refine ⟨⟨n + 1, some ⟨g, 0, none⟩, cap, by go_num, by omega, fun h => ?_, rfl, HO2, hx2⟩, by simp [intOf]; omega⟩
            simp [h] at hnz
        | false =>
          rw [if_neg (by simp)] at hs
          have HO2 : Hid (wo.ownsRow w.heap.size 3 1 (.slice B (G (n + 1)).length d) (G (n + 1)).length ((G (n + 1)).map fun x => Value.int .i64 (x : Nat))) := by
            show World.ownsRow _ _ _ _ _ _ _
            rw [hs]; exact HO.out
          rw [← hs]
          have HS := Lib.hid hs
          clear hs HO
          by_cases g0 : l.length = 0
          · have g0' : ((l.length : Int) == 0) = true := by simp [g0]
            have HE : Hid (G (n + 1) = G 2050) := by show _ = _; rw [HGn.out g0, HGn.out g0]
            go_wp2_with fail
            go_ret
            have ho := HO2.out
            rw [HE.out] at ho ⊢
            exact ⟨B, d, rfl, own_none ho, rd_ints ho, hx⟩
          · have g0' : ((l.length : Int) == 0) = false := by simp [g0]
            by_cases g2 : 2048 < n
            · have g2' : decide ((2048 : Int) < n) = true := by simp; omega
              obtain rfl : n = 2049 := by have := HN.out; omega
              go_wp2_with fail
              go_ret
              exact ⟨B, d, rfl, own_none HO2.out, rd_ints HO2.out, hx⟩
            · have g2' : decide ((2048 : Int) < n) = false := by simp; omega
              go_wp2_with fail
              refine ⟨⟨n + 1, B, d, by go_num, by omega, fun h => absurd h g0, rfl, HO2, hx⟩, by simp [intOf]; omega⟩
end Go.Proofs.Ytjfdlibceldanaa
