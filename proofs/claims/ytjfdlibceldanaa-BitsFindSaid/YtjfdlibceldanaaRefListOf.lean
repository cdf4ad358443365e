/- The reference ListOf: the walk; and that its answer is Good's. -/
import Derived.Test.YtjfdlibceldanaaRefBitsOf
namespace Go.Proofs.Ytjfdlibceldanaa
open Go.RowKit

/-! ### The plain law -/
def lst (P : List Nat) (n : Nat) : List Bool := (List.range n).map fun i => nth P (i / 64) / 2 ^ (i % 64) % 2 == 1
theorem lst_length (P : List Nat) (n : Nat) : (lst P n).length = n := by simp [lst]
theorem bn_range (x : Nat) : ∀ m, bn ((List.range m).map fun i => x / 2 ^ i % 2 == 1) = x % 2 ^ m
  | 0 => by simp [bn, Nat.mod_one]
  | m + 1 => by
    rw [List.range_succ, List.map_append, bn_append, bn_range x m]
    simp only [List.length_map, List.length_range, List.map_cons, List.map_nil, bn]
    rw [Nat.pow_succ, Nat.mod_mul]
    rcases Nat.mod_two_eq_zero_or_one (x / 2 ^ m) with h | h <;> simp [h]
theorem lst_word (P : List Nat) (n j : Nat) : word (lst P n) j = nth P j % 2 ^ (min 64 (n - 64 * j)) := by
  rw [← bn_range, word]
  congr 1
  apply List.ext_getElem
  · simp [lst_length]
  · intro i h1 h2
    simp only [List.length_map, List.length_range] at h2
    have e1 : (64 * j + i) / 64 = j := by omega
    have e2 : (64 * j + i) % 64 = i := by omega
    simp [lst, e1, e2]
theorem good_list (b : PB) (hb : b.Ok) (N : Nat) (hN : b.N = N) (hl : b.P.length = N / 64 + 1) : sameB (bitsOf (lst b.P N)) b = goodF b := by
  rw [Bool.eq_iff_iff, sameB_iff]
  constructor
  · intro h; rw [← h]; exact goodF_made _
  · intro h
    unfold goodF at h
    simp only [Bool.and_eq_true, decide_eq_true_eq, beq_iff_eq] at h
    obtain ⟨_, _, hA, ha, hz⟩ := h
    rw [aheadF_iff] at ha
    rw [hN, Int.toNat_natCast] at hz
    have hP : (bitsOf (lst b.P N)).P = b.P := by
      apply nth_ext
      · rw [bitsOf_P_length, lst_length, hl]
      · intro k hk
        rw [bitsOf_P_length, lst_length] at hk
        rw [bitsOf_P_at _ _ (by rw [lst_length]; omega), lst_word]
        apply Nat.mod_eq_of_lt
        by_cases hk2 : k = N / 64
        · subst hk2
          rw [show min 64 (N - 64 * (N / 64)) = N % 64 from by omega]
          rcases Nat.lt_or_ge (nth b.P (N / 64)) (2 ^ (N % 64)) with h | h
          · exact h
          · exact absurd hz (Nat.ne_of_gt (Nat.div_pos h (Nat.pow_pos (by omega))))
        · rw [show min 64 (N - 64 * k) = 64 from by omega]
          exact hb.p_at k
    have hA2 : (bitsOf (lst b.P N)).A = b.A := by
      apply nth_ext
      · rw [bitsOf_A_length, lst_length, hA, hl]
      · intro k hk
        rw [bitsOf_A_length, lst_length] at hk
        rw [bitsOf_A_at _ _ (by rw [lst_length]; omega), ha k (by omega), show words (lst b.P N) = b.P from hP]
    rw [← sameB_iff]
    exact decide_eq_true ⟨by show ((lst b.P N).length : Int) = b.N; rw [lst_length, hN], hP, hA2⟩

/-! ### The walk -/
/-- What ListOf's second answer is. -/
def listOk (b : PB) : Bool := decide (b.N ≤ 1048576) && goodF b
def RetOk (r : Bool) (w : World) (e : Ending) (w' : World) : Prop := ∃ v, e = .returned (.tuple #[v, .bool r]) ∧ Ext w w'
theorem info_bool : (Try.prog.info? 4).map (fun i => (i.zero, i.size, i.bytes)) = some (some (.bool false), 1, 1) := by kernel_rfl
theorem wrap_pow (k : Nat) : IntKind.u64.wrap ((2 : Int) ^ (k % 64)) = ((2 ^ (k % 64) : Nat) : Int) ∧ 1 ≤ 2 ^ (k % 64) := by
  have h1 : (2 : Nat) ^ (k % 64) < 18446744073709551616 := by
    have : (2 : Nat) ^ (k % 64) < 2 ^ 64 := Nat.pow_lt_pow_right (by omega) (by omega)
    simpa using this
  have e : ((2 : Int) ^ (k % 64)) = ((2 ^ (k % 64) : Nat) : Int) := by simp
  exact ⟨by rw [e, Pop.wrap_u64_nat _ h1], Nat.pow_pos (by omega)⟩

set_option maxHeartbeats 2000000 in
set_option maxRecDepth 100000 in
theorem listOf_calls (b : PB) (hb : b.Ok) (A1 A2 : Option Addr) (c1 c2 : Nat) (w : World) (hr : RdB w A1 A2 b) :
    Calls Try.prog 14 #[.agg #[.int .i64 b.N, .slice A1 b.P.length c1, .slice A2 b.A.length c2]] w (RetOk (listOk b) w) := by
  obtain ⟨hn1, hn2⟩ := hb.n
  have hlp := hb.lp
  obtain ⟨R, hR⟩ : ∃ R, listOk b = R := ⟨_, rfl⟩
  rw [hR]
  have HR := Lib.hid hR; clear hR
  by_cases g1 : b.N < 0
  · have g1' : decide (b.N < 0) = true := by simpa using g1
    go_enter Try.func14, Try.ntmps14
    go_wp2_with fail
    go_ret2
    refine ⟨.slice none 0 0, ?_, (Ext.refl _).alloc _⟩
    have hf : listOk b = false := by unfold listOk goodF; rw [decide_eq_false (p := 0 ≤ b.N) (by omega)]; simp
    rw [← HR.out, hf]; rfl
  obtain ⟨N, hN⟩ := Int.eq_ofNat_of_zero_le (show 0 ≤ b.N by omega)
  rw [hN]
  have hN2 : (N : Int) ≤ 9223372036854775807 := by omega
  by_cases g2 : 1048576 < N
  · have g2' : decide ((1048576 : Int) < (N : Int)) = true := by simp; omega
    have HN := Lib.hid hN; clear hN
    go_enter Try.func14, Try.ntmps14
    go_wp2_with fail
    go_ret2
    refine ⟨.slice none 0 0, ?_, (Ext.refl _).alloc _⟩
    have hf : listOk b = false := by unfold listOk; rw [decide_eq_false (p := b.N ≤ 1048576) (by rw [HN.out]; omega)]; simp
    rw [← HR.out, hf]; rfl
  have g2' : decide ((1048576 : Int) < (N : Int)) = false := by simp; omega
  have g1' : decide ((N : Int) < 0) = false := by simp
  by_cases g3 : ¬ b.P.length = N / 64 + 1
  · have g3' : ((b.P.length : Int) != (N : Int) / 64 + 1) = true := by rw [bne_iff_ne]; omega
    have HN := Lib.hid hN; clear hN
    go_enter Try.func14, Try.ntmps14
    go_wp2_with fail
    go_ret2
    refine ⟨.slice none 0 0, ?_, (Ext.refl _).alloc _⟩
    have hf : listOk b = false := by unfold listOk goodF; rw [HN.out, decide_eq_false (p := (b.P.length : Int) = (N : Int) / 64 + 1) (by omega)]; simp
    rw [← HR.out, hf]; rfl
  have g3' : ((b.P.length : Int) != (N : Int) / 64 + 1) = false := by rw [bne_eq_false_iff_eq]; omega
  have hlN : N / 64 < b.P.length := by omega
  have hPl : b.P.length = N / 64 + 1 := by omega
  have hfin : R = sameB (bitsOf (lst b.P N)) b := by
    rw [good_list b hb N hN hPl, ← HR.out]; unfold listOk; rw [decide_eq_true (by rw [hN]; omega)]; rfl
  have HF := Lib.hid hfin
  have HN := Lib.hid hN; clear hN g3 hPl hfin
  obtain ⟨ib, hi, hz0, hz1, hz2⟩ := info_parts info_bool
  obtain ⟨b1, o1, rfl, hb1, hc1⟩ := hr.1 (by omega)
  have HC := Lib.hid hc1; clear hc1
  go_enter Try.func14, Try.ntmps14
  go_wp2_with (at_make; refine wpList_make_full _ rfl _ _ 27 rfl w.heap.size 4 ib (.bool false) 1 Try.underlying27 hi hz0 hz1 _ _ _ _ N rfl rfl rfl rfl ?c1 ?c2 ?c3 ?_)
  case c1 => omega
  case c2 => unfold maxLen; omega
  all_goals try (case c3 => simp)
  intro w1 hown1 hgrow1
  have bx := (bk_of (w := w) rfl).ext (ext_of_grown hgrow1)
  have hxw : Ext w w1 := ((Ext.refl w).alloc _).trans (ext_of_grown hgrow1)
  rw [made_zero] at hown1
  have HO := Lib.hid hown1; have BX := Lib.hid bx; clear hown1 hgrow1 bx
  go_wp2_with fail
  go_loopw [29] (fun i wr => ∃ k : Nat, k ≤ N ∧ i = .int .i64 k ∧ wr.ownsRow w.heap.size 4 1 (.slice (some ⟨w.heap.size + 1, 0, none⟩) N N) N ((List.range N).map fun j => if j < k then Value.bool (nth b.P (j / 64) / 2 ^ (j % 64) % 2 == 1) else Value.bool false) ∧
      Bk wr w.heap.size 26 #[Value.int IntKind.i64 ↑N, Value.slice (some { block := b1, off := o1 }) b.P.length c1, Value.slice A2 b.A.length c2] ∧ Ext w wr) (fun i _ => N - (intOf i).toNat)
  case atStart => exact ⟨0, by omega, rfl, by simpa using HO.out, BX.out, hxw⟩
  case round =>
    obtain ⟨k, hk, rfl, own, bx, hxr⟩ := hrel
    by_cases g4 : k < N
    · have p1 := ecell (HC.out (k / 64) (by omega)) hxr
      obtain ⟨x0, x1, x2⟩ := bx3_bk bx
      have hp := hb.p_at (k / 64)
      obtain ⟨e1, e2⟩ := wrap_pow k
      obtain ⟨P, hP⟩ : ∃ P, 2 ^ (k % 64) = P := ⟨_, rfl⟩
      rw [hP] at e1 e2
      have q1 := (own.cellAt k (by omega)).trans (map_range_get _ N k g4)
      rw [if_neg (Nat.lt_irrefl k)] at q1
      have q2 := own.frozenAt k
      obtain ⟨B, hB⟩ : ∃ B, (nth b.P (k / 64) / 2 ^ (k % 64) % 2 == 1) = B := ⟨_, rfl⟩
      have own2 := (own.stored k (.bool B)).1
      rw [map_range_set] at own2
      have e3 : ((IntKind.u64.wrap (((nth b.P (k / 64) : Nat) : Int) / (P : Int))).tmod 2 == 1) = B := by
        have hle : nth b.P (k / 64) / P ≤ nth b.P (k / 64) := Nat.div_le_self _ _
        rw [← hB, hP, show (((nth b.P (k / 64) : Nat) : Int) / (P : Int)) = ((nth b.P (k / 64) / P : Nat) : Int) from by simp, Pop.wrap_u64_nat _ (by omega), Int.tmod_eq_emod_of_nonneg (Int.natCast_nonneg _), Bool.eq_iff_iff, beq_iff_eq, beq_iff_eq]
        omega
      have HO2 : Hid ((wr.setCell ⟨w.heap.size + 1, k, none⟩ (.bool B)).ownsRow w.heap.size 4 1 (.slice (some ⟨w.heap.size + 1, 0, none⟩) N N) N ((List.range N).map fun j => if j < k + 1 then Value.bool (nth b.P (j / 64) / 2 ^ (j % 64) % 2 == 1) else Value.bool false)) := by
        rw [map_range_congr (g := fun j => if j = k then Value.bool B else if j < k then Value.bool (nth b.P (j / 64) / 2 ^ (j % 64) % 2 == 1) else Value.bool false) ?_]
        · exact own2
        · intro j _
          by_cases hj : j = k
          · subst hj; rw [if_pos (by omega), if_pos rfl, hB]
          · rw [if_neg hj]
            by_cases hj2 : j < k
            · rw [if_pos hj2, if_pos (by omega)]
            · rw [if_neg hj2, if_neg (by omega)]
      have HB1 := Lib.hid (bx.far (p := ⟨w.heap.size + 1, k, none⟩) (by show w.heap.size ≠ w.heap.size + 1; omega) (.bool B))
      have HX := Lib.hid (hxr.setCell (p := ⟨w.heap.size + 1, k, none⟩) (by show w.heap.size ≤ w.heap.size + 1; omega) (.bool B))
      clear own own2 bx hB hP
      go_wp2_with fail
      go_roundw
      case rel => exact ⟨k + 1, by omega, by go_num, HO2, HB1, HX⟩
      case measure => simp [intOf]; omega
    · have hkN : k = N := by omega
      subst hkN
      have hrd := (rd_own own).congr (g := fun j => .bool (nth (lst b.P k) j)) (fun j hj => by rw [if_pos hj]; unfold lst; rw [nth_map_range _ _ _ hj])
      have hw0 := bx.lt
      obtain ⟨x0, x1, x2⟩ := bx3_bk bx
      have hrb := hr.ext hxr
      have hok := bitsOf_ok (lst b.P k) (by rw [lst_length]; omega)
      have hll := lst_length b.P k
      clear own bx
      go_wp2_with fail
      have hBO := bitsOf_calls (lst b.P k) (some ⟨w.heap.size + 1, 0, none⟩) k
      rw [hll] at hBO
      have HBO := Lib.hid hBO; have HLL := Lib.hid hll; clear hBO hll
      rw [← HN.out] at x0
      go_region_held3 (fun w' => w'.cell? ⟨w.heap.size, 0, none⟩ = some (.int .i64 b.N) ∧ w'.cell? ⟨w.heap.size, 1, none⟩ = some (.slice (some ⟨b1, o1, none⟩) b.P.length c1) ∧ w'.cell? ⟨w.heap.size, 2, none⟩ = some (.slice A2 b.A.length c2))
        (first | go_keep | (exact ⟨ecell x0 hxc, ecell x1 hxc, ecell x2 hxc⟩) | (exact ⟨ecell x0 (hxc.trans hxd), ecell x1 (hxc.trans hxd), ecell x2 (hxc.trans hxd)⟩))
        (first
          | (go_at_call 19; refine (HBO.out wr.drew (by omega) hrd).mono ?_; rintro e wc ⟨C1, d1, C2, d2, rfl, hrc, hxc0⟩; have hxc := (Ext.refl wr).drew.trans hxc0; clear hxc0)
          | (go_at_call 18; refine (sameBits_calls _ b hok hb C1 C2 (some ⟨b1, o1, none⟩) A2 d1 d2 c1 c2 wc hrc (hrb.ext hxc)).mono ?_; rintro e wd ⟨rfl, hxd⟩))
      go_wp2_with fail
      go_ret2
      refine ⟨.slice (some ⟨w.heap.size + 1, 0, none⟩) k k, ?_, hxr.trans (hxc.trans hxd)⟩
      rw [HF.out]; rfl
end Go.Proofs.Ytjfdlibceldanaa
