/- slices.SortStableFunc over []int, by a number's upper bits: the whole. -/
import Derived.Test.YtjfdlibceldanaaSymG
import Derived.Test.YtjfdlibceldanaaShelf
namespace Go.Proofs.Ytjfdlibceldanaa
open Go.RowKit Go.Sort Stab

theorem oneCellV : OneCell encV := fun _ => rfl
def cfV (s : Nat) (x y : V) : Int := (keyV s x : Nat) - (keyV s y : Nat)
theorem ltOf_cfV (s : Nat) : ltOf (cfV s) = ltk (keyV s) := by
  funext x y
  unfold ltOf cfV ltk
  rw [Bool.eq_iff_iff]; simp only [decide_eq_true_eq]; omega

set_option maxRecDepth 100000 in
theorem insV_calls (s : Nat) (hs : s < 16) (S cap : Nat) (blk off : Nat) (hne : S ≠ blk) (d : Array V) (a b : Nat) (w : World) (hH : Holds encV w blk off d) (hS : w.cell? ⟨S, 0, none⟩ = some (.int .u64 s))
    (hab : a ≤ b) (hb : b ≤ d.size) (hsz : d.size < 2305843009213693952) :
    Calls Try.prog 93 #[.slice (some ⟨blk, off, none⟩) d.size cap, .int .i64 a, .int .i64 b, .func (.func 63) #[] #[.pointer (some ⟨S, 0, none⟩)]] w fun e w' =>
      e = .returned (.tuple #[]) ∧ RowAt w blk off (insertionSort (ltk (keyV s)) d a b) w' := by
  have h := Try.insertionSortCmpFunc_one encV oneCellV (cfV s) 63 #[.pointer (some ⟨S, 0, none⟩)] blk off cap a b d w (fun _ _ => rfl) (by
    intro m os dk hdk x y
    refine (cmpV_calls s hs S x y _ ?_).mono fun e w' ⟨he, hw⟩ => ⟨he, 0, hw⟩
    unfold sortWorld
    rw [cell?_grow _ _ _ (by simp; exact cell_lt hS), cell?_putRow_other encV _ blk off dk _ (.inl hne)]
    exact hS) hH hab hb (by omega)
  rw [ltOf_cfV] at h
  exact h

theorem size_insOuter (lt : V → V → Bool) (a b : Nat) : ∀ (t i : Nat) (d : Array V), b - i ≤ t → (insOuter lt a b i d).size = d.size := by
  intro t
  induction t with
  | zero => intro i d h; rw [insOuter, if_neg (by omega)]
  | succ t ih =>
    intro i d h
    rw [insOuter]
    split
    · rw [ih _ _ (by omega), size_insInner]
    · rfl
theorem size_ins (lt : V → V → Bool) (d : Array V) (a b : Nat) : (insertionSort lt d a b).size = d.size := size_insOuter lt a b _ _ d (Nat.le_refl _)
theorem size_blocks (lt : V → V → Bool) (n : Nat) : ∀ (t a : Nat) (d : Array V), n - a ≤ t → (blocks lt n a d).size = d.size := by
  intro t
  induction t with
  | zero => intro a d h; rw [blocks, if_neg (by omega), size_ins]
  | succ t ih =>
    intro a d h
    rw [blocks]
    split
    · rw [ih _ _ (by omega), size_ins]
    · exact size_ins ..
theorem size_pass (lt : V → V → Bool) (n z : Nat) : ∀ (f a : Nat) (d : Array V), (pass lt n z f a d).size = d.size := by
  intro f
  induction f with
  | zero => intro a d; rfl
  | succ f ih =>
    intro a d
    rw [pass]
    split
    · rw [ih, size_symM']
    · split <;> simp [size_symM']
theorem blocks_go {lt : V → V → Bool} {n a b : Nat} {d : Array V} (hb : a + 20 = b) (h : b ≤ n) : blocks lt n a d = blocks lt n b (insertionSort lt d a b) := by rw [blocks, hb, if_pos h]
theorem blocks_end {lt : V → V → Bool} {n a : Nat} {d : Array V} (h : ¬ a + 20 ≤ n) : blocks lt n a d = insertionSort lt d a n := by rw [blocks, if_neg h]

set_option maxHeartbeats 8000000 in
set_option maxRecDepth 100000 in
theorem stable_calls (s : Nat) (hs : s < 16) (S cap : Nat) (blk off : Nat) (hne : S ≠ blk) (d : Array V) (w : World) (hH : Holds encV w blk off d) (hS : w.cell? ⟨S, 0, none⟩ = some (.int .u64 s)) (hsz : d.size < 1152921504606846976) :
    Calls Try.prog 80 #[.slice (some ⟨blk, off, none⟩) d.size cap, .int .i64 d.size, .func (.func 63) #[] #[.pointer (some ⟨S, 0, none⟩)]] w fun e w' =>
      e = .returned (.tuple #[]) ∧ RowAt w blk off (stableS (ltk (keyV s)) d) w' := by
  have HST : Hid (RowAt w blk off d w) := ⟨0, (putRow_self encV w blk off d hH).symm⟩
  have HH : Hid (Holds encV w blk off d) := hH
  have HS := Lib.hid hS
  obtain ⟨lt, hlt⟩ : ∃ lt, ltk (keyV s) = lt := ⟨_, rfl⟩
  have HLT := Lib.hid hlt
  rw [hlt]
  unfold stableS
  obtain ⟨n, hn⟩ : ∃ n, d.size = n := ⟨_, rfl⟩
  have HN := Lib.hid hn
  rw [hn] at hsz ⊢
  obtain ⟨B0, hB0⟩ : ∃ B, blocks lt n 0 d = B := ⟨_, rfl⟩
  have HB0 := Lib.hid hB0
  have hsB : B0.size = n := by rw [← hB0, size_blocks lt n _ 0 d (Nat.le_refl _), hn]
  have HSB := Lib.hid hsB
  rw [hB0]
  obtain ⟨L0, hL0⟩ : ∃ L, levels lt n (n + 1) 20 B0 = L := ⟨_, rfl⟩
  have HL0 := Lib.hid hL0
  rw [hL0]
  clear hL0 hB0 hn hlt hH hS hsB
  go_enter Try.func80, Try.ntmps80
  go_wp2_with fail
  go_loopw [7, 8] (fun va vb wr => ∃ (a b : Nat) (D : Array V), va = .int .i64 a ∧ vb = .int .i64 b ∧ Hid (a + 20 = b) ∧ a ≤ n ∧ b ≤ n + 20 ∧ Hid (D.size = n) ∧ Hid (RowAt w blk off D wr) ∧ Hid (blocks lt n a D = B0)) (fun _ vb _ => n + 20 - (intOf vb).toNat)
  case atStart => exact ⟨0, 20, d, rfl, rfl, rfl, by omega, by omega, HN, HST, HB0⟩
  case round =>
    clear HB0
    obtain ⟨a, b, D, rfl, rfl, HAB, h1, h2, HD, HR, HB⟩ := hrel
    have hab := HAB.out
    have hab1 : a ≤ b := by omega
    have hab2 : b ≤ a + 20 := by omega
    have hab3 : a + 20 ≤ b := by omega
    clear hab
    have hD := HD.out
    by_cases g : b ≤ n
    · go_wp2_with fail
      have hc := insV_calls s hs S cap blk off hne D a b wr (rowAt_holds HR.out HH.out (hD.trans HN.out.symm)) (rowAt_cell HR.out HS.out hne) (by omega) (by omega) (by omega)
      rw [hD] at hc
      clear hD
      refine hc.mono ?_
      rintro e w' ⟨rfl, hR⟩
      have HR2 := Lib.hid hR
      clear hR
      go_wp2_with fail
      go_roundw
      case rel =>
        refine ⟨b, b + 20, _, rfl, by go_num, rfl, by omega, by omega, (show _ = _ from (size_ins lt D a b).trans HD.out), (show RowAt _ _ _ _ _ from ?_), (show _ = _ from ?_)⟩
        · obtain ⟨r, hr⟩ := HR2.out
          rw [HLT.out] at hr
          rw [hr]
          exact rowAt_next HR.out (size_ins lt D a b)
        · rw [← blocks_go HAB.out g]; exact HB.out
      case measure => simp [intOf]; omega
    · go_wp2_with fail
      have hc := insV_calls s hs S cap blk off hne D a n wr (rowAt_holds HR.out HH.out (hD.trans HN.out.symm)) (rowAt_cell HR.out HS.out hne) (by omega) (by omega) (by omega)
      rw [hD] at hc
      clear hD
      refine hc.mono ?_
      rintro e w' ⟨rfl, hR⟩
      have HRB : Hid (RowAt w blk off B0 w') := by
        obtain ⟨r, hr⟩ := hR
        rw [HLT.out] at hr
        show RowAt _ _ _ _ _
        rw [hr, ← HB.out, blocks_end (by omega)]
        exact rowAt_next HR.out (size_ins lt D a n)
      clear hR HR HB HAB hab1 hab2 hab3 HD
      obtain ⟨wo, rfl⟩ : ∃ wo, wo = w' := ⟨_, rfl⟩
      go_wp2_with fail
      clear hc h1 h2 g
      go_loopw [6, 7, 8, 9] (fun vz va vb vm wr => ∃ (z f : Nat) (D : Array V), vz = .int .i64 z ∧ 0 < z ∧ z ≤ 2 * n + 20 ∧ Hid (n - z < f) ∧ Hid (D.size = n) ∧ Hid (RowAt w blk off D wr) ∧ Hid (levels lt n f z D = L0)) (fun vz _ _ _ _ => 2 * n + 20 - (intOf vz).toNat)
      case atStart => exact ⟨20, n + 1, B0, rfl, by omega, by omega, (show _ < _ by omega), HSB, HRB, HL0⟩
      case round =>
        clear HRB HL0 HSB
        obtain ⟨z, f, D, rfl, hz, hz2, HF, HD, HR, HL⟩ := hrel
        by_cases g : z < n
        · obtain ⟨f', hf'⟩ : ∃ f', f = f' + 1 := ⟨f - 1, by have := HF.out; omega⟩
          have hl := HL.out
          rw [hf', levels, if_pos g] at hl
          obtain ⟨P0, hP0⟩ : ∃ P, pass lt n z (n + 1) 0 D = P := ⟨_, rfl⟩
          rw [hP0] at hl
          have HL' := Lib.hid hl
          have HP0 := Lib.hid hP0
          have hsP : P0.size = n := by rw [← hP0, size_pass]; exact HD.out
          have HSP := Lib.hid hsP
          have HF' : Hid (n - 2 * z < f') := by show _ < _; have := HF.out; omega
          clear hl hP0 hsP hf' HL HF
          obtain ⟨z2, hz2'⟩ : ∃ z2, 2 * z = z2 := ⟨_, rfl⟩
          have hzz : (2 : Int) * (z : Int) = (z2 : Int) := by omega
          have hzz' : (z : Int) * 2 = (z2 : Int) := by omega
          have hz3 : z2 ≤ 2 * z := by omega
          have hz4 : 2 * z ≤ z2 := by omega
          rw [hz2'] at HL' HF'
          have HZ2 := Lib.hid hz2'
          clear hz2'
          obtain ⟨wo, rfl⟩ : ∃ wo, wo = wr := ⟨_, rfl⟩
          go_wp2_with fail
          go_loopw [7, 8] (fun va vb wr => ∃ (a b fp : Nat) (D1 : Array V), va = .int .i64 a ∧ vb = .int .i64 b ∧ Hid (a + z2 = b) ∧ a ≤ n ∧ b ≤ n + z2 ∧ Hid (n - a < fp) ∧ Hid (D1.size = n) ∧ Hid (RowAt w blk off D1 wr) ∧ Hid (pass lt n z fp a D1 = P0)) (fun _ vb _ => n + z2 - (intOf vb).toNat)
          case atStart => exact ⟨0, z2, n + 1, D, rfl, rfl, (show _ = _ by omega), by omega, by omega, (show _ < _ by omega), HD, HR, HP0⟩
          case round =>
            clear HD HR HP0
            obtain ⟨a, b, fp, D1, rfl, rfl, HAB, h1, h2, HFP, HD, HR, HP⟩ := hrel
            have hab := HAB.out
            obtain ⟨am, ham⟩ : ∃ am, a + z = am := ⟨_, rfl⟩
            have hama : (a : Int) + (z : Int) = (am : Int) := by omega
            have q1 : a < am := by omega
            have q2 : am ≤ a + z := by omega
            have q3 : am < b := by omega
            have q4 : b - a ≤ z2 := by omega
            have q5 : z2 ≤ b - a := by omega
            have q6 : b ≤ a + z2 := by omega
            have HAM := Lib.hid ham
            clear ham hab
            obtain ⟨fp', hfp'⟩ : ∃ f', fp = f' + 1 := ⟨fp - 1, by have := HFP.out; omega⟩
            have hp := HP.out
            rw [hfp', pass, HZ2.out, HAB.out, HAM.out] at hp
            have HFQ : Hid (n - a < fp' + 1) := by show _ < _; have := HFP.out; omega
            clear hfp' HP HFP
            have hD := HD.out
            by_cases gb : b ≤ n
            · rw [if_pos gb] at hp
              have HFP' : Hid (n - b < fp') := by show _ < _; have := HFQ.out; omega
              have HP := Lib.hid hp
              clear hp
              go_wp2_with fail
              have hc := symMerge_calls s hs S cap blk off hne z2 D1 a am b wr (rowAt_holds HR.out HH.out (hD.trans HN.out.symm)) (rowAt_cell HR.out HS.out hne) q4 q1 q3 (by omega) (by omega)
              rw [hD] at hc
              clear hD
              refine hc.mono ?_
              rintro e w' ⟨rfl, hR⟩
              have HR2 := Lib.hid hR
              clear hR
              go_wp2_with fail
              go_roundw
              case rel =>
                refine ⟨b, b + z2, fp', _, rfl, by go_num, rfl, gb, by omega, HFP', (show _ = _ from (size_symM' lt z2 D1 a am b).trans HD.out), (show RowAt _ _ _ _ _ from ?_), HP⟩
                obtain ⟨r, hr⟩ := HR2.out
                rw [HLT.out] at hr
                rw [hr]
                exact rowAt_next HR.out (size_symM' lt z2 D1 a am b)
              case measure => simp [intOf]; omega
            · rw [if_neg gb] at hp
              by_cases gm : am < n
              · rw [if_pos gm] at hp
                have HP := Lib.hid hp
                clear hp
                go_wp2_with fail
                have hc := symMerge_calls s hs S cap blk off hne (n - a) D1 a am n wr (rowAt_holds HR.out HH.out (hD.trans HN.out.symm)) (rowAt_cell HR.out HS.out hne) (by omega) q1 gm (by omega) (by omega)
                rw [hD] at hc
                clear hD
                refine hc.mono ?_
                rintro e w' ⟨rfl, hR⟩
                have HR2 : Hid (RowAt w blk off P0 w') := by
                  show RowAt _ _ _ _ _
                  obtain ⟨r, hr⟩ := hR
                  rw [HLT.out] at hr
                  rw [hr, ← HP.out]
                  exact rowAt_next HR.out (size_symM' lt (n - a) D1 a am n)
                clear hR HR HP
                go_wp2_with fail
                refine ⟨⟨z2, f', P0, rfl, by omega, by omega, HF', HSP, HR2, HL'⟩, by simp [intOf]; omega⟩
              · rw [if_neg gm] at hp
                have HR2 : Hid (RowAt w blk off P0 wr) := by
                  show RowAt _ _ _ _ _
                  rw [← hp]; exact HR.out
                clear hp HR hD
                go_wp2_with fail
                refine ⟨⟨z2, f', P0, rfl, by omega, by omega, HF', HSP, HR2, HL'⟩, by simp [intOf]; omega⟩
        · go_wp2_with fail
          go_end0
          refine ⟨rfl, ?_⟩
          have hl := HL.out
          have hf := HF.out
          obtain ⟨f', hf'⟩ : ∃ f', f = f' + 1 := ⟨f - 1, by omega⟩
          rw [hf', levels, if_neg g] at hl
          rw [← hl]; exact HR.out

/-- slices.SortStableFunc by the bits from s on: sorted by them, otherwise as it was. -/
theorem sortStable_calls (s : Nat) (hs : s < 16) (S cap : Nat) (blk off : Nat) (hne : S ≠ blk) (d : Array V) (w : World) (hH : Holds encV w blk off d) (hS : w.cell? ⟨S, 0, none⟩ = some (.int .u64 s)) (hsz : d.size < 1152921504606846976) :
    Calls Try.prog 62 #[.slice (some ⟨blk, off, none⟩) d.size cap, .func (.func 63) #[] #[.pointer (some ⟨S, 0, none⟩)]] w fun e w' =>
      e = .returned (.tuple #[]) ∧ RowAt w blk off (stableS (ltk (keyV s)) d) w' := by
  have hc := stable_calls s hs S cap blk off hne d w hH hS hsz
  clear hH
  go_enter Try.func62, Try.ntmps62
  go_wp2_with fail
  refine hc.mono ?_
  rintro e w' ⟨rfl, hR⟩
  go_wp2_with fail
  go_end0
  exact ⟨rfl, hR⟩
end Go.Proofs.Ytjfdlibceldanaa
