/- The document's own ReadText: what it answers. -/
import Derived.Test.YtjfdlibceldanabGreatDoorRdT
namespace Go.Proofs.YtjfdlibceldanabGreatDoor
open Go.RowKit Go.Sort Tx

set_option maxHeartbeats 4000000 in
set_option maxRecDepth 100000 in
theorem rread_long (s : List UInt8) (hs : s.length ≤ 9223372036854775807) (w : World) (h : 400 < s.length) :
    Calls Tryz.prog 13 #[str s] w fun e w' => e = .returned (.tuple #[noBook, .int .i64 2]) ∧ Ext w w' := by
  have h' : decide ((400 : Int) < s.length) = true := by simp; omega
  go_enter Tryz.func13, Tryz.ntmps13
  go_upto_region 1 with fail
  generalize hW1 : World.alloc w _ = W1
  have br := bk_of hW1
  have hx := ext_of_alloc hW1
  obtain ⟨B, hB⟩ : ∃ B, w.heap.size = B := ⟨_, rfl⟩
  have hBw : w.heap.size ≤ B := by omega
  rw [hB] at br
  simp only [hB]
  clear hW1 hB
  have y0 := br.cell 0
  have y1 := br.cell 1
  have f0 := br.frozen 0
  have f1 := br.frozen 1
  have BF := Lib.hid (bk2 (v0 := .slice none 0 0) (v1 := .slice none 0 0) br)
  have HXF := Lib.hid (ext2 (B := B) hx hBw (.slice none 0 0) (.slice none 0 0))
  clear br
  go_wp2_with fail
  clear y0 y1 f0 f1
  have bF := BF.out
  have hxF := HXF.out
  generalize (W1.setCell _ _).setCell _ _ = wF at *
  have z0 := bF.cell 0
  have z1 := bF.cell 1
  exact bodyPost_ret (v := .tuple #[noBook, .int .i64 2]) (by simp [results, Tryz.results13, go_sem, z0, z1]) rfl ⟨rfl, hxF⟩
theorem scn_tok (t : List UInt8) : ∀ i, i ≤ t.length → ∀ w ∈ (scn (t.take i)).1, w = [10] ∨ ∃ j, j < i ∧ sepB (nth t j) ∧ (scn (t.take j)).2 ≠ [] ∧ w = (scn (t.take j)).2
  | 0, _ => by simp [scn]
  | i + 1, h => by
    have ih := scn_tok t i (by omega)
    rw [scn_succ (by omega), scS]
    intro w hw
    have old : w ∈ (scn (t.take i)).1 → w = [10] ∨ ∃ j, j < i + 1 ∧ sepB (nth t j) ∧ (scn (t.take j)).2 ≠ [] ∧ w = (scn (t.take j)).2 := fun q => by
      rcases ih w q with e | ⟨j, hj, h1, h2, h3⟩
      · exact Or.inl e
      · exact Or.inr ⟨j, by omega, h1, h2, h3⟩
    split at hw
    · rename_i g
      rcases List.mem_append.1 hw with q | q
      · split at q
        · exact old q
        · rename_i g2
          rcases List.mem_append.1 q with q | q
          · exact old q
          · exact Or.inr ⟨i, by omega, g, g2, List.mem_singleton.1 q⟩
      · split at q
        · exact Or.inl (List.mem_singleton.1 q)
        · cases q
    · exact old hw
theorem wrd_ok {c : List UInt8} (hc : c ≠ []) (hn : ∀ b ∈ c, b ≠ 32 ∧ b ≠ 10) : wrdB c = true ↔ tokOk c := by
  have h1 : 1 ≤ c.length := by
    cases c with
    | nil => exact absurd rfl hc
    | cons a l => simp
  have h10 : c ≠ [10] := fun q => (hn 10 (by rw [q]; simp)).2 rfl
  unfold wrdB tokOk okW
  rw [Bool.and_eq_true, Bool.and_eq_true, decide_eq_true_eq, decide_eq_true_eq]
  constructor
  · rintro ⟨⟨_, h⟩, g⟩; exact Or.inr ⟨h, g⟩
  · rintro (h | ⟨h, g⟩)
    · exact absurd h h10
    · exact ⟨⟨h1, h⟩, g⟩
theorem rread_calls (s : List UInt8) (hs : s.length ≤ 9223372036854775807) (w : World) :
    Calls Tryz.prog 13 #[str s] w (RetRead s w) := by
  by_cases h4 : 400 < s.length
  · have he : errF s = 2 := by unfold errF; rw [if_pos h4]
    refine (rread_long s hs w h4).mono ?_
    rintro e w' ⟨rfl, hx⟩
    exact Or.inl ⟨by rw [he]; decide, by rw [he]; rfl, hx⟩
  · have hel := endS_len s
    have hlf := lines_flat s
    have hol := ordW_len (linesF s).flatten
    have hno := fun i hi => scn_nosep (endS s) i hi
    refine rread_walk s (endS s) (by omega) rfl (endS s).length rfl (by omega) w (fun i => (scn ((endS s).take i)).1) (fun i => (scn ((endS s).take i)).2) rfl rfl ?_ ?_ ?_ (RetRead s w) ?_ (tokF s) ?_ (tokF s).length rfl ?_ (wordsF s) (ordW_sorted _) (wordsF s).length rfl (by unfold wordsF; omega) (fun x hx => tok_ne (words_tok.1 hx).1) (fun j hj => least_all s hj) ?_
    · intro i hi h
      try dsimp only
      rw [scn_succ hi, scS, if_pos (show nth (endS s) i = 32 ∨ nth (endS s) i = 10 from h)]
      exact ⟨rfl, rfl⟩
    · intro i hi h
      try dsimp only
      rw [scn_succ hi, scS, if_neg (show ¬ (nth (endS s) i = 32 ∨ nth (endS s) i = 10) from h)]
      exact ⟨rfl, rfl⟩
    · intro i hi
      have := scn_open (endS s) i hi
      try dsimp only
      omega
    · intro w' i hx hi hsep hne hbad
      try dsimp only at hne hbad
      have he : errF s = 1 := by
        refine err_bad (i := i + 1) (w := (scn ((endS s).take i)).2) (by omega) ?_ fun q => ?_
        · rw [scn_succ hi, scS, if_pos (show nth (endS s) i = 32 ∨ nth (endS s) i = 10 from hsep), if_neg hne]
          simp
        · rw [(wrd_ok hne (hno i (by omega))).2 q] at hbad
          cases hbad
      exact Or.inl ⟨by rw [he]; decide, by rw [he]; rfl, hx⟩
    · try dsimp only
      rw [List.take_length, scn_all]
    · intro w' hx hok hk
      have hall : ∀ x ∈ tokF s, tokOk x := fun x hx => by
        have hx' : x ∈ (scn ((endS s).take (endS s).length)).1 := by rw [List.take_length, scn_all]; exact hx
        rcases scn_tok _ _ (Nat.le_refl _) x hx' with e | ⟨j, hj, h1, h2, rfl⟩
        · exact Or.inl e
        · exact (wrd_ok h2 (hno j (by omega))).1 (hok j hj h1 h2)
      have he : errF s = 2 := by rw [err_tok, if_neg h4, if_pos hall, if_pos hk]
      exact Or.inl ⟨by rw [he]; decide, by rw [he]; rfl, hx⟩
    · intro w' WA wc TA tc hx hok hk hWA hWc hS htc hT
      have hall : ∀ x ∈ tokF s, tokOk x := fun x hx => by
        have hx' : x ∈ (scn ((endS s).take (endS s).length)).1 := by rw [List.take_length, scn_all]; exact hx
        rcases scn_tok _ _ (Nat.le_refl _) x hx' with e | ⟨j, hj, h1, h2, rfl⟩
        · exact Or.inl e
        · exact (wrd_ok h2 (hno j (by omega))).1 (hok j hj h1 h2)
      have he : errF s = 0 := by rw [err_tok, if_neg h4, if_pos hall, if_neg hk]
      have hl : (textN (wordsF s) (linesF s) ++ [0] : List Nat).length = (tokF s).length + 1 := by rw [tok_len]; simp
      refine Or.inr ⟨he, WA, TA, wc, tc, by rw [hl], by rw [hl]; exact htc, hWA, hWc, hS, ?_, hx⟩
      rw [hl]
      refine hT.congr fun k hk => ?_
      rw [text_tok, show (textN (wordsF s) (linesF s)).map Int.ofNat ++ [(0 : Int)] = (textN (wordsF s) (linesF s) ++ [0]).map Int.ofNat from by simp]
      rw [nth_lt (by rw [List.length_map]; omega), nth_lt (by omega), List.getElem_map]
      rfl
end Go.Proofs.YtjfdlibceldanabGreatDoor
