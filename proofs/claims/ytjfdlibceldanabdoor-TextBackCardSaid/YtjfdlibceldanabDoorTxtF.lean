/- strings.FieldsFunc at the space, by bytes, in plain Lean. -/
import Derived.Lib.FieldsP
import Derived.Lib.SplitLaws
namespace Go.Proofs.YtjfdlibceldanabDoor.Tx
open Go.Lib

/-- What is a space. -/
def isSp (r : Nat) : Bool := r == 32
/-- The words of a line, byte by byte; cur: what the open one has so far. -/
def fl : List UInt8 → List UInt8 → List (List UInt8)
  | cur, [] => if cur = [] then [] else [cur]
  | cur, b :: t => if b = 32 then (if cur = [] then fl [] t else cur :: fl [] t) else fl (cur ++ [b]) t
def wds (l : List UInt8) : List (List UInt8) := fl [] l
theorem fl_skip : ∀ (u cur t : List UInt8), (∀ b ∈ u, b ≠ 32) → fl cur (u ++ t) = fl (cur ++ u) t
  | [], cur, t, _ => by simp
  | b :: u, cur, t, h => by
    rw [List.cons_append, fl, if_neg (h b (by simp)), fl_skip u _ t fun x hx => h x (by simp [hx])]
    simp
theorem fl_sp (cur t : List UInt8) : fl cur (32 :: t) = (if cur = [] then fl [] t else cur :: fl [] t) := by rw [fl, if_pos rfl]

/-- A rune and its bytes: it is the space just where its first byte is; else none of its bytes is. -/
theorem decodeN_space (n b0 b1 b2 b3 : Nat) :
    (b0 = 32 → decodeN n b0 b1 b2 b3 = (32, 1)) ∧ (b0 ≠ 32 → (decodeN n b0 b1 b2 b3).1 ≠ 32 ∧ (2 ≤ (decodeN n b0 b1 b2 b3).2 → b1 / 64 = 2) ∧ (3 ≤ (decodeN n b0 b1 b2 b3).2 → b2 / 64 = 2) ∧ (4 ≤ (decodeN n b0 b1 b2 b3).2 → b3 / 64 = 2) ∧ (decodeN n b0 b1 b2 b3).2 ≤ 4) := by
  unfold decodeN
  constructor
  · intro h; subst h; rfl
  · intro h
    repeat' split
    all_goals (refine ⟨?_, ?_, ?_, ?_, ?_⟩ <;> simp only <;> omega)
theorem get_at (s : ByteArray) {k : Nat} (h : k < s.size) : s.data.toList[k]? = some (s.get! k) := by
  rcases s with ⟨⟨l⟩⟩
  have h' : k < l.length := h
  show l[k]? = some (ByteArray.get! ⟨⟨l⟩⟩ k)
  rw [List.getElem?_eq_getElem h']
  simp [ByteArray.get!, h']
theorem byte_eq (b : UInt8) : b = 32 ↔ b.toNat = 32 := ⟨fun h => by subst h; rfl, fun h => UInt8.toNat.inj h⟩
theorem take_ne {l : List UInt8} {w : Nat} (h : ∀ k b, k < w → l[k]? = some b → b ≠ 32) : ∀ b ∈ l.take w, b ≠ 32 := by
  intro b hb
  obtain ⟨k, hk, rfl⟩ := List.getElem_of_mem hb
  rw [List.length_take] at hk
  rw [List.getElem_take]
  exact h k _ (by omega) (List.getElem?_eq_getElem (by omega))
/-- One rune on. -/
theorem space_step (s : ByteArray) {pos : Nat} (h : pos < s.size) :
    ((isSp (Utf8.decode s pos).1 = true ∧ (Utf8.decode s pos).2 = 1 ∧ s.data.toList.drop pos = 32 :: s.data.toList.drop (pos + 1)) ∨
     (isSp (Utf8.decode s pos).1 = false ∧ ∀ b ∈ (s.data.toList.drop pos).take (Utf8.decode s pos).2, b ≠ 32)) ∧ 1 ≤ (Utf8.decode s pos).2 ∧ pos + (Utf8.decode s pos).2 ≤ s.size := by
  have hw := width_pos s pos
  have hwn : pos + (Utf8.decode s pos).2 ≤ s.size := by
    have := decodeN_le_n' (s.size - pos) (s.get! pos).toNat (s.get! (pos + 1)).toNat (s.get! (pos + 2)).toNat (s.get! (pos + 3)).toNat (by omega)
    rw [← decode_at] at this
    omega
  refine ⟨?_, hw, hwn⟩
  have g0 := get_at s h
  obtain ⟨d1, d2⟩ := decodeN_space (s.size - pos) (s.get! pos).toNat (s.get! (pos + 1)).toNat (s.get! (pos + 2)).toNat (s.get! (pos + 3)).toNat
  rw [← decode_at] at d1 d2
  by_cases hb : s.get! pos = 32
  · left
    have e := d1 ((byte_eq _).1 hb)
    refine ⟨by rw [e]; rfl, by rw [e], ?_⟩
    have hl : pos < s.data.toList.length := by rw [← size_eq]; exact h
    rw [List.drop_eq_getElem_cons hl]
    congr 1
    rw [List.getElem?_eq_getElem hl] at g0
    injection g0 with g0
    rw [g0, hb]
  · right
    obtain ⟨e1, e2, e3, e4, e5⟩ := d2 fun q => hb ((byte_eq _).2 q)
    refine ⟨by unfold isSp; simpa using e1, take_ne fun k b hk hkb => ?_⟩
    rw [List.getElem?_drop] at hkb
    have gk := get_at s (k := pos + k) (by omega)
    rw [gk] at hkb
    injection hkb with hkb
    subst hkb
    intro q
    have q' := (byte_eq _).1 q
    have hk4 : k = 0 ∨ k = 1 ∨ k = 2 ∨ k = 3 := by omega
    rcases hk4 with rfl | rfl | rfl | rfl
    · exact hb q
    · have := e2 (by omega); omega
    · have := e3 (by omega); omega
    · have := e4 (by omega); omega

theorem spansP_eq (s : ByteArray) : ∀ (f pos : Nat) (st : Option Nat) (acc : List (Nat × Nat)), s.size ≤ pos + f → pos ≤ s.size → (∀ a, st = some a → a < pos) →
    acc.map (fun p => pieceU s.data.toList p.1 p.2) ++ fl (openPiece s.data.toList st pos) (s.data.toList.drop pos) = (closeSpans s (spansFromP isSp s f pos st acc)).map (fun p => pieceU s.data.toList p.1 p.2)
  | 0, pos, st, acc, h, hp, hst => by
    obtain rfl : pos = s.size := by omega
    have hd : s.data.toList.drop s.size = [] := List.drop_eq_nil_of_le (by rw [← size_eq]; exact Nat.le_refl _)
    rw [hd, fl]
    cases st with
    | none => simp [spansFromP, closeSpans, openPiece]
    | some a =>
      have := pieceU_ne s.data.toList a s.size (hst a rfl) (by rw [← size_eq]; exact Nat.le_refl _)
      simp [spansFromP, closeSpans, openPiece, this]
  | f + 1, pos, st, acc, h, hp, hst => by
    by_cases hlt : pos < s.size
    · obtain ⟨hc, hw, hwn⟩ := space_step s hlt
      simp only [spansFromP, if_pos hlt]
      rcases hc with ⟨c1, c2, c3⟩ | ⟨c1, c2⟩
      · rw [c1, c2, c3, fl_sp]
        simp only [if_true]
        cases st with
        | none =>
          have ih := spansP_eq s f (pos + 1) none acc (by omega) (by omega) (fun a h => by cases h)
          simpa [openPiece] using ih
        | some a =>
          have hpn := pieceU_ne s.data.toList a pos (hst a rfl) (by rw [← size_eq]; omega)
          have ih := spansP_eq s f (pos + 1) none (acc ++ [(a, pos)]) (by omega) (by omega) (fun a h => by cases h)
          simpa [openPiece, hpn] using ih
      · rw [c1]
        simp only [Bool.false_eq_true, if_false]
        have hsp : fl (openPiece s.data.toList st pos) (s.data.toList.drop pos) = fl (openPiece s.data.toList st pos ++ (s.data.toList.drop pos).take (Utf8.decode s pos).2) (s.data.toList.drop (pos + (Utf8.decode s pos).2)) := by
          conv => lhs; rw [← List.take_append_drop (Utf8.decode s pos).2 (s.data.toList.drop pos), fl_skip _ _ _ c2, List.drop_drop]
        rw [hsp]
        cases st with
        | none =>
          have ih := spansP_eq s f (pos + (Utf8.decode s pos).2) (some pos) acc (by omega) hwn (fun a h => by cases h; omega)
          have e : ([] : List UInt8) ++ (s.data.toList.drop pos).take (Utf8.decode s pos).2 = pieceU s.data.toList pos (pos + (Utf8.decode s pos).2) := by
            unfold pieceU
            rw [List.nil_append, Nat.add_sub_cancel_left]
          simp only [openPiece] at ih ⊢
          rw [e]
          exact ih
        | some a =>
          have ih := spansP_eq s f (pos + (Utf8.decode s pos).2) (some a) acc (by omega) hwn (fun b h => by cases h; have := hst a rfl; omega)
          simp only [openPiece] at ih ⊢
          rw [pieceU_grow _ _ _ _ (Nat.le_of_lt (hst a rfl))]
          exact ih
    · obtain rfl : pos = s.size := by omega
      have hd : s.data.toList.drop s.size = [] := List.drop_eq_nil_of_le (by rw [← size_eq]; exact Nat.le_refl _)
      rw [hd, fl, spansFromP_end _ s _ _ _ _ hlt]
      cases st with
      | none => simp [closeSpans, openPiece]
      | some a =>
        have := pieceU_ne s.data.toList a s.size (hst a rfl) (by rw [← size_eq]; exact Nat.le_refl _)
        simp [closeSpans, openPiece, this]
theorem fields_eq (s : ByteArray) : (goFieldsP isSp s).map (·.data.toList) = wds s.data.toList := by
  have h := spansP_eq s s.size 0 none [] (by omega) (Nat.zero_le _) (fun a h => by cases h)
  simp only [List.map_nil, List.nil_append, openPiece, List.drop_zero] at h
  unfold wds
  rw [h]
  unfold goFieldsP spansOfP
  rw [List.map_map]
  congr 1
  funext p
  simp [pieceU]

/-! ### The words of a line -/
theorem fl_ne : ∀ (t cur : List UInt8), ∀ w ∈ fl cur t, w ≠ []
  | [], cur, w, h => by
    rw [fl] at h
    split at h
    · cases h
    · rename_i g; rw [List.mem_singleton.1 h]; exact g
  | b :: t, cur, w, h => by
    rw [fl] at h
    split at h
    · split at h
      · exact fl_ne t [] w h
      · rename_i g
        rcases List.mem_cons.1 h with rfl | h
        · exact g
        · exact fl_ne t [] w h
    · exact fl_ne t _ w h
theorem wds_ne {l w : List UInt8} (h : w ∈ wds l) : w ≠ [] := fl_ne l [] w h
theorem fl_mem : ∀ (t cur : List UInt8), (∀ x ∈ cur, x ≠ 32) → ∀ w ∈ fl cur t, ∀ x ∈ w, x ≠ 32 ∧ (x ∈ cur ∨ x ∈ t)
  | [], cur, hc, w, h, x, hx => by
    rw [fl] at h
    split at h
    · cases h
    · rw [List.mem_singleton.1 h] at hx; exact ⟨hc x hx, Or.inl hx⟩
  | b :: t, cur, hc, w, h, x, hx => by
    rw [fl] at h
    split at h
    · have tl := fun hw => fl_mem t [] (fun x hx => by cases hx) w hw x hx
      have tl' : w ∈ fl [] t → x ≠ 32 ∧ (x ∈ cur ∨ x ∈ b :: t) := fun hw => by
        obtain ⟨q1, q2⟩ := tl hw
        exact ⟨q1, Or.inr (by rcases q2 with q | q; cases q; exact List.mem_cons_of_mem _ q)⟩
      split at h
      · exact tl' h
      · rcases List.mem_cons.1 h with rfl | h
        · exact ⟨hc x hx, Or.inl hx⟩
        · exact tl' h
    · rename_i g
      obtain ⟨q1, q2⟩ := fl_mem t (cur ++ [b]) (fun y hy => by
        rcases List.mem_append.1 hy with hy | hy
        · exact hc y hy
        · rw [List.mem_singleton.1 hy]; exact g) w h x hx
      refine ⟨q1, ?_⟩
      rcases q2 with q | q
      · rcases List.mem_append.1 q with q | q
        · exact Or.inl q
        · exact Or.inr (by rw [List.mem_singleton.1 q]; simp)
      · exact Or.inr (List.mem_cons_of_mem _ q)
/-- A word behind a space, and what is behind. -/
theorem wds_word (w t : List UInt8) (hw : w ≠ []) (h : ∀ b ∈ w, b ≠ 32) : wds (w ++ 32 :: t) = w :: wds t := by
  unfold wds
  rw [fl_skip w [] _ h, List.nil_append, fl_sp, if_neg hw]
theorem wds_last (w : List UInt8) (hw : w ≠ []) (h : ∀ b ∈ w, b ≠ 32) : wds w = [w] := by
  unfold wds
  have := fl_skip w [] [] h
  rw [List.append_nil, List.nil_append] at this
  rw [this, fl, if_neg hw]
theorem wds_sp (t : List UInt8) : wds (32 :: t) = wds t := by unfold wds; rw [fl_sp, if_pos rfl]
theorem wds_nil : wds [] = [] := rfl
/-- Spaces cut: the words of two parts with a space in between are those of each. -/
theorem fl_app : ∀ (u cur t : List UInt8), fl cur (u ++ 32 :: t) = fl cur u ++ fl [] t
  | [], cur, t => by
    rw [List.nil_append, fl_sp, fl]
    split <;> simp
  | b :: u, cur, t => by
    rw [List.cons_append, fl, fl]
    split
    · split
      · exact fl_app u [] t
      · rw [fl_app u [] t]; rfl
    · exact fl_app u _ t
theorem wds_app (u t : List UInt8) : wds (u ++ 32 :: t) = wds u ++ wds t := fl_app u [] t
end Go.Proofs.YtjfdlibceldanabDoor.Tx
