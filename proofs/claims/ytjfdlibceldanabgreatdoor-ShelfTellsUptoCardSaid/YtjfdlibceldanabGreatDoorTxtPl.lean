/- strings.FieldsFunc at the space, by bytes, in plain Lean. strings.Split and ReplaceAll at one byte, in plain Lean; the words of a text's lines. The book of a text, in plain Lean: its words by order, its text as numbers; and its text again out of these. The book of a text is good, and its text is there again: plain Lean. -/
import Derived.Lib.FieldsP
import Derived.Lib.SplitLaws
import Derived.Lib.Replace
import Derived.Lib.SlicesCompact
import Derived.Test.YtjfdlibceldanabGreatDoorBase
/-! strings.FieldsFunc at the space, by bytes, in plain Lean. -/
namespace Go.Proofs.YtjfdlibceldanabGreatDoor.Tx
open Go.Lib

/-- What is a space. -/
def isSp (r : Nat) : Bool := r == 32
/-- The words of a line, byte by byte; cur: what the open one has so far. -/
def fl : List UInt8 → List UInt8 → List (List UInt8)
  | cur, [] => if cur = [] then [] else [cur]
  | cur, b :: t => if b = 32 then (if cur = [] then fl [] t else cur :: fl [] t) else fl (cur ++ [b]) t
def wds (l : List UInt8) : List (List UInt8) := fl [] l
theorem fl_skip : ∀ (u cur t : List UInt8), (∀ b ∈ u, b ≠ 32) → fl cur (u ++ t) = fl (cur ++ u) t
  | [], cur, t, _ => by simp
  | b :: u, cur, t, h => by
    rw [List.cons_append, fl, if_neg (h b (by simp)), fl_skip u _ t fun x hx => h x (by simp [hx])]
    simp
theorem fl_sp (cur t : List UInt8) : fl cur (32 :: t) = (if cur = [] then fl [] t else cur :: fl [] t) := by rw [fl, if_pos rfl]

/-- A rune and its bytes: it is the space just where its first byte is; else none of its bytes is. -/
theorem decodeN_space (n b0 b1 b2 b3 : Nat) :
    (b0 = 32 → decodeN n b0 b1 b2 b3 = (32, 1)) ∧ (b0 ≠ 32 → (decodeN n b0 b1 b2 b3).1 ≠ 32 ∧ (2 ≤ (decodeN n b0 b1 b2 b3).2 → b1 / 64 = 2) ∧ (3 ≤ (decodeN n b0 b1 b2 b3).2 → b2 / 64 = 2) ∧ (4 ≤ (decodeN n b0 b1 b2 b3).2 → b3 / 64 = 2) ∧ (decodeN n b0 b1 b2 b3).2 ≤ 4) := by
  unfold decodeN
  constructor
  · intro h; subst h; rfl
  · intro h
    repeat' split
    all_goals (refine ⟨?_, ?_, ?_, ?_, ?_⟩ <;> simp only <;> omega)
theorem get_at (s : ByteArray) {k : Nat} (h : k < s.size) : s.data.toList[k]? = some (s.get! k) := by
  rcases s with ⟨⟨l⟩⟩
  have h' : k < l.length := h
  show l[k]? = some (ByteArray.get! ⟨⟨l⟩⟩ k)
  rw [List.getElem?_eq_getElem h']
  simp [ByteArray.get!, h']
theorem byte_eq (b : UInt8) : b = 32 ↔ b.toNat = 32 := ⟨fun h => by subst h; rfl, fun h => UInt8.toNat.inj h⟩
theorem take_ne {l : List UInt8} {w : Nat} (h : ∀ k b, k < w → l[k]? = some b → b ≠ 32) : ∀ b ∈ l.take w, b ≠ 32 := by
  intro b hb
  obtain ⟨k, hk, rfl⟩ := List.getElem_of_mem hb
  rw [List.length_take] at hk
  rw [List.getElem_take]
  exact h k _ (by omega) (List.getElem?_eq_getElem (by omega))
/-- One rune on. -/
theorem space_step (s : ByteArray) {pos : Nat} (h : pos < s.size) :
    ((isSp (Utf8.decode s pos).1 = true ∧ (Utf8.decode s pos).2 = 1 ∧ s.data.toList.drop pos = 32 :: s.data.toList.drop (pos + 1)) ∨
     (isSp (Utf8.decode s pos).1 = false ∧ ∀ b ∈ (s.data.toList.drop pos).take (Utf8.decode s pos).2, b ≠ 32)) ∧ 1 ≤ (Utf8.decode s pos).2 ∧ pos + (Utf8.decode s pos).2 ≤ s.size := by
  have hw := width_pos s pos
  have hwn : pos + (Utf8.decode s pos).2 ≤ s.size := by
    have := decodeN_le_n' (s.size - pos) (s.get! pos).toNat (s.get! (pos + 1)).toNat (s.get! (pos + 2)).toNat (s.get! (pos + 3)).toNat (by omega)
    rw [← decode_at] at this
    omega
  refine ⟨?_, hw, hwn⟩
  have g0 := get_at s h
  obtain ⟨d1, d2⟩ := decodeN_space (s.size - pos) (s.get! pos).toNat (s.get! (pos + 1)).toNat (s.get! (pos + 2)).toNat (s.get! (pos + 3)).toNat
  rw [← decode_at] at d1 d2
  by_cases hb : s.get! pos = 32
  · left
    have e := d1 ((byte_eq _).1 hb)
    refine ⟨by rw [e]; rfl, by rw [e], ?_⟩
    have hl : pos < s.data.toList.length := by rw [← size_eq]; exact h
    rw [List.drop_eq_getElem_cons hl]
    congr 1
    rw [List.getElem?_eq_getElem hl] at g0
    injection g0 with g0
    rw [g0, hb]
  · right
    obtain ⟨e1, e2, e3, e4, e5⟩ := d2 fun q => hb ((byte_eq _).2 q)
    refine ⟨by unfold isSp; simpa using e1, take_ne fun k b hk hkb => ?_⟩
    rw [List.getElem?_drop] at hkb
    have gk := get_at s (k := pos + k) (by omega)
    rw [gk] at hkb
    injection hkb with hkb
    subst hkb
    intro q
    have q' := (byte_eq _).1 q
    have hk4 : k = 0 ∨ k = 1 ∨ k = 2 ∨ k = 3 := by omega
    rcases hk4 with rfl | rfl | rfl | rfl
    · exact hb q
    · have := e2 (by omega); omega
    · have := e3 (by omega); omega
    · have := e4 (by omega); omega

theorem spansP_eq (s : ByteArray) : ∀ (f pos : Nat) (st : Option Nat) (acc : List (Nat × Nat)), s.size ≤ pos + f → pos ≤ s.size → (∀ a, st = some a → a < pos) →
    acc.map (fun p => pieceU s.data.toList p.1 p.2) ++ fl (openPiece s.data.toList st pos) (s.data.toList.drop pos) = (closeSpans s (spansFromP isSp s f pos st acc)).map (fun p => pieceU s.data.toList p.1 p.2)
  | 0, pos, st, acc, h, hp, hst => by
    obtain rfl : pos = s.size := by omega
    have hd : s.data.toList.drop s.size = [] := List.drop_eq_nil_of_le (by rw [← size_eq]; exact Nat.le_refl _)
    rw [hd, fl]
    cases st with
    | none => simp [spansFromP, closeSpans, openPiece]
    | some a =>
      have := pieceU_ne s.data.toList a s.size (hst a rfl) (by rw [← size_eq]; exact Nat.le_refl _)
      simp [spansFromP, closeSpans, openPiece, this]
  | f + 1, pos, st, acc, h, hp, hst => by
    by_cases hlt : pos < s.size
    · obtain ⟨hc, hw, hwn⟩ := space_step s hlt
      simp only [spansFromP, if_pos hlt]
      rcases hc with ⟨c1, c2, c3⟩ | ⟨c1, c2⟩
      · rw [c1, c2, c3, fl_sp]
        simp only [if_true]
        cases st with
        | none =>
          have ih := spansP_eq s f (pos + 1) none acc (by omega) (by omega) (fun a h => by cases h)
          simpa [openPiece] using ih
        | some a =>
          have hpn := pieceU_ne s.data.toList a pos (hst a rfl) (by rw [← size_eq]; omega)
          have ih := spansP_eq s f (pos + 1) none (acc ++ [(a, pos)]) (by omega) (by omega) (fun a h => by cases h)
          simpa [openPiece, hpn] using ih
      · rw [c1]
        simp only [Bool.false_eq_true, if_false]
        have hsp : fl (openPiece s.data.toList st pos) (s.data.toList.drop pos) = fl (openPiece s.data.toList st pos ++ (s.data.toList.drop pos).take (Utf8.decode s pos).2) (s.data.toList.drop (pos + (Utf8.decode s pos).2)) := by
          conv => lhs; rw [← List.take_append_drop (Utf8.decode s pos).2 (s.data.toList.drop pos), fl_skip _ _ _ c2, List.drop_drop]
        rw [hsp]
        cases st with
        | none =>
          have ih := spansP_eq s f (pos + (Utf8.decode s pos).2) (some pos) acc (by omega) hwn (fun a h => by cases h; omega)
          have e : ([] : List UInt8) ++ (s.data.toList.drop pos).take (Utf8.decode s pos).2 = pieceU s.data.toList pos (pos + (Utf8.decode s pos).2) := by
            unfold pieceU
            rw [List.nil_append, Nat.add_sub_cancel_left]
          simp only [openPiece] at ih ⊢
          rw [e]
          exact ih
        | some a =>
          have ih := spansP_eq s f (pos + (Utf8.decode s pos).2) (some a) acc (by omega) hwn (fun b h => by cases h; have := hst a rfl; omega)
          simp only [openPiece] at ih ⊢
          rw [pieceU_grow _ _ _ _ (Nat.le_of_lt (hst a rfl))]
          exact ih
    · obtain rfl : pos = s.size := by omega
      have hd : s.data.toList.drop s.size = [] := List.drop_eq_nil_of_le (by rw [← size_eq]; exact Nat.le_refl _)
      rw [hd, fl, spansFromP_end _ s _ _ _ _ hlt]
      cases st with
      | none => simp [closeSpans, openPiece]
      | some a =>
        have := pieceU_ne s.data.toList a s.size (hst a rfl) (by rw [← size_eq]; exact Nat.le_refl _)
        simp [closeSpans, openPiece, this]
theorem fields_eq (s : ByteArray) : (goFieldsP isSp s).map (·.data.toList) = wds s.data.toList := by
  have h := spansP_eq s s.size 0 none [] (by omega) (Nat.zero_le _) (fun a h => by cases h)
  simp only [List.map_nil, List.nil_append, openPiece, List.drop_zero] at h
  unfold wds
  rw [h]
  unfold goFieldsP spansOfP
  rw [List.map_map]
  congr 1
  funext p
  simp [pieceU]

/-! ### The words of a line -/
theorem fl_ne : ∀ (t cur : List UInt8), ∀ w ∈ fl cur t, w ≠ []
  | [], cur, w, h => by
    rw [fl] at h
    split at h
    · cases h
    · rename_i g; rw [List.mem_singleton.1 h]; exact g
  | b :: t, cur, w, h => by
    rw [fl] at h
    split at h
    · split at h
      · exact fl_ne t [] w h
      · rename_i g
        rcases List.mem_cons.1 h with rfl | h
        · exact g
        · exact fl_ne t [] w h
    · exact fl_ne t _ w h
theorem wds_ne {l w : List UInt8} (h : w ∈ wds l) : w ≠ [] := fl_ne l [] w h
theorem fl_mem : ∀ (t cur : List UInt8), (∀ x ∈ cur, x ≠ 32) → ∀ w ∈ fl cur t, ∀ x ∈ w, x ≠ 32 ∧ (x ∈ cur ∨ x ∈ t)
  | [], cur, hc, w, h, x, hx => by
    rw [fl] at h
    split at h
    · cases h
    · rw [List.mem_singleton.1 h] at hx; exact ⟨hc x hx, Or.inl hx⟩
  | b :: t, cur, hc, w, h, x, hx => by
    rw [fl] at h
    split at h
    · have tl := fun hw => fl_mem t [] (fun x hx => by cases hx) w hw x hx
      have tl' : w ∈ fl [] t → x ≠ 32 ∧ (x ∈ cur ∨ x ∈ b :: t) := fun hw => by
        obtain ⟨q1, q2⟩ := tl hw
        exact ⟨q1, Or.inr (by rcases q2 with q | q; cases q; exact List.mem_cons_of_mem _ q)⟩
      split at h
      · exact tl' h
      · rcases List.mem_cons.1 h with rfl | h
        · exact ⟨hc x hx, Or.inl hx⟩
        · exact tl' h
    · rename_i g
      obtain ⟨q1, q2⟩ := fl_mem t (cur ++ [b]) (fun y hy => by
        rcases List.mem_append.1 hy with hy | hy
        · exact hc y hy
        · rw [List.mem_singleton.1 hy]; exact g) w h x hx
      refine ⟨q1, ?_⟩
      rcases q2 with q | q
      · rcases List.mem_append.1 q with q | q
        · exact Or.inl q
        · exact Or.inr (by rw [List.mem_singleton.1 q]; simp)
      · exact Or.inr (List.mem_cons_of_mem _ q)
/-- A word behind a space, and what is behind. -/
theorem wds_word (w t : List UInt8) (hw : w ≠ []) (h : ∀ b ∈ w, b ≠ 32) : wds (w ++ 32 :: t) = w :: wds t := by
  unfold wds
  rw [fl_skip w [] _ h, List.nil_append, fl_sp, if_neg hw]
theorem wds_last (w : List UInt8) (hw : w ≠ []) (h : ∀ b ∈ w, b ≠ 32) : wds w = [w] := by
  unfold wds
  have := fl_skip w [] [] h
  rw [List.append_nil, List.nil_append] at this
  rw [this, fl, if_neg hw]
theorem wds_sp (t : List UInt8) : wds (32 :: t) = wds t := by unfold wds; rw [fl_sp, if_pos rfl]
theorem wds_nil : wds [] = [] := rfl
/-- Spaces cut: the words of two parts with a space in between are those of each. -/
theorem fl_app : ∀ (u cur t : List UInt8), fl cur (u ++ 32 :: t) = fl cur u ++ fl [] t
  | [], cur, t => by
    rw [List.nil_append, fl_sp, fl]
    split <;> simp
  | b :: u, cur, t => by
    rw [List.cons_append, fl, fl]
    split
    · split
      · exact fl_app u [] t
      · rw [fl_app u [] t]; rfl
    · exact fl_app u _ t
theorem wds_app (u t : List UInt8) : wds (u ++ 32 :: t) = wds u ++ wds t := fl_app u [] t
end Go.Proofs.YtjfdlibceldanabGreatDoor.Tx

/-! strings.Split and ReplaceAll at one byte, in plain Lean; the words of a text's lines. -/
namespace Go.Proofs.YtjfdlibceldanabGreatDoor.Tx
open Go.Lib

theorem index_cons (b c : UInt8) (l : List UInt8) : index (b :: l) [c] = if b = c then 0 else if index l [c] == -1 then -1 else index l [c] + 1 := by
  rw [index]
  by_cases h : b = c
  · subst h; simp
  · have h' : ¬ c = b := fun q => h q.symm
    simp [h, h']
/-- A text cut at a byte. -/
def spl (c : UInt8) : List UInt8 → List (List UInt8)
  | [] => [[]]
  | b :: t => if b = c then [] :: spl c t else ((b :: (spl c t).headD []) :: (spl c t).tail)
theorem spl_form (c : UInt8) : ∀ l, ∃ p r, spl c l = p :: r
  | [] => ⟨[], [], rfl⟩
  | b :: t => by
    rw [spl]
    split
    · exact ⟨_, _, rfl⟩
    · exact ⟨_, _, rfl⟩
theorem split_eq (c : UInt8) : ∀ s : List UInt8, split s [c] = spl c s
  | [] => rfl
  | b :: t => by
    have ih := split_eq c t
    unfold split at ih ⊢
    rw [spl]
    by_cases h : b = c
    · subst h
      rw [if_pos rfl, count_cons_eq, Nat.add_comm, ← ih]
      have hi : index (b :: t) [b] = ((0 : Nat) : Int) := by rw [index_cons, if_pos rfl]; rfl
      have hm : ¬ (index (b :: t) [b] == -1) = true := fun e => by have := beq_iff_eq.1 e; omega
      rw [splitK, if_neg hm, hi]
      rfl
    · rw [if_neg h, count_cons_ne b c t h, ← ih]
      cases hk : count t [c] with
      | zero => rfl
      | succ k =>
        obtain ⟨i, hi⟩ := index_of_count (s := t) (old := [c]) (by omega)
        have h1 : ¬ (index t [c] == -1) = true := fun e => by have := beq_iff_eq.1 e; omega
        have h2 : index (b :: t) [c] = ((i + 1 : Nat) : Int) := by rw [index_cons, if_neg h, if_neg h1, hi]; rfl
        have h3 : ¬ (index (b :: t) [c] == -1) = true := fun e => by have := beq_iff_eq.1 e; omega
        rw [splitK, if_neg h3, splitK, if_neg h1, h2, hi]
        rfl
theorem replace_eq (c : UInt8) (new : List UInt8) (hn : new ≠ [c]) (s : List UInt8) : replaceAll s [c] new = s.flatMap fun b => if b = c then new else [b] := by
  have hne : ¬ ([c] == new) = true := fun e => hn (beq_iff_eq.1 e).symm
  have hnum : ∀ s, replaceNum s [c] (-1) = count s [c] := fun s => by unfold replaceNum; rw [if_pos (Or.inl (by decide))]
  have key : ∀ s : List UInt8, replaceK [c] new (count s [c]) s = s.flatMap fun b => if b = c then new else [b] := by
    intro s
    induction s with
    | nil => rfl
    | cons b t ih =>
      rw [List.flatMap_cons]
      by_cases h : b = c
      · subst h
        rw [if_pos rfl, count_cons_eq, Nat.add_comm, ← ih, replaceK_hit [b] new _ _ 0 (by rw [index_cons, if_pos rfl]; rfl)]
        simp
      · rw [if_neg h, count_cons_ne b c t h, ← ih]
        cases hk : count t [c] with
        | zero => rfl
        | succ k =>
          obtain ⟨i, hi⟩ := index_of_count (s := t) (old := [c]) (by omega)
          have h1 : ¬ (index t [c] == -1) = true := fun e => by have := beq_iff_eq.1 e; omega
          have h2 : index (b :: t) [c] = ((i + 1 : Nat) : Int) := by rw [index_cons, if_neg h, if_neg h1, hi]; rfl
          rw [replaceK_hit [c] new k (b :: t) (i + 1) h2, replaceK_hit [c] new k t i hi]
          simp
  unfold replaceAll replace
  rw [if_neg hne, hnum, key]

/-- A line's end between spaces. -/
def nl (b : UInt8) : List UInt8 := if b = 10 then [32, 10, 32] else [b]
theorem replace_nl (s : List UInt8) : replaceAll s [10] [32, 10, 32] = s.flatMap nl := replace_eq 10 [32, 10, 32] (by decide) s
/-- Words and ends of lines. -/
def toks (s : List UInt8) : List (List UInt8) := wds (s.flatMap nl)
theorem fl_toks : ∀ (s cur : List UInt8) {p : List UInt8} {r : List (List UInt8)}, spl 10 s = p :: r → fl cur (s.flatMap nl) = fl cur p ++ r.flatMap fun l => [10] :: wds l
  | [], cur, p, r, h => by
    rw [spl] at h
    injection h with h1 h2
    subst h1; subst h2
    simp
  | b :: t, cur, p, r, h => by
    obtain ⟨p', r', ht⟩ := spl_form 10 t
    rw [spl, ht] at h
    rw [List.flatMap_cons]
    unfold nl
    by_cases g : b = 10
    · rw [if_pos g] at h ⊢
      injection h with h1 h2
      subst h1; subst h2
      have e : ([32, 10, 32] : List UInt8) ++ t.flatMap nl = [] ++ 32 :: ([10] ++ 32 :: t.flatMap nl) := rfl
      have ih := fl_toks t [] ht
      unfold nl at ih e
      rw [e, fl_app, fl_app, ih]
      have e2 : fl [] [10] = [[10]] := by simp [fl]
      rw [e2]
      simp [wds]
    · rw [if_neg g] at h ⊢
      injection h with h1 h2
      subst h1; subst h2
      rw [List.singleton_append]
      show _ = fl cur (b :: p') ++ _
      by_cases g2 : b = 32
      · subst g2
        have ih := fl_toks t [] ht
        unfold nl at ih
        rw [fl_sp, fl_sp, ih]
        split <;> rfl
      · have ih := fl_toks t (cur ++ [b]) ht
        unfold nl at ih
        rw [fl, if_neg g2, ih, fl, if_neg g2]
        rfl
/-- The tokens of words, line by line. -/
theorem toks_eq {s p : List UInt8} {r : List (List UInt8)} (h : spl 10 s = p :: r) : toks s = wds p ++ r.flatMap fun l => [10] :: wds l := fl_toks s [] h

/-! ### Lines and words -/
/-- A text's lines, each as its words. -/
def linesF (s : List UInt8) : List (List (List UInt8)) := (spl 10 (trimSuffix s [10])).map wds
/-- Is it a word? -/
def letter (b : UInt8) : Bool := decide (97 ≤ b.toNat ∧ b.toNat ≤ 122)
def okW (w : List UInt8) : Bool := decide (w.length ≤ 8) && w.all letter
theorem spl_no (c : UInt8) : ∀ (s : List UInt8), ∀ p ∈ spl c s, c ∉ p
  | [], p, h => by
    rw [spl] at h
    rw [List.mem_singleton.1 h]
    exact List.not_mem_nil
  | b :: t, p, h => by
    obtain ⟨p', r', ht⟩ := spl_form c t
    have ih := spl_no c t
    rw [ht] at ih
    rw [spl, ht] at h
    split at h
    · rcases List.mem_cons.1 h with rfl | h
      · exact List.not_mem_nil
      · exact ih p h
    · rename_i g
      rcases List.mem_cons.1 h with rfl | h
      · intro hm
        rcases List.mem_cons.1 hm with q | q
        · exact g q.symm
        · exact ih p' (by simp) q
      · exact ih p (List.mem_cons_of_mem _ h)
theorem spl_app (c : UInt8) : ∀ (u t : List UInt8), c ∉ u → spl c (u ++ c :: t) = u :: spl c t
  | [], t, _ => by rw [List.nil_append, spl, if_pos rfl]
  | b :: u, t, h => by
    have h1 : ¬ b = c := fun q => h (by rw [q]; simp)
    rw [List.cons_append, spl, if_neg h1, spl_app c u t fun q => h (List.mem_cons_of_mem _ q)]
    rfl
theorem spl_one (c : UInt8) : ∀ (u : List UInt8), c ∉ u → spl c u = [u]
  | [], _ => rfl
  | b :: u, h => by
    have h1 : ¬ b = c := fun q => h (by rw [q]; simp)
    rw [spl, if_neg h1, spl_one c u fun q => h (List.mem_cons_of_mem _ q)]
    rfl
end Go.Proofs.YtjfdlibceldanabGreatDoor.Tx

/-! The book of a text, in plain Lean: its words by order, its text as numbers; and its text again out of these. -/
namespace Go.Proofs.YtjfdlibceldanabGreatDoor.Tx
open Go.Lib

/-! ### Words by order -/
def ordW (ws : List (List UInt8)) : List (List UInt8) := compact (ws.mergeSort fun x y => decide (x ≤ y))
theorem arr_get {α : Type} [Inhabited α] (zs : List α) {j : Nat} (h : j < zs.length) : zs.toArray[j]! = zs[j] := by simp [h]
theorem mem_compact {α : Type} [Inhabited α] [DecidableEq α] (zs : List α) (x : α) : x ∈ compact zs ↔ x ∈ zs := by
  unfold compact compactUpTo
  constructor
  · intro h
    obtain ⟨j, hj, rfl⟩ := List.mem_map.1 h
    have := List.mem_range.1 (List.mem_filter.1 hj).1
    rw [arr_get zs this]
    exact List.getElem_mem _
  · intro h
    have key : ∀ n j, j ≤ n → (hj : j < zs.length) → ∃ k, ∃ hk : k < zs.length, keeps zs.toArray k = true ∧ zs[k] = zs[j] := by
      intro n
      induction n with
      | zero =>
        intro j h0 hj
        have : j = 0 := by omega
        subst this
        exact ⟨0, hj, by simp [keeps], rfl⟩
      | succ n ih =>
        intro j h0 hj
        by_cases g : j = 0
        · subst g; exact ⟨0, hj, by simp [keeps], rfl⟩
        · by_cases e : zs[j] = zs[j - 1]
          · obtain ⟨k, hk, q1, q2⟩ := ih (j - 1) (by omega) (by omega)
            exact ⟨k, hk, q1, q2.trans e.symm⟩
          · refine ⟨j, hj, ?_, rfl⟩
            unfold keeps
            rw [arr_get zs hj, arr_get zs (by omega : j - 1 < zs.length)]
            exact decide_eq_true (Or.inr e)
    obtain ⟨j, hj, rfl⟩ := List.getElem_of_mem h
    obtain ⟨k, hk, q1, q2⟩ := key j j (Nat.le_refl _) hj
    refine List.mem_map.2 ⟨k, List.mem_filter.2 ⟨List.mem_range.2 hk, q1⟩, ?_⟩
    rw [arr_get zs hk, q2]
theorem le_sorted (ws : List (List UInt8)) : (ws.mergeSort fun x y => decide (x ≤ y)).Pairwise fun x y => x ≤ y := by
  have := List.pairwise_mergeSort (le := fun (x y : List UInt8) => decide (x ≤ y)) (fun a b c h1 h2 => decide_eq_true (List.le_trans (of_decide_eq_true h1) (of_decide_eq_true h2)))
    (fun a b => by rcases List.le_total a b with h | h <;> simp [h]) ws
  exact this.imp fun h => of_decide_eq_true h
theorem lt_of_le_ne {a b : List UInt8} (h : a ≤ b) (g : a ≠ b) : a < b := by
  rcases List.le_iff_lt_or_eq.1 h with h | h
  · exact h
  · exact absurd h g
theorem lt_of_le_lt {a b c : List UInt8} (h : a ≤ b) (g : b < c) : a < c := by
  rcases List.le_iff_lt_or_eq.1 h with h | h
  · exact List.lt_trans h g
  · rw [h]; exact g
theorem ordW_sorted (ws : List (List UInt8)) : (ordW ws).Pairwise fun x y => x < y := by
  have hs := le_sorted ws
  unfold ordW
  generalize (ws.mergeSort fun x y => decide (x ≤ y)) = zs at hs
  unfold compact compactUpTo
  rw [List.pairwise_map, List.pairwise_filter]
  refine List.Pairwise.imp_of_mem ?_ (List.pairwise_lt_range (n := zs.length))
  intro i j hi hj hij _ kj
  have h1 := List.mem_range.1 hi
  have h2 := List.mem_range.1 hj
  rw [arr_get zs h1, arr_get zs h2]
  unfold keeps at kj
  rw [arr_get zs h2, arr_get zs (by omega : j - 1 < zs.length)] at kj
  have kj := of_decide_eq_true kj
  rcases kj with q | q
  · omega
  · have a2 : zs[j - 1] ≤ zs[j] := List.pairwise_iff_getElem.1 hs (j - 1) j (by omega) h2 (by omega)
    have a3 : zs[j - 1] < zs[j] := lt_of_le_ne a2 fun e => q e.symm
    by_cases e : i = j - 1
    · subst e; exact a3
    · exact lt_of_le_lt (List.pairwise_iff_getElem.1 hs i (j - 1) h1 (by omega) (by omega)) a3
theorem mem_ordW (ws : List (List UInt8)) (x : List UInt8) : x ∈ ordW ws ↔ x ∈ ws := by
  unfold ordW
  rw [mem_compact]
  exact (List.mergeSort_perm _ _).mem_iff

/-! ### Numbers of words -/
/-- How many words are less. -/
def num (W : List (List UInt8)) (w : List UInt8) : Nat := W.countP fun x => decide (x < w)
theorem num_le (W : List (List UInt8)) (w : List UInt8) : num W w ≤ W.length := List.countP_le_length
theorem num_below : ∀ {W : List (List UInt8)}, (W.Pairwise fun x y => x < y) → ∀ (w : List UInt8) (j : Nat) (h : j < W.length), (j < num W w ↔ W[j] < w)
  | [], _, _, j, h => by simp at h
  | a :: W, hs, w, j, h => by
    have hs' := List.pairwise_cons.1 hs
    unfold num
    rw [List.countP_cons]
    by_cases ha : a < w
    · have : (decide (a < w)) = true := decide_eq_true ha
      rw [if_pos this]
      cases j with
      | zero => simp only [List.getElem_cons_zero]; exact ⟨fun _ => ha, fun _ => by omega⟩
      | succ j =>
        have ih := num_below hs'.2 w j (by simpa using h)
        unfold num at ih
        simp only [List.getElem_cons_succ]
        rw [← ih]; omega
    · have : ¬ (decide (a < w)) = true := fun q => ha (of_decide_eq_true q)
      rw [if_neg this]
      have hz : W.countP (fun x => decide (x < w)) = 0 := List.countP_eq_zero.2 fun x hx => by
        have h1 := hs'.1 x hx
        intro q
        exact ha (List.lt_trans h1 (of_decide_eq_true q))
      rw [hz]
      refine ⟨fun q => by omega, fun q => ?_⟩
      cases j with
      | zero => exact absurd q ha
      | succ j =>
        exfalso
        simp only [List.getElem_cons_succ] at q
        exact ha (List.lt_trans (hs'.1 _ (List.getElem_mem _)) q)
theorem num_at {W : List (List UInt8)} (hs : W.Pairwise fun x y => x < y) {j : Nat} (h : j < W.length) : num W W[j] = j := by
  have hb := num_below hs W[j]
  have h1 : ¬ j < num W W[j] := fun q => List.lt_irrefl _ ((hb j h).1 q)
  rcases Nat.lt_or_ge (num W W[j]) j with g | g
  · exfalso
    have h2 : W[num W W[j]]'(by omega) < W[j] := List.pairwise_iff_getElem.1 hs _ j (by omega) h g
    have := (hb (num W W[j]) (by omega)).2 h2
    omega
  · omega
theorem num_mem {W : List (List UInt8)} (hs : W.Pairwise fun x y => x < y) {w : List UInt8} (h : w ∈ W) : ∃ hj : num W w < W.length, W[num W w] = w := by
  obtain ⟨j, hj, rfl⟩ := List.getElem_of_mem h
  have := num_at hs hj
  exact ⟨by omega, by simp only [this]⟩
theorem num_found {W : List (List UInt8)} (hs : W.Pairwise fun x y => x < y) (w : List UInt8) : w ∈ W ↔ ∃ hj : num W w < W.length, W[num W w] = w :=
  ⟨num_mem hs, fun ⟨hj, e⟩ => by rw [← e]; exact List.getElem_mem _⟩

/-! ### The book -/
/-- The text as numbers, but for the last one. -/
def textN (W : List (List UInt8)) (L : List (List (List UInt8))) : List Nat := L.flatMap fun l => (l.map fun w => num W w + 2) ++ [1]
def wordsF (s : List UInt8) : List (List UInt8) := ordW (linesF s).flatten
def errF (s : List UInt8) : Nat := if 400 < s.length then 2 else if (linesF s).all (fun l => l.all okW) = false then 1 else if 100 < (textN (wordsF s) (linesF s)).length then 2 else 0
/-- The signs of words; none: one is no word of the book. -/
def signF (W : List (List UInt8)) (w : List UInt8) : Option Nat := if w = [10] then some 1 else if w ∈ W then some (num W w + 2) else none
def signsF (W : List (List UInt8)) (s : List UInt8) : Option (List Nat) := (toks s).mapM (signF W)

theorem letter_ne {b : UInt8} (h : letter b = true) : b ≠ 32 ∧ b ≠ 10 := by
  have := of_decide_eq_true h
  constructor
  · intro q; subst q; exact absurd this (by decide)
  · intro q; subst q; exact absurd this (by decide)
/-- A line written as a space ahead of each word. -/
def wr (l : List (List UInt8)) : List UInt8 := l.flatMap fun w => 32 :: w
theorem wds_wr : ∀ (l : List (List UInt8)), (∀ w ∈ l, w ≠ [] ∧ ∀ b ∈ w, b ≠ 32) → wds (wr l) = l
  | [], _ => rfl
  | w :: l, h => by
    have hw := h w (by simp)
    have ih := wds_wr l fun x hx => h x (by simp [hx])
    unfold wr at ih ⊢
    rw [List.flatMap_cons, List.cons_append, wds_sp]
    cases l with
    | nil => simp only [List.flatMap_nil, List.append_nil]; exact wds_last w hw.1 hw.2
    | cons w' l =>
      rw [List.flatMap_cons, List.cons_append] at ih ⊢
      rw [wds_sp] at ih
      rw [wds_word w _ hw.1 hw.2, ih]
theorem wr_no : ∀ (l : List (List UInt8)), (∀ w ∈ l, ∀ b ∈ w, b ≠ 10) → (10 : UInt8) ∉ wr l := by
  intro l h hm
  unfold wr at hm
  obtain ⟨w, hw, hb⟩ := List.mem_flatMap.1 hm
  rcases List.mem_cons.1 hb with q | q
  · exact absurd q (by decide)
  · exact h w hw 10 q rfl
/-- All lines written. -/
def wrL (L : List (List (List UInt8))) : List UInt8 := L.flatMap fun l => wr l ++ [10]
theorem spl_wrL : ∀ (L : List (List (List UInt8))), (∀ l ∈ L, ∀ w ∈ l, ∀ b ∈ w, b ≠ 10) → spl 10 (wrL L) = L.map wr ++ [[]]
  | [], _ => rfl
  | l :: L, h => by
    have ih := spl_wrL L fun x hx => h x (by simp [hx])
    unfold wrL at ih ⊢
    rw [List.flatMap_cons, List.append_assoc, List.singleton_append, spl_app 10 _ _ (wr_no l (h l (by simp))), ih]
    rfl
theorem toks_wrL (L : List (List (List UInt8))) (h : ∀ l ∈ L, ∀ w ∈ l, w ≠ [] ∧ ∀ b ∈ w, b ≠ 32 ∧ b ≠ 10) : toks (wrL L) = L.flatMap fun l => l ++ [[10]] := by
  have hs := spl_wrL L fun l hl w hw b hb => ((h l hl w hw).2 b hb).2
  have hw : ∀ l ∈ L, wds (wr l) = l := fun l hl => wds_wr l fun w hw => ⟨(h l hl w hw).1, fun b hb => ((h l hl w hw).2 b hb).1⟩
  have key : ∀ (M : List (List (List UInt8))), (∀ l ∈ M, wds (wr l) = l) → (M.map wr ++ [[]]).flatMap (fun l => [10] :: wds l) = [10] :: M.flatMap fun l => l ++ [[10]] := by
    intro M hM
    induction M with
    | nil => rfl
    | cons l M ih =>
      rw [List.map_cons, List.cons_append, List.flatMap_cons, List.flatMap_cons, hM l (by simp), ih fun x hx => hM x (by simp [hx])]
      simp
  cases L with
  | nil => rfl
  | cons l L =>
    rw [List.map_cons, List.cons_append] at hs
    rw [toks_eq hs, hw l (by simp), key L fun x hx => hw x (by simp [hx]), List.flatMap_cons, List.append_assoc, List.singleton_append]
theorem suffix_last (u : List UInt8) : trimSuffix (u ++ [10]) [10] = u := by
  unfold trimSuffix hasSuffix
  rw [if_pos (by simp)]
  simp
theorem spl_snoc : ∀ (u : List UInt8), spl 10 (u ++ [10]) = spl 10 u ++ [[]]
  | [] => by simp [spl]
  | b :: u => by
    obtain ⟨p, r, hp⟩ := spl_form 10 u
    have ih := spl_snoc u
    rw [hp] at ih
    rw [List.cons_append, spl, spl, ih, hp]
    split <;> rfl
theorem lines_wrL (L : List (List (List UInt8))) (hL : L ≠ []) (h : ∀ l ∈ L, ∀ w ∈ l, w ≠ [] ∧ ∀ b ∈ w, b ≠ 32 ∧ b ≠ 10) : linesF (wrL L) = L := by
  have hs := spl_wrL L fun l hl w hw b hb => ((h l hl w hw).2 b hb).2
  have hw : ∀ l ∈ L, wds (wr l) = l := fun l hl => wds_wr l fun w hw => ⟨(h l hl w hw).1, fun b hb => ((h l hl w hw).2 b hb).1⟩
  obtain ⟨u, hu⟩ : ∃ u, wrL L = u ++ [10] := by
    obtain ⟨M, l, rfl⟩ : ∃ M l, L = M ++ [l] := ⟨L.dropLast, L.getLast hL, (List.dropLast_concat_getLast hL).symm⟩
    refine ⟨wrL M ++ wr l, ?_⟩
    unfold wrL
    rw [List.flatMap_append, List.flatMap_cons, List.flatMap_nil, List.append_nil, List.append_assoc]
  unfold linesF
  rw [hu, suffix_last]
  rw [hu, spl_snoc] at hs
  have := List.append_cancel_right hs
  rw [this, List.map_map]
  conv => rhs; rw [← List.map_id L]
  exact List.map_congr_left hw
theorem lines_ne (s : List UInt8) : linesF s ≠ [] := by
  unfold linesF
  obtain ⟨p, r, h⟩ := spl_form 10 (trimSuffix s [10])
  rw [h]
  exact List.cons_ne_nil _ _
/-- Words of lines: none is empty, none has a space or a line's end. -/
theorem lines_words {s : List UInt8} {l : List (List UInt8)} (hl : l ∈ linesF s) {w : List UInt8} (hw : w ∈ l) : w ≠ [] ∧ ∀ b ∈ w, b ≠ 32 ∧ b ≠ 10 := by
  unfold linesF at hl
  obtain ⟨p, hp, rfl⟩ := List.mem_map.1 hl
  refine ⟨wds_ne hw, fun b hb => ?_⟩
  obtain ⟨h1, h2⟩ := fl_mem p [] (fun x hx => by cases hx) w hw b hb
  refine ⟨h1, fun q => ?_⟩
  rcases h2 with h2 | h2
  · cases h2
  · subst q; exact spl_no 10 _ p hp h2
/-- The text again. -/
theorem text_again (s : List UInt8) : linesF (wrL (linesF s)) = linesF s := lines_wrL _ (lines_ne s) fun _ hl _ hw => lines_words hl hw
theorem toks_again (s : List UInt8) : toks (wrL (linesF s)) = (linesF s).flatMap fun l => l ++ [[10]] := toks_wrL _ fun _ hl _ hw => lines_words hl hw
theorem fm_congr {α β : Type} (f g : α → List β) : ∀ (l : List α), (∀ x ∈ l, f x = g x) → l.flatMap f = l.flatMap g
  | [], _ => rfl
  | a :: l, h => by rw [List.flatMap_cons, List.flatMap_cons, h a (by simp), fm_congr f g l fun x hx => h x (by simp [hx])]
theorem mapM_some {α β : Type} (f : α → Option β) (g : α → β) : ∀ (l : List α), (∀ x ∈ l, f x = some (g x)) → l.mapM f = some (l.map g)
  | [], _ => rfl
  | a :: l, h => by
    rw [List.mapM_cons, h a (by simp), mapM_some f g l fun x hx => h x (by simp [hx])]
    rfl
theorem signs_again (s : List UInt8) : signsF (wordsF s) (wrL (linesF s)) = some (textN (wordsF s) (linesF s)) := by
  unfold signsF
  rw [toks_again, mapM_some (signF (wordsF s)) (fun w => if w = [10] then 1 else num (wordsF s) w + 2)]
  · congr 1
    unfold textN
    rw [List.map_flatMap]
    have : ∀ l ∈ linesF s, (l ++ [[10]]).map (fun w => if w = [10] then 1 else num (wordsF s) w + 2) = (l.map fun w => num (wordsF s) w + 2) ++ [1] := by
      intro l hl
      rw [List.map_append]
      congr 1
      refine List.map_congr_left fun w hw => ?_
      rw [if_neg fun q => ?_]
      have := ((lines_words hl hw).2 10 (by rw [q]; simp)).2
      exact this rfl
    exact fm_congr _ _ _ this
  · intro w hw
    obtain ⟨l, hl, hm⟩ := List.mem_flatMap.1 hw
    unfold signF
    by_cases g : w = [10]
    · rw [if_pos g, if_pos g]
    · rw [if_neg g, if_neg g, if_pos]
      unfold wordsF
      rw [mem_ordW]
      rcases List.mem_append.1 hm with q | q
      · exact List.mem_flatten.2 ⟨l, hl, q⟩
      · exact absurd (List.mem_singleton.1 q) g
end Go.Proofs.YtjfdlibceldanabGreatDoor.Tx

/-! The book of a text is good, and its text is there again: plain Lean. -/
namespace Go.Proofs.YtjfdlibceldanabGreatDoor.Tx
open Go.Lib

/-- Is the word at a place good? -/
def gw (W : List (List UInt8)) (T : List Int) (i : Nat) : Bool :=
  decide (1 ≤ (nth W i).length ∧ (nth W i).length ≤ 8) && (nth W i).all letter && (decide (i = 0) || decide (nth W (i - 1) < nth W i)) && T.contains ((i : Int) + 2)
/-- Is it a book of a text? -/
def goodB (W : List (List UInt8)) (T : List Int) : Bool :=
  decide (2 ≤ T.length ∧ T.length ≤ 101 ∧ nth T (T.length - 1) = 0 ∧ nth T (T.length - 2) = 1) && (List.range W.length).all (gw W T) && (T.take (T.length - 1)).all fun k => decide (1 ≤ k ∧ k < W.length + 2)

theorem nth_num {W : List (List UInt8)} (hs : W.Pairwise fun x y => x < y) {w : List UInt8} (h : w ∈ W) : num W w < W.length ∧ nth W (num W w) = w := by
  obtain ⟨h1, h2⟩ := num_mem hs h
  exact ⟨h1, by rw [nth_lt h1]; exact h2⟩
/-- What a sign is written as. -/
def piece (W : List (List UInt8)) (k : Nat) : List UInt8 := if k = 1 then [10] else if 2 ≤ k ∧ k - 2 < W.length then 32 :: nth W (k - 2) else []
theorem piece_words {W : List (List UInt8)} (hs : W.Pairwise fun x y => x < y) : ∀ (L : List (List (List UInt8))), (∀ l ∈ L, ∀ w ∈ l, w ∈ W) → (textN W L).flatMap (piece W) = wrL L
  | [], _ => rfl
  | l :: L, h => by
    have ih := piece_words hs L fun x hx => h x (by simp [hx])
    unfold textN wrL at ih ⊢
    rw [List.flatMap_cons, List.flatMap_append, List.flatMap_cons, ih, List.flatMap_append]
    congr 1
    have e1 : [1].flatMap (piece W) = [10] := by simp [piece]
    rw [e1]
    congr 1
    have hl := h l (by simp)
    clear h ih e1
    induction l with
    | nil => rfl
    | cons w l ih =>
      have hw := nth_num hs (hl w (by simp))
      unfold wr at ih ⊢
      rw [List.map_cons, List.flatMap_cons, List.flatMap_cons, ih fun x hx => hl x (by simp [hx])]
      congr 1
      unfold piece
      rw [if_neg (by omega), if_pos ⟨by omega, by omega⟩, Nat.add_sub_cancel, hw.2]
theorem words_mem {s : List UInt8} {l : List (List UInt8)} (hl : l ∈ linesF s) {w : List UInt8} (hw : w ∈ l) : w ∈ wordsF s := by
  unfold wordsF
  rw [mem_ordW]
  exact List.mem_flatten.2 ⟨l, hl, hw⟩
theorem mem_words {s w : List UInt8} (h : w ∈ wordsF s) : ∃ l ∈ linesF s, w ∈ l := by
  unfold wordsF at h
  rw [mem_ordW] at h
  exact List.mem_flatten.1 h
/-- The whole text, written. -/
theorem piece_all (s : List UInt8) : (textN (wordsF s) (linesF s) ++ [0]).flatMap (piece (wordsF s)) = wrL (linesF s) := by
  rw [List.flatMap_append, piece_words (W := wordsF s) (ordW_sorted _) (linesF s) fun l hl w hw => words_mem hl hw]
  simp [piece]
theorem textN_last : ∀ (W : List (List UInt8)) (L : List (List (List UInt8))), L ≠ [] → ∃ u, textN W L = u ++ [1]
  | W, [l], _ => ⟨l.map fun w => num W w + 2, by simp [textN]⟩
  | W, l :: l2 :: L, _ => by
    obtain ⟨u, hu⟩ := textN_last W (l2 :: L) (List.cons_ne_nil _ _)
    refine ⟨((l.map fun w => num W w + 2) ++ [1]) ++ u, ?_⟩
    unfold textN at hu ⊢
    rw [List.flatMap_cons, hu]
    simp
theorem mem_textN {W : List (List UInt8)} {L : List (List (List UInt8))} {k : Nat} : k ∈ textN W L ↔ (∃ l ∈ L, k = 1 ∨ ∃ w ∈ l, k = num W w + 2) := by
  unfold textN
  rw [List.mem_flatMap]
  constructor
  · rintro ⟨l, hl, hk⟩
    refine ⟨l, hl, ?_⟩
    rcases List.mem_append.1 hk with h | h
    · obtain ⟨w, hw, e⟩ := List.mem_map.1 h
      exact Or.inr ⟨w, hw, e.symm⟩
    · exact Or.inl (List.mem_singleton.1 h)
  · rintro ⟨l, hl, hk⟩
    refine ⟨l, hl, List.mem_append.2 ?_⟩
    rcases hk with rfl | ⟨w, hw, rfl⟩
    · exact Or.inr (by simp)
    · exact Or.inl (List.mem_map.2 ⟨w, hw, rfl⟩)
/-- A read book is good. -/
theorem good_read {s : List UInt8} (h : errF s = 0) : goodB (wordsF s) ((textN (wordsF s) (linesF s) ++ [0]).map Int.ofNat) = true := by
  have hW := ordW_sorted (linesF s).flatten
  obtain ⟨hok, hT⟩ : (linesF s).all (fun l => l.all okW) = true ∧ (textN (wordsF s) (linesF s)).length ≤ 100 := by
    unfold errF at h
    split at h
    · cases h
    · split at h
      · cases h
      · rename_i g
        split at h
        · cases h
        · exact ⟨by simpa using g, by omega⟩
  obtain ⟨u, hu⟩ := textN_last (wordsF s) (linesF s) (lines_ne s)
  unfold goodB
  rw [Bool.and_eq_true, Bool.and_eq_true]
  refine ⟨⟨?_, ?_⟩, ?_⟩
  · rw [hu] at hT ⊢
    simp only [List.length_append, List.length_singleton] at hT
    apply decide_eq_true
    simp only [List.length_map, List.length_append, List.length_singleton]
    refine ⟨by omega, by omega, ?_, ?_⟩
    · rw [nth_lt (by simp), List.getElem_map, List.getElem_append_right (by simp)]
      simp
    · rw [nth_lt (by simp), List.getElem_map, List.getElem_append_left (by simp), List.getElem_append_right (by simp)]
      simp
  · rw [List.all_eq_true]
    intro i hi
    have hi := List.mem_range.1 hi
    have hmem : nth (wordsF s) i ∈ wordsF s := nth_mem hi
    obtain ⟨l, hl, hw⟩ := mem_words hmem
    have h1 := List.all_eq_true.1 (List.all_eq_true.1 hok l hl) _ hw
    unfold okW at h1
    rw [Bool.and_eq_true] at h1
    have h2 := of_decide_eq_true h1.1
    have h3 := (lines_words hl hw).1
    have h4 : 0 < (nth (wordsF s) i).length := List.length_pos_iff.2 h3
    have hnum : num (wordsF s) (nth (wordsF s) i) = i := by rw [nth_lt hi]; exact num_at hW hi
    unfold gw
    rw [decide_eq_true (show _ ∧ _ from ⟨by omega, h2⟩), h1.2, Bool.and_eq_true, Bool.true_and, Bool.true_and]
    refine ⟨?_, ?_⟩
    · by_cases g : i = 0
      · subst g; rfl
      · rw [Bool.or_eq_true]
        right
        apply decide_eq_true
        rw [nth_lt hi, nth_lt (by omega : i - 1 < (wordsF s).length)]
        exact List.pairwise_iff_getElem.1 hW (i - 1) i _ hi (by omega)
    · rw [List.contains_iff_mem]
      refine List.mem_map.2 ⟨i + 2, List.mem_append_left _ ?_, by simp⟩
      rw [mem_textN]
      exact ⟨l, hl, Or.inr ⟨_, hw, by rw [hnum]⟩⟩
  · rw [List.all_eq_true]
    intro k hk
    have e : ((textN (wordsF s) (linesF s) ++ [0]).map Int.ofNat).take (((textN (wordsF s) (linesF s) ++ [0]).map Int.ofNat).length - 1) = (textN (wordsF s) (linesF s)).map Int.ofNat := by
      rw [List.length_map, List.length_append, List.length_singleton, Nat.add_sub_cancel, List.map_append]
      rw [List.take_append_of_le_length (by simp), List.take_of_length_le (by simp)]
    rw [e] at hk
    obtain ⟨n, hn, rfl⟩ := List.mem_map.1 hk
    obtain ⟨l, hl, hc⟩ := mem_textN.1 hn
    apply decide_eq_true
    rcases hc with rfl | ⟨w, hw, rfl⟩
    · simp; omega
    · have := (nth_num hW (words_mem hl hw)).1
      have : num (wordsF s) w < (wordsF s).length := this
      simp; omega
/-- The words of a list are known by their order. -/
theorem ordW_eq {ws V : List (List UInt8)} (hV : V.Pairwise fun x y => x < y) (hm : ∀ x, x ∈ V ↔ x ∈ ws) : ordW ws = V := by
  have h1 := ordW_sorted ws
  have n1 : (ordW ws).Nodup := h1.imp fun h e => by subst e; exact List.lt_irrefl _ h
  have n2 : V.Nodup := hV.imp fun h e => by subst e; exact List.lt_irrefl _ h
  have hp : (ordW ws).Perm V := (List.perm_ext_iff_of_nodup n1 n2).2 fun x => by rw [mem_ordW, hm]
  exact List.Perm.eq_of_pairwise (le := fun x y : List UInt8 => x < y) (fun a b _ _ h1 h2 => absurd (List.lt_trans h1 h2) (List.lt_irrefl _)) h1 hV hp
/-- The text that tells whether text answers at all. -/
def sB : List UInt8 := [98, 32, 97, 10, 98]
theorem lines_sB : linesF sB = [[[98], [97]], [[98]]] := by decide
theorem words_sB : wordsF sB = [[97], [98]] := by
  unfold wordsF
  rw [lines_sB]
  refine ordW_eq (by decide) fun x => ?_
  simp only [List.flatten_cons, List.flatten_nil, List.append_nil, List.cons_append, List.nil_append, List.mem_cons, List.not_mem_nil, or_false]
  constructor
  · rintro (h | h) <;> simp [h]
  · rintro (h | h | h) <;> simp [h]
theorem text_sB : textN (wordsF sB) (linesF sB) = [3, 2, 1, 3, 1] := by rw [words_sB, lines_sB]; decide
theorem err_sB : errF sB = 0 := by
  unfold errF
  rw [text_sB, lines_sB]
  decide
/-- The text written again has the same book. -/
theorem again {s : List UInt8} (h : errF s = 0) (hl : (wrL (linesF s)).length ≤ 400) : errF (wrL (linesF s)) = 0 ∧ wordsF (wrL (linesF s)) = wordsF s ∧ linesF (wrL (linesF s)) = linesF s := by
  have e := text_again s
  have ew : wordsF (wrL (linesF s)) = wordsF s := by unfold wordsF; rw [e]
  refine ⟨?_, ew, e⟩
  unfold errF at h ⊢
  rw [e, ew, if_neg (by omega)]
  by_cases g : 400 < s.length
  · rw [if_pos g] at h; cases h
  · rw [if_neg g] at h; exact h
end Go.Proofs.YtjfdlibceldanabGreatDoor.Tx
