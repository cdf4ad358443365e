/- strings.Split and ReplaceAll at one byte, in plain Lean; the words of a text's lines. -/
import Derived.Test.YtjfdlibceldanabDoorTxtF
import Derived.Lib.Replace
namespace Go.Proofs.YtjfdlibceldanabDoor.Tx
open Go.Lib

theorem index_cons (b c : UInt8) (l : List UInt8) : index (b :: l) [c] = if b = c then 0 else if index l [c] == -1 then -1 else index l [c] + 1 := by
  rw [index]
  by_cases h : b = c
  · subst h; simp
  · have h' : ¬ c = b := fun q => h q.symm
    simp [h, h']
/-- A text cut at a byte. -/
def spl (c : UInt8) : List UInt8 → List (List UInt8)
  | [] => [[]]
  | b :: t => if b = c then [] :: spl c t else ((b :: (spl c t).headD []) :: (spl c t).tail)
theorem spl_form (c : UInt8) : ∀ l, ∃ p r, spl c l = p :: r
  | [] => ⟨[], [], rfl⟩
  | b :: t => by
    rw [spl]
    split
    · exact ⟨_, _, rfl⟩
    · exact ⟨_, _, rfl⟩
theorem split_eq (c : UInt8) : ∀ s : List UInt8, split s [c] = spl c s
  | [] => rfl
  | b :: t => by
    have ih := split_eq c t
    unfold split at ih ⊢
    rw [spl]
    by_cases h : b = c
    · subst h
      rw [if_pos rfl, count_cons_eq, Nat.add_comm, ← ih]
      have hi : index (b :: t) [b] = ((0 : Nat) : Int) := by rw [index_cons, if_pos rfl]; rfl
      have hm : ¬ (index (b :: t) [b] == -1) = true := fun e => by have := beq_iff_eq.1 e; omega
      rw [splitK, if_neg hm, hi]
      rfl
    · rw [if_neg h, count_cons_ne b c t h, ← ih]
      cases hk : count t [c] with
      | zero => rfl
      | succ k =>
        obtain ⟨i, hi⟩ := index_of_count (s := t) (old := [c]) (by omega)
        have h1 : ¬ (index t [c] == -1) = true := fun e => by have := beq_iff_eq.1 e; omega
        have h2 : index (b :: t) [c] = ((i + 1 : Nat) : Int) := by rw [index_cons, if_neg h, if_neg h1, hi]; rfl
        have h3 : ¬ (index (b :: t) [c] == -1) = true := fun e => by have := beq_iff_eq.1 e; omega
        rw [splitK, if_neg h3, splitK, if_neg h1, h2, hi]
        rfl
theorem replace_eq (c : UInt8) (new : List UInt8) (hn : new ≠ [c]) (s : List UInt8) : replaceAll s [c] new = s.flatMap fun b => if b = c then new else [b] := by
  have hne : ¬ ([c] == new) = true := fun e => hn (beq_iff_eq.1 e).symm
  have hnum : ∀ s, replaceNum s [c] (-1) = count s [c] := fun s => by unfold replaceNum; rw [if_pos (Or.inl (by decide))]
  have key : ∀ s : List UInt8, replaceK [c] new (count s [c]) s = s.flatMap fun b => if b = c then new else [b] := by
    intro s
    induction s with
    | nil => rfl
    | cons b t ih =>
      rw [List.flatMap_cons]
      by_cases h : b = c
      · subst h
        rw [if_pos rfl, count_cons_eq, Nat.add_comm, ← ih, replaceK_hit [b] new _ _ 0 (by rw [index_cons, if_pos rfl]; rfl)]
        simp
      · rw [if_neg h, count_cons_ne b c t h, ← ih]
        cases hk : count t [c] with
        | zero => rfl
        | succ k =>
          obtain ⟨i, hi⟩ := index_of_count (s := t) (old := [c]) (by omega)
          have h1 : ¬ (index t [c] == -1) = true := fun e => by have := beq_iff_eq.1 e; omega
          have h2 : index (b :: t) [c] = ((i + 1 : Nat) : Int) := by rw [index_cons, if_neg h, if_neg h1, hi]; rfl
          rw [replaceK_hit [c] new k (b :: t) (i + 1) h2, replaceK_hit [c] new k t i hi]
          simp
  unfold replaceAll replace
  rw [if_neg hne, hnum, key]

/-- A line's end between spaces. -/
def nl (b : UInt8) : List UInt8 := if b = 10 then [32, 10, 32] else [b]
theorem replace_nl (s : List UInt8) : replaceAll s [10] [32, 10, 32] = s.flatMap nl := replace_eq 10 [32, 10, 32] (by decide) s
/-- Words and ends of lines. -/
def toks (s : List UInt8) : List (List UInt8) := wds (s.flatMap nl)
theorem fl_toks : ∀ (s cur : List UInt8) {p : List UInt8} {r : List (List UInt8)}, spl 10 s = p :: r → fl cur (s.flatMap nl) = fl cur p ++ r.flatMap fun l => [10] :: wds l
  | [], cur, p, r, h => by
    rw [spl] at h
    injection h with h1 h2
    subst h1; subst h2
    simp
  | b :: t, cur, p, r, h => by
    obtain ⟨p', r', ht⟩ := spl_form 10 t
    rw [spl, ht] at h
    rw [List.flatMap_cons]
    unfold nl
    by_cases g : b = 10
    · rw [if_pos g] at h ⊢
      injection h with h1 h2
      subst h1; subst h2
      have e : ([32, 10, 32] : List UInt8) ++ t.flatMap nl = [] ++ 32 :: ([10] ++ 32 :: t.flatMap nl) := rfl
      have ih := fl_toks t [] ht
      unfold nl at ih e
      rw [e, fl_app, fl_app, ih]
      have e2 : fl [] [10] = [[10]] := by simp [fl]
      rw [e2]
      simp [wds]
    · rw [if_neg g] at h ⊢
      injection h with h1 h2
      subst h1; subst h2
      rw [List.singleton_append]
      show _ = fl cur (b :: p') ++ _
      by_cases g2 : b = 32
      · subst g2
        have ih := fl_toks t [] ht
        unfold nl at ih
        rw [fl_sp, fl_sp, ih]
        split <;> rfl
      · have ih := fl_toks t (cur ++ [b]) ht
        unfold nl at ih
        rw [fl, if_neg g2, ih, fl, if_neg g2]
        rfl
/-- The tokens of words, line by line. -/
theorem toks_eq {s p : List UInt8} {r : List (List UInt8)} (h : spl 10 s = p :: r) : toks s = wds p ++ r.flatMap fun l => [10] :: wds l := fl_toks s [] h

/-! ### Lines and words -/
/-- A text's lines, each as its words. -/
def linesF (s : List UInt8) : List (List (List UInt8)) := (spl 10 (trimSuffix s [10])).map wds
/-- Is it a word? -/
def letter (b : UInt8) : Bool := decide (97 ≤ b.toNat ∧ b.toNat ≤ 122)
def okW (w : List UInt8) : Bool := decide (w.length ≤ 8) && w.all letter
theorem spl_no (c : UInt8) : ∀ (s : List UInt8), ∀ p ∈ spl c s, c ∉ p
  | [], p, h => by
    rw [spl] at h
    rw [List.mem_singleton.1 h]
    exact List.not_mem_nil
  | b :: t, p, h => by
    obtain ⟨p', r', ht⟩ := spl_form c t
    have ih := spl_no c t
    rw [ht] at ih
    rw [spl, ht] at h
    split at h
    · rcases List.mem_cons.1 h with rfl | h
      · exact List.not_mem_nil
      · exact ih p h
    · rename_i g
      rcases List.mem_cons.1 h with rfl | h
      · intro hm
        rcases List.mem_cons.1 hm with q | q
        · exact g q.symm
        · exact ih p' (by simp) q
      · exact ih p (List.mem_cons_of_mem _ h)
theorem spl_app (c : UInt8) : ∀ (u t : List UInt8), c ∉ u → spl c (u ++ c :: t) = u :: spl c t
  | [], t, _ => by rw [List.nil_append, spl, if_pos rfl]
  | b :: u, t, h => by
    have h1 : ¬ b = c := fun q => h (by rw [q]; simp)
    rw [List.cons_append, spl, if_neg h1, spl_app c u t fun q => h (List.mem_cons_of_mem _ q)]
    rfl
theorem spl_one (c : UInt8) : ∀ (u : List UInt8), c ∉ u → spl c u = [u]
  | [], _ => rfl
  | b :: u, h => by
    have h1 : ¬ b = c := fun q => h (by rw [q]; simp)
    rw [spl, if_neg h1, spl_one c u fun q => h (List.mem_cons_of_mem _ q)]
    rfl
end Go.Proofs.YtjfdlibceldanabDoor.Tx
