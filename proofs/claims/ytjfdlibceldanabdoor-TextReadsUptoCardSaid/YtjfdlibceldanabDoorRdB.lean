/- What the document's own IsBook computes, in plain Lean: just what Good does. No program in sight. -/
import Derived.Test.YtjfdlibceldanabDoorRdP
namespace Go.Proofs.YtjfdlibceldanabDoor.Tx

/-- Is a word one of eight letters at most? -/
def wrdB (w : List UInt8) : Bool := decide (1 ≤ w.length ∧ w.length ≤ 8) && w.all letter
/-- Is the word at a place one of a book's? -/
def giB (W : List (List UInt8)) (T : List Int) (i : Nat) : Bool := wrdB (nth W i) && (T.take (T.length - 1)).contains ((i : Int) + 2) && (decide (i = 0) || decide (nth W (i - 1) < nth W i))
def isB (W : List (List UInt8)) (T : List Int) : Bool :=
  decide (2 ≤ T.length ∧ T.length ≤ 101 ∧ nth T (T.length - 1) = 0 ∧ nth T (T.length - 2) = 1) && ((T.take (T.length - 1)).all fun k => decide (1 ≤ k ∧ k < W.length + 2)) && (List.range W.length).all (giB W T)
theorem contains_last {T : List Int} (h : 2 ≤ T.length) (h0 : nth T (T.length - 1) = 0) (i : Nat) : (T.take (T.length - 1)).contains ((i : Int) + 2) = T.contains ((i : Int) + 2) := by
  have e : T = T.take (T.length - 1) ++ [0] := by
    have h1 : T.length - 1 < T.length := by omega
    rw [nth_lt h1] at h0
    have h2 := List.take_add_one (l := T) (i := T.length - 1)
    rw [List.getElem?_eq_getElem h1, h0, show T.length - 1 + 1 = T.length from by omega, List.take_length] at h2
    exact h2
  rw [Bool.eq_iff_iff, List.contains_iff_mem, List.contains_iff_mem]
  constructor
  · exact fun q => List.mem_of_mem_take q
  · intro q
    rw [e] at q
    rcases List.mem_append.1 q with q | q
    · exact q
    · have := List.mem_singleton.1 q; omega
theorem is_good (W : List (List UInt8)) (T : List Int) : isB W T = goodB W T := by
  unfold isB goodB
  by_cases h : 2 ≤ T.length ∧ T.length ≤ 101 ∧ nth T (T.length - 1) = 0 ∧ nth T (T.length - 2) = 1
  · have e : giB W T = gw W T := by
      funext i
      unfold giB gw wrdB
      rw [contains_last h.1 h.2.2.1]
      cases decide (1 ≤ (nth W i).length ∧ (nth W i).length ≤ 8) <;> cases (nth W i).all letter <;> cases T.contains ((i : Int) + 2) <;> cases (decide (i = 0) || decide (nth W (i - 1) < nth W i)) <;> rfl
    rw [e, decide_eq_true h]
    cases ((T.take (T.length - 1)).all fun k => decide (1 ≤ k ∧ k < W.length + 2)) <;> cases (List.range W.length).all (gw W T) <;> rfl
  · rw [decide_eq_false h]; rfl
end Go.Proofs.YtjfdlibceldanabDoor.Tx
