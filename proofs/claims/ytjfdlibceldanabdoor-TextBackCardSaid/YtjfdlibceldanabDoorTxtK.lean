/- TextBack: reads, and the law's walk. -/
import Derived.Test.YtjfdlibceldanabDoorTxtO
namespace Go.Proofs.YtjfdlibceldanabDoor
open Go.RowKit Go.Sort Tx

theorem join_calls (W : List (List UInt8)) (hl : ∀ w ∈ W, w.length ≤ 8) (hW : W.length ≤ 400) (A : Option Addr) (c : Nat) (w : World) (hc : W.length ≤ c) (hr : RdS w A W) :
    Calls Tryd.prog 15 #[.slice A W.length c, .string ⟨#[32]⟩] w fun e w' => e = .returned (str (Lib.join W [32])) ∧ Ext w w' := by
  by_cases h0 : W.length = 0
  · obtain rfl : W = [] := List.length_eq_zero_iff.1 h0
    refine (Tryd.strings_Join_none A c ⟨#[32]⟩ w).mono ?_
    rintro e w' ⟨rfl, rfl⟩
    exact ⟨rfl, Ext.refl _⟩
  · obtain ⟨b, o, rfl, hb, hcs⟩ := hr (by omega)
    have hm : (W.map fun l : List UInt8 => (⟨l.toArray⟩ : ByteArray)).map (fun b => b.data.toList) = W := by
      rw [List.map_map]
      exact List.map_id W
    have hjl : ∀ V : List (List UInt8), (∀ w ∈ V, w.length ≤ 8) → (Lib.join V [32]).length ≤ 9 * V.length := by
      intro V hV
      induction V with
      | nil => exact Nat.zero_le _
      | cons a V ih =>
        have h1 := hV a (by simp)
        have h2 := ih fun x hx => hV x (by simp [hx])
        cases V with
        | nil => simp [Lib.join]; omega
        | cons a2 V => simp [Lib.join] at h2 ⊢; omega
    have h := Tryd.strings_Join b o c (W.map fun l => ⟨l.toArray⟩) ⟨#[32]⟩ w (fun j x hx => by
      rw [List.getElem?_map] at hx
      obtain ⟨l, hl1, hl2⟩ := Option.map_eq_some_iff.1 hx
      have hj := (List.getElem?_eq_some_iff.1 hl1).1
      have : nth W j = l := by unfold nth; rw [hl1]; rfl
      rw [hcs j hj, ← hl2]
      show some (str (nth W j)) = _
      rw [this]) hb (by rw [List.length_map]; omega) (by rw [List.length_map]; exact hc) (by rw [hm]; have := hjl W hl; show (Lib.join W [32]).length ≤ _; omega)
    rw [hm, List.length_map] at h
    exact h

set_option maxHeartbeats 4000000 in
set_option maxRecDepth 100000 in
theorem readsK_calls (m : Int) (w : World) (hm : w.cell? ⟨0, 0, none⟩ = some (.int .i64 m)) : Calls Tryd.prog 14 #[] w fun e w' => e = .returned (.bool true) ∧ Ext w w' := by
  have cr : Calls Tryd.prog 5 #[.string ⟨#[98, 32, 97, 10, 98]⟩] w fun e w' => ∃ WA TA wc tc, e = .returned (.tuple #[bookV WA TA 2 wc 6 tc, .int .i64 0]) ∧ Rd w' TA 6 (fun k => .int .i64 (nth ([3, 2, 1, 3, 1, 0] : List Nat) k : Nat)) ∧ Ext w w' := by
    refine (read_calls sB (by decide) m w hm).mono ?_
    rintro e w' (⟨h, _⟩ | ⟨_, WA, TA, wc, tc, rfl, _, _, _, _, hT, hx⟩)
    · exact absurd err_sB h
    · rw [text_sB, words_sB]
      rw [text_sB] at hT
      exact ⟨WA, TA, wc, tc, rfl, hT, hx⟩
  have CR := Lib.hid cr
  clear cr
  go_enter Tryd.func14, Tryd.ntmps14
  go_wp2_with fail
  with_reducible refine CR.out.mono ?_
  rintro e w1 ⟨WA, TA, wc, tc, rfl, hT, hx1⟩
  go_wp2_with fail
  generalize hW1 : World.alloc w1 _ = W1
  have bx := bk_of hW1
  have hx2 := ext_of_alloc hW1
  obtain ⟨b, o, rfl, hb, hc⟩ := hT (by decide)
  have p0 : W1.cell? ⟨b, o, none⟩ = some (.int .i64 3) := ecell (hc 0 (by decide)) hx2
  have p2 : W1.cell? ⟨b, o + 2, none⟩ = some (.int .i64 1) := ecell (hc 2 (by decide)) hx2
  have b0 := bx.cell 0
  have b1 := bx.cell 1
  clear hW1 hc hT
  go_wp2_with fail
  go_simp
  go_wp2_with fail
  go_simp
  go_wp2_with fail
  go_ret
  exact ⟨rfl, hx1.trans hx2⟩
end Go.Proofs.YtjfdlibceldanabDoor
