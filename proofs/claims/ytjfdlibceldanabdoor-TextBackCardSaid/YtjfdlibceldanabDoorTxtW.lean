/- The library's functions on strings, in the words of lists of bytes. -/
import Derived.Test.YtjfdlibceldanabDoorBase
import Derived.Test.YtjfdlibceldanabDoorShelf
import Derived.Test.YtjfdlibceldanabDoorTxtP
import Derived.Shelf.Strings.SlTrimAscii
namespace Go.Proofs.YtjfdlibceldanabDoor
open Go.RowKit Go.Sort Tx

abbrev str (l : List UInt8) : Value := .string ⟨l.toArray⟩
/-- A row of words. -/
def RdS (w : World) (A : Option Addr) (ws : List (List UInt8)) : Prop := Rd w A ws.length (fun k => str (nth ws k))
theorem RdS.ext {w w' : World} {A : Option Addr} {ws : List (List UInt8)} (h : RdS w A ws) (hx : Ext w w') : RdS w' A ws := Rd.ext h hx
theorem RdS.own {w : World} {base : Nat} {e : TypeId} {A : Option Addr} {c : Nat} {ws : List (List UInt8)} (h : w.ownsRow base e 1 (.slice A ws.length c) ws.length (ws.map str)) : RdS w A ws :=
  (Rd.of_own (d := default) h).congr fun k hk => by rw [List.getElem?_map, List.getElem?_eq_getElem hk, nth_lt hk]; rfl
theorem str_data (b : ByteArray) : str b.data.toList = .string b := rfl
theorem bytes_len (l : List UInt8) : (ByteArray.mk l.toArray).size = l.length := rfl

/-- The predicate of text.Read and of text.Signs: is it a space? -/
theorem read_sp (w : World) : PredAt Tryd.prog 19 #[] encR isSp w := fun W r _ => by
  unfold FnGives
  unfold isSp
  by_cases h : r = 32
  · subst h
    go_enter Tryd.func19, Tryd.ntmps19
    go_wp2
    go_ret
    exact ⟨rfl, 0, rfl⟩
  · have e : (r == 32) = false := by simpa using h
    rw [e]
    go_enter Tryd.func19, Tryd.ntmps19
    go_wp2
    go_ret
    exact ⟨by simp; omega, 0, rfl⟩
theorem signs_sp (w : World) : PredAt Tryd.prog 29 #[] encR isSp w := fun W r _ => by
  unfold FnGives
  unfold isSp
  by_cases h : r = 32
  · subst h
    go_enter Tryd.func29, Tryd.ntmps29
    go_wp2
    go_ret
    exact ⟨rfl, 0, rfl⟩
  · have e : (r == 32) = false := by simpa using h
    rw [e]
    go_enter Tryd.func29, Tryd.ntmps29
    go_wp2
    go_ret
    exact ⟨by simp; omega, 0, rfl⟩
/-- What FieldsFunc answers. -/
def RetWds (s : List UInt8) (w : World) (e : Ending) (w' : World) : Prop :=
  ∃ A, e = .returned (.slice (some ⟨A, 0, none⟩) (wds s).length (wds s).length) ∧ w'.ownsRow w.heap.size 9 1 (.slice (some ⟨A, 0, none⟩) (wds s).length (wds s).length) (wds s).length ((wds s).map str) ∧ Ext w w'
theorem fields_of {g : Nat} (s : List UInt8) (w : World) (hs : s.length ≤ 4294967296) (eg : ∀ args w, (callFunc g args).run Tryd.prog w = .ok (.enter g args) w) (hp : PredAt Tryd.prog g #[] encR isSp w) :
    Calls Tryd.prog 18 #[str s, .func (.func g) #[] #[]] w (RetWds s w) := by
  have h := Tryd.strings_FieldsFunc g #[] eg isSp ⟨s.toArray⟩ w hs hp
  have e1 : (Lib.goFieldsP isSp ⟨s.toArray⟩).map (fun b => b.data.toList) = wds s := fields_eq ⟨s.toArray⟩
  have e2 : (Lib.goFieldsP isSp ⟨s.toArray⟩).length = (wds s).length := by rw [← e1, List.length_map]
  have e3 : (Lib.goFieldsP isSp ⟨s.toArray⟩).map Value.string = (wds s).map str := by rw [← e1, List.map_map]; rfl
  rw [e2, e3] at h
  refine h.mono ?_
  rintro e w' ⟨A, rfl, hA, ho, hb⟩
  exact ⟨A, rfl, ho, hb⟩
theorem fields_read (s : List UInt8) (w : World) (hs : s.length ≤ 4294967296) : Calls Tryd.prog 18 #[str s, .func (.func 19) #[] #[]] w (RetWds s w) :=
  fields_of s w hs (enters_of Tryd.func19 (by kernel_rfl) rfl) (read_sp w)
theorem fields_signs (s : List UInt8) (w : World) (hs : s.length ≤ 4294967296) : Calls Tryd.prog 18 #[str s, .func (.func 29) #[] #[]] w (RetWds s w) :=
  fields_of s w hs (enters_of Tryd.func29 (by kernel_rfl) rfl) (signs_sp w)

theorem suffix_calls (s : List UInt8) (w : World) (hs : s.length ≤ 9223372036854775807) :
    Calls Tryd.prog 17 #[str s, .string ⟨#[10]⟩] w fun e w' => e = .returned (str (Lib.trimSuffix s [10])) ∧ w' = w :=
  Tryd.strings_TrimSuffix ⟨s.toArray⟩ ⟨#[10]⟩ w hs
theorem split_calls (s : List UInt8) (m : Int) (w : World) (hs : s.length < 4294967281) (hm : w.cell? ⟨0, 0, none⟩ = some (.int .i64 m)) :
    Calls Tryd.prog 16 #[str s, .string ⟨#[10]⟩] w fun e w' => ∃ A, e = .returned (.slice (some ⟨A, 0, none⟩) (spl 10 s).length (spl 10 s).length) ∧ RdS w' (some ⟨A, 0, none⟩) (spl 10 s) ∧ Ext w w' := by
  have h := Tryd.strings_Split ⟨s.toArray⟩ ⟨#[10]⟩ m w hs hm (by decide)
  have e1 : (Lib.splitB ⟨#[10]⟩ 0 (Lib.countB ⟨s.toArray⟩ ⟨#[10]⟩) ⟨s.toArray⟩).map (fun b => b.data.toList) = spl 10 s := by
    rw [Lib.splitB_data]; exact split_eq 10 s
  have e2 : Lib.countB ⟨s.toArray⟩ ⟨#[10]⟩ + 1 = (spl 10 s).length := by
    rw [← Lib.splitB_all ⟨#[10]⟩ (by decide) 0 _ ⟨s.toArray⟩ rfl, ← e1, List.length_map]
  have e3 : (Lib.splitB ⟨#[10]⟩ 0 (Lib.countB ⟨s.toArray⟩ ⟨#[10]⟩) ⟨s.toArray⟩).map Value.string = (spl 10 s).map str := by rw [← e1, List.map_map]; rfl
  rw [e3] at h
  have e2' : (Lib.countB ⟨s.toArray⟩ ⟨#[10]⟩) + 1 = (spl 10 s).length := e2
  rw [e2'] at h
  refine h.mono ?_
  rintro e w' ⟨rfl, rfl⟩
  refine ⟨w.heap.size, rfl, fun _ => ⟨w.heap.size, 0, rfl, by simp, fun k hk => ?_⟩, (Ext.refl w).alloc _⟩
  rw [Nat.zero_add, World.cell?_alloc_new]
  simp [nth, hk]
theorem nl_count : ∀ (s : List UInt8), (s.flatMap nl).length = s.length + 2 * s.count 10
  | [] => rfl
  | b :: t => by
    rw [List.flatMap_cons, List.length_append, nl_count t, List.count_cons]
    unfold nl
    by_cases h : b = 10
    · subst h; simp; omega
    · have : (b == 10) = false := by simpa using h
      rw [if_neg h, this]; simp; omega
theorem replace_calls (s : List UInt8) (m : Int) (w : World) (hs : s.length ≤ 16777216) (hm : w.cell? ⟨0, 0, none⟩ = some (.int .i64 m)) :
    Calls Tryd.prog 28 #[str s, .string ⟨#[10]⟩, .string ⟨#[32, 10, 32]⟩] w fun e w' => e = .returned (str (s.flatMap nl)) ∧ Ext w w' := by
  have hc : Lib.countB ⟨s.toArray⟩ ⟨#[10]⟩ ≤ s.length := Lib.countB_le ⟨#[10]⟩ (by decide) _ ⟨s.toArray⟩ (Nat.le_refl _)
  have h := Tryd.strings_ReplaceAll ⟨s.toArray⟩ ⟨#[10]⟩ ⟨#[32, 10, 32]⟩ m w (by show s.length < _; omega) hm (by decide) (by
    have : (ByteArray.mk #[32, 10, 32]).size = 3 := rfl
    rw [this]
    show s.length + _ ≤ _
    omega)
  have e : Lib.replaceAll s [10] [32, 10, 32] = s.flatMap nl := replace_nl s
  refine h.mono ?_
  rintro e1 w' ⟨rfl, hb⟩
  refine ⟨?_, hb⟩
  show Ending.returned (str (Lib.replaceAll s [10] [32, 10, 32])) = _
  rw [e]

/-! ### Trim at the letters -/
abbrev abc : ByteArray := ⟨#[97, 98, 99, 100, 101, 102, 103, 104, 105, 106, 107, 108, 109, 110, 111, 112, 113, 114, 115, 116, 117, 118, 119, 120, 121, 122]⟩
set_option maxRecDepth 100000 in
theorem abc_letter (b : UInt8) : abc.data.toList.contains b = letter b := by
  have h : ∀ n : Fin 256, abc.data.toList.contains (UInt8.ofNat n) = letter (UInt8.ofNat n) := by decide
  have := h ⟨b.toNat, b.toNat_lt⟩
  rwa [UInt8.ofNat_toNat] at this
theorem dropWhile_nil {p : UInt8 → Bool} : ∀ {l : List UInt8}, l.dropWhile p = [] ↔ l.all p = true
  | [] => by simp
  | a :: l => by
    rw [List.dropWhile_cons]
    by_cases h : p a = true
    · rw [if_pos h, dropWhile_nil]; simp [h]
    · rw [if_neg h]
      have h' : p a = false := by simpa using h
      simp [h']
theorem trim_empty (w : List UInt8) : Lib.trimS w abc.data.toList = [] ↔ w.all letter = true := by
  have e : (abc.data.toList.contains ·) = letter := funext abc_letter
  unfold Lib.trimS Lib.trimLeftS Lib.trimRightS
  rw [e, dropWhile_nil]
  constructor
  · intro h
    rw [List.all_reverse] at h
    have h1 : (w.reverse.takeWhile letter).all letter = true := List.all_takeWhile
    have h2 : w.reverse.all letter = true := by
      rw [← List.takeWhile_append_dropWhile (p := letter) (l := w.reverse), List.all_append, h1, Bool.true_and]; exact h
    rwa [List.all_reverse] at h2
  · intro h
    have : w.reverse.dropWhile letter = [] := dropWhile_nil.2 (by rw [List.all_reverse]; exact h)
    rw [this]; rfl
theorem trim_calls (s : List UInt8) (w : World) (hs : s.length ≤ 9223372036854775807) :
    Calls Tryd.prog 20 #[str s, .string abc] w fun e w' => ∃ t, e = .returned (str t) ∧ (t = [] ↔ s.all letter = true) ∧ Ext w w' := by
  have h := Any.strings_Trim_laid Tryd.lays160 (by kernel_rfl) ⟨s.toArray⟩ abc w hs (by decide) (ascii_of_all (by decide))
  refine h.mono ?_
  rintro e w' ⟨rfl, hb⟩
  exact ⟨_, rfl, trim_empty s, hb⟩
end Go.Proofs.YtjfdlibceldanabDoor
