/- The library's functions on strings, in the words of lists of bytes. slices.Concat, Sort, Compact and BinarySearch at words: contracts and one walk. slices.Sort, Compact and BinarySearch at words: contracts. text.Signs: the walk. -/
import Derived.Test.YtjfdlibceldanabGreatDoorBase
import Derived.Test.YtjfdlibceldanabGreatDoorShelf
import Derived.Test.YtjfdlibceldanabGreatDoorTxtPl
import Derived.Shelf.Strings.SlTrimAscii
/-! The library's functions on strings, in the words of lists of bytes. -/
namespace Go.Proofs.YtjfdlibceldanabGreatDoor
open Go.RowKit Go.Sort Tx

abbrev str (l : List UInt8) : Value := .string ⟨l.toArray⟩
/-- A row of words. -/
def RdS (w : World) (A : Option Addr) (ws : List (List UInt8)) : Prop := Rd w A ws.length (fun k => str (nth ws k))
theorem RdS.ext {w w' : World} {A : Option Addr} {ws : List (List UInt8)} (h : RdS w A ws) (hx : Ext w w') : RdS w' A ws := Rd.ext h hx
theorem RdS.own {w : World} {base : Nat} {e : TypeId} {A : Option Addr} {c : Nat} {ws : List (List UInt8)} (h : w.ownsRow base e 1 (.slice A ws.length c) ws.length (ws.map str)) : RdS w A ws :=
  (Rd.of_own (d := default) h).congr fun k hk => by rw [List.getElem?_map, List.getElem?_eq_getElem hk, nth_lt hk]; rfl
theorem str_data (b : ByteArray) : str b.data.toList = .string b := rfl
theorem bytes_len (l : List UInt8) : (ByteArray.mk l.toArray).size = l.length := rfl

/-- The predicate of text.Read and of text.Signs: is it a space? -/
theorem read_sp (w : World) : PredAt Tryz.prog 43 #[] encR isSp w := fun W r _ => by
  unfold FnGives
  unfold isSp
  by_cases h : r = 32
  · subst h
    go_enter Tryz.func43, Tryz.ntmps43
    go_wp2
    go_ret
    exact ⟨rfl, 0, rfl⟩
  · have e : (r == 32) = false := by simpa using h
    rw [e]
    go_enter Tryz.func43, Tryz.ntmps43
    go_wp2
    go_ret
    exact ⟨by simp; omega, 0, rfl⟩
theorem signs_sp (w : World) : PredAt Tryz.prog 30 #[] encR isSp w := fun W r _ => by
  unfold FnGives
  unfold isSp
  by_cases h : r = 32
  · subst h
    go_enter Tryz.func30, Tryz.ntmps30
    go_wp2
    go_ret
    exact ⟨rfl, 0, rfl⟩
  · have e : (r == 32) = false := by simpa using h
    rw [e]
    go_enter Tryz.func30, Tryz.ntmps30
    go_wp2
    go_ret
    exact ⟨by simp; omega, 0, rfl⟩
/-- What FieldsFunc answers. -/
def RetWds (s : List UInt8) (w : World) (e : Ending) (w' : World) : Prop :=
  ∃ A, e = .returned (.slice (some ⟨A, 0, none⟩) (wds s).length (wds s).length) ∧ w'.ownsRow w.heap.size 9 1 (.slice (some ⟨A, 0, none⟩) (wds s).length (wds s).length) (wds s).length ((wds s).map str) ∧ Ext w w'
theorem fields_of {g : Nat} (s : List UInt8) (w : World) (hs : s.length ≤ 4294967296) (eg : ∀ args w, (callFunc g args).run Tryz.prog w = .ok (.enter g args) w) (hp : PredAt Tryz.prog g #[] encR isSp w) :
    Calls Tryz.prog 28 #[str s, .func (.func g) #[] #[]] w (RetWds s w) := by
  have h := Tryz.strings_FieldsFunc g #[] eg isSp ⟨s.toArray⟩ w hs hp
  have e1 : (Lib.goFieldsP isSp ⟨s.toArray⟩).map (fun b => b.data.toList) = wds s := fields_eq ⟨s.toArray⟩
  have e2 : (Lib.goFieldsP isSp ⟨s.toArray⟩).length = (wds s).length := by rw [← e1, List.length_map]
  have e3 : (Lib.goFieldsP isSp ⟨s.toArray⟩).map Value.string = (wds s).map str := by rw [← e1, List.map_map]; rfl
  rw [e2, e3] at h
  refine h.mono ?_
  rintro e w' ⟨A, rfl, hA, ho, hb⟩
  exact ⟨A, rfl, ho, hb⟩
theorem fields_read (s : List UInt8) (w : World) (hs : s.length ≤ 4294967296) : Calls Tryz.prog 28 #[str s, .func (.func 43) #[] #[]] w (RetWds s w) :=
  fields_of s w hs (enters_of Tryz.func43 (by kernel_rfl) rfl) (read_sp w)
theorem fields_signs (s : List UInt8) (w : World) (hs : s.length ≤ 4294967296) : Calls Tryz.prog 28 #[str s, .func (.func 30) #[] #[]] w (RetWds s w) :=
  fields_of s w hs (enters_of Tryz.func30 (by kernel_rfl) rfl) (signs_sp w)

theorem suffix_calls (s : List UInt8) (w : World) (hs : s.length ≤ 9223372036854775807) :
    Calls Tryz.prog 42 #[str s, .string ⟨#[10]⟩] w fun e w' => e = .returned (str (Lib.trimSuffix s [10])) ∧ w' = w :=
  Tryz.strings_TrimSuffix ⟨s.toArray⟩ ⟨#[10]⟩ w hs
theorem split_calls (s : List UInt8) (m : Int) (w : World) (hs : s.length < 4294967281) (hm : w.cell? ⟨0, 0, none⟩ = some (.int .i64 m)) :
    Calls Tryz.prog 35 #[str s, .string ⟨#[10]⟩] w fun e w' => ∃ A, e = .returned (.slice (some ⟨A, 0, none⟩) (spl 10 s).length (spl 10 s).length) ∧ RdS w' (some ⟨A, 0, none⟩) (spl 10 s) ∧ Ext w w' := by
  have h := Tryz.strings_Split ⟨s.toArray⟩ ⟨#[10]⟩ m w hs hm (by decide)
  have e1 : (Lib.splitB ⟨#[10]⟩ 0 (Lib.countB ⟨s.toArray⟩ ⟨#[10]⟩) ⟨s.toArray⟩).map (fun b => b.data.toList) = spl 10 s := by
    rw [Lib.splitB_data]; exact split_eq 10 s
  have e2 : Lib.countB ⟨s.toArray⟩ ⟨#[10]⟩ + 1 = (spl 10 s).length := by
    rw [← Lib.splitB_all ⟨#[10]⟩ (by decide) 0 _ ⟨s.toArray⟩ rfl, ← e1, List.length_map]
  have e3 : (Lib.splitB ⟨#[10]⟩ 0 (Lib.countB ⟨s.toArray⟩ ⟨#[10]⟩) ⟨s.toArray⟩).map Value.string = (spl 10 s).map str := by rw [← e1, List.map_map]; rfl
  rw [e3] at h
  have e2' : (Lib.countB ⟨s.toArray⟩ ⟨#[10]⟩) + 1 = (spl 10 s).length := e2
  rw [e2'] at h
  refine h.mono ?_
  rintro e w' ⟨rfl, rfl⟩
  refine ⟨w.heap.size, rfl, fun _ => ⟨w.heap.size, 0, rfl, by simp, fun k hk => ?_⟩, (Ext.refl w).alloc _⟩
  rw [Nat.zero_add, World.cell?_alloc_new]
  simp [nth, hk]
theorem nl_count : ∀ (s : List UInt8), (s.flatMap nl).length = s.length + 2 * s.count 10
  | [] => rfl
  | b :: t => by
    rw [List.flatMap_cons, List.length_append, nl_count t, List.count_cons]
    unfold nl
    by_cases h : b = 10
    · subst h; simp; omega
    · have : (b == 10) = false := by simpa using h
      rw [if_neg h, this]; simp; omega
theorem replace_calls (s : List UInt8) (m : Int) (w : World) (hs : s.length ≤ 16777216) (hm : w.cell? ⟨0, 0, none⟩ = some (.int .i64 m)) :
    Calls Tryz.prog 29 #[str s, .string ⟨#[10]⟩, .string ⟨#[32, 10, 32]⟩] w fun e w' => e = .returned (str (s.flatMap nl)) ∧ Ext w w' := by
  have hc : Lib.countB ⟨s.toArray⟩ ⟨#[10]⟩ ≤ s.length := Lib.countB_le ⟨#[10]⟩ (by decide) _ ⟨s.toArray⟩ (Nat.le_refl _)
  have h := Tryz.strings_ReplaceAll ⟨s.toArray⟩ ⟨#[10]⟩ ⟨#[32, 10, 32]⟩ m w (by show s.length < _; omega) hm (by decide) (by
    have : (ByteArray.mk #[32, 10, 32]).size = 3 := rfl
    rw [this]
    show s.length + _ ≤ _
    omega)
  have e : Lib.replaceAll s [10] [32, 10, 32] = s.flatMap nl := replace_nl s
  refine h.mono ?_
  rintro e1 w' ⟨rfl, hb⟩
  refine ⟨?_, hb⟩
  show Ending.returned (str (Lib.replaceAll s [10] [32, 10, 32])) = _
  rw [e]

/-! ### Trim at the letters -/
abbrev abc : ByteArray := ⟨#[97, 98, 99, 100, 101, 102, 103, 104, 105, 106, 107, 108, 109, 110, 111, 112, 113, 114, 115, 116, 117, 118, 119, 120, 121, 122]⟩
set_option maxRecDepth 100000 in
theorem abc_letter (b : UInt8) : abc.data.toList.contains b = letter b := by
  have h : ∀ n : Fin 256, abc.data.toList.contains (UInt8.ofNat n) = letter (UInt8.ofNat n) := by decide
  have := h ⟨b.toNat, b.toNat_lt⟩
  rwa [UInt8.ofNat_toNat] at this
theorem dropWhile_nil {p : UInt8 → Bool} : ∀ {l : List UInt8}, l.dropWhile p = [] ↔ l.all p = true
  | [] => by simp
  | a :: l => by
    rw [List.dropWhile_cons]
    by_cases h : p a = true
    · rw [if_pos h, dropWhile_nil]; simp [h]
    · rw [if_neg h]
      have h' : p a = false := by simpa using h
      simp [h']
theorem trim_empty (w : List UInt8) : Lib.trimS w abc.data.toList = [] ↔ w.all letter = true := by
  have e : (abc.data.toList.contains ·) = letter := funext abc_letter
  unfold Lib.trimS Lib.trimLeftS Lib.trimRightS
  rw [e, dropWhile_nil]
  constructor
  · intro h
    rw [List.all_reverse] at h
    have h1 : (w.reverse.takeWhile letter).all letter = true := List.all_takeWhile
    have h2 : w.reverse.all letter = true := by
      rw [← List.takeWhile_append_dropWhile (p := letter) (l := w.reverse), List.all_append, h1, Bool.true_and]; exact h
    rwa [List.all_reverse] at h2
  · intro h
    have : w.reverse.dropWhile letter = [] := dropWhile_nil.2 (by rw [List.all_reverse]; exact h)
    rw [this]; rfl
theorem trim_calls (s : List UInt8) (w : World) (hs : s.length ≤ 9223372036854775807) :
    Calls Tryz.prog 44 #[str s, .string abc] w fun e w' => ∃ t, e = .returned (str t) ∧ (t = [] ↔ s.all letter = true) ∧ Ext w w' := by
  have h := Any.strings_Trim_laid Tryz.lays160 (by kernel_rfl) ⟨s.toArray⟩ abc w hs (by decide) (ascii_of_all (by decide))
  refine h.mono ?_
  rintro e w' ⟨rfl, hb⟩
  exact ⟨_, rfl, trim_empty s, hb⟩
end Go.Proofs.YtjfdlibceldanabGreatDoor

/-! slices.Concat, Sort, Compact and BinarySearch at words: contracts and one walk. -/
namespace Go.Proofs.YtjfdlibceldanabGreatDoor
open Go.RowKit Go.Sort Tx

theorem info_str : (Tryz.prog.info? 9).map (fun i => (i.zero, i.size, i.bytes)) = some (some (.string ⟨#[]⟩), 1, 16) := by kernel_rfl
theorem grow_calls (n : Nat) (w : World) (hn : n ≤ 1000000) :
    Calls Tryz.prog 76 #[.slice none 0 0, .int .i64 n] w fun e w' => ∃ v, e = .returned v ∧ w'.ownsRow w.heap.size 9 1 v 0 [] ∧ Ext w w' := by
  by_cases h : n = 0
  · subst h
    refine (Any8.slices_Grow_room Tryz.lays8_4 none 0 0 0 w (Nat.le_refl _) (by omega) (by omega) (by omega)).mono ?_
    rintro e w' ⟨rfl, rfl⟩
    exact ⟨_, rfl, own_nil _ _ _ _, Ext.refl _⟩
  · obtain ⟨ii, hi, hj0, hj1, hj2⟩ := info_parts info_str
    have hg := Any8.slices_Grow_grow Tryz.lays8_4 ii (.string ⟨#[]⟩) hi hj0 (by omega) none 0 0 n [] w (Nat.le_refl _) (by omega) (by rw [hj2]; omega) (by omega) (by simp) (fun _ => rfl) (fun a h => by cases h)
    refine hg.mono ?_
    rintro e w' ⟨rfl, rfl⟩
    have h1 := grownCap_ge w (0 + n) 0 (Tryz.lays8_4_ren.t 25)
    have h2 := grownCap_le_maxLen w (0 + n) 0 (Tryz.lays8_4_ren.t 25) (by unfold maxLen; omega)
    generalize grownCap w (0 + n) 0 (Tryz.lays8_4_ren.t 25) = G at *
    refine ⟨_, rfl, ⟨rfl, .inr ⟨w.heap.size, G, _, rfl, Nat.le_refl _, (heap_alloc_new w.drew _), Nat.zero_le _, h2, ?_, ?_⟩⟩, (Ext.refl w).drew.alloc _⟩
    · have hz : (Value.cells (.string ⟨#[]⟩)).size = 1 := rfl
      simp [Builtin.zeroCells, hz]
      omega
    · simp

/-- Lines of words, in memory. -/
def LnIn (w : World) (A : Option Addr) (L : List (List (List UInt8))) : Prop :=
  ∃ f : Nat → Option Addr × Nat, Rd w A L.length (fun k => .slice (f k).1 (nth L k).length (f k).2) ∧ ∀ k, k < L.length → ((f k).1 = none → (f k).2 = 0) ∧ RdS w (f k).1 (nth L k)
theorem LnIn.ext {w w' : World} {A : Option Addr} {L : List (List (List UInt8))} (h : LnIn w A L) (hx : Ext w w') : LnIn w' A L := by
  obtain ⟨f, h1, h2⟩ := h
  exact ⟨f, h1.ext hx, fun k hk => ⟨(h2 k hk).1, (h2 k hk).2.ext hx⟩⟩
theorem flat_take {L : List (List (List UInt8))} {i : Nat} (h : i < L.length) : (L.take (i + 1)).flatten = (L.take i).flatten ++ nth L i := by
  rw [List.take_succ_eq_append_getElem h, List.flatten_append, nth_lt h]; simp
theorem flat_le (L : List (List (List UInt8))) (i : Nat) : (L.take i).flatten.length ≤ L.flatten.length := by
  conv => rhs; rw [← List.take_append_drop i L, List.flatten_append, List.length_append]
  omega
theorem map_nth_str (ws : List (List UInt8)) : (List.range ws.length).map (fun k => str (nth ws k)) = ws.map str := by
  refine List.ext_getElem (by simp) fun k h1 h2 => ?_
  simp at h1 h2
  simp [nth, h1]

set_option maxHeartbeats 2000000 in
set_option maxRecDepth 100000 in
theorem concat_calls (L : List (List (List UInt8))) (A : Option Addr) (c : Nat) (w : World) (hL : L.length ≤ 1000000) (ht : L.flatten.length ≤ 1000000) (h : LnIn w A L) :
    Calls Tryz.prog 45 #[.slice A L.length c] w fun e w' => ∃ v, e = .returned v ∧ w'.ownsRow w.heap.size 9 1 v L.flatten.length (L.flatten.map str) ∧ Ext w w' := by
  obtain ⟨ii, hi, hj0, hj1, hj2⟩ := info_parts info_str
  obtain ⟨f, h1, h2⟩ := h
  have HF := Lib.hid (fun i => flat_take (L := L) (i := i)); have HLE := Lib.hid (flat_le L)
  have H1 := Lib.hid h1; have H2 := Lib.hid h2
  obtain ⟨N, hN⟩ : ∃ N, L.length = N := ⟨_, rfl⟩
  rw [hN] at H1 H2 HF hL ⊢
  obtain ⟨T, hT⟩ : ∃ T, L.flatten.length = T := ⟨_, rfl⟩
  rw [hT] at HLE ht ⊢
  have HN := Lib.hid hN; have HT := Lib.hid hT
  clear h1 h2 hN hT
  go_enter Tryz.func45, Tryz.ntmps45
  go_wp2_with fail
  go_loopw [11, 3] (fun vi vs wr => ∃ i : Nat, vi = .int .i64 i ∧ vs = .int .i64 ((L.take i).flatten.length : Nat) ∧ i ≤ N ∧ wr = w) (fun vi _ _ => N - (intOf vi).toNat)
  case atStart => exact ⟨0, rfl, rfl, Nat.zero_le _, rfl⟩
  case round =>
    obtain ⟨i, rfl, rfl, hi', rfl⟩ := hrel
    by_cases g : i < N
    · obtain ⟨b, o, hA, hb, hc⟩ := H1.out (by omega)
      subst hA
      have p1 := hc i g
      dsimp only at p1
      have e1 := HF.out i g
      have e2 := HLE.out (i + 1)
      have e3 : ((L.take (i + 1)).flatten.length : Int) = (L.take i).flatten.length + (nth L i).length := by rw [e1, List.length_append]; omega
      clear hc e1
      obtain ⟨x, hx⟩ : ∃ x, (L.take i).flatten.length = x := ⟨_, rfl⟩
      obtain ⟨y, hy⟩ : ∃ y, (nth L i).length = y := ⟨_, rfl⟩
      rw [hx, hy] at e3
      rw [hy] at p1
      rw [hx]
      have hw : IntKind.i64.wrap ((x : Int) + y) = (x : Int) + y := IntWalk.i64_in _ (by omega)
      have g2 : decide ((x : Int) + y < 0) = false := by simp; omega
      go_wp2_with fail
      refine ⟨⟨i + 1, by go_num, by rw [e3], by omega, by first | trivial | rfl⟩, by simp [intOf]; omega⟩
    · obtain rfl : i = N := by omega
      obtain ⟨wo, rfl⟩ : ∃ wo, wo = wr := ⟨_, rfl⟩
      have e1 : (L.take i).flatten.length = T := by rw [← HT.out, List.take_of_length_le (by rw [HN.out]; exact Nat.le_refl _)]
      rw [e1]
      go_wp2_with (go_at_call 76; with_reducible refine (grow_calls T wo ht).mono ?_; rintro e w1 ⟨v, rfl, ho, hx⟩)
      go_loopw [27, 6] (fun vi vs wr => ∃ j : Nat, vi = .int .i64 j ∧ j ≤ i ∧ Hid (wr.ownsRow wo.heap.size 9 1 vs (L.take j).flatten.length ((L.take j).flatten.map str)) ∧ Ext wo wr) (fun vi _ _ => i - (intOf vi).toNat)
      case atStart => exact ⟨0, rfl, Nat.zero_le _, ho, hx⟩
      case round =>
        clear ho hx
        obtain ⟨j, rfl, hj', ho, hx⟩ := hrel
        by_cases g : j < i
        · obtain ⟨b, o, hA, hb, hc⟩ := (H1.out.ext hx) (by omega)
          subst hA
          have p1 := hc j g
          dsimp only at p1
          have e1 := HF.out j g
          have e2 := HLE.out (j + 1)
          have e3 := HLE.out j
          rw [e1, List.length_append] at e2
          obtain ⟨q1, q2⟩ := H2.out j g
          have q2 := q2.ext hx
          have ho := ho.out
          have hxs := hx.size
          clear hc
          go_wp2_with (at_builtin; refine wpList_appAll (w := wr) rfl _ _ 23 rfl wo.heap.size 9 ii (.string ⟨#[]⟩) 16 Tryz.underlying23 hi hj0 hj1 hj2 rfl _ _ _ rfl ho (f j).1 (nth L j).length (f j).2 (fun k => str (nth (nth L j) k)) rfl q1 q2 (fun _ _ => rfl) (by omega) (by omega) (by omega) hxs ?_; intro v' w2 ho2 hg2)
          have ho3 : w2.ownsRow wo.heap.size 9 1 v' (L.take (j + 1)).flatten.length ((L.take (j + 1)).flatten.map str) := by
            rw [e1, List.length_append, List.map_append, ← map_nth_str (nth L j)]
            exact ho2
          have hx2 : Ext wo w2 := hx.grown hg2 fun k hk => (own_row_ge ho k hk).1
          clear ho ho2 hg2 p1 q1 q2 e1 e2 e3
          go_wp2_with fail
          refine ⟨⟨j + 1, by go_num, by omega, ho3, hx2⟩, by simp [intOf]; omega⟩
        · obtain rfl : j = i := by omega
          have e1 : (L.take j).flatten = L.flatten := by rw [List.take_of_length_le (by rw [HN.out]; exact Nat.le_refl _)]
          have ho := ho.out
          rw [e1, HT.out] at ho
          go_wp2_with fail
          go_ret
          exact ⟨_, rfl, ho, hx⟩
end Go.Proofs.YtjfdlibceldanabGreatDoor

/-! slices.Sort, Compact and BinarySearch at words: contracts. -/
namespace Go.Proofs.YtjfdlibceldanabGreatDoor
open Go.RowKit Go.Sort Tx

theorem own_holdsS {w : World} {base g c : Nat} {ws : List (List UInt8)} (h : w.ownsRow base 9 1 (.slice (some ⟨g, 0, none⟩) ws.length c) ws.length (ws.map str)) : Holds encStr w g 0 ws.toArray := fun j hj => by
  have hj' : j < ws.length := by simpa using hj
  rw [Nat.zero_add]
  refine ⟨?_, h.frozenAt j⟩
  rw [h.cellAt j (by omega)]
  simp [hj', getElem!_pos]
theorem own_sortedS {w w' : World} {base g c m : Nat} {ds : List (List UInt8)} {D : Array (List UInt8)} {os : Array Obj} (h : w.ownsRow base 9 1 (.slice (some ⟨g, 0, none⟩) ds.length c) ds.length (ds.map str)) (hD : D.size = ds.length) (hw : w' = Sort.grow (putRow encStr (Sort.ahead w m) g 0 D) os) :
    w'.ownsRow base 9 1 (.slice (some ⟨g, 0, none⟩) ds.length c) ds.length (D.toList.map str) ∧ w.grownBy w' (some g) := by
  subst hw
  have hg0 : g < w.heap.size := (own_row_ge h g rfl).2
  have hblk : ∀ k, k < w.heap.size → (Sort.grow (putRow encStr (Sort.ahead w m) g 0 D) os).heap[k]? = (putRow encStr w g 0 D).heap[k]? := fun k hk => by
    unfold Sort.grow
    show ((putRow encStr w g 0 D).heap ++ os)[k]? = _
    rw [Array.getElem?_append_left]
    simpa [putRow, mapBlock] using hk
  constructor
  · refine ⟨by simp [hD], .inr ?_⟩
    rcases h.2 with ⟨h', _⟩ | ⟨g', cap', cur, h', hb, hg, hnc, hcm, hcs, htake⟩
    · simp at h'
    · simp only [Value.slice.injEq, Option.some.injEq, Addr.mk.injEq, and_true, true_and] at h'
      obtain ⟨rfl, rfl⟩ := h'
      refine ⟨g, c, putCells encStr 0 D cur, rfl, hb, ?_, hnc, hcm, ?_, ?_⟩
      · rw [hblk g hg0]
        show (w.heap.modify g (onCells (putCells encStr 0 D)))[g]? = _
        rw [Array.getElem?_modify, if_pos rfl, hg]; rfl
      · simp [putCells, hcs]
      · apply List.ext_getElem
        · simp [putCells, hD]; omega
        · intro k h1 h2
          have hk : k < D.size := by simpa using h2
          simp [putCells, hk, getElem!_pos]
  · refine ⟨rfl, rfl, rfl, ?_, fun k hk hne => ?_⟩
    · unfold Sort.grow
      simp [putRow, mapBlock]
    · rw [hblk k hk]
      show (mapBlock w g (putCells encStr 0 D)).heap[k]? = _
      have : g ≠ k := fun e => hne (by rw [e])
      simp [mapBlock, Array.getElem?_modify, this]
theorem own_take {w : World} {base : Nat} {e : TypeId} {g c n m : Nat} {xs : List Value} (h : w.ownsRow base e 1 (.slice (some ⟨g, 0, none⟩) n c) n xs) (hm : m ≤ n) : w.ownsRow base e 1 (.slice (some ⟨g, 0, none⟩) m c) m (xs.take m) := by
  obtain ⟨h1, h2⟩ := h
  refine ⟨by simp; omega, .inr ?_⟩
  rcases h2 with ⟨h', _⟩ | ⟨g', cap', cur, h', hb, hg, hnc, hcm, hcs, htake⟩
  · simp at h'
  · simp only [Value.slice.injEq, Option.some.injEq, Addr.mk.injEq, and_true, true_and] at h'
    obtain ⟨rfl, rfl⟩ := h'
    refine ⟨g, c, cur, rfl, hb, hg, by omega, hcm, hcs, ?_⟩
    rw [← htake, List.take_take]
    congr 1
    omega
theorem info_intT : (Tryz.prog.info? 3).map (fun i => (i.zero, i.size, i.bytes)) = some (some (.int .i64 0), 1, 8) := by kernel_rfl
theorem rdN_own {w : World} {base : Nat} {e : TypeId} {A : Option Addr} {c : Nat} {xs : List Nat} (h : w.ownsRow base e 1 (.slice A xs.length c) xs.length (xs.map fun x => Value.int .i64 (x : Nat))) : Rd w A xs.length (fun k => .int .i64 (nth xs k : Nat)) :=
  (Rd.of_own (d := default) h).congr fun k hk => by rw [List.getElem?_map, List.getElem?_eq_getElem hk, nth_lt hk]; rfl
theorem own_noneT {w : World} {base : Nat} {e : TypeId} {size n : Nat} {A : Option Addr} {c : Nat} {xs : List Value} (h : w.ownsRow base e size (.slice A n c) n xs) : A = none → c = 0 := fun hA => by
  rcases h.2 with ⟨hv, _⟩ | ⟨g, cap, cur, hv, _⟩
  · injection hv
  · subst hA; simp at hv
theorem grown_refl (w : World) (row : Option Nat) : w.grownBy w row := ⟨rfl, rfl, rfl, Nat.le_refl _, fun _ _ _ => rfl⟩
theorem own_cases {w : World} {base : Nat} {e : TypeId} {v : Value} {n : Nat} {xs : List Value} (h : w.ownsRow base e 1 v n xs) : (v = .slice none 0 0 ∧ n = 0) ∨ ∃ g c, v = .slice (some ⟨g, 0, none⟩) n c ∧ n ≤ c := by
  rcases h.2 with h | ⟨g, cap, cur, rfl, _, _, hnc, _⟩
  · exact Or.inl h
  · exact Or.inr ⟨g, cap, rfl, hnc⟩

theorem sortS_calls {w : World} {base : Nat} {v : Value} {ws : List (List UInt8)} (h : w.ownsRow base 9 1 v ws.length (ws.map str)) (hl : ws.length ≤ 1000000) :
    Calls Tryz.prog 46 #[v] w fun e w' => e = .returned (.tuple #[]) ∧ w'.ownsRow base 9 1 v ws.length ((ws.mergeSort fun x y => decide (x ≤ y)).map str) ∧ w.grownBy w' v.ownBlock := by
  rcases own_cases h with ⟨rfl, hn⟩ | ⟨g, c, rfl, hc⟩
  · obtain rfl : ws = [] := List.length_eq_zero_iff.1 hn
    refine (Tryz.slices_Sort_string_none none 0 w).mono ?_
    rintro e w' ⟨rfl, rfl⟩
    exact ⟨rfl, by simpa using h, grown_refl _ _⟩
  · have hg0 : g < w.heap.size := (own_row_ge h g rfl).2
    refine (Tryz.slices_Sort_string g 0 c ws w (own_holdsS h) hg0 (by omega)).mono ?_
    rintro e w' ⟨rfl, n, os, hw⟩
    obtain ⟨h1, h2⟩ := own_sortedS (D := (ws.mergeSort fun x y => decide (x ≤ y)).toArray) (m := n) (os := os) h (by simp) hw
    exact ⟨rfl, h1, h2⟩
theorem compact_le (zs : List (List UInt8)) : (Lib.compact zs).length ≤ zs.length := by
  unfold Lib.compact Lib.compactUpTo
  rw [List.length_map]
  have := List.length_filter_le (Lib.keeps zs.toArray) (List.range zs.length)
  rwa [List.length_range] at this
theorem compactS_calls {w : World} {base : Nat} {v : Value} {ws : List (List UInt8)} (h : w.ownsRow base 9 1 v ws.length (ws.map str)) (hl : ws.length ≤ 1000000) :
    Calls Tryz.prog 47 #[v] w fun e w' => ∃ v', e = .returned v' ∧ w'.ownsRow base 9 1 v' (Lib.compact ws).length ((Lib.compact ws).map str) ∧ w.grownBy w' v.ownBlock := by
  rcases own_cases h with ⟨rfl, hn⟩ | ⟨g, c, rfl, hc⟩
  · obtain rfl : ws = [] := List.length_eq_zero_iff.1 hn
    refine (Tryz.slices_Compact_string_empty none 0 w).mono ?_
    rintro e w' ⟨rfl, rfl⟩
    exact ⟨_, rfl, h, grown_refl _ _⟩
  · refine (Tryz.slices_Compact_string g 0 c ws w (own_holdsS h) (by omega) hc).mono ?_
    rintro e w' ⟨rfl, q, hw⟩
    have hcl := compact_le ws
    obtain ⟨h1, h2⟩ := own_sortedS (D := (Lib.compact ws ++ List.replicate (ws.length - (Lib.compact ws).length) []).toArray) (w' := w') (m := q) (os := #[]) h (by simp; omega) (by rw [hw, grow_empty])
    refine ⟨_, rfl, ?_, h2⟩
    have h3 := own_take h1 hcl
    simpa using h3
theorem searchS_calls (W : List (List UInt8)) (hW : W.Pairwise fun x y => x < y) (x : List UInt8) (A : Option Addr) (c : Nat) (w : World) (hl : W.length ≤ 1000000) (hr : RdS w A W) :
    Calls Tryz.prog 31 #[.slice A W.length c, str x] w fun e w' => e = .returned (.tuple #[.int .i64 (num W x : Nat), .bool (decide (x ∈ W))]) ∧ Ext w w' := by
  by_cases h0 : W.length = 0
  · obtain rfl : W = [] := List.length_eq_zero_iff.1 h0
    refine (Any2.slices_BinarySearch_string_empty Tryz.laysNm226 A c ⟨x.toArray⟩ w).mono ?_
    rintro e w' ⟨rfl, rfl⟩
    exact ⟨rfl, Ext.refl _⟩
  · obtain ⟨b, o, rfl, hb, hc⟩ := hr (by omega)
    have hnl := num_le W x
    have key : Lib.bsGo (fun t => Op.bytesLess ((if t < W.length then (⟨(nth W t).toArray⟩ : ByteArray) else ⟨x.toArray⟩)).toList (ByteArray.mk x.toArray).toList) W.length 0 W.length = num W x := by
      refine Lib.bsGo_spec _ (num W x) (fun t ht => ?_) (fun t ht => ?_) _ _ _ (by omega) (Nat.zero_le _) hnl
      · have htl : t < W.length := by omega
        have := (num_below hW x t htl).1 ht
        rw [if_pos htl, Lib.toList_data, Lib.toList_data, bytesLess_eq]
        rw [nth_lt htl]
        exact decide_eq_true this
      · by_cases htl : t < W.length
        · have : ¬ W[t] < x := fun q => by have := (num_below hW x t htl).2 q; omega
          rw [if_pos htl, Lib.toList_data, Lib.toList_data, bytesLess_eq, nth_lt htl]
          exact decide_eq_false this
        · rw [if_neg htl, bytesLess_eq]
          exact decide_eq_false (List.lt_irrefl _)
    have h := Any2.slices_BinarySearch_string Tryz.laysNm226 b o W.length c (fun t => if t < W.length then ⟨(nth W t).toArray⟩ else ⟨x.toArray⟩) ⟨x.toArray⟩ w (by omega) (fun j hj => by rw [hc j hj]; simp [hj])
    rw [key] at h
    have hd : decide (num W x < W.length ∧ (if num W x < W.length then (⟨(nth W (num W x)).toArray⟩ : ByteArray) else ⟨x.toArray⟩) = ⟨x.toArray⟩) = decide (x ∈ W) := by
      apply decide_eq_decide.2
      rw [num_found hW]
      constructor
      · rintro ⟨h1, h2⟩
        rw [if_pos h1] at h2
        refine ⟨h1, ?_⟩
        have := congrArg (fun b : ByteArray => b.data.toList) h2
        simpa [nth_lt h1] using this
      · rintro ⟨h1, h2⟩
        exact ⟨h1, by rw [if_pos h1, nth_lt h1, h2]⟩
    rw [hd] at h
    refine h.mono ?_
    rintro e w' ⟨rfl, q, rfl⟩
    exact ⟨rfl, (Ext.refl w).drewN q⟩
end Go.Proofs.YtjfdlibceldanabGreatDoor

/-! text.Signs: the walk. -/
namespace Go.Proofs.YtjfdlibceldanabGreatDoor
open Go.RowKit Go.Sort Tx

/-- The sign of a word, or of a line's end. -/
def signV (W : List (List UInt8)) (t : List UInt8) : Nat := if t = [10] then 1 else num W t + 2
theorem str_eq (a b : List UInt8) : (ByteArray.mk a.toArray = ByteArray.mk b.toArray) ↔ a = b := by
  constructor
  · intro h
    have := congrArg (fun b : ByteArray => b.data.toList) h
    simpa using this
  · rintro rfl; rfl
/-- Words of a text, and what the ones are numbered as. -/
def sigs (W T : List (List UInt8)) (i : Nat) : List Nat := (T.take i).map (signV W)
theorem sigs_succ {W T : List (List UInt8)} {i : Nat} (h : i < T.length) : sigs W T (i + 1) = sigs W T i ++ [signV W (nth T i)] := by
  unfold sigs
  rw [List.take_succ_eq_append_getElem h, List.map_append, nth_lt h]
  rfl
theorem sigs_len {W T : List (List UInt8)} {i : Nat} (h : i ≤ T.length) : (sigs W T i).length = i := by
  unfold sigs
  rw [List.length_map, List.length_take]; omega
theorem toks_len (s : List UInt8) : (toks s).length ≤ (s.flatMap nl).length := by
  have key : ∀ (t cur : List UInt8), (fl cur t).length ≤ t.length + (if cur = [] then 0 else 1) := by
    intro t
    induction t with
    | nil => intro cur; rw [fl]; split <;> simp
    | cons b t ih =>
      intro cur
      rw [fl]
      split
      · have := ih []
        simp only [if_true] at this
        split
        · simp only [List.length_cons]; omega
        · simp only [List.length_cons]; omega
      · have := ih (cur ++ [b])
        rw [if_neg (by simp)] at this
        simp only [List.length_cons]
        omega
  have := key (s.flatMap nl) []
  simpa [toks, wds] using this

theorem own_capT {w : World} {base : Nat} {e : TypeId} {size n : Nat} {A : Option Addr} {c : Nat} {xs : List Value} (h : w.ownsRow base e size (.slice A n c) n xs) : n ≤ c := by
  rcases h.2 with ⟨hv, h0⟩ | ⟨g, cap, cur, hv, hb, hg, hnc, _⟩
  · omega
  · injection hv with h1 h2 h3; omega
set_option maxHeartbeats 4000000 in
set_option maxRecDepth 100000 in
theorem signs_walkC (W : List (List UInt8)) (hW : W.Pairwise fun x y => x < y) (hWl : W.length ≤ 1000000) (WA TA : Option Addr) (wc tn tc : Nat) (s : List UInt8) (hs : s.length ≤ 16777216) (m : Int) (w : World) (hm : w.cell? ⟨0, 0, none⟩ = some (.int .i64 m)) (hr : RdS w WA W) :
    Calls Tryz.prog 10 #[.agg #[.slice WA W.length wc, .slice TA tn tc], str s] w fun e w' =>
      ((∀ t ∈ toks s, t = [10] ∨ t ∈ W) ∧ ∃ P p, e = .returned (.tuple #[.slice P (sigs W (toks s) (toks s).length).length p, .bool true]) ∧ (P = none → p = 0) ∧ Rd w' P (sigs W (toks s) (toks s).length).length (fun k => .int .i64 (nth (sigs W (toks s) (toks s).length) k : Nat)) ∧ Ext w w' ∧ (sigs W (toks s) (toks s).length).length ≤ p) ∨
      ((∃ t ∈ toks s, ¬ (t = [10] ∨ t ∈ W)) ∧ e = .returned (.tuple #[.slice none 0 0, .bool false]) ∧ Ext w w') := by
  obtain ⟨ii, hi, hj0, hj1, hj2⟩ := info_parts info_intT
  have hfl : (s.flatMap nl).length ≤ 50331648 := by
    rw [nl_count]; have := List.count_le_length (a := 10) (l := s); omega
  have htl := toks_len s
  have cR := fun w hm => replace_calls s m w hs hm
  have cF : ∀ w, Calls Tryz.prog 28 #[str (s.flatMap nl), .func (.func 30) #[] #[]] w fun e w' => ∃ A, e = .returned (.slice (some ⟨A, 0, none⟩) (toks s).length (toks s).length) ∧ RdS w' (some ⟨A, 0, none⟩) (toks s) ∧ Ext w w' := fun w => by
    refine (fields_signs (s.flatMap nl) w (by omega)).mono ?_
    rintro e w' ⟨A, rfl, ho, hx⟩
    exact ⟨A, rfl, RdS.own ho, hx⟩
  have cS := fun x c w hr => searchS_calls W hW x WA c w hWl hr
  obtain ⟨X, hX⟩ : ∃ X, s.flatMap nl = X := ⟨_, rfl⟩
  obtain ⟨T, hT⟩ : ∃ T, toks s = T := ⟨_, rfl⟩
  rw [hX] at cR cF hfl htl
  rw [hT] at cF htl ⊢
  obtain ⟨N, hN⟩ : ∃ N, T.length = N := ⟨_, rfl⟩
  have HSU := Lib.hid (fun i => sigs_succ (W := W) (T := T) (i := i))
  have HSL := Lib.hid (fun i => sigs_len (W := W) (T := T) (i := i))
  rw [hN] at cF htl HSU HSL ⊢
  have HNT := Lib.hid hN
  have CR := Lib.hid cR; have CF := Lib.hid cF; have CS := Lib.hid cS
  have HM := Lib.hid hm; have HR := Lib.hid hr
  have HB : N ≤ 50331648 := by omega
  clear cR cF cS hX hT hN hm hr htl hfl hs
  go_enter Tryz.func10, Tryz.ntmps10
  go_wp2_with fail
  generalize hW1 : World.alloc w _ = W1
  have bx := bk_of hW1
  have hx := ext_of_alloc hW1
  clear hW1
  with_reducible refine (CR.out W1 (ecell HM.out hx)).mono ?_
  rintro e w2 ⟨rfl, hx2⟩
  go_wp2_with fail
  with_reducible refine (CF.out w2).mono ?_
  rintro e w3 ⟨A, rfl, hA, hx3⟩
  have hxx := (hx.trans hx2).trans hx3
  have BX := Lib.hid (bx.ext (hx2.trans hx3))
  have HA : Hid (Rd w3 (some ⟨A, 0, none⟩) N (fun k => str (nth T k))) := by
    have h : Rd w3 (some ⟨A, 0, none⟩) T.length (fun k => str (nth T k)) := hA
    rw [HNT.out] at h
    exact h
  generalize w.heap.size = B at *
  clear hA hx hx2 hx3 bx CR CF
  go_wp2_with fail
  go_loopw [15, 6] (fun vi vs wr => ∃ i : Nat, vi = .int .i64 i ∧ i ≤ N ∧ Hid (wr.ownsRow w3.heap.size 3 1 vs i ((sigs W T i).map fun x => Value.int .i64 (x : Nat))) ∧ Ext w3 wr ∧ Hid (∀ j, j < i → nth T j = [10] ∨ nth T j ∈ W)) (fun vi _ _ => N - (intOf vi).toNat)
  case atStart => exact ⟨0, rfl, Nat.zero_le _, own_nil _ _ _ _, Ext.refl _, fun j hj => absurd hj (Nat.not_lt_zero _)⟩
  case round => as_aux_lemma =>
    obtain ⟨i, rfl, hi', HO, hxr, HJ⟩ := hrel
    by_cases g : i < N
    · have b0 := (BX.out.ext hxr).cell 0
      obtain ⟨bA, oA, hAA, hbA, hcA⟩ := (HA.out.ext hxr) (by omega)
      injection hAA with hAA
      injection hAA with h1 h2 h3
      subst h1; subst h2
      have p1 := hcA i g
      dsimp only at p1
      rw [Nat.zero_add] at p1
      obtain ⟨t, ht⟩ : ∃ t, nth T i = t := ⟨_, rfl⟩
      rw [ht] at p1
      have cs := CS.out t wc wr (HR.out.ext (hxx.trans hxr))
      have hsu := HSU.out i g
      rw [ht] at hsu
      have HSU2 := Lib.hid hsu; have HT1 := Lib.hid ht; have CS1 := Lib.hid cs
      have hnl := num_le W t
      clear hcA hsu ht cs
      go_wp2_with fail
      with_reducible refine CS1.out.mono ?_
      rintro e w4 ⟨rfl, hx4⟩
      have HX4 := hxr.trans hx4
      have HO4 : Hid (w4.ownsRow w3.heap.size 3 1 u6 i ((sigs W T i).map fun x => Value.int .i64 (x : Nat))) := own_ext HO.out hx4
      have hsz : w3.heap.size ≤ w4.heap.size := HX4.size
      have HXF := hxx.trans HX4
      clear HO CS1 hxr hx4 b0 p1 hbA
      by_cases g1 : t = [10]
      · have hs1 : signV W t = 1 := by unfold signV; rw [if_pos g1]
        rw [hs1] at HSU2
        go_wp2_with (at_builtin; refine wpList_app1 (by rfl) _ _ 24 rfl w3.heap.size 3 ii (.int .i64 0) 8 Tryz.underlying24 hi hj0 hj1 hj2 rfl _ i _ rfl w4 (.int .i64 1) 3 rfl HO4.out rfl rfl ?d1 ?d2 hsz ?_)
        case d1 => omega
        case d2 => omega
        intro gb cap w5 own5 hgr5
        have hx5 := HX4.grown hgr5 (fun k hk => (own_row_ge HO4.out k hk).1)
        have HO5 : Hid (w5.ownsRow w3.heap.size 3 1 (.slice (some ⟨gb, 0, none⟩) (i + 1) cap) (i + 1) ((sigs W T (i + 1)).map fun x => Value.int .i64 (x : Nat))) := by
          show World.ownsRow _ _ _ _ _ _ _
          rw [HSU2.out, List.map_append]; exact own5
        clear own5 hgr5 HO4 HX4 HXF
        go_wp2_with fail
        refine ⟨⟨i + 1, by go_num, by omega, HO5, hx5, fun j hj => ?_⟩, by simp [intOf]; omega⟩
        by_cases e : j = i
        · subst e; left; rw [HT1.out, g1]
        · exact HJ.out j (by omega)
      · have g1' : (t == [10]) = false := by simpa using g1
        by_cases g2 : t ∈ W
        · have g2' : decide (t ∈ W) = true := decide_eq_true g2
          have hs1 : signV W t = num W t + 2 := by unfold signV; rw [if_neg g1]
          rw [hs1] at HSU2
          rw [g2']
          obtain ⟨y, hy⟩ : ∃ y, num W t = y := ⟨_, rfl⟩
          rw [hy] at HSU2 hnl ⊢
          have hw : IntKind.i64.wrap ((y : Int) + 2) = (y : Int) + 2 := IntWalk.i64_in _ (by omega)
          clear hy hs1
          go_wp2_with (at_builtin; refine wpList_app1 (by rfl) _ _ 24 rfl w3.heap.size 3 ii (.int .i64 0) 8 Tryz.underlying24 hi hj0 hj1 hj2 rfl _ i _ rfl w4 (.int .i64 ((y : Int) + 2)) 3 rfl HO4.out rfl rfl ?d1 ?d2 hsz ?_)
          case d1 => omega
          case d2 => omega
          intro gb cap w5 own5 hgr5
          have hx5 := HX4.grown hgr5 (fun k hk => (own_row_ge HO4.out k hk).1)
          have HO5 : Hid (w5.ownsRow w3.heap.size 3 1 (.slice (some ⟨gb, 0, none⟩) (i + 1) cap) (i + 1) ((sigs W T (i + 1)).map fun x => Value.int .i64 (x : Nat))) := by
            show World.ownsRow _ _ _ _ _ _ _
            rw [HSU2.out, List.map_append]; exact own5
          clear own5 hgr5 HO4 HX4 HXF
          go_wp2_with fail
          refine ⟨⟨i + 1, by go_num, by omega, HO5, hx5, fun j hj => ?_⟩, by simp [intOf]; omega⟩
          by_cases e : j = i
          · subst e; right; rw [HT1.out]; exact g2
          · exact HJ.out j (by omega)
        · have g2' : decide (t ∈ W) = false := decide_eq_false g2
          rw [g2']
          clear HO4
          go_wp2_with fail
          go_ret2
          refine Or.inr ⟨⟨t, ?_, fun q => ?_⟩, rfl, HXF⟩
          · rw [← HT1.out]; exact nth_mem (by rw [HNT.out]; exact g)
          · rcases q with q | q
            · exact g1 q
            · exact g2 q
    · obtain rfl : i = N := by omega
      obtain ⟨P, p, rfl⟩ := own_form HO.out
      have hall : ∀ t ∈ T, t = [10] ∨ t ∈ W := fun t ht => by
        obtain ⟨j, hj, rfl⟩ := List.getElem_of_mem ht
        have := HJ.out j (by rw [HNT.out] at hj; exact hj)
        rwa [nth_lt hj] at this
      have hln := HSL.out i (Nat.le_refl _)
      have HO1 : Hid (wr.ownsRow w3.heap.size 3 1 (.slice P (sigs W T i).length p) (sigs W T i).length ((sigs W T i).map fun x => Value.int .i64 (x : Nat))) := by
        show World.ownsRow _ _ _ _ _ _ _
        rw [hln]; exact HO.out
      clear HO HJ
      go_wp2_with fail
      go_ret2
      refine Or.inl ⟨hall, P, p, by rw [hln]; rfl, own_noneT HO1.out, rdN_own HO1.out, hxx.trans hxr, own_capT HO1.out⟩
theorem signs_walk (W : List (List UInt8)) (hW : W.Pairwise fun x y => x < y) (hWl : W.length ≤ 1000000) (WA TA : Option Addr) (wc tn tc : Nat) (s : List UInt8) (hs : s.length ≤ 16777216) (m : Int) (w : World) (hm : w.cell? ⟨0, 0, none⟩ = some (.int .i64 m)) (hr : RdS w WA W) :
    Calls Tryz.prog 10 #[.agg #[.slice WA W.length wc, .slice TA tn tc], str s] w fun e w' =>
      ((∀ t ∈ toks s, t = [10] ∨ t ∈ W) ∧ ∃ P p, e = .returned (.tuple #[.slice P (sigs W (toks s) (toks s).length).length p, .bool true]) ∧ (P = none → p = 0) ∧ Rd w' P (sigs W (toks s) (toks s).length).length (fun k => .int .i64 (nth (sigs W (toks s) (toks s).length) k : Nat)) ∧ Ext w w') ∨
      ((∃ t ∈ toks s, ¬ (t = [10] ∨ t ∈ W)) ∧ e = .returned (.tuple #[.slice none 0 0, .bool false]) ∧ Ext w w') := by
  refine (signs_walkC W hW hWl WA TA wc tn tc s hs m w hm hr).mono ?_
  rintro e w' (⟨h1, P, p, rfl, h2, h3, h4, _⟩ | h)
  · exact Or.inl ⟨h1, P, p, rfl, h2, h3, h4⟩
  · exact Or.inr h
end Go.Proofs.YtjfdlibceldanabGreatDoor
