/- The document's own ReadText: the walk. -/
import Derived.Test.YtjfdlibceldanabGreatDoorRdW
import Derived.Test.YtjfdlibceldanabGreatDoorOrd
import Derived.Test.YtjfdlibceldanabGreatDoorWpApp
import Derived.Laws.IdiomStrings
namespace Go.Proofs.YtjfdlibceldanabGreatDoor.Tx
theorem scn_nosep (t : List UInt8) : ∀ i, i ≤ t.length → ∀ b ∈ (scn (t.take i)).2, b ≠ 32 ∧ b ≠ 10
  | 0, _ => by simp [scn]
  | i + 1, h => by
    have ih := scn_nosep t i (by omega)
    rw [scn_succ (by omega), scS]
    split
    · intro b hb; cases hb
    · rename_i g
      intro b hb
      rcases List.mem_append.1 hb with q | q
      · exact ih b q
      · rw [List.mem_singleton.1 q]
        exact ⟨fun q => g (Or.inl q), fun q => g (Or.inr q)⟩
end Go.Proofs.YtjfdlibceldanabGreatDoor.Tx
namespace Go.Proofs.YtjfdlibceldanabGreatDoor
open Go.RowKit Go.Sort Tx

theorem cat_strT (a b : List UInt8) : (ByteArray.mk a.toArray ++ ByteArray.mk b.toArray) = ByteArray.mk (a ++ b).toArray := by
  apply ByteArray.ext
  simp [ByteArray.data_append]
/-- A row of words that the call owns. -/
def WdR (w : World) (base : Nat) (v : Value) (l : List (List UInt8)) : Prop := w.ownsRow base 9 1 v l.length (l.map str)
/-- How many words there are in a book's cells. -/
def bkLen (w : World) (KB : Nat) : Nat := match w.cell? ⟨KB, 0, none⟩ with | some (.slice _ n _) => n | _ => 0
theorem bkLen_eq {w : World} {KB : Nat} {T : TypeId} {A : Option Addr} {n c : Nat} {v : Value} (h : Bk w KB T #[.slice A n c, v]) : bkLen w KB = n := by
  unfold bkLen
  rw [h.cell 0]
  rfl
/-- Is a byte a space or a line's end? -/
def sepB (b : UInt8) : Prop := b = 32 ∨ b = 10
instance (b : UInt8) : Decidable (sepB b) := inferInstanceAs (Decidable (_ ∨ _))
theorem bytes_row (w : World) (t : List UInt8) (cap : Nat) (T : TypeId) (fr : Nat × Nat) : Rd ((w.alloc (.cells (bytesRow ⟨t.toArray⟩ cap) T fr)).drew) (some ⟨w.heap.size, 0, none⟩) t.length (fun k => .int .u8 (nth t k).toNat) := fun _ => by
  refine ⟨w.heap.size, 0, rfl, by simp, fun k hk => ?_⟩
  rw [Nat.zero_add]
  show (w.alloc (.cells (bytesRow ⟨t.toArray⟩ cap) T fr)).cell? ⟨w.heap.size, k, none⟩ = _
  rw [World.cell?_alloc_mark, bytesRow_at _ _ _ (by simpa using hk)]
  simp [nth, hk]
theorem own_app1 {w' : World} {base : Nat} {gb n cap : Nat} {l : List (List UInt8)} {x : List UInt8} (hn : l.length = n) (h : w'.ownsRow base 9 1 (.slice (some ⟨gb, 0, none⟩) (n + 1) cap) (n + 1) (l.map str ++ [str x])) : WdR w' base (.slice (some ⟨gb, 0, none⟩) (n + 1) cap) (l ++ [x]) := by
  unfold WdR
  rw [List.length_append, List.map_append, List.length_singleton, List.map_singleton, hn]; exact h
set_option maxHeartbeats 8000000 in
set_option maxRecDepth 100000 in
theorem rread_walk (s t : List UInt8) (hs : s.length ≤ 400) (ht : t = if Lib.hasSuffix s [10] = true then s else s ++ [10]) (n : Nat) (hn : t.length = n) (hn4 : n ≤ 401) (w : World)
    (La : Nat → List (List UInt8)) (Ca : Nat → List UInt8) (h0 : La 0 = []) (h0' : Ca 0 = [])
    (hsep : ∀ i, i < n → sepB (nth t i) → La (i + 1) = (if Ca i = [] then La i else La i ++ [Ca i]) ++ (if nth t i = 10 then [[10]] else []) ∧ Ca (i + 1) = [])
    (hnos : ∀ i, i < n → ¬ sepB (nth t i) → La (i + 1) = La i ∧ Ca (i + 1) = Ca i ++ [nth t i])
    (hlen : ∀ i, i ≤ n → (Ca i).length ≤ 401 ∧ (La i).length ≤ 802)
    (Q : Ending → World → Prop)
    (q1 : ∀ w' i, Ext w w' → i < n → sepB (nth t i) → Ca i ≠ [] → wrdB (Ca i) = false → Q (.returned (.tuple #[noBook, .int .i64 1])) w')
    (K : List (List UInt8)) (hK : La n = K) (k : Nat) (hk : K.length = k)
    (q2 : ∀ w', Ext w w' → (∀ i, i < n → sepB (nth t i) → Ca i ≠ [] → wrdB (Ca i) = true) → 100 < k → Q (.returned (.tuple #[noBook, .int .i64 2])) w')
    (W : List (List UInt8)) (hW : W.Pairwise fun x y => x < y) (N : Nat) (hN : W.length = N) (hN4 : N ≤ 1000) (hWne : ∀ w ∈ W, w ≠ []) (hls : ∀ j, j ≤ N → lsF W j K = if j < N then nth W j else [])
    (q0 : ∀ w' WA wc TA tc, Ext w w' → (∀ i, i < n → sepB (nth t i) → Ca i ≠ [] → wrdB (Ca i) = true) → ¬ 100 < k → (WA = none → wc = 0) → N ≤ wc → RdS w' WA W → k + 1 ≤ tc →
      Rd w' TA (k + 1) (fun j => .int .i64 (nth (K.map (nbF W) ++ [0]) j)) → Q (.returned (.tuple #[bookV WA TA N wc (k + 1) tc, .int .i64 0])) w') :
    Calls Tryz.prog 13 #[str s] w Q := by
  have hs' : decide ((400 : Int) < s.length) = false := by simp; omega
  have cH : ∀ w, Calls Tryz.prog 8 #[str s, .string ⟨#[10]⟩] w fun e w' => e = .returned (.bool (Lib.hasSuffix s [10])) ∧ w' = w := fun w => Tryz.strings_HasSuffix ⟨s.toArray⟩ ⟨#[10]⟩ w (by show s.length ≤ _; omega)
  have CH := Lib.hid cH; have HT := Lib.hid ht; have HSEP := Lib.hid hsep; have HNOS := Lib.hid hnos; have HLEN := Lib.hid hlen; have Q1 := Lib.hid q1; have HN := Lib.hid hn; have H0 := Lib.hid h0; have H0' := Lib.hid h0'
  have HK := Lib.hid hK; have HKL := Lib.hid hk; have Q2 := Lib.hid q2; have Q0 := Lib.hid q0; have HNW := Lib.hid hN; have HWN := Lib.hid hWne; have HLS := Lib.hid hls; have HWS := Lib.hid hW
  clear cH ht hsep hnos hlen q1 hn h0 h0' hK hk q2 q0 hN hWne hls hW
  go_enter Tryz.func13, Tryz.ntmps13
  go_upto_region 1 with fail
  generalize hW1 : World.alloc w _ = W1
  have br := bk_of hW1
  have hx := ext_of_alloc hW1
  obtain ⟨B, hB⟩ : ∃ B, w.heap.size = B := ⟨_, rfl⟩
  have hBw : w.heap.size ≤ B := by omega
  rw [hB] at br
  simp only [hB]
  clear hW1 hB
  go_upto_region 3 with fail
  go_cut [20] (fun v w' => v = .bool (!(Lib.hasSuffix s [10])) ∧ w' = W1)
  case first => as_aux_lemma =>
    have ch := CH.out W1
    clear HT
    generalize Lib.hasSuffix s [10] = q at *
    go_wp2_with fail
    with_reducible refine ch.mono ?_
    rintro e w1 ⟨rfl, rfl⟩
    go_wp2_with fail
    go_meet
    exact ⟨rfl, rfl⟩
  case rest =>
  obtain ⟨rfl, rfl⟩ := hcut
  go_upto_if 20 with fail
  obtain ⟨W0, rfl⟩ : ∃ W, W = wc := ⟨_, rfl⟩
  go_cut [0] (fun v0 w' => v0 = str t ∧ w' = W0)
  case first => as_aux_lemma =>
    cases hsuf : Lib.hasSuffix s [10] with
    | true =>
      have e1 : t = s := by rw [HT.out, if_pos hsuf]
      clear hsuf HT
      subst e1
      go_wp2_with fail
      go_meet
      exact ⟨rfl, rfl⟩
    | false =>
      have e1 : ByteArray.mk s.toArray ++ ByteArray.mk #[10] = ByteArray.mk t.toArray := by
        rw [show (ByteArray.mk #[10]) = ⟨([10] : List UInt8).toArray⟩ from rfl, cat_strT, HT.out, if_neg (by rw [hsuf]; decide)]
      clear hsuf HT
      go_wp2_with fail
      go_meet
      exact ⟨rfl, rfl⟩
  case rest =>
  obtain ⟨rfl, rfl⟩ := hcut
  obtain ⟨W1, rfl⟩ : ∃ W, W = wc := ⟨_, rfl⟩
  have hcv := run_bytes_of_string (P := Tryz.prog) W1 9 65 5 ⟨t.toArray⟩ Tryz.underlying9 Tryz.underlying65 Tryz.underlying5
  clear HT CH
  go_wp2_with fail
  have hrd := bytes_row W1 t (grownCap W1 t.length 0 5) 5 ((bytesRow ⟨t.toArray⟩ (grownCap W1 t.length 0 5)).size, (bytesRow ⟨t.toArray⟩ (grownCap W1 t.length 0 5)).size + 1)
  have hx13 := ((Ext.refl W1).alloc (.cells (bytesRow ⟨t.toArray⟩ (grownCap W1 t.length 0 5)) 5 ((bytesRow ⟨t.toArray⟩ (grownCap W1 t.length 0 5)).size, (bytesRow ⟨t.toArray⟩ (grownCap W1 t.length 0 5)).size + 1))).drew
  generalize hW3 : World.drew _ = W3
  rw [hW3] at hrd hx13
  clear hW3 hcv
  generalize grownCap W1 t.length 0 5 = cap at *
  have HBR := Lib.hid (br.ext hx13)
  have hx03 := hx.trans hx13
  generalize W1.heap.size = g at *
  rw [HN.out] at hrd
  simp only [HN.out]
  have HRD := Lib.hid hrd
  obtain ⟨ii, hi, hj0, hj1, hj2⟩ := info_parts info_str
  clear hrd hx13 br hx
  go_loopw [26, 4, 5] (fun vi v4 v5 wr => ∃ i : Nat, vi = .int .i64 i ∧ i ≤ n ∧ Hid (WdR wr W3.heap.size v4 (La i)) ∧ v5 = str (Ca i) ∧ Ext W3 wr ∧ Hid (∀ k, k < i → sepB (nth t k) → Ca k ≠ [] → wrdB (Ca k) = true)) (fun vi _ _ _ => n - (intOf vi).toNat)
  case atStart => exact ⟨0, rfl, Nat.zero_le _, by rw [H0.out]; exact own_nil _ _ _ _, by rw [H0'.out], Ext.refl _, fun k hk => absurd hk (Nat.not_lt_zero _)⟩
  case round => as_aux_lemma =>
    obtain ⟨i, rfl, hi', HO, rfl, hxr, HJ⟩ := hrel
    by_cases gi : i < n
    · obtain ⟨bA, oA, hAA, hbA, hcA⟩ := (HRD.out.ext hxr) (by omega)
      injection hAA with hAA
      injection hAA with h1 h2 h3
      subst h1; subst h2
      have p1 := hcA i gi
      dsimp only at p1
      rw [Nat.zero_add] at p1
      obtain ⟨hl1, hl2⟩ := HLEN.out i hi'
      have hse := HSEP.out i gi
      have hno := HNOS.out i gi
      have q1 := fun w' hx => Q1.out w' i hx gi
      obtain ⟨b, hb⟩ : ∃ b, nth t i = b := ⟨_, rfl⟩
      rw [hb] at p1 hse hno q1
      have HB := Lib.hid hb
      obtain ⟨c, hc⟩ : ∃ c, Ca i = c := ⟨_, rfl⟩
      obtain ⟨l, hl⟩ : ∃ l, La i = l := ⟨_, rfl⟩
      rw [hc] at hse hno q1 hl1 ⊢
      rw [hl] at hse hno hl2 HO
      have HC := Lib.hid hc
      have Q1i := Lib.hid q1
      clear hcA hb hc hl q1 h3
      have hsz : W3.heap.size ≤ wr.heap.size := hxr.size
      by_cases gs : sepB b
      · obtain ⟨e1, e2⟩ := hse gs
        have E1 := Lib.hid e1; have E2 := Lib.hid e2
        have hc32 : ((b.toNat : Int) != 32) = true ∧ ((b.toNat : Int) != 10) = false ∧ ((b.toNat : Int) == 10) = true ∧ b = 10 ∨ ((b.toNat : Int) != 32) = false ∧ ((b.toNat : Int) == 10) = false ∧ b = 32 := by
          rcases gs with h | h
          · subst h; exact Or.inr ⟨by decide, by decide, rfl⟩
          · subst h; exact Or.inl ⟨by decide, by decide, by decide, rfl⟩
        have HQ32 := Lib.hid hc32
        clear hse hno e1 e2 hc32
        obtain ⟨wo, rfl⟩ : ∃ wo, wo = wr := ⟨_, rfl⟩
        go_upto_region 10 with fail
        go_cut [35] (fun v w' => v = .bool false ∧ w' = wo)
        case first => as_aux_lemma =>
          clear HO HJ
          rcases HQ32.out with ⟨k1, k2, _, _⟩ | ⟨k1, k2, _⟩
          · clear HQ32
            go_wp2_with fail
            go_meet
            exact ⟨rfl, rfl⟩
          · clear HQ32
            go_wp2_with fail
            go_meet
            exact ⟨rfl, rfl⟩
        case rest =>
        obtain ⟨rfl, rfl⟩ := hcut
        obtain ⟨wo, rfl⟩ : ∃ wo, wo = wc := ⟨_, rfl⟩
        obtain ⟨r, hr⟩ : ∃ r, (c == ([] : List UInt8)) = r := ⟨_, rfl⟩
        have HR := Lib.hid hr
        go_upto_region 12 with fail
        go_cut [42] (fun v w' => v = .bool (!r) ∧ w' = wo)
        case first => as_aux_lemma =>
          clear HO HJ HR
          go_wp2_with fail
          go_meet
          exact ⟨rfl, rfl⟩
        case rest =>
        obtain ⟨rfl, rfl⟩ := hcut
        obtain ⟨wo, rfl⟩ : ∃ wo, wo = wc := ⟨_, rfl⟩
        clear hr
        go_upto_if 42 with fail
        obtain ⟨l2, hl2'⟩ : ∃ l2, (if c = [] then l else l ++ [c]) = l2 := ⟨_, rfl⟩
        have HL2 := Lib.hid hl2'
        clear hl2'
        go_cut [4, 5] (fun v4 v5 w' => Hid (WdR w' W3.heap.size v4 l2) ∧ v5 = str [] ∧ Ext W3 w' ∧ (c ≠ [] → wrdB c = true))
        case first => as_aux_lemma =>
          by_cases g0 : c = []
          · have hr : r = true := by rw [← HR.out, g0]; rfl
            subst hr
            have e1 : str c = str [] := by rw [g0]
            obtain rfl : l = l2 := by rw [← HL2.out, if_pos g0]
            subst g0
            clear HR HL2
            go_wp2_with fail
            go_meet
            exact ⟨HO, rfl, hxr, fun q => absurd rfl q⟩
          · have hr : r = false := by rw [← HR.out]; simp [g0]
            subst hr
            obtain rfl : l ++ [c] = l2 := by rw [← HL2.out, if_neg g0]
            have cw := rword_calls c wo (by omega)
            obtain ⟨qw, hqw⟩ : ∃ qw, wrdB c = qw := ⟨_, rfl⟩
            rw [hqw] at cw
            have HQW := Lib.hid hqw
            have G0 := Lib.hid g0
            clear HR hqw g0 HL2
            go_wp2_with fail
            with_reducible refine cw.mono ?_
            rintro e w5 ⟨rfl, hx5⟩
            have hxr5 := hxr.trans hx5
            cases qw with
            | false =>
              have br5 := HBR.out.ext hxr5
              have y0 := br5.cell 0
              have y1 := br5.cell 1
              have f0 := br5.frozen 0
              have f1 := br5.frozen 1
              have BF := Lib.hid (bk2 (v0 := .slice none 0 0) (v1 := .slice none 0 0) br5)
              have HXF := Lib.hid (ext2 (B := B) (hx03.trans hxr5) hBw (.slice none 0 0) (.slice none 0 0))
              clear br5 cw HO
              go_wp2_with fail
              clear y0 y1 f0 f1
              have bF := BF.out
              have hxF := HXF.out
              generalize (w5.setCell _ _).setCell _ _ = wF at *
              have z0 := bF.cell 0
              have z1 := bF.cell 1
              exact bodyPost_ret (v := .tuple #[noBook, .int .i64 1]) (by simp [results, Tryz.results13, go_sem, z0, z1]) rfl (Q1i.out wF hxF gs G0.out HQW.out)
            | true =>
              have HO5 : Hid (w5.ownsRow W3.heap.size 9 1 u4 l.length (l.map str)) := own_ext HO.out hx5
              obtain ⟨ln, hln⟩ : ∃ ln, l.length = ln := ⟨_, rfl⟩
              have HLN := Lib.hid hln
              rw [hln] at HO5 hl2
              have hsz5 := hxr5.size
              clear cw HO hln hx5
              go_wp2_with (at_builtin; refine wpList_app1 (by rfl) _ _ 23 rfl W3.heap.size 9 ii (.string ⟨#[]⟩) 16 Tryz.underlying23 hi hj0 hj1 hj2 rfl _ ln _ rfl w5 (str c) 9 rfl HO5.out rfl rfl ?d1 ?d2 hsz5 ?_)
              case d1 => omega
              case d2 => omega
              intro gb cap2 w6 own6 hgr6
              have hx6 := hxr5.grown hgr6 (fun k hk => (own_row_ge HO5.out k hk).1)
              have HO6 := Lib.hid (own_app1 HLN.out own6)
              clear own6 hgr6 HO5
              go_wp2_with fail
              go_meet
              exact ⟨HO6, rfl, hx6, fun _ => HQW.out⟩
        case rest =>
        obtain ⟨HO1, rfl, hx1, hwc⟩ := hcut
        obtain ⟨wo, rfl⟩ : ∃ wo, wo = wc := ⟨_, rfl⟩
        have hl3 : l2.length ≤ 803 := by
          rw [← HL2.out]
          split
          · omega
          · rw [List.length_append, List.length_singleton]; omega
        rw [HL2.out] at E1
        have HJ2 : Hid (∀ k, k < i + 1 → sepB (nth t k) → Ca k ≠ [] → wrdB (Ca k) = true) := fun k hk g1 g2 => by
          by_cases e : k = i
          · subst e; rw [HC.out] at g2 ⊢; exact hwc g2
          · exact HJ.out k (by omega) g1 g2
        clear HO HJ HL2 hwc hsz HR HB HC Q1i
        have hsz : W3.heap.size ≤ wo.heap.size := hx1.size
        rcases HQ32.out with ⟨_, _, k2, kb⟩ | ⟨_, k2, kb⟩
        · have e1 : La (i + 1) = l2 ++ [[10]] := by rw [E1.out, if_pos kb]
          have HO2 := HO1.out
          unfold WdR at HO2
          replace HO2 := Lib.hid HO2
          obtain ⟨ln, hln⟩ : ∃ ln, l2.length = ln := ⟨_, rfl⟩
          have HLN := Lib.hid hln
          rw [hln] at HO2 hl3
          have EE := Lib.hid e1
          clear HQ32 HO1 hln E1 kb e1
          go_wp2_with (at_builtin; refine wpList_app1 (by rfl) _ _ 23 rfl W3.heap.size 9 ii (.string ⟨#[]⟩) 16 Tryz.underlying23 hi hj0 hj1 hj2 rfl _ ln _ rfl wo (str [10]) 9 rfl HO2.out rfl rfl ?d1 ?d2 hsz ?_)
          case d1 => omega
          case d2 => omega
          intro gb cap2 w6 own6 hgr6
          have hx6 := hx1.grown hgr6 (fun k hk => (own_row_ge HO2.out k hk).1)
          have HO6 := own_app1 HLN.out own6
          rw [← EE.out] at HO6
          replace HO6 := Lib.hid HO6
          clear own6 hgr6 HO2
          go_wp2_with fail
          refine ⟨⟨i + 1, by go_num, by omega, HO6, by rw [E2.out], hx6, HJ2⟩, by simp [intOf]; omega⟩
        · have e1 : La (i + 1) = l2 := by rw [E1.out, if_neg (by rw [kb]; decide), List.append_nil]
          have HO2 := HO1.out
          rw [← e1] at HO2
          replace HO2 := Lib.hid HO2
          clear HQ32 HO1 E1 kb e1
          go_wp2_with fail
          refine ⟨⟨i + 1, by go_num, by omega, HO2, by rw [E2.out], hx1, HJ2⟩, by simp [intOf]; omega⟩
      · obtain ⟨e1, e2⟩ := hno gs
        have n32 : ((b.toNat : Int) != 32) = true := by
          rw [bne_iff_ne]; intro q; exact gs (Or.inl (UInt8.toNat.inj (by show b.toNat = 32; omega)))
        have n10 : ((b.toNat : Int) != 10) = true := by
          rw [bne_iff_ne]; intro q; exact gs (Or.inr (UInt8.toNat.inj (by show b.toNat = 10; omega)))
        have hcv : (convert 65 9 (.slice (some ⟨wr.heap.size, 0, none⟩) 1 1)).run Tryz.prog (wr.alloc (.cells #[.int .u8 (b.toNat : Int)] 5)) = .ok (.string ⟨#[b]⟩) (wr.alloc (.cells #[.int .u8 (b.toNat : Int)] 5)) :=
          run_convert_bytes_back (P := Tryz.prog) (wr.alloc (.cells #[.int .u8 (b.toNat : Int)] 5)) 65 9 5 ⟨wr.heap.size, 0, none⟩ 1 [b] Tryz.underlying65 Tryz.underlying5 Tryz.underlying9 (fun j hj => by
            obtain rfl : j = 0 := by simpa using hj
            rw [Addr.add_lit, World.cell?_alloc_new]; rfl)
        have E2 : Hid (ByteArray.mk c.toArray ++ ByteArray.mk #[b] = ByteArray.mk (Ca (i + 1)).toArray) := by
          show _ = _
          rw [e2, ← cat_strT]
        have HO2 : Hid (WdR wr W3.heap.size u4 (La (i + 1))) := by rw [e1]; exact HO
        have HJ2 : Hid (∀ k, k < i + 1 → sepB (nth t k) → Ca k ≠ [] → wrdB (Ca k) = true) := fun k hk g1 g2 => by
          by_cases e : k = i
          · subst e; rw [HB.out] at g1; exact absurd g1 gs
          · exact HJ.out k (by omega) g1 g2
        clear hse hno e1 e2 gs HO HJ HC HB Q1i
        go_wp2_with fail
        refine ⟨⟨i + 1, by go_num, by omega, own_ext HO2.out ((Ext.refl _).alloc _), by rw [E2.out], hxr.alloc _, HJ2⟩, by simp [intOf]; omega⟩
    · obtain rfl : i = n := by omega
      rw [HK.out] at HO
      have HOK := HO.out
      unfold WdR at HOK
      rw [HKL.out] at HOK
      replace HOK := Lib.hid HOK
      have hl2 := (HLEN.out i (Nat.le_refl _)).2
      rw [HK.out, HKL.out] at hl2
      have hx0r := hx03.trans hxr
      obtain ⟨LA, lc, rfl⟩ := own_form HOK.out
      clear HO HSEP HNOS HLEN Q1 H0 H0' HK
      by_cases g5 : 100 < k
      · have g5' : decide ((100 : Int) < (k : Int)) = true := decide_eq_true (by omega)
        have br5 := HBR.out.ext hxr
        have y0 := br5.cell 0
        have y1 := br5.cell 1
        have f0 := br5.frozen 0
        have f1 := br5.frozen 1
        have BF := Lib.hid (bk2 (v0 := .slice none 0 0) (v1 := .slice none 0 0) br5)
        have HXF := Lib.hid (ext2 (B := B) hx0r hBw (.slice none 0 0) (.slice none 0 0))
        clear br5
        go_wp2_with fail
        clear y0 y1 f0 f1
        have bF := BF.out
        have hxF := HXF.out
        generalize (wr.setCell _ _).setCell _ _ = wF at *
        have z0 := bF.cell 0
        have z1 := bF.cell 1
        exact bodyPost_ret (v := .tuple #[noBook, .int .i64 2]) (by simp [results, Tryz.results13, go_sem, z0, z1]) rfl (Q2.out wF hxF HJ.out g5)
      · have g5' : decide ((100 : Int) < (k : Int)) = false := decide_eq_false (by omega)
        have HRK : Hid (Rd wr LA k (fun j => str (nth K j))) := by
          have h1 : wr.ownsRow W3.heap.size 9 1 (.slice LA K.length lc) K.length (K.map str) := by rw [HKL.out]; exact HOK.out
          have h2 := RdS.own h1
          unfold RdS at h2
          rw [HKL.out] at h2
          exact h2
        clear HOK
        go_wp2_with fail
        generalize hW4 : World.alloc wr _ = W4
        have bk := bk_of hW4
        have hx4 := ext_of_alloc hW4
        obtain ⟨KB, hKB⟩ : ∃ KB, wr.heap.size = KB := ⟨_, rfl⟩
        rw [hKB] at bk
        have hKw : wr.heap.size ≤ KB := by omega
        simp only [hKB]
        clear hW4 hKB
        obtain ⟨wq, rfl⟩ : ∃ wq, wq = wr := ⟨_, rfl⟩
        clear HRD
        have hk3 : k ≤ 100 := by omega
        go_loopw [9] (fun _ w' => ∃ (j : Nat) (A : Option Addr) (c : Nat), j ≤ N ∧ Hid (Bk w' KB 26 #[.slice A j c, .slice none 0 0]) ∧ Hid (w'.ownsRow wq.heap.size 9 1 (.slice A j c) j ((W.take j).map str)) ∧ Ext wq w') (fun _ w' => N + 1 - bkLen w' KB)
        case atStart => exact ⟨0, none, 0, Nat.zero_le _, bk, own_nil _ _ _ _, hx4⟩
        case round => as_aux_lemma =>
          clear bk hx4
          obtain ⟨j, A, c, hj, HB, HO, hxw⟩ := hrel
          obtain ⟨wo, rfl⟩ : ∃ wo, wo = wr := ⟨_, rfl⟩
          go_wp2_with fail
          go_loopw [63, 9] (fun vi v9 w' => ∃ i2 : Nat, vi = .int .i64 i2 ∧ i2 ≤ k ∧ v9 = str (lsF W j (K.take i2)) ∧ w' = wo) (fun vi _ _ => k - (intOf vi).toNat)
          case atStart => exact ⟨0, rfl, Nat.zero_le _, rfl, rfl⟩
          case round => as_aux_lemma =>
            obtain ⟨i2, rfl, hi2, rfl, hwr⟩ := hrel
            subst hwr
            by_cases gi2 : i2 < k
            · obtain ⟨bA, oA, hAA, hbA, hcA⟩ := (HRK.out.ext hxw) (by omega)
              subst hAA
              have p1 := hcA i2 gi2
              dsimp only at p1
              have hst := ls_succ W j (l := K) (i := i2) (by rw [HKL.out]; exact gi2)
              obtain ⟨x, hx⟩ : ∃ x, nth K i2 = x := ⟨_, rfl⟩
              obtain ⟨mm, hmm⟩ : ∃ mm, lsF W j (K.take i2) = mm := ⟨_, rfl⟩
              rw [hx, hmm] at hst
              rw [hx] at p1
              rw [hmm]
              have HST := Lib.hid hst
              have b0 := HB.out.cell 0
              clear hcA hx hmm hst
              obtain ⟨q, hq⟩ : ∃ q, decide (cand W j x ∧ (mm = [] ∨ x < mm)) = q := ⟨_, rfl⟩
              have HQ := Lib.hid hq
              clear hq
              go_upto_region 26 with fail
              go_cut [95] (fun v w' => v = .bool q ∧ w' = wr)
              case first => as_aux_lemma =>
                clear HST
                by_cases c1 : x = [10]
                · have f1 : (x == ([10] : List UInt8)) = true := by rw [c1]; rfl
                  obtain rfl : q = false := by rw [← HQ.out]; exact decide_eq_false fun h => h.1.1 c1
                  clear HQ c1
                  go_wp2_with fail
                  go_meet
                  exact ⟨rfl, rfl⟩
                · have f1 : (x == ([10] : List UInt8)) = false := by simp [c1]
                  have hq2 : q = (decide (j = 0 ∨ nth W (j - 1) < x) && decide (mm = [] ∨ x < mm)) := by
                    rw [← HQ.out]; unfold cand; simp [c1]
                  have f4 : Op.bytesLess x mm = decide (x < mm) := bytesLess_eq x mm
                  obtain ⟨r3, hr3⟩ : ∃ r3, decide (x < mm) = r3 := ⟨_, rfl⟩
                  obtain ⟨r4, hr4⟩ : ∃ r4, (mm == ([] : List UInt8)) = r4 := ⟨_, rfl⟩
                  have h34 : decide (mm = [] ∨ x < mm) = (r4 || r3) := by rw [← hr3, ← hr4]; by_cases e : mm = [] <;> simp [e]
                  rw [hr3] at f4
                  rw [h34] at hq2
                  clear hr3 h34 HQ c1
                  by_cases gj : j = 0
                  · subst gj
                    have hq3 : q = (r4 || r3) := by rw [hq2]; simp
                    clear hq2
                    cases r4 <;> cases r3 <;> (subst hq3; go_wp2_with fail; go_meet; exact ⟨rfl, rfl⟩)
                  · have fj : (((j : Nat) : Int) == 0) = false := by simp; omega
                    have wj : IntKind.i64.wrap ((j : Int) - 1) = ((j - 1 : Nat) : Int) := by rw [IntWalk.i64_in _ (by omega)]; omega
                    obtain ⟨bW, oW, hAW, hbW, hcW⟩ := (Rd.of_own (d := .int .i64 0) HO.out) (by omega)
                    have p3 := hcW (j - 1) (by omega)
                    have e3 : (((W.take j).map str)[j - 1]?.getD (.int .i64 0)) = str (nth W (j - 1)) := by
                      rw [List.getElem?_map, List.getElem?_take_of_lt (by omega), List.getElem?_eq_getElem (by rw [HNW.out]; omega), nth_lt (by rw [HNW.out]; omega)]; rfl
                    dsimp only at p3
                    rw [e3] at p3
                    subst hAW
                    obtain ⟨y, hy⟩ : ∃ y, nth W (j - 1) = y := ⟨_, rfl⟩
                    rw [hy] at p3 hq2
                    obtain ⟨j1, hj1⟩ : ∃ j1, j - 1 = j1 := ⟨_, rfl⟩
                    rw [hj1] at p3 wj
                    have hjj : j1 < j := by omega
                    clear hcW hy hj1 e3
                    by_cases gy : y < x
                    · have f5 : Op.bytesLess x y = false := by rw [bytesLess_eq]; exact decide_eq_false (List.lt_asymm gy)
                      have f6 : (x == y) = false := by rw [beq_eq_false_iff_ne]; rintro rfl; exact List.lt_irrefl _ gy
                      have hq3 : q = (r4 || r3) := by rw [hq2]; simp [gy]
                      clear hq2 gy gj
                      cases r4 <;> cases r3 <;> (subst hq3; go_wp2_with fail; go_meet; exact ⟨rfl, rfl⟩)
                    · have hq3 : q = false := by rw [hq2]; simp [gy, gj]
                      by_cases ge : x = y
                      · have f5 : Op.bytesLess x y = false := by rw [bytesLess_eq, ge]; exact decide_eq_false (List.lt_irrefl _)
                        have f6 : (x == y) = true := by rw [beq_iff_eq]; exact ge
                        clear hq2 gy gj ge
                        subst hq3
                        go_wp2_with fail
                        go_meet
                        exact ⟨rfl, rfl⟩
                      · have f5 : Op.bytesLess x y = true := by rw [bytesLess_eq]; exact decide_eq_true (lt_of_le_ne (List.not_lt.1 gy) ge)
                        have f6 : (x == y) = false := by rw [beq_eq_false_iff_ne]; exact ge
                        clear hq2 gy gj ge
                        subst hq3
                        go_wp2_with fail
                        go_meet
                        exact ⟨rfl, rfl⟩
              case rest =>
              obtain ⟨rfl, rfl⟩ := hcut
              cases q with
              | true =>
                have e1 : lsF W j (K.take (i2 + 1)) = x := by rw [HST.out, lsS, if_pos (of_decide_eq_true HQ.out)]
                have E1 := Lib.hid e1
                clear e1 HST HQ b0 p1
                go_wp2_with fail
                refine ⟨⟨i2 + 1, by go_num, by omega, by rw [E1.out], by first | trivial | rfl⟩, by simp [intOf]; omega⟩
              | false =>
                have e1 : lsF W j (K.take (i2 + 1)) = mm := by rw [HST.out, lsS, if_neg (of_decide_eq_false HQ.out)]
                have E1 := Lib.hid e1
                clear e1 HST HQ b0 p1
                go_wp2_with fail
                refine ⟨⟨i2 + 1, by go_num, by omega, by rw [E1.out], by first | trivial | rfl⟩, by simp [intOf]; omega⟩
            · obtain rfl : i2 = k := by omega
              have e1 : K.take i2 = K := List.take_of_length_le (by rw [HKL.out]; exact Nat.le_refl _)
              rw [e1, HLS.out j hj]
              by_cases gj : j < N
              · rw [if_pos gj]
                have hwj : nth W j ∈ W := nth_mem (by rw [HNW.out]; exact gj)
                have hne := HWN.out _ hwj
                obtain ⟨y, hy⟩ : ∃ y, nth W j = y := ⟨_, rfl⟩
                have hty : W.take (j + 1) = W.take j ++ [y] := by
                  rw [List.take_add_one, List.getElem?_eq_getElem (by rw [HNW.out]; exact gj), ← hy, nth_lt (by rw [HNW.out]; exact gj)]; rfl
                rw [hy] at hne ⊢
                have f3 : (y == ([] : List UInt8)) = false := by simp [hne]
                have HTY := Lib.hid hty
                have b0 := HB.out.cell 0
                have hsz := hxw.size
                clear hwj hne hy hty e1
                go_wp2_with (at_builtin; refine wpList_app1 (by rfl) _ _ 23 rfl wq.heap.size 9 ii (.string ⟨#[]⟩) 16 Tryz.underlying23 hi hj0 hj1 hj2 rfl _ j _ rfl wr (str y) 9 rfl HO.out rfl rfl ?d1 ?d2 hsz ?_)
                case d1 => omega
                case d2 => omega
                intro gb cap2 w6 own6 hgr6
                have hx6 := hxw.grown hgr6 (fun k hk => (own_row_ge HO.out k hk).1)
                have bk6 := HB.out.grown hgr6 (Bk.own_ne HO.out HB.out (by decide))
                have HO6 : Hid (w6.ownsRow wq.heap.size 9 1 (.slice (some ⟨gb, 0, none⟩) (j + 1) cap2) (j + 1) ((W.take (j + 1)).map str)) := by
                  show World.ownsRow _ _ _ _ _ _ _
                  rw [HTY.out, List.map_append, List.map_take]; exact own6
                clear own6 hgr6 b0
                have b0 := bk6.cell 0
                have f0 := bk6.frozen 0
                have HB7 := Lib.hid (bk6.set 0 (.slice (some ⟨gb, 0, none⟩) (j + 1) cap2))
                have HX7 := Lib.hid (hx6.setCell (p := ⟨KB, 0, none⟩) hKw (.slice (some ⟨gb, 0, none⟩) (j + 1) cap2))
                have HO7 := Lib.hid (own_far (p := ⟨KB, 0, none⟩) HO6.out (fun q => Bk.own_ne HO6.out bk6 (by decide) q.symm) (.slice (some ⟨gb, 0, none⟩) (j + 1) cap2))
                have m1 := bkLen_eq HB.out
                have m2 : bkLen (w6.setCell ⟨KB, 0, none⟩ (.slice (some ⟨gb, 0, none⟩) (j + 1) cap2)) KB = j + 1 := bkLen_eq HB7.out
                have MM := Lib.hid m1; have M2 := Lib.hid m2
                clear bk6 hx6 m1 m2
                go_wp2_with fail
                refine ⟨⟨j + 1, _, _, by omega, HB7.out, HO7.out, HX7.out⟩, ?_⟩
                rw [M2.out, MM.out]
                omega
              · obtain rfl : j = N := by omega
                rw [if_neg gj]
                have htk : W.take j = W := List.take_of_length_le (by rw [HNW.out]; exact Nat.le_refl _)
                have HO1 := HO.out
                rw [htk] at HO1
                replace HO1 := Lib.hid HO1
                have cN := fun t TA tn tc w hr => number_calls W HWS.out t A TA c tn tc w (by rw [HNW.out]; omega) hr
                rw [HNW.out] at cN
                have CN := Lib.hid cN
                obtain ⟨ti, ni, nj0, nj1, nj2⟩ := info_parts info_intT
                have b0 := HB.out.cell 0
                clear HO htk cN HLS gj gi2 hi2
                go_wp2_with fail
                go_loopw [108] (fun vi w' => ∃ (i4 : Nat) (TA : Option Addr) (tc : Nat), vi = .int .i64 i4 ∧ i4 ≤ i2 ∧ Hid (Bk w' KB 26 #[.slice A j c, .slice TA i4 tc]) ∧ Hid (w'.ownsRow wq.heap.size 9 1 (.slice A j c) j (W.map str)) ∧ Hid (w'.ownsRow wq.heap.size 3 1 (.slice TA i4 tc) i4 ((K.take i4).map fun t => Value.int .i64 (nbF W t))) ∧ Ext wq w') (fun vi _ => i2 - (intOf vi).toNat)
                case atStart => exact ⟨0, none, 0, rfl, Nat.zero_le _, HB, HO1, own_nil _ _ _ _, hxw⟩
                case round => as_aux_lemma =>
                  clear HB HO1 hxw b0
                  obtain ⟨i4, TA, tc, rfl, hi4, HB, HO, HI, hxw⟩ := hrel
                  by_cases g4 : i4 < i2
                  · obtain ⟨bA, oA, hAA, hbA, hcA⟩ := (HRK.out.ext hxw) (by omega)
                    subst hAA
                    have p1 := hcA i4 g4
                    dsimp only at p1
                    obtain ⟨x, hx⟩ : ∃ x, nth K i4 = x := ⟨_, rfl⟩
                    rw [hx] at p1
                    have htk : K.take (i4 + 1) = K.take i4 ++ [x] := by
                      rw [List.take_add_one, List.getElem?_eq_getElem (by rw [HKL.out]; exact g4), ← hx, nth_lt (by rw [HKL.out]; exact g4)]; rfl
                    have HTK := Lib.hid htk
                    have b0 := HB.out.cell 0
                    have b1 := HB.out.cell 1
                    clear hcA hx htk
                    go_upto_region 34 with fail
                    refine wp_region_N (fun w' => w'.cell? ⟨KB, 0, none⟩ = some (.slice A j c) ∧ w'.cell? ⟨KB, 1, none⟩ = some (.slice TA i4 tc)) 7 (by kernel_rfl) ?_
                    simp only [List.length_cons, List.length_nil, Nat.zero_add, Nat.reduceAdd]
                    have hcur : Ext wr wr.drew := (Ext.refl wr).drew
                    have hSS : wr.drew.cell? ⟨KB, 0, none⟩ = some (.slice A j c) ∧ wr.drew.cell? ⟨KB, 1, none⟩ = some (.slice TA i4 tc) := ⟨ecell b0 hcur, ecell b1 hcur⟩
                    have hB0 := HB.out.ext hcur
                    have hO0 := own_ext HO.out hcur
                    have hI0 := own_ext HI.out hcur
                    have hx0 := hxw.trans hcur
                    clear b0 b1 p1 HB HO HI hxw hcur hbA
                    generalize wr.drew = w0 at *
                    refine pure_N (i := 0) (.pointer (some ⟨KB, 1, none⟩)) rfl (by kernel_rfl) (fun _ _ _ h => h) rfl hSS (fun w' => by go_simp) #[true, false, false, false, false, false, false, false, false] (by rfl) ?_
                    try simp only [Act.put, List.setIfInBounds_toArray, List.set_cons_zero, List.set_cons_succ]
                    refine take_N (i := 1) (.slice TA i4 tc) rfl (by kernel_rfl) (fun _ _ _ h => h) rfl hSS (fun w' hw' => by have hw1 := hw'.2; go_simp) #[true, true, false, false, false, false, false, false, false] (by rfl) ?_
                    try simp only [Act.put, List.setIfInBounds_toArray, List.set_cons_zero, List.set_cons_succ]
                    refine take_N (i := 2) (.agg #[.slice A j c, .slice TA i4 tc]) rfl (by kernel_rfl) (fun _ _ _ h => h) rfl hSS (fun w' hw' => by obtain ⟨k0, k1⟩ := hw'; go_simp) #[true, true, true, false, false, false, false, false, false] (by rfl) ?_
                    try simp only [Act.put, List.setIfInBounds_toArray, List.set_cons_zero, List.set_cons_succ]
                    refine pure_N (i := 3) (str x) rfl (by kernel_rfl) (fun _ _ _ h => h) rfl hSS (fun w' => by go_simp) #[true, true, true, true, false, false, false, false, false] (by rfl) ?_
                    try simp only [Act.put, List.setIfInBounds_toArray, List.set_cons_zero, List.set_cons_succ]
                    have cn := CN.out x TA i4 tc w0 (RdS.own (by rw [HNW.out]; exact hO0))
                    obtain ⟨nb, hnb⟩ : ∃ nb, nbF W x = nb := ⟨_, rfl⟩
                    have HNB := Lib.hid hnb
                    rw [hnb] at cn
                    clear hnb
                    refine all_N [4] (by kernel_rfl) (by simp) ?_
                    rintro i hi4'
                    obtain rfl := List.mem_singleton.1 hi4'
                    refine step_N (i := 4) #[true, true, true, true, true, false, false, false, false] rfl rfl (by rfl) (fun K' hK' => ?_)
                    go_simp
                    refine cn.mono ?_
                    rintro e w5 ⟨rfl, hx5⟩
                    have hB5 := hB0.ext hx5
                    have hO5 := own_ext hO0 hx5
                    have hI5 := own_ext hI0 hx5
                    have hx05 := hx0.trans hx5
                    refine hK' _ _ ⟨hB5.cell 0, hB5.cell 1⟩ ?_
                    clear K' hK' hi4' hB0 hO0 hI0 hx0 hx5 cn hSS
                    try simp only [Act.put, List.setIfInBounds_toArray, List.set_cons_zero, List.set_cons_succ]
                    refine all_N [5] (by kernel_rfl) (by simp) ?_
                    rintro i hi4'
                    obtain rfl := List.mem_singleton.1 hi4'
                    refine step_N (i := 5) #[true, true, true, true, true, true, false, false, false] rfl rfl (by rfl) (fun K' hK' => ?_)
                    go_simp
                    have bP := Bk.new w5 3 #[(.int .i64 nb)]
                    have hx6 := (Ext.refl w5).alloc (.cells #[(.int .i64 nb)] 3)
                    have hB6 := hB5.ext hx6
                    have hO6 := own_ext hO5 hx6
                    have hI6 := own_ext hI5 hx6
                    have hx06 := hx05.trans hx6
                    generalize World.alloc w5 _ = w6 at *
                    refine hK' _ _ ⟨hB6.cell 0, hB6.cell 1⟩ ?_
                    clear K' hK' hi4' hB5 hO5 hI5 hx05 hx6
                    try simp only [Act.put, List.setIfInBounds_toArray, List.set_cons_zero, List.set_cons_succ]
                    refine all_N [6] (by kernel_rfl) (by simp) ?_
                    rintro i hi4'
                    obtain rfl := List.mem_singleton.1 hi4'
                    refine step_N (i := 6) #[true, true, true, true, true, true, true, false, false] rfl rfl (by rfl) (fun K' hK' => ?_)
                    refine wp_app _ _ 24 rfl wq.heap.size 3 ti _ Tryz.underlying24 ni nj0 nj1 nj2 rfl _ i4 _ (by rfl) hI6 (.int .i64 nb) _ _ (by rfl) bP rfl (by omega) hx06.size ?_
                    intro gb cap3 w11 own11 hgr11
                    have hO11 := own_grown hO6 hgr11 (own_own_ne hO6 hI6 (by decide))
                    have hB11 := hB6.grown hgr11 (Bk.own_ne hI6 hB6 (by decide))
                    have hx11 := hx06.grown hgr11 (fun k hk => (own_row_ge hI6 k hk).1)
                    have hI11 : w11.ownsRow wq.heap.size 3 1 (.slice (some ⟨gb, 0, none⟩) (i4 + 1) cap3) (i4 + 1) ((K.take (i4 + 1)).map fun t => Value.int .i64 (nbF W t)) := by
                      rw [HTK.out, List.map_append, List.map_singleton, HNB.out]; exact own11
                    refine hK' _ _ ⟨hB11.cell 0, hB11.cell 1⟩ ?_
                    clear K' hK' hi4'
                    try simp only [Act.put, List.setIfInBounds_toArray, List.set_cons_zero, List.set_cons_succ]
                    refine wpAnyN_tail 7 _ rfl rfl (by kernel_rfl) (by kernel_rfl) ?_
                    have b1 := hB11.cell 1
                    have f1 := hB11.frozen 1
                    have HB12 := Lib.hid (hB11.set 1 (.slice (some ⟨gb, 0, none⟩) (i4 + 1) cap3))
                    have HX12 := Lib.hid (hx11.setCell (p := ⟨KB, 1, none⟩) hKw (.slice (some ⟨gb, 0, none⟩) (i4 + 1) cap3))
                    have HO12 := Lib.hid (own_far (p := ⟨KB, 1, none⟩) hO11 (fun q => Bk.own_ne hO11 hB11 (by decide) q.symm) (.slice (some ⟨gb, 0, none⟩) (i4 + 1) cap3))
                    have HI12 := Lib.hid (own_far (p := ⟨KB, 1, none⟩) hI11 (fun q => Bk.own_ne hI11 hB11 (by decide) q.symm) (.slice (some ⟨gb, 0, none⟩) (i4 + 1) cap3))
                    clear own11 hgr11 hI11 hx11 hB11 hO11 hB6 hO6 hI6 hx06 bP
                    go_wp2_with fail
                    refine ⟨⟨i4 + 1, _, _, by go_num, by omega, HB12.out, HO12.out, HI12.out, HX12.out⟩, by simp [intOf]; omega⟩
                  · obtain rfl : i4 = i2 := by omega
                    have hsz := hxw.size
                    have b1 := HB.out.cell 1
                    have hkk : K.take i4 = K := List.take_of_length_le (by rw [HKL.out]; exact Nat.le_refl _)
                    have HI1 := HI.out
                    rw [hkk] at HI1
                    replace HI1 := Lib.hid HI1
                    clear HI hkk
                    go_wp2_with (at_builtin; refine wpList_app1 (by rfl) _ _ 24 rfl wq.heap.size 3 ti (.int .i64 0) 8 Tryz.underlying24 ni nj0 nj1 nj2 rfl _ i4 _ rfl wr (.int .i64 0) 3 rfl HI1.out rfl rfl ?d1 ?d2 hsz ?_)
                    case d1 => omega
                    case d2 => omega
                    intro gb cap3 w11 own11 hgr11
                    have hO11 := own_grown HO.out hgr11 (own_own_ne HO.out HI1.out (by decide))
                    have hB11 := HB.out.grown hgr11 (Bk.own_ne HI1.out HB.out (by decide))
                    have hx11 := hxw.grown hgr11 (fun k hk => (own_row_ge HI1.out k hk).1)
                    obtain ⟨TT, hTT⟩ : ∃ TT, K.map (nbF W) ++ [0] = TT := ⟨_, rfl⟩
                    have hTl : TT.length = i4 + 1 := by rw [← hTT, List.length_append, List.length_map, HKL.out]; rfl
                    have hI11 : w11.ownsRow wq.heap.size 3 1 (.slice (some ⟨gb, 0, none⟩) (i4 + 1) cap3) (i4 + 1) (TT.map fun x => Value.int .i64 x) := by
                      rw [← hTT, List.map_append, List.map_map]; exact own11
                    have b1 := hB11.cell 1
                    have f1 := hB11.frozen 1
                    have HB12 := Lib.hid (hB11.set 1 (.slice (some ⟨gb, 0, none⟩) (i4 + 1) cap3))
                    have HX12 := Lib.hid (hx11.setCell (p := ⟨KB, 1, none⟩) hKw (.slice (some ⟨gb, 0, none⟩) (i4 + 1) cap3))
                    have HO12 := Lib.hid (own_far (p := ⟨KB, 1, none⟩) hO11 (fun q => Bk.own_ne hO11 hB11 (by decide) q.symm) (.slice (some ⟨gb, 0, none⟩) (i4 + 1) cap3))
                    have HI12 := Lib.hid (own_far (p := ⟨KB, 1, none⟩) hI11 (fun q => Bk.own_ne hI11 hB11 (by decide) q.symm) (.slice (some ⟨gb, 0, none⟩) (i4 + 1) cap3))
                    have HTT := Lib.hid hTT; have HTL := Lib.hid hTl
                    clear own11 hgr11 hI11 hx11 hB11 hO11 HB HO HI1 hxw hTT hTl
                    go_upto_region 37 with fail
                    clear b1 f1
                    generalize World.setCell w11 _ _ = w12 at *
                    have bkc : Bk w12 KB 26 #[.slice A j c, .slice (some ⟨gb, 0, none⟩) (i4 + 1) cap3] := HB12.out
                    have hxc : Ext wq w12 := HX12.out
                    have hosc : w12.ownsRow wq.heap.size 9 1 (.slice A j c) j (W.map str) := HO12.out
                    have hoic : w12.ownsRow wq.heap.size 3 1 (.slice (some ⟨gb, 0, none⟩) (i4 + 1) cap3) (i4 + 1) (TT.map fun x => Value.int .i64 x) := HI12.out
                    have br := HBR.out.ext (hxr.trans hxc)
                    have b0 := bkc.cell 0
                    have b1 := bkc.cell 1
                    have c0 := br.cell 0
                    have c1 := br.cell 1
                    have f0 := br.frozen 0
                    have f1 := br.frozen 1
                    have hcap := own_capT hoic
                    have hnoneS := own_noneT hosc
                    have hcapS := own_capT hosc
                    have hneS : Value.ownBlock (.slice A j c) ≠ some B := fun q => Bk.own_ne hosc br (by decide) q.symm
                    have BF := Lib.hid (bk2 (v0 := .slice A j c) (v1 := .slice (some ⟨gb, 0, none⟩) (i4 + 1) cap3) br)
                    have HXF := Lib.hid (ext2 (B := B) (hx0r.trans hxc) hBw (.slice A j c) (.slice (some ⟨gb, 0, none⟩) (i4 + 1) cap3))
                    have HSF := Lib.hid (own_far (p := ⟨B, 1, none⟩) (own_far (p := ⟨B, 0, none⟩) hosc hneS (.slice A j c)) hneS (.slice (some ⟨gb, 0, none⟩) (i4 + 1) cap3))
                    have hneI : Value.ownBlock (.slice (some ⟨gb, 0, none⟩) (i4 + 1) cap3) ≠ some B := fun q => Bk.own_ne hoic br (by decide) q.symm
                    have HIF := Lib.hid (own_far (p := ⟨B, 1, none⟩) (own_far (p := ⟨B, 0, none⟩) hoic hneI (.slice A j c)) hneI (.slice (some ⟨gb, 0, none⟩) (i4 + 1) cap3))
                    clear bkc hosc hoic br HB12 HX12 HO12 HI12 hneS hneI
                    go_wp2_with fail
                    clear b0 b1 c0 c1 f0 f1
                    have bF := BF.out
                    have hxF := HXF.out
                    have hsF := HSF.out
                    have hiF := HIF.out
                    generalize (w12.setCell _ _).setCell _ _ = wF at *
                    have z0 := bF.cell 0
                    have z1 := bF.cell 1
                    have hrdT : Rd wF (some ⟨gb, 0, none⟩) (i4 + 1) (fun j => .int .i64 (nth (K.map (nbF W) ++ [0]) j)) := by
                      rw [HTT.out]
                      exact (Rd.of_own (d := .int .i64 0) hiF).congr fun k hk => by simp [nth, HTL.out, hk]
                    have hrdS : RdS wF A W := RdS.own (by rw [HNW.out]; exact hsF)
                    exact bodyPost_ret (v := .tuple #[bookV A (some ⟨gb, 0, none⟩) j c (i4 + 1) cap3, .int .i64 0]) (by simp [results, Tryz.results13, go_sem, z0, z1]) rfl (Q0.out wF A c _ cap3 hxF HJ.out g5 hnoneS hcapS hrdS hcap hrdT)
end Go.Proofs.YtjfdlibceldanabGreatDoor
