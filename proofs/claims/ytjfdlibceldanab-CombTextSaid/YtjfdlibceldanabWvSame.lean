/- The reference SameWave, and the law's spoilt: the walks. -/
import Derived.Test.YtjfdlibceldanabWvKinds
namespace Go.Proofs.Ytjfdlibceldanab
open Go.RowKit Wv

set_option maxHeartbeats 4000000 in
set_option maxRecDepth 100000 in
theorem sameWave_calls (x : PW) (hx : x.Ok) (A B : Option Addr) (ca cb : Nat) (w : World) (h1 : RdL w A x.L) (h2 : RdL w B x.L) :
    Calls Try.prog 43 #[.agg #[.int .i64 x.N, .int .i64 x.Deep, .slice A x.L.length ca], .agg #[.int .i64 x.N, .int .i64 x.Deep, .slice B x.L.length cb]] w fun e w' => e = .returned (.bool true) ∧ Ext w w' := by
  obtain ⟨N, D, L⟩ := x
  have hl := hx.len
  have hok := Lib.hid hx.l
  dsimp only at hl hok h1 h2 ⊢
  clear hx
  go_enter Try.func43, Try.ntmps43
  go_wp2_with fail
  generalize hW1 : World.alloc w _ = W1
  generalize hW : World.alloc W1 _ = W
  have hs1 : W1.heap.size = w.heap.size + 1 := by rw [← hW1]; simp
  have bx := (bx3_of hW1).ext (ext_of_alloc hW)
  have by3 := bx3_of hW
  rw [hs1] at by3
  have hxW := (ext_of_alloc hW1).trans (ext_of_alloc hW)
  have H1 := Lib.hid (h1.ext hxW); have H2 := Lib.hid (h2.ext hxW)
  have HX := Lib.hid bx; have HY := Lib.hid by3
  clear hW hW1 hs1 bx by3 h1 h2
  generalize w.heap.size + 1 = BY at *
  go_loopw [30] (fun v wr => ∃ k : Nat, k ≤ L.length ∧ v = .int .i64 k ∧ Ext W wr) (fun v _ => L.length - (intOf v).toNat)
  case atStart => exact ⟨0, by omega, rfl, Ext.refl _⟩
  case round =>
    obtain ⟨k, hk, rfl, hxr⟩ := hrel
    by_cases g1 : k < L.length
    · obtain ⟨b1, o1, hA, hb1, hc1⟩ := (H1.out.ext hxr) (by omega)
      subst hA
      obtain ⟨A1, A2, c1, c2, p1, p2, p3, hrb⟩ := hc1 k g1
      obtain ⟨b2, o2, hB, hb2, hc2⟩ := (H2.out.ext hxr) (by omega)
      subst hB
      obtain ⟨B1, B2, d1, d2, q1, q2, q3, hrc⟩ := hc2 k g1
      have okb := hok.out _ (nth_mem g1)
      obtain ⟨b, hb⟩ : ∃ b, nth L k = b := ⟨_, rfl⟩
      rw [hb] at p1 p2 p3 hrb q1 q2 q3 hrc okb
      obtain ⟨x0, x1, x2⟩ := HX.out.ext hxr
      obtain ⟨y0, y1, y2⟩ := HY.out.ext hxr
      have hsame : sameB b b = true := (sameB_iff b b).2 rfl
      have HS := Lib.hid hsame; have OK := Lib.hid okb
      clear hb hc1 hc2 hsame okb
      have hcur : Ext wr wr.drew := (Ext.refl wr).drew
      go_upto_region 6 with fail
      go_region_held3 (fun w' => (w'.cell? ⟨w.heap.size, 2, none⟩ = some (.slice (some ⟨b1, o1, none⟩) L.length ca) ∧ w'.cell? ⟨BY, 2, none⟩ = some (.slice (some ⟨b2, o2, none⟩) L.length cb)) ∧ (w'.cell? ⟨b1, o1 + k * 3, none⟩ = some (.int .i64 b.N) ∧ w'.cell? ⟨b1, o1 + k * 3 + 1, none⟩ = some (.slice A1 b.P.length c1) ∧ w'.cell? ⟨b1, o1 + k * 3 + 2, none⟩ = some (.slice A2 b.A.length c2)) ∧ (w'.cell? ⟨b2, o2 + k * 3, none⟩ = some (.int .i64 b.N) ∧ w'.cell? ⟨b2, o2 + k * 3 + 1, none⟩ = some (.slice B1 b.P.length d1) ∧ w'.cell? ⟨b2, o2 + k * 3 + 2, none⟩ = some (.slice B2 b.A.length d2)))
        (first | (exact ⟨⟨ecell x2 hcur, ecell y2 hcur⟩, ⟨ecell p1 hcur, ecell p2 hcur, ecell p3 hcur⟩, ⟨ecell q1 hcur, ecell q2 hcur, ecell q3 hcur⟩⟩) | go_keep)
        (first | (go_at_call 65; refine (sameBits_calls b b OK.out OK.out A1 A2 B1 B2 c1 c2 d1 d2 _ (hrb.ext hcur) (hrc.ext hcur)).mono ?_; rintro e wn ⟨rfl, hxn⟩; replace hcur := hcur.trans hxn; rw [HS.out]))
      go_wp2_with fail
      exact ⟨⟨k + 1, by omega, by go_num, hxr.trans hcur⟩, by simp [intOf]; omega⟩
    · go_wp2_with fail
      go_ret
      exact ⟨rfl, hxW.trans hxr⟩

theorem RdL.take {w : World} {A : Option Addr} {ls : List PB} (h : RdL w A ls) (n : Nat) : RdL w A (ls.take n) := fun hn => by
  rw [List.length_take] at hn
  obtain ⟨b, o, hA, hb, hc⟩ := h (by omega)
  refine ⟨b, o, hA, hb, fun k hk => ?_⟩
  rw [List.length_take] at hk
  have e : nth (ls.take n) k = nth ls k := by unfold nth; rw [List.getElem?_take_of_lt (by omega)]
  rw [e]; exact hc k (by omega)

end Go.Proofs.Ytjfdlibceldanab
