/- A region that draws its order and ends in a chain of stores: its loads may be taken first although the chain writes their cells, since the chain waits for them. After the kit's OrdersHeld, with 'while the chain has not begun' ahead of what is said of the world. No program in sight. -/
import Derived.OrdersHeld
import Derived.StillTail
namespace Go.Proofs.YtjfdlibceldanabGreatDoor
section
variable {P : Program} {ops : Array Oper} {Q : Exit → Act → World → Prop} {md : Region.Mode} {S : World → Prop} {n : Nat}

/-- Whatever order is picked from here on, and S holds behind every operation that is carried out before number n. -/
def wpAnyN (P : Program) (md : Region.Mode) (ops : Array Oper) (Q : Exit → Act → World → Prop) (S : World → Prop) (n : Nat) : Nat → Array Bool → Act → World → Prop
  | 0, listed, a, w => Region.ready md ops listed = [] ∧ Q .normal a w
  | fuel + 1, listed, a, w =>
    (Region.ready md ops listed = [] → Q .normal a w) ∧
    ∀ i ∈ Region.ready md ops listed, wpOp P ops Q i (fun a' w' => ((listed.setIfInBounds i true).getD n true = false → S w') ∧ wpAnyN P md ops Q S n fuel (listed.setIfInBounds i true) a' w') a w

theorem wpAny_of_N : ∀ (fuel : Nat) (listed : Array Bool) (a : Act) (w : World), wpAnyN P md ops Q S n fuel listed a w → wpAny P md ops Q fuel listed a w
  | 0, _, _, _, h => h
  | fuel + 1, _, _, _, h => ⟨h.1, fun i hi => wpOp_mono (fun a' w' h' => wpAny_of_N fuel _ a' w' h'.2) (h.2 i hi)⟩

theorem wpAnyN_of_any : ∀ (fuel : Nat) (listed : Array Bool) (a : Act) (w : World), listed.getD n true = true → wpAny P md ops Q fuel listed a w → wpAnyN P md ops Q S n fuel listed a w
  | 0, _, _, _, _, h => h
  | fuel + 1, listed, _, _, hn, h => ⟨h.1, fun i hi => wpOp_mono (fun a' w' h' => by
      have hn' : (listed.setIfInBounds i true).getD n true = true := by
        by_cases hin : i = n
        · subst hin
          rcases Nat.lt_or_ge i listed.size with h | h <;> simp [h]
        · rw [getD_set_ne true hin]; exact hn
      exact ⟨(fun h0 => by rw [hn'] at h0; cases h0), wpAnyN_of_any fuel _ a' w' hn' h'⟩) (h.2 i hi)⟩

/-- The chain begins. -/
theorem wpAnyN_exit {fuel : Nat} {listed : Array Bool} {a : Act} {w : World} (hr : Region.ready md ops listed = [n]) (h : wpAny P md ops Q (fuel + 1) listed a w) : wpAnyN P md ops Q S n (fuel + 1) listed a w := by
  refine ⟨h.1, fun i hi => wpOp_mono (fun a' w' h' => ?_) (h.2 i hi)⟩
  rw [hr] at hi
  have hin : i = n := by simpa using hi
  subst hin
  have hn' : (listed.setIfInBounds i true).getD i true = true := by
    rcases Nat.lt_or_ge i listed.size with h | h <;> simp [h]
  exact ⟨(fun h0 => by rw [hn'] at h0; cases h0), wpAnyN_of_any fuel _ a' w' hn' h'⟩

theorem wpAnyN_first {i : Nat} {oi on : Oper} {v : Value} (hi : ops[i]? = some oi) (hsel : ∀ (j : Nat) (o : Oper) cs b, ops[j]? = some o → o.op ≠ .select cs b)
    (hQ : ∀ c a w, Q (.panic c) (a.put oi.dst v) w → Q (.panic c) a w) (hon : ops[n]? = some on) (hw : ∃ e ∈ on.after, Region.binds md e = true ∧ e.on = i) (hin : i ≠ n) :
    ∀ (fuel : Nat) (listed : Array Bool) (a : Act) (w : World),
      (∀ j oj, ops[j]? = some oj → j ≠ i → listed.getD j true = false → (∀ e ∈ oj.after, Region.binds md e = true → e.on ≠ i) → oi.apart ops oj = true) →
      i ∈ Region.ready md ops listed → YieldsIf P ops S oi v a → listed.getD n true = false → S w →
      wpAnyN P md ops Q S n fuel (listed.setIfInBounds i true) (a.put oi.dst v) w → wpAnyN P md ops Q S n (fuel + 1) listed a w := by
  intro fuel
  induction fuel with
  | zero =>
    intro listed a w _ hr hy hun hS H
    refine ⟨fun h => (by rw [h] at hr; cases hr), fun j hj => ?_⟩
    by_cases hji : j = i
    · subst hji; exact hy.wpOp hi hS ⟨fun _ => hS, H⟩
    · have := ready_mono hj hji
      rw [H.1] at this
      cases this
  | succ fuel ih =>
    intro listed a w hfree hr hy hun hS H
    refine ⟨fun h => (by rw [h] at hr; cases hr), fun j hj => ?_⟩
    by_cases hji : j = i
    · subst hji; exact hy.wpOp hi hS ⟨fun _ => hS, H⟩
    · have h1 := H.2 j (ready_mono hj hji)
      obtain ⟨hjun, oj, hoj, hall⟩ := mem_ready.1 hj
      have hnot : ∀ e ∈ oj.after, Region.binds md e = true → e.on ≠ i := fun e he hb heq => by
        have h1 := hall e he hb
        have h0 := (mem_ready.1 hr).1
        rw [heq] at h1
        rcases Nat.lt_or_ge i listed.size with h' | h'
        · simp [h'] at h0 h1; rw [h0] at h1; cases h1
        · simp [Array.getElem?_eq_none h'] at h1
      have hjn : j ≠ n := fun e => by
        subst e
        have : oj = on := Option.some.inj (hoj.symm.trans hon)
        subst this
        obtain ⟨e, he, hb, heq⟩ := hw
        exact hnot e he hb heq
      have h2 := wpOp_putIf hoj (hfree j oj hoj hji hjun hnot) (fun cs b => hsel i oi cs b hi) (fun cs b => hsel j oj cs b hoj) hQ hy h1
      have hfree' : ∀ k ok, ops[k]? = some ok → k ≠ i → (listed.setIfInBounds j true).getD k true = false →
          (∀ e ∈ ok.after, Region.binds md e = true → e.on ≠ i) → oi.apart ops ok = true := fun k ok hk hki hun hno => by
        refine hfree k ok hk hki ?_ hno
        by_cases hjk : j = k
        · subst hjk; exact hjun
        · rw [getD_set_ne true hjk] at hun; exact hun
      have hun' : (listed.setIfInBounds j true).getD n true = false := by rw [getD_set_ne true hjn]; exact hun
      have hun2 : ((listed.setIfInBounds i true).setIfInBounds j true).getD n true = false := by rw [getD_set_ne true hjn, getD_set_ne true hin]; exact hun
      refine wpOp_mono (fun a' w' h3 => ⟨fun _ => h3.2.1 hun2, ih (listed.setIfInBounds j true) a' w' hfree' (ready_mono hr (Ne.symm hji)) h3.1 hun' (h3.2.1 hun2) ?_⟩) h2
      rw [Array.setIfInBounds_comm _ _ hji]
      exact h3.2.2

theorem wpAnyN_pure {i : Nat} {oi : Oper} {v : Value} (hi : ops[i]? = some oi) (hsel : ∀ (j : Nat) (o : Oper) cs b, ops[j]? = some o → o.op ≠ .select cs b)
    (hQ : ∀ c a w, Q (.panic c) (a.put oi.dst v) w → Q (.panic c) a w) (hin : i ≠ n) :
    ∀ (fuel : Nat) (listed : Array Bool) (a : Act) (w : World),
      (∀ j oj, ops[j]? = some oj → j ≠ i → listed.getD j true = false → (∀ e ∈ oj.after, Region.binds md e = true → e.on ≠ i) → oi.apart ops oj = true) →
      i ∈ Region.ready md ops listed → YieldsIf P ops (fun _ => True) oi v a → (listed.getD n true = false → S w) →
      wpAnyN P md ops Q S n fuel (listed.setIfInBounds i true) (a.put oi.dst v) w → wpAnyN P md ops Q S n (fuel + 1) listed a w := by
  intro fuel
  induction fuel with
  | zero =>
    intro listed a w _ hr hy hS H
    refine ⟨fun h => (by rw [h] at hr; cases hr), fun j hj => ?_⟩
    by_cases hji : j = i
    · subst hji; exact hy.wpOp hi trivial ⟨fun h => hS (by rw [getD_set_ne true hin] at h; exact h), H⟩
    · have := ready_mono hj hji
      rw [H.1] at this
      cases this
  | succ fuel ih =>
    intro listed a w hfree hr hy hS H
    refine ⟨fun h => (by rw [h] at hr; cases hr), fun j hj => ?_⟩
    by_cases hji : j = i
    · subst hji; exact hy.wpOp hi trivial ⟨fun h => hS (by rw [getD_set_ne true hin] at h; exact h), H⟩
    · have h1 := H.2 j (ready_mono hj hji)
      obtain ⟨hjun, oj, hoj, hall⟩ := mem_ready.1 hj
      have hnot : ∀ e ∈ oj.after, Region.binds md e = true → e.on ≠ i := fun e he hb heq => by
        have h1 := hall e he hb
        have h0 := (mem_ready.1 hr).1
        rw [heq] at h1
        rcases Nat.lt_or_ge i listed.size with h' | h'
        · simp [h'] at h0 h1; rw [h0] at h1; cases h1
        · simp [Array.getElem?_eq_none h'] at h1
      have h2 := wpOp_putIf hoj (hfree j oj hoj hji hjun hnot) (fun cs b => hsel i oi cs b hi) (fun cs b => hsel j oj cs b hoj) hQ hy h1
      have hfree' : ∀ k ok, ops[k]? = some ok → k ≠ i → (listed.setIfInBounds j true).getD k true = false →
          (∀ e ∈ ok.after, Region.binds md e = true → e.on ≠ i) → oi.apart ops ok = true := fun k ok hk hki hun hno => by
        refine hfree k ok hk hki ?_ hno
        by_cases hjk : j = k
        · subst hjk; exact hjun
        · rw [getD_set_ne true hjk] at hun; exact hun
      have back : (listed.setIfInBounds j true).getD n true = false → ((listed.setIfInBounds i true).setIfInBounds j true).getD n true = false := fun h => by
        rw [Array.setIfInBounds_comm _ _ (Ne.symm hji), getD_set_ne true hin]; exact h
      refine wpOp_mono (fun a' w' h3 => ⟨fun h => h3.2.1 (back h), ih (listed.setIfInBounds j true) a' w' hfree' (ready_mono hr (Ne.symm hji)) h3.1 (fun h => h3.2.1 (back h)) ?_⟩) h2
      rw [Array.setIfInBounds_comm _ _ hji]
      exact h3.2.2

/-- Take number i first. -/
theorem wpAnyN_take {i : Nat} {oi : Oper} {v : Value} {fuel : Nat} {listed : Array Bool} {a : Act} {w : World} (hi : ops[i]? = some oi)
    (hB : (Region.noSelect ops && Region.free md ops listed i && (Region.ready md ops listed).contains i && Region.waitsFor md ops n i && decide (i ≠ n) && !listed.getD n true) = true)
    (hQ : ∀ c a w, Q (.panic c) (a.put oi.dst v) w → Q (.panic c) a w) (hy : YieldsIf P ops S oi v a) (hS : S w)
    (h : wpAnyN P md ops Q S n fuel (listed.setIfInBounds i true) (a.put oi.dst v) w) : wpAnyN P md ops Q S n (fuel + 1) listed a w := by
  simp only [Bool.and_eq_true, decide_eq_true_eq, Bool.not_eq_true'] at hB
  obtain ⟨⟨⟨⟨⟨hs, hf⟩, hr⟩, hw⟩, hin⟩, hun⟩ := hB
  obtain ⟨on, hon, hw⟩ := Region.waitsFor_spec hw
  exact wpAnyN_first hi (Region.noSelect_spec hs) hQ hon hw hin fuel listed a w (Region.free_spec hi hf) (by simpa using hr) hy hun hS h

/-- One that may come up. -/
theorem wpAnyN_all {rs : List Nat} {fuel : Nat} {listed : Array Bool} {a : Act} {w : World} (hr : Region.ready md ops listed = rs) (hne : rs ≠ [])
    (h : ∀ i ∈ rs, wpOp P ops Q i (fun a' w' => S w' ∧ wpAnyN P md ops Q S n fuel (listed.setIfInBounds i true) a' w') a w) : wpAnyN P md ops Q S n (fuel + 1) listed a w :=
  ⟨fun h0 => absurd (hr ▸ h0) hne, fun i hi => wpOp_mono (fun _ _ h' => ⟨fun _ => h'.1, h'.2⟩) (h i (hr ▸ hi))⟩

theorem wpOp_plain {i : Nat} {o : Oper} {K : Act → World → Prop} {a : Act} {w : World} (hi : ops[i]? = some o) (hg : o.guard = none) (h : o.wp P a w K Q) : wpOp P ops Q i K a w := by
  unfold wpOp
  simp only [hi]
  rw [if_pos (by simp [Region.wanted, hg])]
  exact .inl h

/-- The end: a chain in the order of the text. -/
theorem wpAnyN_tail {listed : Array Bool} {a : Act} {w : World} (k : Nat) (l : List Oper) (hl : ops.toList.drop k = l) {fuel : Nat} (hf : l.length = fuel + 1) (hr : Region.ready md ops listed = [n])
    (hs : Region.seqB md ops (fuel + 1) k listed = true) (h : wpList P ops Q l a w) : wpAnyN P md ops Q S n (fuel + 1) listed a w := by
  refine wpAnyN_exit hr ?_
  have := wpAny_of_seq (md := md) (Q' := Q) l k listed a w (fun j => by rw [← hl, List.getElem?_drop]; simp) (by rw [hf]; exact hs) h
  rwa [hf] at this

/-- The same two, the operations written out as a list. -/
theorem take_N {l : List Oper} {i : Nat} {oi : Oper} (v : Value) {fuel : Nat} {listed : Array Bool} {a : Act} {w : World} (hi : l[i]? = some oi)
    (hB : (Region.noSelect l.toArray && Region.free md l.toArray listed i && (Region.ready md l.toArray listed).contains i && Region.waitsFor md l.toArray n i && decide (i ≠ n) && !listed.getD n true) = true)
    (hQ : ∀ c a w, Q (.panic c) (a.put oi.dst v) w → Q (.panic c) a w) (hg : oi.guard = none) (hS : S w) (hy : ∀ w, S w → (execOp a.eval oi).run P w = .ok (.value v) w)
    (listed' : Array Bool) (hl : listed.setIfInBounds i true = listed') (h : wpAnyN P md l.toArray Q S n fuel listed' (a.put oi.dst v) w) : wpAnyN P md l.toArray Q S n (fuel + 1) listed a w :=
  wpAnyN_take (by simpa using hi) hB hQ (.inl ⟨by simp [Region.wanted, hg], hy⟩) hS (hl ▸ h)
/-- A step that looks at no memory. -/
theorem pure_N {l : List Oper} {i : Nat} {oi : Oper} (v : Value) {fuel : Nat} {listed : Array Bool} {a : Act} {w : World} (hi : l[i]? = some oi)
    (hB : (Region.noSelect l.toArray && Region.free md l.toArray listed i && (Region.ready md l.toArray listed).contains i && decide (i ≠ n)) = true)
    (hQ : ∀ c a w, Q (.panic c) (a.put oi.dst v) w → Q (.panic c) a w) (hg : oi.guard = none) (hS : S w) (hy : ∀ w, (execOp a.eval oi).run P w = .ok (.value v) w)
    (listed' : Array Bool) (hl : listed.setIfInBounds i true = listed') (h : wpAnyN P md l.toArray Q S n fuel listed' (a.put oi.dst v) w) : wpAnyN P md l.toArray Q S n (fuel + 1) listed a w := by
  simp only [Bool.and_eq_true, decide_eq_true_eq] at hB
  obtain ⟨⟨⟨hs, hf⟩, hr⟩, hin⟩ := hB
  have hi' : l.toArray[i]? = some oi := by simpa using hi
  exact wpAnyN_pure hi' (Region.noSelect_spec hs) hQ hin fuel listed a w (Region.free_spec hi' hf) (by simpa using hr) (.inl ⟨by simp [Region.wanted, hg], fun w _ => hy w⟩) (fun _ => hS) (hl ▸ h)
theorem op_N {l : List Oper} {i : Nat} {o : Oper} {K : Act → World → Prop} {a : Act} {w : World} (hi : l[i]? = some o) (hg : o.guard = none) (h : ∀ K', (∀ a w, K a w → K' a w) → o.wp P a w K' Q) : wpOp P l.toArray Q i K a w :=
  wpOp_plain (by simpa using hi) hg (h K (fun _ _ h => h))
theorem all_N {l : List Oper} (rs : List Nat) {fuel : Nat} {listed : Array Bool} {a : Act} {w : World} (hr : Region.ready md l.toArray listed = rs) (hne : rs ≠ [])
    (h : ∀ i ∈ rs, wpOp P l.toArray Q i (fun a' w' => S w' ∧ wpAnyN P md l.toArray Q S n fuel (listed.setIfInBounds i true) a' w') a w) : wpAnyN P md l.toArray Q S n (fuel + 1) listed a w :=
  wpAnyN_all hr hne h
/-- One that may come up, and comes up: what it leaves. -/
theorem step_N {l : List Oper} {i : Nat} {o : Oper} {fuel : Nat} {listed : Array Bool} (listed' : Array Bool) {a : Act} {w : World} (hi : l[i]? = some o) (hg : o.guard = none) (hl : listed.setIfInBounds i true = listed')
    (h : ∀ K' : Act → World → Prop, (∀ a w, S w → wpAnyN P md l.toArray Q S n fuel listed' a w → K' a w) → o.wp P a w K' Q) :
    wpOp P l.toArray Q i (fun a' w' => S w' ∧ wpAnyN P md l.toArray Q S n fuel (listed.setIfInBounds i true) a' w') a w :=
  wpOp_plain (by simpa using hi) hg (h _ (fun _ _ h1 h2 => ⟨h1, hl ▸ h2⟩))
theorem wp_region_N {id : Nat} {a : Act} {w : World} {l : List Oper} (S : World → Prop) (n : Nat) (hm : P.follows .mixedOrders = true)
    (h : wpAnyN P .any l.toArray Q S n l.length (Array.replicate l.length false) a w.drew) : (Code.region id l.toArray true).wp P Q a w := by
  refine wp_region_any hm (wpAny_of_N (S := S) (n := n) _ _ _ _ ?_)
  simpa using h
end
end Go.Proofs.YtjfdlibceldanabGreatDoor
