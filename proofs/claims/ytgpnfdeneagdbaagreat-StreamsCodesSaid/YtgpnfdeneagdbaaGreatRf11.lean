/- The plan of a region that draws its order: what it says. -/
import Derived.Test.YtgpnfdeneagdbaaGreatRf10
namespace Go.Proofs.YtgpnfdeneagdbaaGreat.Rf
open Go Go.RowKit
set_option linter.unusedVariables false
set_option linter.unusedSimpArgs false

variable {P : Program}

theorem mask_or (a i j : Nat) : (a ||| 2 ^ i).testBit j = (a.testBit j || decide (i = j)) := by
  rw [Nat.testBit_or, Nat.testBit_two_pow]

theorem subset_bit {a b : Nat} (h : subset a b = true) {j : Nat} (hj : a.testBit j = true) : b.testBit j = true := by
  have h := Nat.eq_of_beq_eq_true h
  rw [← h, Nat.testBit_and] at hj
  simp only [Bool.and_eq_true] at hj
  exact hj.2

theorem fold_mono (f : Nat → Edge → Nat) (hf : ∀ s e j, s.testBit j = true → (f s e).testBit j = true) : ∀ (l : List Edge) (s j : Nat), s.testBit j = true → (l.foldl f s).testBit j = true
  | [], _, _, h => h
  | e :: l, s, j, h => fold_mono f hf l _ j (hf s e j h)

theorem direct_bit {o : Oper} {ed : Edge} (h : ed ∈ o.after) (hb : Region.binds .any ed = true) : (direct o).testBit ed.on = true := by
  have key : ∀ (l : List Edge) (s : Nat), ed ∈ l → (l.foldl (fun s e => bif Region.binds .any e then s ||| 2 ^ e.on else s) s).testBit ed.on = true := by
    intro l
    induction l with
    | nil => intro s h; cases h
    | cons x l ih =>
      intro s h
      cases h with
      | head =>
        refine fold_mono _ (fun s e j hj => ?_) l _ _ ?_
        · cases Region.binds .any e
          · exact hj
          · simp only [cond_true]; rw [mask_or, hj]; rfl
        · simp only [hb, cond_true]; rw [mask_or]; simp
      | tail _ h => exact ih _ h
  exact key o.after.toList 0 (by simpa using h)

theorem fold_anc (acc : List Nat) : ∀ (l : List Edge) (s j : Nat), (l.foldl (fun s e => bif Region.binds .any e then s ||| 2 ^ e.on ||| acc.getD e.on 0 else s) s).testBit j = true →
    s.testBit j = true ∨ ∃ e ∈ l, Region.binds .any e = true ∧ (e.on = j ∨ (acc.getD e.on 0).testBit j = true)
  | [], _, _, h => .inl h
  | x :: l, s, j, h => by
    rcases fold_anc acc l _ j h with h1 | ⟨e, he, h2⟩
    · cases hb : Region.binds .any x <;> simp only [hb, cond_true, cond_false] at h1
      · exact .inl h1
      · rw [Nat.testBit_or, mask_or] at h1
        simp only [Bool.or_eq_true, decide_eq_true_eq] at h1
        rcases h1 with (h1 | h1) | h1
        · exact .inl h1
        · exact .inr ⟨x, List.mem_cons_self .., hb, .inl h1⟩
        · exact .inr ⟨x, List.mem_cons_self .., hb, .inr h1⟩
    · exact .inr ⟨e, List.mem_cons_of_mem _ he, h2⟩

theorem ancs_prefix : ∀ (ops : List Oper) (acc : List Nat) (i : Nat), i < acc.length → (ancs ops acc).getD i 0 = acc.getD i 0
  | [], _, _, _ => rfl
  | o :: os, acc, i, h => by
    unfold ancs
    rw [ancs_prefix os _ i (by simp; omega)]
    simp only [List.getD_eq_getElem?_getD]
    rw [List.getElem?_append_left h]

theorem ancs_spec : ∀ (ops : List Oper) (acc : List Nat) (k : Nat) (o : Oper), ops[k]? = some o → ∀ j, ((ancs ops acc).getD (acc.length + k) 0).testBit j = true →
    ∃ e ∈ o.after, Region.binds .any e = true ∧ (e.on = j ∨ (e.on < acc.length + k ∧ ((ancs ops acc).getD e.on 0).testBit j = true))
  | [], _, _, _, h, _, _ => by simp at h
  | o' :: os, acc, 0, o, h, j, hj => by
    simp only [List.getElem?_cons_zero, Option.some.injEq] at h
    subst h
    unfold ancs at hj ⊢
    rw [Nat.add_zero] at hj ⊢
    rw [ancs_prefix os _ acc.length (by simp)] at hj
    simp only [List.getD_eq_getElem?_getD] at hj
    rw [List.getElem?_append_right (Nat.le_refl _)] at hj
    simp only [Nat.sub_self, List.getElem?_cons_zero, Option.getD_some] at hj
    have hj' : (o'.after.toList.foldl (fun s e => bif Region.binds .any e then s ||| 2 ^ e.on ||| acc.getD e.on 0 else s) 0).testBit j = true := by
      simpa [List.getD_eq_getElem?_getD] using hj
    rcases fold_anc acc _ 0 j hj' with h1 | ⟨e, he, hb, h2⟩
    · simp at h1
    · refine ⟨e, by simpa using he, hb, ?_⟩
      rcases h2 with h2 | h2
      · exact .inl h2
      · have hlt : e.on < acc.length := by
          rcases Nat.lt_or_ge e.on acc.length with h | h
          · exact h
          · simp only [List.getD_eq_getElem?_getD] at h2
            rw [List.getElem?_eq_none h] at h2
            simp at h2
        refine .inr ⟨hlt, ?_⟩
        rw [ancs_prefix os _ e.on (by simp; omega)]
        simp only [List.getD_eq_getElem?_getD] at h2 ⊢
        rw [List.getElem?_append_left hlt]
        exact h2
  | o' :: os, acc, k + 1, o, h, j, hj => by
    unfold ancs at hj ⊢
    rw [List.getElem?_cons_succ] at h
    have := ancs_spec os (acc ++ [o'.after.toList.foldl (fun s e => bif Region.binds .any e then s ||| 2 ^ e.on ||| acc.getD e.on 0 else s) 0]) k o h j (by
      rwa [List.length_append, show acc.length + [o'.after.toList.foldl (fun s e => bif Region.binds .any e then s ||| 2 ^ e.on ||| acc.getD e.on 0 else s) 0].length + k = acc.length + (k + 1) by rw [List.length_singleton]; omega])
    obtain ⟨e, he, hb, h2⟩ := this
    refine ⟨e, he, hb, ?_⟩
    rcases h2 with h2 | ⟨h2, h3⟩
    · exact .inl h2
    · exact .inr ⟨by simp at h2; omega, h3⟩

/-- a set of operations that holds what its members wait for -/
def Closed (ops : List Oper) (L : Nat → Prop) : Prop := ∀ j o, ops[j]? = some o → L j → ∀ ed ∈ o.after, Region.binds .any ed = true → L ed.on

theorem anc_sub {ops : List Oper} {L : Nat → Prop} (hL : Closed ops L) : ∀ (k : Nat) (o : Oper), ops[k]? = some o → (∀ ed ∈ o.after, Region.binds .any ed = true → L ed.on) → ∀ j, ((ancs ops []).getD k 0).testBit j = true → L j := by
  intro k
  induction k using Nat.strongRecOn with
  | _ k ih =>
    intro o ho hd j hj
    have hj' : ((ancs ops []).getD (([] : List Nat).length + k) 0).testBit j = true := by simpa using hj
    obtain ⟨ed, he, hb, h⟩ := ancs_spec ops [] k o ho j hj'
    rcases h with h | ⟨h1, h2⟩
    · subst h; exact hd ed he hb
    · have hlt : ed.on < k := by simpa using h1
      have hk : k < ops.length := (List.getElem?_eq_some_iff.1 ho).1
      have ho' : ops[ed.on]? = some (ops[ed.on]'(by omega)) := List.getElem?_eq_getElem _
      exact ih ed.on hlt _ ho' (hL ed.on _ ho' (hd ed he hb)) j h2

theorem firstReady_some {done : Nat} : ∀ {ops : List Oper} {s i : Nat}, firstReady P done ops s = some i → ∃ o, ops[i - s]? = some o ∧ s ≤ i ∧ done.testBit i = false ∧ subset (direct o) done = true ∧ isActor P o = false
  | [], _, _, h => by simp [firstReady] at h
  | o :: os, s, i, h => by
    unfold firstReady at h
    cases hc : (!(done.testBit s) && subset (direct o) done && !(isActor P o)) <;> simp only [hc, cond_true, cond_false] at h
    · obtain ⟨o', h1, h2, h3⟩ := firstReady_some h
      refine ⟨o', ?_, by omega, h3⟩
      rw [show i - s = (i - (s + 1)) + 1 by omega]
      simpa using h1
    · simp only [Option.some.injEq] at h
      subst h
      simp only [Bool.and_eq_true, Bool.not_eq_true'] at hc
      exact ⟨o, by simp, Nat.le_refl _, hc.1.1, hc.1.2, hc.2⟩

theorem mem_readyActs {done : Nat} : ∀ {ops : List Oper} {s i : Nat}, i ∈ readyActs P done ops s ↔ ∃ o, ops[i - s]? = some o ∧ s ≤ i ∧ done.testBit i = false ∧ subset (direct o) done = true
  | [], s, i => by simp [readyActs]
  | o :: os, s, i => by
    have ih := mem_readyActs (done := done) (ops := os) (s := s + 1) (i := i)
    unfold readyActs
    have hshift : (∃ o', os[i - (s + 1)]? = some o' ∧ s + 1 ≤ i ∧ done.testBit i = false ∧ subset (direct o') done = true) ↔ (∃ o', (o :: os)[i - s]? = some o' ∧ s + 1 ≤ i ∧ done.testBit i = false ∧ subset (direct o') done = true) := by
      constructor
      · rintro ⟨o', h1, h2, h3⟩
        exact ⟨o', by rw [show i - s = (i - (s + 1)) + 1 by omega]; simpa using h1, h2, h3⟩
      · rintro ⟨o', h1, h2, h3⟩
        rw [show i - s = (i - (s + 1)) + 1 by omega] at h1
        exact ⟨o', by simpa using h1, h2, h3⟩
    cases hc : (!(done.testBit s) && subset (direct o) done) <;> simp only [cond_true, cond_false]
    · rw [ih, hshift]
      constructor
      · rintro ⟨o', h1, h2, h3⟩; exact ⟨o', h1, by omega, h3⟩
      · rintro ⟨o', h1, h2, h3⟩
        refine ⟨o', h1, ?_, h3⟩
        rcases Nat.lt_or_ge s i with h | h
        · exact h
        · have : i = s := by omega
          subst this
          simp at h1
          subst h1
          rw [h3.1, h3.2] at hc
          cases hc
    · rw [List.mem_cons, ih, hshift]
      simp only [Bool.and_eq_true, Bool.not_eq_true'] at hc
      constructor
      · rintro (rfl | ⟨o', h1, h2, h3⟩)
        · exact ⟨o, by simp, Nat.le_refl _, hc.1, hc.2⟩
        · exact ⟨o', h1, by omega, h3⟩
      · rintro ⟨o', h1, h2, h3⟩
        rcases Nat.lt_or_ge s i with h | h
        · exact .inr ⟨o', h1, h, h3⟩
        · exact .inl (by omega)

theorem inNames_iff {d : Option Tmp} {l : List Tmp} : inNames d l = true ↔ ∃ t, d = some t ∧ t ∈ l := by
  cases d with
  | none => simp [inNames]
  | some t =>
    simp only [inNames, List.any_eq_true, Option.some.injEq]
    constructor
    · rintro ⟨u, hu, he⟩; exact ⟨t, rfl, Nat.eq_of_beq_eq_true he ▸ hu⟩
    · rintro ⟨_, rfl, h⟩; exact ⟨_, h, Nat.beq_refl _⟩

theorem safeAt_spec {ops : List Oper} {anc : List Nat} {i : Nat} {oi : Oper} : ∀ {l : List Oper} {s : Nat}, safeAt ops anc i oi l s = true → ∀ {k : Nat} {ok : Oper}, l[k]? = some ok →
    (∀ t, oi.dst = some t → t ∈ namesOf ops ok → s + k ≠ i ∧ (anc.getD (s + k) 0).testBit i = true) ∧ (s + k ≠ i → ∀ t, ok.dst = some t → oi.dst ≠ some t) ∧
    (∀ t, ok.dst = some t → t ∈ namesOf ops oi → (anc.getD (s + k) 0).testBit i = true ∨ (anc.getD i 0).testBit (s + k) = true)
  | [], _, _, _, _, h => by simp at h
  | o :: l, s, h, 0, ok, hk => by
    simp only [List.getElem?_cons_zero, Option.some.injEq] at hk
    subst hk
    unfold safeAt at h
    simp only [Bool.and_eq_true, Bool.or_eq_true, Bool.not_eq_true'] at h
    obtain ⟨⟨⟨h1, h2⟩, h3⟩, _⟩ := h
    rw [Nat.add_zero]
    refine ⟨fun t ht hm => ?_, fun hne t ht hd => ?_, fun t ht hm => ?_⟩
    · rcases h1 with h1 | h1
      · rw [inNames_iff.2 ⟨t, ht, hm⟩] at h1; cases h1
      · exact ⟨fun e => (by rw [e, Nat.beq_refl] at h1; cases h1.1), h1.2⟩
    · rcases h2 with h2 | h2
      · exact hne (Nat.eq_of_beq_eq_true h2)
      · rw [ht, hd] at h2; simp [sameDst] at h2
    · rcases h3 with (h3 | h3) | h3
      · rw [inNames_iff.2 ⟨t, ht, hm⟩] at h3; cases h3
      · exact .inl h3
      · exact .inr h3
  | o :: l, s, h, k + 1, ok, hk => by
    unfold safeAt at h
    simp only [Bool.and_eq_true] at h
    have := safeAt_spec (s := s + 1) h.2 (k := k) (ok := ok) (by simpa using hk)
    rwa [show s + 1 + k = s + (k + 1) by omega] at this

theorem safeAll_spec {ops : List Oper} {anc : List Nat} : ∀ {l : List Oper} {s : Nat}, safeAll P ops anc l s = true → ∀ {i : Nat} {oi : Oper}, l[i]? = some oi →
    (isActor P oi = true ∨ safeAt ops anc (s + i) oi ops 0 = true) ∧ (∀ j w, oi.guard = some (j, w) → (anc.getD (s + i) 0).testBit j = true) ∧ (∀ ed ∈ oi.after, Region.binds .any ed = true → ed.on < s + i)
  | [], _, _, _, _, h => by simp at h
  | o :: l, s, h, 0, oi, hi => by
    simp only [List.getElem?_cons_zero, Option.some.injEq] at hi
    subst hi
    unfold safeAll at h
    simp only [Bool.and_eq_true, Bool.or_eq_true] at h
    refine ⟨h.1.1.1, fun j w hg => ?_, fun ed he hb => ?_⟩
    · have := h.1.1.2
      rw [hg] at this
      exact this
    · have := List.all_eq_true.1 h.1.2 ed (by simpa using he)
      rw [hb] at this
      have hb2 : ed.on.blt s = true := by simpa only [Bool.not_true, Bool.false_or] using this
      have := Nat.le_of_ble_eq_true hb2
      omega
  | o :: l, s, h, i + 1, oi, hi => by
    unfold safeAll at h
    simp only [Bool.and_eq_true] at h
    have := safeAll_spec (s := s + 1) h.2 (i := i) (oi := oi) (by simpa using hi)
    rwa [show s + 1 + i = s + (i + 1) by omega] at this

/-- What is checked of a region once. -/
structure RSafe (P : Program) (ops : List Oper) : Prop where
  names : ∀ (i : Nat) (oi : Oper) (k : Nat) (ok : Oper), ops[i]? = some oi → isActor P oi = false → ops[k]? = some ok → ∀ t, oi.dst = some t → t ∈ namesOf ops ok → k ≠ i ∧ ((ancs ops []).getD k 0).testBit i = true
  dsts : ∀ (i : Nat) (oi : Oper) (k : Nat) (ok : Oper), ops[i]? = some oi → isActor P oi = false → ops[k]? = some ok → k ≠ i → ∀ t, ok.dst = some t → oi.dst ≠ some t
  acts : ∀ (i : Nat) (oi : Oper) (k : Nat) (ok : Oper), ops[i]? = some oi → isActor P oi = false → ops[k]? = some ok → ∀ t, ok.dst = some t → t ∈ namesOf ops oi → ((ancs ops []).getD k 0).testBit i = true ∨ ((ancs ops []).getD i 0).testBit k = true
  guards : ∀ (i : Nat) (oi : Oper) (j : Nat) (w : Bool), ops[i]? = some oi → oi.guard = some (j, w) → ((ancs ops []).getD i 0).testBit j = true
  edges : ∀ (i : Nat) (oi : Oper), ops[i]? = some oi → ∀ ed ∈ oi.after, Region.binds .any ed = true → ed.on < i

theorem safe_of {ops : List Oper} (h : safeAll P ops (ancs ops []) ops 0 = true) : RSafe P ops := by
  have key : ∀ i oi, ops[i]? = some oi → isActor P oi = false → safeAt ops (ancs ops []) i oi ops 0 = true := fun i oi hi ha => by
    rcases (safeAll_spec h hi).1 with h1 | h1
    · rw [ha] at h1; cases h1
    · simpa using h1
  refine ⟨fun i oi k ok hi ha hk t ht hm => ?_, fun i oi k ok hi ha hk hne t ht => ?_, fun i oi k ok hi ha hk t ht hm => ?_, fun i oi j w hi hg => ?_, fun i oi hi ed he hb => ?_⟩
  · have := (safeAt_spec (key i oi hi ha) hk).1 t ht hm; simpa using this
  · have := (safeAt_spec (key i oi hi ha) hk).2.1 (by simpa using hne) t ht; simpa using this
  · have := (safeAt_spec (key i oi hi ha) hk).2.2 t ht hm; simpa using this
  · have := (safeAll_spec h hi).2.1 j w hg; simpa using this
  · have := (safeAll_spec h hi).2.2 ed he hb; simpa using this
end Go.Proofs.YtgpnfdeneagdbaaGreat.Rf
