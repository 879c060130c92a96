/- Regions that draw their order: the check for a new class, by masks. -/
import Derived.Test.YtidfimpchbkppaaReg
namespace Go.Proofs.Ytidfimpchbkppaa
open Go.RowKit
set_option linter.unusedVariables false

/-- The mask of an operation: its edges' own bits and their masks. -/
def maskOf (md : Region.Mode) (M : List Nat) (o : Oper) : Nat := o.after.toList.foldl (fun acc e => if Region.binds md e then acc ||| (1 <<< e.on) ||| M.getD e.on 0 else acc) 0
def masks (md : Region.Mode) : List Oper → List Nat → List Nat
  | [], M => M
  | o :: l, M => masks md l (M ++ [maskOf md M o])
def noneM (md : Region.Mode) (l : List Oper) (E : List Nat) (listed : Array Bool) : Bool :=
  let M := masks md l []
  (List.range l.length).all fun j => listed.getD j true || E.all fun i => (M.getD j 0).testBit i

theorem anc_mono {md : Region.Mode} {ops : Array Oper} : ∀ (f g i j : Nat), f ≤ g → anc md ops f i j = true → anc md ops g i j = true
  | 0, _, _, _, _, h => by simp [anc] at h
  | f + 1, 0, _, _, h, _ => by omega
  | f + 1, g + 1, i, j, h, ha => by
    unfold anc at ha ⊢
    split at ha
    · cases ha
    · obtain ⟨e, he, hb⟩ := Array.any_eq_true'.1 ha
      refine Array.any_eq_true'.2 ⟨e, he, ?_⟩
      simp only [Bool.and_eq_true, Bool.or_eq_true] at hb ⊢
      exact ⟨hb.1, hb.2.imp id (anc_mono f g i e.on (by omega))⟩
/-- The masks of the first operations tell ancestors. -/
def Good (md : Region.Mode) (ops : Array Oper) (M : List Nat) : Prop := ∀ j i, (M.getD j 0).testBit i = true → anc md ops (j + 1) i j = true
theorem maskOf_bit {md : Region.Mode} {ops : Array Oper} {M : List Nat} {o : Oper} {i : Nat} : ∀ (es : List Edge) (acc : Nat), (es.foldl (fun acc e => if Region.binds md e then acc ||| (1 <<< e.on) ||| M.getD e.on 0 else acc) acc).testBit i = true →
    acc.testBit i = true ∨ ∃ e ∈ es, Region.binds md e = true ∧ (e.on = i ∨ (M.getD e.on 0).testBit i = true)
  | [], acc, h => .inl h
  | e :: es, acc, h => by
    rw [List.foldl_cons] at h
    rcases maskOf_bit (ops := ops) (o := o) es _ h with h1 | ⟨e', he', h2⟩
    · split at h1
      · rename_i hb
        rw [Nat.testBit_or, Nat.testBit_or, Bool.or_eq_true, Bool.or_eq_true] at h1
        rcases h1 with (h1 | h1) | h1
        · exact .inl h1
        · refine .inr ⟨e, by simp, hb, .inl ?_⟩
          rw [Nat.one_shiftLeft, Nat.testBit_two_pow] at h1
          simpa using h1
        · exact .inr ⟨e, by simp, hb, .inr h1⟩
      · exact .inl h1
    · exact .inr ⟨e', by simp [he'], h2⟩
theorem masks_good {md : Region.Mode} {ops : Array Oper} : ∀ (l : List Oper) (M : List Nat), (∀ k, k < l.length → ops[M.length + k]? = l[k]?) → Good md ops M → (∀ j e oj, ops[j]? = some oj → e ∈ oj.after.toList → Region.binds md e = true → e.on < j) → Good md ops (masks md l M)
  | [], M, _, h, _ => h
  | o :: l, M, hl, h, hlt => by
    unfold masks
    refine masks_good l _ (fun k hk => ?_) (fun j i hb => ?_) hlt
    · have := hl (k + 1) (by simpa using hk)
      simp only [List.length_append, List.length_singleton, List.getElem?_cons_succ] at this ⊢
      rw [show M.length + 1 + k = M.length + (k + 1) by omega]
      exact this
    · rcases Nat.lt_trichotomy j M.length with hj | hj | hj
      · rw [List.getD_eq_getElem?_getD, List.getElem?_append_left hj, ← List.getD_eq_getElem?_getD] at hb
        exact h j i hb
      · subst hj
        rw [List.getD_eq_getElem?_getD, List.getElem?_append_right (Nat.le_refl _)] at hb
        simp only [Nat.sub_self, List.getElem?_cons_zero, Option.getD_some] at hb
        have ho : ops[M.length]? = some o := by have := hl 0 (by simp); simpa using this
        rcases maskOf_bit (ops := ops) (o := o) o.after.toList 0 hb with h1 | ⟨e, he, hbd, h2⟩
        · simp at h1
        · unfold anc
          rw [ho]
          refine Array.any_eq_true'.2 ⟨e, by simpa using he, ?_⟩
          simp only [Bool.and_eq_true, Bool.or_eq_true, beq_iff_eq]
          refine ⟨hbd, h2.imp id fun h3 => ?_⟩
          have := hlt _ e o ho he hbd
          exact anc_mono _ _ _ _ (by omega) (h e.on i h3)
      · rw [List.getD_eq_getElem?_getD, List.getElem?_eq_none (by simp; omega)] at hb
        simp at hb
def edgesB (md : Region.Mode) (l : List Oper) : Bool := (List.range l.length).all fun j => (l.getD j default).after.toList.all fun e => !Region.binds md e || decide (e.on < j)
theorem noneNeeds_of_M {md : Region.Mode} {l : List Oper} {E : List Nat} {listed : Array Bool} (he : edgesB md l = true) (h : noneM md l E listed = true) : noneNeeds md l.toArray E listed = true := by
  have hg : Good md l.toArray (masks md l []) := masks_good l [] (fun k hk => by simp) (fun j i hb => by simp at hb) (fun j e oj ho hin hb => by
    have hj : j < l.length := by
      have := (Array.getElem?_eq_some_iff.1 ho).1
      simpa using this
    have h1 := List.all_eq_true.1 (List.all_eq_true.1 he j (List.mem_range.2 hj)) e (by
      have : l.getD j default = oj := by simp at ho; simp [ho]
      rw [this]; exact hin)
    simpa [hb] using h1)
  unfold noneM at h
  unfold noneNeeds
  refine List.all_eq_true.2 fun j hj => ?_
  have hj' : j < l.length := by simpa using hj
  have h1 := List.all_eq_true.1 h j (List.mem_range.2 hj')
  simp only [Bool.or_eq_true] at h1 ⊢
  refine h1.imp id fun h2 => ?_
  unfold needs
  rw [Bool.not_eq_true']
  refine Bool.eq_false_iff.2 fun h3 => ?_
  obtain ⟨i, hi, h4⟩ := List.any_eq_true.1 h3
  have h5 := hg j i (List.all_eq_true.1 h2 i hi)
  rw [anc_mono _ _ _ _ (by simp; omega) h5] at h4
  cases h4
section
variable {P : Program} {Q : Exit → Act → World → Prop} {C : World → Prop} {E : List Nat}
/-- As rg_cut, checked by masks. -/
theorem rg_cutM {l : List Oper} {fuel : Nat} {listed : Array Bool} {a : Act} {w : World} (k : Nat) {o : Oper}
    (h : wpList P l.toArray (Then (fun a' w' => RG0 P l.toArray Q fuel (listed.setIfInBounds k true) a' w') Q) [o] a w)
    (ho : l[k]? = some o := by rfl) (hr : Region.ready .any l.toArray listed = [k] := by kernel_rfl) (he : edgesB .any l = true := by kernel_rfl) (hN : noneM .any l E listed = true := by kernel_rfl) : RG P l.toArray Q C E (fuel + 1) listed a w :=
  rg_cut k h ho hr (noneNeeds_of_M he hN)
end
end Go.Proofs.Ytidfimpchbkppaa
