/- Plans of streams in plain Lean: lists that rise by their numbers. No program here. -/
import Derived.Lib.Hide
namespace Go.Proofs.YtgpnfdeneagdbaaGreat
set_option linter.unusedVariables false

structure Strm where
  id : Nat
  urg : Nat
  inc : Bool
  ready : Bool
  served : Nat
instance : Inhabited Strm := ⟨⟨0, 0, false, false, 0⟩⟩
def Asc (L : List Strm) : Prop := L.Pairwise fun a b => a.id < b.id
def posL (id : Nat) : List Strm → Nat
  | [] => 0
  | x :: L => if x.id < id then posL id L + 1 else 0
def hasL (id : Nat) (L : List Strm) : Bool := L.any fun x => x.id == id
theorem posL_le (id : Nat) : ∀ L : List Strm, posL id L ≤ L.length
  | [] => Nat.le_refl _
  | x :: L => by
    rw [posL]; split
    · have := posL_le id L; simp; omega
    · simp
theorem posL_below (id : Nat) : ∀ (L : List Strm) (j : Nat), j < posL id L → (L.getD j default).id < id
  | [], j, h => by simp [posL] at h
  | x :: L, 0, h => by
    rw [posL] at h; split at h
    · simpa
    · omega
  | x :: L, j + 1, h => by
    rw [posL] at h; split at h
    · have := posL_below id L j (by omega); simpa using this
    · omega
theorem posL_at (id : Nat) : ∀ (L : List Strm), posL id L < L.length → id ≤ (L.getD (posL id L) default).id
  | [], h => by simp [posL] at h
  | x :: L, h => by
    rw [posL] at h ⊢
    split
    · rename_i h1
      rw [if_pos h1] at h
      have := posL_at id L (by simpa using h)
      simpa using this
    · rename_i h1
      simp; omega
theorem Asc.lt {L : List Strm} (h : Asc L) {i j : Nat} (hij : i < j) (hj : j < L.length) : (L.getD i default).id < (L.getD j default).id := by
  have := List.pairwise_iff_getElem.1 h i j (by omega) hj hij
  have e1 : L.getD i default = L[i]'(by omega) := by simp [show i < L.length by omega]
  have e2 : L.getD j default = L[j] := by simp [hj]
  rw [e1, e2]; exact this
/-- A place below which all numbers are less, and from which on none is, is that. -/
theorem posL_eq {L : List Strm} (id : Nat) (h : Asc L) {i : Nat} (hi : i ≤ L.length) (h1 : ∀ j, j < i → (L.getD j default).id < id) (h2 : ∀ j, i ≤ j → j < L.length → id ≤ (L.getD j default).id) : i = posL id L := by
  rcases Nat.lt_trichotomy i (posL id L) with hh | hh | hh
  · have a := posL_below id L i hh
    have b := h2 i (Nat.le_refl _) (Nat.lt_of_lt_of_le hh (posL_le id L))
    omega
  · exact hh
  · have a := posL_at id L (by omega)
    have b := h1 _ hh
    omega
theorem hasL_iff {L : List Strm} (id : Nat) (h : Asc L) : hasL id L = true ↔ posL id L < L.length ∧ (L.getD (posL id L) default).id = id := by
  constructor
  · intro hh
    obtain ⟨x, hx, he⟩ := List.any_eq_true.1 hh
    have he' : x.id = id := by simpa using he
    obtain ⟨j, hj, rfl⟩ := List.getElem_of_mem hx
    have hg : L.getD j default = L[j] := by simp [hj]
    have : j = posL id L := posL_eq id h (by omega) (fun i hi => by have := h.lt hi hj; rw [hg, he'] at this; exact this) (fun i hi hl => by
      rcases Nat.eq_or_lt_of_le hi with e | e
      · subst e; rw [hg, he']; exact Nat.le_refl _
      · have := h.lt e hl; rw [hg, he'] at this; omega)
    subst this
    exact ⟨hj, by rw [hg]; exact he'⟩
  · rintro ⟨h1, h2⟩
    refine List.any_eq_true.2 ⟨L.getD (posL id L) default, by simp [h1], by simpa using h2⟩
/-- The stream of a number, turned. -/
def updL (id : Nat) (f : Strm → Strm) (L : List Strm) : List Strm := L.map fun x => if x.id = id then f x else x
theorem updL_len (id : Nat) (f : Strm → Strm) (L : List Strm) : (updL id f L).length = L.length := by simp [updL]
theorem updL_asc {L : List Strm} {id : Nat} {f : Strm → Strm} (hf : ∀ x, (f x).id = x.id) (h : Asc L) : Asc (updL id f L) := by
  unfold Asc updL
  rw [List.pairwise_map]
  refine h.imp fun {a b} hab => ?_
  by_cases h1 : a.id = id <;> by_cases h2 : b.id = id <;> simp only [h1, h2, if_true, if_false, hf] <;> omega
theorem updL_set {L : List Strm} {id : Nat} (f : Strm → Strm) (h : Asc L) {i : Nat} (hi : i < L.length) (he : (L.getD i default).id = id) : L.set i (f (L.getD i default)) = updL id f L := by
  unfold updL
  refine List.ext_getElem (by rw [List.length_set, List.length_map]) ?_
  · intro j h1 h2
    have hj : j < L.length := by rw [List.length_set] at h1; exact h1
    have hg : L.getD j default = L[j] := by simp [hj]
    rw [List.getElem_set, List.getElem_map]
    split
    · rename_i e
      subst e
      rw [← hg, if_pos he]
    · rename_i e
      rw [if_neg]
      intro hh
      rw [← hg, ← he] at hh
      rcases Nat.lt_or_gt_of_ne e with hlt | hlt
      · have := h.lt hlt hj; omega
      · have := h.lt hlt hi; omega
/-- A stream laid at its place. -/
def insL (x : Strm) : List Strm → List Strm
  | [] => [x]
  | y :: L => if y.id < x.id then y :: insL x L else x :: y :: L
theorem insL_at (x : Strm) : ∀ L : List Strm, insL x L = L.take (posL x.id L) ++ x :: L.drop (posL x.id L)
  | [] => rfl
  | y :: L => by
    rw [insL, posL]
    split
    · rw [insL_at x L]; simp
    · simp
theorem insL_perm (x : Strm) : ∀ L : List Strm, (insL x L).Perm (x :: L)
  | [] => List.Perm.refl _
  | y :: L => by
    rw [insL]
    split
    · exact (List.Perm.cons y (insL_perm x L)).trans (List.Perm.swap x y L)
    · exact List.Perm.refl _
theorem insL_len (x : Strm) (L : List Strm) : (insL x L).length = L.length + 1 := by rw [(insL_perm x L).length_eq]; rfl
theorem insL_asc {x : Strm} {L : List Strm} (h : Asc L) (hn : hasL x.id L = false) : Asc (insL x L) := by
  induction L with
  | nil => exact List.pairwise_singleton _ _
  | cons y L ih =>
    have hy : y.id ≠ x.id := by intro e; simp [hasL, e] at hn
    have hn' : hasL x.id L = false := by simp [hasL] at hn ⊢; exact hn.2
    rw [insL]
    have h1 := List.pairwise_cons.1 h
    split
    · rename_i hlt
      refine List.pairwise_cons.2 ⟨fun z hz => ?_, ih h1.2 hn'⟩
      rcases List.mem_cons.1 ((insL_perm x L).mem_iff.1 hz) with rfl | hz
      · exact hlt
      · exact h1.1 z hz
    · rename_i hlt
      refine List.pairwise_cons.2 ⟨fun z hz => ?_, h⟩
      rcases List.mem_cons.1 hz with rfl | hz
      · show x.id < z.id; omega
      · have := h1.1 z hz
        show x.id < z.id; omega
theorem filter_asc {L : List Strm} (h : Asc L) (p : Strm → Bool) : Asc (L.filter p) := List.Pairwise.sublist List.filter_sublist h

/-! ### Who goes first -/
def kb (x : Strm) : Nat := if x.inc then 1 else 0
def ks (x : Strm) : Nat := if x.inc then x.served else 0
def kl (x y : Strm) : Prop := x.urg < y.urg ∨ (x.urg = y.urg ∧ (kb x < kb y ∨ (kb x = kb y ∧ (ks x < ks y ∨ (ks x = ks y ∧ x.id < y.id)))))
theorem kl_asymm {x y : Strm} (h : kl x y) : ¬ kl y x := by unfold kl at *; omega
theorem kl_irrefl (x : Strm) : ¬ kl x x := by unfold kl; omega
theorem kl_trans {x y z : Strm} (h : kl x y) (k : kl y z) : kl x z := by unfold kl at *; omega
def ahead (a b : Strm) : Bool := if a.urg ≠ b.urg then decide (a.urg < b.urg) else if a.inc ≠ b.inc then b.inc else !a.inc || decide (a.served ≤ b.served)
theorem ahead_kl {a b : Strm} (h : a.id < b.id) : (ahead a b = true → kl a b) ∧ (ahead a b = false → kl b a) := by
  obtain ⟨i, u, c, r, s⟩ := a
  obtain ⟨j, v, d, q, t⟩ := b
  simp only at h
  unfold ahead kl kb ks
  simp only
  by_cases hu : u = v
  · subst hu
    cases c <;> cases d <;> simp <;> omega
  · simp [hu]; omega
/-- x is ready, and goes ahead of all others that are. -/
def IsBest (L : List Strm) (x : Strm) : Prop := x ∈ L ∧ x.ready = true ∧ ∀ y ∈ L, y.ready = true → y = x ∨ kl x y
theorem IsBest.unique {L : List Strm} {x y : Strm} (hx : IsBest L x) (hy : IsBest L y) : x = y := by
  rcases hx.2.2 y hy.1 hy.2.1 with h | h
  · exact h.symm
  · rcases hy.2.2 x hx.1 hx.2.1 with h' | h'
    · exact h'
    · exact absurd h' (kl_asymm h)
theorem IsBest.perm {L M : List Strm} (h : L.Perm M) {x : Strm} (hx : IsBest L x) : IsBest M x :=
  ⟨h.mem_iff.1 hx.1, hx.2.1, fun y hy => hx.2.2 y (h.mem_iff.2 hy)⟩
/-- What next's loop has behind k rounds. -/
def NxI (L : List Strm) (k : Nat) (best : Option Nat) : Prop := match best with
  | none => ∀ j, j < k → (L.getD j default).ready = false
  | some i => i < k ∧ (L.getD i default).ready = true ∧ ∀ j, j < k → (L.getD j default).ready = true → j = i ∨ kl (L.getD i default) (L.getD j default)
theorem NxI.skip {L : List Strm} {k : Nat} {best : Option Nat} (h : NxI L k best) (hr : (L.getD k default).ready = false) : NxI L (k + 1) best := by
  cases best with
  | none =>
    intro j hj
    rcases Nat.lt_succ_iff_lt_or_eq.1 hj with h1 | rfl
    · exact h j h1
    · exact hr
  | some i =>
    obtain ⟨h1, h2, h3⟩ := h
    refine ⟨by omega, h2, fun j hj hjr => ?_⟩
    rcases Nat.lt_succ_iff_lt_or_eq.1 hj with h4 | rfl
    · exact h3 j h4 hjr
    · rw [hr] at hjr; cases hjr
theorem NxI.first {L : List Strm} {k : Nat} (h : NxI L k none) (hr : (L.getD k default).ready = true) : NxI L (k + 1) (some k) := by
  refine ⟨by omega, hr, fun j hj hjr => ?_⟩
  rcases Nat.lt_succ_iff_lt_or_eq.1 hj with h4 | rfl
  · rw [h j h4] at hjr; cases hjr
  · exact .inl rfl
theorem NxI.keep {L : List Strm} {k i : Nat} (hA : Asc L) (hk : k < L.length) (h : NxI L k (some i)) (ha : ahead (L.getD i default) (L.getD k default) = true) : NxI L (k + 1) (some i) := by
  obtain ⟨h1, h2, h3⟩ := h
  refine ⟨by omega, h2, fun j hj hjr => ?_⟩
  rcases Nat.lt_succ_iff_lt_or_eq.1 hj with h4 | rfl
  · exact h3 j h4 hjr
  · exact .inr ((ahead_kl (hA.lt h1 hk)).1 ha)
theorem NxI.turn {L : List Strm} {k i : Nat} (hA : Asc L) (hk : k < L.length) (h : NxI L k (some i)) (hr : (L.getD k default).ready = true) (ha : ahead (L.getD i default) (L.getD k default) = false) : NxI L (k + 1) (some k) := by
  obtain ⟨h1, h2, h3⟩ := h
  have hki := (ahead_kl (hA.lt h1 hk)).2 ha
  refine ⟨by omega, hr, fun j hj hjr => ?_⟩
  rcases Nat.lt_succ_iff_lt_or_eq.1 hj with h4 | rfl
  · rcases h3 j h4 hjr with rfl | h5
    · exact .inr hki
    · exact .inr (kl_trans hki h5)
  · exact .inl rfl
theorem NxI.none_of {L : List Strm} (h : NxI L L.length none) : ∀ x ∈ L, x.ready = false := by
  intro x hx
  obtain ⟨j, hj, rfl⟩ := List.getElem_of_mem hx
  have := h j hj
  simpa [hj] using this
theorem NxI.best_of {L : List Strm} {i : Nat} (h : NxI L L.length (some i)) : IsBest L (L.getD i default) := by
  obtain ⟨h1, h2, h3⟩ := h
  refine ⟨by simp [h1], h2, fun y hy hyr => ?_⟩
  obtain ⟨j, hj, rfl⟩ := List.getElem_of_mem hy
  have hg : L.getD j default = L[j] := by simp [hj]
  rcases h3 j hj (by rw [hg]; exact hyr) with e | e
  · subst e; exact .inl hg.symm
  · rw [hg] at e; exact .inr e
end Go.Proofs.YtgpnfdeneagdbaaGreat
