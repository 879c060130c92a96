/- A stable sort by blocks and merges in place, in plain Lean: what moves, what a rotation is, what a merge makes. -/
import Derived.Test.YticnjdlapioppaaBase
namespace Go.Proofs.Yticnjdlapioppaa
set_option linter.unusedVariables false
section
variable {α : Type} [Inhabited α]
/-- L[i] -/
abbrev at' (L : List α) (i : Nat) : α := L.getD i default
theorem at_set {L : List α} {i : Nat} (v : α) (hi : i < L.length) (k : Nat) : at' (L.set i v) k = if k = i then v else at' L k := by
  unfold at'
  rw [List.getD_eq_getElem?_getD, List.getD_eq_getElem?_getD, List.getElem?_set]
  by_cases h : i = k
  · subst h
    simp [hi]
  · rw [if_neg h, if_neg (fun e => h e.symm)]
theorem ext_at {L M : List α} (hl : L.length = M.length) (h : ∀ i, i < L.length → at' L i = at' M i) : L = M := by
  refine List.ext_getElem hl fun i h1 h2 => ?_
  have := h i h1
  simpa [at', h1, h2] using this
def swapL (L : List α) (i j : Nat) : List α := (L.set i (at' L j)).set j (at' L i)
theorem swapL_length (L : List α) (i j : Nat) : (swapL L i j).length = L.length := by simp [swapL]
theorem swapL_at {L : List α} {i j : Nat} (hi : i < L.length) (hj : j < L.length) (k : Nat) : at' (swapL L i j) k = if k = j then at' L i else if k = i then at' L j else at' L k := by
  unfold swapL
  rw [at_set _ (by simpa using hj), at_set _ hi]
theorem swapL_perm {L : List α} {i j : Nat} (hi : i < L.length) (hj : j < L.length) : (swapL L i j).Perm L := by
  have := List.set_set_perm hi hj
  simpa [swapL, at', hi, hj] using this
/-- Within [a, b) things were moved; no thing else was. -/
structure Moved (a b : Nat) (L M : List α) : Prop where
  len : M.length = L.length
  perm : M.Perm L
  out : ∀ i, i < a ∨ b ≤ i → at' M i = at' L i
  src : ∀ i, a ≤ i → i < b → ∃ j, a ≤ j ∧ j < b ∧ at' M i = at' L j
theorem Moved.refl (a b : Nat) (L : List α) : Moved a b L L := ⟨rfl, .refl _, fun _ _ => rfl, fun i h1 h2 => ⟨i, h1, h2, rfl⟩⟩
theorem Moved.trans {a b : Nat} {L M N : List α} (h : Moved a b L M) (k : Moved a b M N) : Moved a b L N := by
  refine ⟨k.len.trans h.len, k.perm.trans h.perm, fun i hi => (k.out i hi).trans (h.out i hi), fun i h1 h2 => ?_⟩
  obtain ⟨j, h3, h4, h5⟩ := k.src i h1 h2
  obtain ⟨l, h6, h7, h8⟩ := h.src j h3 h4
  exact ⟨l, h6, h7, h5.trans h8⟩
theorem Moved.wider {a b a' b' : Nat} {L M : List α} (h : Moved a b L M) (ha : a' ≤ a) (hb : b ≤ b') : Moved a' b' L M := by
  refine ⟨h.len, h.perm, fun i hi => h.out i (by omega), fun i h1 h2 => ?_⟩
  by_cases hc : a ≤ i ∧ i < b
  · obtain ⟨j, h3, h4, h5⟩ := h.src i hc.1 hc.2
    exact ⟨j, by omega, by omega, h5⟩
  · exact ⟨i, h1, h2, h.out i (by omega)⟩
theorem Moved.swap {a b : Nat} {L : List α} {i j : Nat} (hb : b ≤ L.length) (h1 : a ≤ i) (h2 : i < b) (h3 : a ≤ j) (h4 : j < b) : Moved a b L (swapL L i j) := by
  have hi : i < L.length := by omega
  have hj : j < L.length := by omega
  refine ⟨swapL_length _ _ _, swapL_perm hi hj, fun k hk => ?_, fun k h5 h6 => ?_⟩
  · rw [swapL_at hi hj, if_neg (by omega), if_neg (by omega)]
  · rw [swapL_at hi hj]
    by_cases h7 : k = j
    · rw [if_pos h7]; exact ⟨i, h1, h2, rfl⟩
    · rw [if_neg h7]
      by_cases h8 : k = i
      · rw [if_pos h8]; exact ⟨j, h3, h4, rfl⟩
      · rw [if_neg h8]; exact ⟨k, h5, h6, rfl⟩
/-- In order by a key. -/
def Ord (key : α → Int) (a b : Nat) (L : List α) : Prop := ∀ i j, a ≤ i → i ≤ j → j < b → key (at' L i) ≤ key (at' L j)
theorem Ord.same {key : α → Int} {a b : Nat} {L M : List α} (h : Ord key a b L) (e : ∀ i, a ≤ i → i < b → at' M i = at' L i) : Ord key a b M := fun i j h1 h2 h3 => by
  rw [e i h1 (by omega), e j (by omega) h3]
  exact h i j h1 h2 h3
theorem Ord.one (key : α → Int) (a : Nat) (L : List α) : Ord key a (a + 1) L := fun i j h1 h2 h3 => by
  obtain rfl : i = a := by omega
  obtain rfl : j = i := by omega
  exact Int.le_refl _
/-- Two parts in order, and nothing in the first above anything in the second. -/
theorem Ord.join {key : α → Int} {a m b : Nat} {L : List α} (h1 : Ord key a m L) (h2 : Ord key m b L) (h : ∀ i j, a ≤ i → i < m → m ≤ j → j < b → key (at' L i) ≤ key (at' L j)) : Ord key a b L := fun i j h3 h4 h5 => by
  by_cases hj : j < m
  · exact h1 i j h3 h4 hj
  · by_cases hi : i < m
    · exact h i j h3 hi (by omega) h5
    · exact h2 i j (by omega) h4 h5
/-- Two stretches [x, x + n), [y, y + n) change places. -/
def swapR (L : List α) (x y : Nat) : Nat → List α
  | 0 => L
  | n + 1 => swapL (swapR L x y n) (x + n) (y + n)
theorem swapR_length (L : List α) (x y : Nat) : ∀ n, (swapR L x y n).length = L.length
  | 0 => rfl
  | n + 1 => by rw [swapR, swapL_length, swapR_length L x y n]
theorem swapR_at {L : List α} {x y : Nat} : ∀ (n : Nat), x + n ≤ L.length → y + n ≤ L.length → (x + n ≤ y ∨ y + n ≤ x) → ∀ k, at' (swapR L x y n) k = if x ≤ k ∧ k < x + n then at' L (y + (k - x)) else if y ≤ k ∧ k < y + n then at' L (x + (k - y)) else at' L k
  | 0, _, _, _, k => by rw [swapR, if_neg (by omega), if_neg (by omega)]
  | n + 1, h1, h2, h3, k => by
    have ih := swapR_at (L := L) (x := x) (y := y) n (by omega) (by omega) (by omega)
    have hl := swapR_length L x y n
    rw [swapR, swapL_at (by omega) (by omega), ih, ih, ih]
    by_cases c1 : k = y + n
    · subst c1
      rw [if_pos rfl, if_neg (by omega), if_neg (by omega), if_neg (by omega), if_pos (by omega)]
      congr 1; omega
    · rw [if_neg c1]
      by_cases c2 : k = x + n
      · subst c2
        rw [if_pos rfl, if_neg (by omega), if_neg (by omega), if_pos (by omega)]
        congr 1; omega
      · rw [if_neg c2]
        by_cases c3 : x ≤ k ∧ k < x + n
        · rw [if_pos c3, if_pos (by omega)]
        · rw [if_neg c3]
          by_cases c4 : y ≤ k ∧ k < y + n
          · rw [if_pos c4, if_neg (by omega), if_pos (by omega)]
          · rw [if_neg c4, if_neg (by omega), if_neg (by omega)]
theorem swapR_moved {a b : Nat} {L : List α} {x y : Nat} (hb : b ≤ L.length) : ∀ n, a ≤ x → x + n ≤ b → a ≤ y → y + n ≤ b → Moved a b L (swapR L x y n)
  | 0, _, _, _, _ => Moved.refl _ _ _
  | n + 1, h1, h2, h3, h4 => (swapR_moved hb n h1 (by omega) h3 (by omega)).trans (Moved.swap (by rw [swapR_length]; exact hb) (by omega) (by omega) (by omega) (by omega))
/-- [a, m) and [m, b) change places. -/
def rotF (f : Nat → α) (a m b k : Nat) : α := if a ≤ k ∧ k < a + (b - m) then f (m + (k - a)) else if a + (b - m) ≤ k ∧ k < b then f (a + (k - (a + (b - m)))) else f k
theorem rot_left {L : List α} {m i j : Nat} (hi : i ≤ m) (hij : j < i) (hl : m + j ≤ L.length) (k : Nat) : rotF (at' (swapR L (m - i) m j)) (m - (i - j)) m (m + j) k = rotF (at' L) (m - i) m (m + j) k := by
  have hs := swapR_at (L := L) (x := m - i) (y := m) j (by omega) (by omega) (by omega)
  unfold rotF
  simp only [hs]
  by_cases c1 : m - i ≤ k ∧ k < m - i + j
  · rw [if_neg (by omega), if_neg (by omega), if_pos c1, if_pos (by omega)]
    try (congr 1; omega)
  · by_cases c2 : m - (i - j) ≤ k ∧ k < m - (i - j) + j
    · rw [if_pos (by omega), if_neg (by omega), if_pos (by omega), if_neg (by omega), if_pos (by omega)]
      try (congr 1; omega)
    · by_cases c3 : m - (i - j) + j ≤ k ∧ k < m + j
      · rw [if_neg (by omega), if_pos (by omega), if_neg (by omega), if_neg (by omega), if_neg (by omega), if_pos (by omega)]
        try (congr 1; omega)
      · rw [if_neg (by omega), if_neg (by omega), if_neg (by omega), if_neg (by omega), if_neg (by omega), if_neg (by omega)]
theorem rot_right {L : List α} {m i j : Nat} (hi : i ≤ m) (hij : i < j) (hl : m + j ≤ L.length) (k : Nat) : rotF (at' (swapR L (m - i) (m + j - i) i)) (m - i) m (m + (j - i)) k = rotF (at' L) (m - i) m (m + j) k := by
  have hs := swapR_at (L := L) (x := m - i) (y := m + j - i) i (by omega) (by omega) (by omega)
  unfold rotF
  simp only [hs]
  by_cases c1 : m - i ≤ k ∧ k < m - i + (j - i)
  · rw [if_pos (by omega), if_neg (by omega), if_neg (by omega), if_pos (by omega)]
  · by_cases c2 : m - i + (j - i) ≤ k ∧ k < m + (j - i)
    · rw [if_neg (by omega), if_pos (by omega), if_pos (by omega), if_pos (by omega)]
      try (congr 1; omega)
    · by_cases c3 : m + (j - i) ≤ k ∧ k < m + j
      · rw [if_neg (by omega), if_neg (by omega), if_neg (by omega), if_pos (by omega), if_neg (by omega), if_pos (by omega)]
        try (congr 1; omega)
      · rw [if_neg (by omega), if_neg (by omega), if_neg (by omega), if_neg (by omega), if_neg (by omega), if_neg (by omega)]
theorem rot_end {L : List α} {m i : Nat} (hi : i ≤ m) (hl : m + i ≤ L.length) (k : Nat) : at' (swapR L (m - i) m i) k = rotF (at' L) (m - i) m (m + i) k := by
  rw [swapR_at (L := L) (x := m - i) (y := m) i (by omega) (by omega) (by omega)]
  unfold rotF
  by_cases c1 : m - i ≤ k ∧ k < m - i + i
  · rw [if_pos c1, if_pos (by omega)]
  · rw [if_neg c1]
    by_cases c2 : m ≤ k ∧ k < m + i
    · rw [if_pos c2, if_neg (by omega), if_pos (by omega)]
      try (congr 1; omega)
    · rw [if_neg c2, if_neg (by omega), if_neg (by omega)]
/-- Behind the search and the rotation nothing in the first half is above anything in the second one. -/
theorem merge_halves {key : α → Int} {L M : List α} {a m b mid s : Nat} (h1 : Ord key a m L) (h2 : Ord key m b L) (ham : a < m) (hmb : m < b) (hmid : mid = (a + b) / 2)
    (hs1 : a ≤ s) (hs2 : s ≤ m) (hs3 : m ≤ mid + m - s) (hs4 : mid + m - s ≤ b)
    (hlo : a < s → mid + m - s < b → key (at' L (s - 1)) ≤ key (at' L (mid + m - s))) (hhi : s < m → m < mid + m - s → key (at' L (mid + m - s - 1)) ≤ key (at' L s))
    (hM : ∀ k, at' M k = rotF (at' L) s m (mid + m - s) k) :
    Ord key a s M ∧ Ord key s mid M ∧ Ord key mid (mid + m - s) M ∧ Ord key (mid + m - s) b M ∧ ∀ i j, a ≤ i → i < mid → mid ≤ j → j < b → key (at' M i) ≤ key (at' M j) := by
  have e1 : ∀ k, k < s → at' M k = at' L k := fun k hk => by rw [hM]; unfold rotF; rw [if_neg (by omega), if_neg (by omega)]
  have e2 : ∀ k, s ≤ k → k < mid → at' M k = at' L (m + (k - s)) := fun k h3 h4 => by rw [hM]; unfold rotF; rw [if_pos (by omega)]
  have e3 : ∀ k, mid ≤ k → k < mid + m - s → at' M k = at' L (s + (k - mid)) := fun k h3 h4 => by
    rw [hM]; unfold rotF
    rw [if_neg (by omega), if_pos (by omega)]
    try (congr 1; omega)
  have e4 : ∀ k, mid + m - s ≤ k → at' M k = at' L k := fun k hk => by rw [hM]; unfold rotF; rw [if_neg (by omega), if_neg (by omega)]
  refine ⟨fun i j h3 h4 h5 => ?_, fun i j h3 h4 h5 => ?_, fun i j h3 h4 h5 => ?_, fun i j h3 h4 h5 => ?_, fun i j h3 h4 h5 h6 => ?_⟩
  · rw [e1 i (by omega), e1 j h5]; exact h1 i j h3 h4 (by omega)
  · rw [e2 i h3 (by omega), e2 j (by omega) h5]; exact h2 _ _ (by omega) (by omega) (by omega)
  · rw [e3 i h3 (by omega), e3 j (by omega) h5]; exact h1 _ _ (by omega) (by omega) (by omega)
  · rw [e4 i h3, e4 j (by omega)]; exact h2 i j (by omega) h4 h5
  · by_cases c1 : i < s
    · rw [e1 i c1]
      by_cases c2 : j < mid + m - s
      · rw [e3 j h5 c2]; exact h1 _ _ h3 (by omega) (by omega)
      · rw [e4 j (by omega)]
        have k1 := h1 i (s - 1) h3 (by omega) (by omega)
        have k2 := hlo (by omega) (by omega)
        have k3 := h2 (mid + m - s) j (by omega) (by omega) h6
        omega
    · rw [e2 i (by omega) h4]
      by_cases c2 : j < mid + m - s
      · rw [e3 j h5 c2]
        have k1 := h2 (m + (i - s)) (mid + m - s - 1) (by omega) (by omega) (by omega)
        have k2 := hhi (by omega) (by omega)
        have k3 := h1 s (s + (j - mid)) (by omega) (by omega) (by omega)
        omega
      · rw [e4 j (by omega)]; exact h2 _ _ (by omega) (by omega) h6
end
end Go.Proofs.Yticnjdlapioppaa
