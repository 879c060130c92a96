/- Rows of elements of several cells: set, cut, cleared; cells by element. -/
import Derived.Test.YtgpnfdeneagdbaaGreatCpK
import Derived.Laws.IdiomCopy
import Derived.Lib.SliceRun
namespace Go.Proofs.YtgpnfdeneagdbaaGreat
open Go.RowKit
set_option linter.unusedVariables false
theorem below_set5 {B : Nat} {w w' : World} (h : Below B w w') {p : Addr} (hp : B ≤ p.block) (u : Value) : Below B w (w'.setCell p u) :=
  ⟨h.os, h.tape, h.output, by simpa [World.setCell] using h.size, fun k hk => by rw [Below.heap_setCell _ _ _ _ (by rintro rfl; omega)]; exact h.block k hk⟩
theorem OwnS.setS5 {w : World} {base : Nat} {e : TypeId} {size n cap : Nat} {a : Option Addr} {xs : List Value} (h : OwnS w base e size a n cap xs) (g : Nat) (ha : a = some ⟨g, 0, none⟩) (i : Nat) (v : Value) : OwnS (w.setCell ⟨g, i, none⟩ v) base e size a n cap (xs.set i v) := by
  obtain ⟨hl, h2⟩ := h
  refine ⟨by simpa using hl, ?_⟩
  rcases h2 with ⟨h1, h3⟩ | ⟨g', c, cur, h1, h3, h4, h5, h6, h7, h8⟩
  · rw [ha] at h1; cases h1
  · rw [ha] at h1
    cases h1
    have hb : Blk w g cur e := h4
    refine .inr ⟨g, cap, _, by rw [ha], h3, hb.set i v, h5, h6, by simpa using h7, ?_⟩
    rw [← h8]
    simp [List.take_set]
/-- The front of it. -/
theorem OwnS.front {w : World} {base : Nat} {e : TypeId} {size n cap : Nat} {g : Nat} {xs : List Value} (h : OwnS w base e size (some ⟨g, 0, none⟩) n cap xs) (m : Nat) (hm : m ≤ n) : OwnS w base e size (some ⟨g, 0, none⟩) m cap (xs.take (m * size)) := by
  obtain ⟨hl, h2⟩ := h
  have hle : m * size ≤ n * size := Nat.mul_le_mul_right _ hm
  refine ⟨by rw [List.length_take, hl]; omega, ?_⟩
  rcases h2 with ⟨h1, h3⟩ | ⟨g', c, cur, h1, h3, h4, h5, h6, h7, h8⟩
  · cases h1
  · cases h1
    refine .inr ⟨g, cap, cur, rfl, h3, h4, by omega, h6, h7, ?_⟩
    rw [← h8, List.take_take, Nat.min_eq_left hle]
theorem OwnS.clears {base : Nat} {e : TypeId} {size m cap g : Nat} {xs : List Value} : ∀ (l : List Value) (o : Nat) (w : World), OwnS w base e size (some ⟨g, 0, none⟩) m cap xs → m * size ≤ o → OwnS (w.setCells g o l) base e size (some ⟨g, 0, none⟩) m cap xs
  | [], _, _, h, _ => h
  | v :: l, o, w, h, ho => by
    have h1 := h.setS5 g rfl o v
    rw [List.set_eq_of_length_le (by rw [h.length]; exact ho)] at h1
    exact OwnS.clears l (o + 1) _ h1 (by omega)
theorem below_sets {B g : Nat} (hg : B ≤ g) {w : World} : ∀ (l : List Value) (o : Nat) (w' : World), Below B w w' → Below B w (w'.setCells g o l)
  | [], _, _, h => h
  | v :: l, o, w', h => below_sets hg l (o + 1) _ (below_set5 h (p := ⟨g, o, none⟩) hg v)

section flat
variable {α : Type} {f : α → List Value} {k : Nat}
theorem flat_len (hk : ∀ x, (f x).length = k) : ∀ L : List α, (L.flatMap f).length = L.length * k
  | [] => by simp
  | x :: L => by rw [List.flatMap_cons, List.length_append, hk, flat_len hk L, List.length_cons, Nat.succ_mul, Nat.add_comm]
theorem flat_get (hk : ∀ x, (f x).length = k) : ∀ (L : List α) (i j : Nat) (x : α), L[i]? = some x → j < k → (L.flatMap f)[i * k + j]? = (f x)[j]?
  | [], _, _, _, h, _ => by simp at h
  | y :: L, 0, j, x, h, hj => by
    simp at h; subst h
    rw [List.flatMap_cons, Nat.zero_mul, Nat.zero_add, List.getElem?_append_left (by rw [hk]; exact hj)]
  | y :: L, i + 1, j, x, h, hj => by
    rw [List.flatMap_cons, List.getElem?_append_right (by rw [hk, Nat.succ_mul]; omega), hk, show (i + 1) * k + j - k = i * k + j by rw [Nat.succ_mul]; omega]
    exact flat_get hk L i j x (by simpa using h) hj
theorem flat_take (hk : ∀ x, (f x).length = k) : ∀ (L : List α) (i : Nat), (L.flatMap f).take (i * k) = (L.take i).flatMap f
  | [], i => by simp
  | y :: L, 0 => by simp
  | y :: L, i + 1 => by
    rw [List.flatMap_cons, List.take_succ_cons, List.flatMap_cons, ← flat_take hk L i, List.take_append, hk, List.take_of_length_le (by rw [hk, Nat.succ_mul]; omega), show (i + 1) * k - k = i * k by rw [Nat.succ_mul]; omega]
theorem flat_drop (hk : ∀ x, (f x).length = k) : ∀ (L : List α) (i : Nat), (L.flatMap f).drop (i * k) = (L.drop i).flatMap f
  | [], i => by simp
  | y :: L, 0 => by simp
  | y :: L, i + 1 => by
    rw [List.flatMap_cons, List.drop_succ_cons, ← flat_drop hk L i, List.drop_append, hk, List.drop_of_length_le (by rw [hk, Nat.succ_mul]; omega), show (i + 1) * k - k = i * k by rw [Nat.succ_mul]; omega, List.nil_append]
/-- One cell of one element. -/
theorem flat_set (hk : ∀ x, (f x).length = k) (j : Nat) (hj : j < k) (v : Value) (g : α → α) (hg : ∀ x, f (g x) = (f x).set j v) : ∀ (L : List α) (i : Nat) (x : α), L[i]? = some x → (L.flatMap f).set (i * k + j) v = (L.set i (g x)).flatMap f
  | [], _, _, h => by simp at h
  | y :: L, 0, x, h => by
    simp at h; subst h
    rw [Nat.zero_mul, Nat.zero_add, List.flatMap_cons, List.set_cons_zero, List.flatMap_cons, hg, List.set_append_left _ _ (by rw [hk]; exact hj)]
  | y :: L, i + 1, x, h => by
    rw [List.flatMap_cons, List.set_cons_succ, List.flatMap_cons, List.set_append_right _ _ (by rw [hk, Nat.succ_mul]; omega), hk, show (i + 1) * k + j - k = i * k + j by rw [Nat.succ_mul]; omega, flat_set hk j hj v g hg L i x (by simpa using h)]
end flat
end Go.Proofs.YtgpnfdeneagdbaaGreat
