/- The document's next stream in plain Lean. No program here. -/
import Derived.Test.YtjkihpbpnoelnaaGreatDoorPr1
namespace Go.Proofs.YtjkihpbpnoelnaaGreatDoor
set_option linter.unusedVariables false
/-- The best one of those ahead of k that are asked for. -/
def SelI (L : List Strm) (c : Strm → Prop) (lt : Strm → Strm → Prop) (k : Nat) (best : Option Nat) : Prop := match best with
  | none => ∀ j, j < k → ¬ c (L.getD j default)
  | some i => i < k ∧ c (L.getD i default) ∧ ∀ j, j < k → c (L.getD j default) → ¬ lt (L.getD j default) (L.getD i default)
theorem SelI.zero (L : List Strm) (c : Strm → Prop) (lt : Strm → Strm → Prop) : SelI L c lt 0 none := fun j h => by omega
theorem SelI.skip {L : List Strm} {c : Strm → Prop} {lt : Strm → Strm → Prop} {k : Nat} {best : Option Nat} (h : SelI L c lt k best) (hr : ¬ c (L.getD k default)) : SelI L c lt (k + 1) best := by
  cases best with
  | none =>
    intro j hj
    rcases Nat.lt_succ_iff_lt_or_eq.1 hj with h1 | rfl
    · exact h j h1
    · exact hr
  | some i =>
    obtain ⟨h1, h2, h3⟩ := h
    refine ⟨by omega, h2, fun j hj hc => ?_⟩
    rcases Nat.lt_succ_iff_lt_or_eq.1 hj with h4 | rfl
    · exact h3 j h4 hc
    · exact absurd hc hr
theorem SelI.first {L : List Strm} {c : Strm → Prop} {lt : Strm → Strm → Prop} {k : Nat} (hi : ∀ x, ¬ lt x x) (h : SelI L c lt k none) (hr : c (L.getD k default)) : SelI L c lt (k + 1) (some k) := by
  refine ⟨by omega, hr, fun j hj hc => ?_⟩
  rcases Nat.lt_succ_iff_lt_or_eq.1 hj with h4 | rfl
  · exact absurd hc (h j h4)
  · exact hi _
theorem SelI.keep {L : List Strm} {c : Strm → Prop} {lt : Strm → Strm → Prop} {k i : Nat} (h : SelI L c lt k (some i)) (hr : ¬ lt (L.getD k default) (L.getD i default)) : SelI L c lt (k + 1) (some i) := by
  obtain ⟨h1, h2, h3⟩ := h
  refine ⟨by omega, h2, fun j hj hc => ?_⟩
  rcases Nat.lt_succ_iff_lt_or_eq.1 hj with h4 | rfl
  · exact h3 j h4 hc
  · exact hr
theorem SelI.turn {L : List Strm} {c : Strm → Prop} {lt : Strm → Strm → Prop} {k i : Nat} (hi : ∀ x, ¬ lt x x) (ht : ∀ x y z, lt x y → lt y z → lt x z) (h : SelI L c lt k (some i)) (hc : c (L.getD k default)) (hr : lt (L.getD k default) (L.getD i default)) : SelI L c lt (k + 1) (some k) := by
  obtain ⟨h1, h2, h3⟩ := h
  refine ⟨by omega, hc, fun j hj hcj => ?_⟩
  rcases Nat.lt_succ_iff_lt_or_eq.1 hj with h4 | rfl
  · exact fun hl => h3 j h4 hcj (ht _ _ _ hl hr)
  · exact hi _
/-- The least urgency of those ahead of k that are ready. -/
def LeastI (L : List Strm) (k m : Nat) : Prop := m ≤ 8 ∧ (∀ j, j < k → (L.getD j default).ready = true → m ≤ (L.getD j default).urg) ∧ (m = 8 ∨ ∃ j, j < k ∧ (L.getD j default).ready = true ∧ (L.getD j default).urg = m)
theorem LeastI.zero (L : List Strm) : LeastI L 0 8 := ⟨by omega, fun j h => by omega, .inl rfl⟩
theorem LeastI.keep {L : List Strm} {k m : Nat} (h : LeastI L k m) (hr : (L.getD k default).ready = true → m ≤ (L.getD k default).urg) : LeastI L (k + 1) m := by
  obtain ⟨h1, h2, h3⟩ := h
  refine ⟨h1, fun j hj hrj => ?_, ?_⟩
  · rcases Nat.lt_succ_iff_lt_or_eq.1 hj with h4 | rfl
    · exact h2 j h4 hrj
    · exact hr hrj
  · rcases h3 with h3 | ⟨j, hj, h4⟩
    · exact .inl h3
    · exact .inr ⟨j, by omega, h4⟩
theorem LeastI.turn {L : List Strm} {k m : Nat} (h : LeastI L k m) (hr : (L.getD k default).ready = true) (hl : (L.getD k default).urg < m) : LeastI L (k + 1) (L.getD k default).urg := by
  obtain ⟨h1, h2, h3⟩ := h
  refine ⟨by omega, fun j hj hrj => ?_, .inr ⟨k, by omega, hr, rfl⟩⟩
  rcases Nat.lt_succ_iff_lt_or_eq.1 hj with h4 | rfl
  · have := h2 j h4 hrj
    omega
  · exact Nat.le_refl _
def ltId (x y : Strm) : Prop := x.id < y.id
def ltLast (x y : Strm) : Prop := x.served < y.served ∨ (x.served = y.served ∧ x.id < y.id)
theorem ltId_irr (x : Strm) : ¬ ltId x x := by unfold ltId; omega
theorem ltId_tr (x y z : Strm) (h : ltId x y) (k : ltId y z) : ltId x z := by unfold ltId at *; omega
theorem ltLast_irr (x : Strm) : ¬ ltLast x x := by unfold ltLast; omega
theorem ltLast_tr (x y z : Strm) (h : ltLast x y) (k : ltLast y z) : ltLast x z := by unfold ltLast at *; omega
def Dist (L : List Strm) : Prop := ∀ x ∈ L, ∀ y ∈ L, x.id = y.id → x = y
theorem mem_getD {L : List Strm} {j : Nat} (h : j < L.length) : L.getD j default ∈ L := by simp [h]
theorem getD_of_mem {L : List Strm} {x : Strm} (h : x ∈ L) : ∃ j, j < L.length ∧ L.getD j default = x := by
  obtain ⟨j, hj, rfl⟩ := List.getElem_of_mem h
  exact ⟨j, hj, by simp [hj]⟩
def c2 (m : Nat) (x : Strm) : Prop := x.ready = true ∧ x.urg = m ∧ x.inc = false
def c3 (m : Nat) (x : Strm) : Prop := x.ready = true ∧ x.urg = m
theorem best2 {L : List Strm} {m i : Nat} (hd : Dist L) (h1 : LeastI L L.length m) (h2 : SelI L (c2 m) ltId L.length (some i)) : IsBest L (L.getD i default) := by
  obtain ⟨hi, ⟨hr, hu, hn⟩, hb⟩ := h2
  refine ⟨mem_getD hi, hr, fun y hy hyr => ?_⟩
  obtain ⟨j, hj, rfl⟩ := getD_of_mem hy
  have hm := h1.2.1 j hj hyr
  by_cases hlt : m < (L.getD j default).urg
  · exact .inr (.inl (by omega))
  · have hju : (L.getD j default).urg = m := by omega
    cases hji : (L.getD j default).inc with
    | true => exact .inr (.inr ⟨by omega, .inl (by unfold kb; rw [hn, hji]; decide)⟩)
    | false =>
      have h3 := hb j hj ⟨hyr, hju, hji⟩
      unfold ltId at h3
      by_cases he : (L.getD j default).id = (L.getD i default).id
      · exact .inl (hd _ (mem_getD hj) _ (mem_getD hi) he)
      · exact .inr (.inr ⟨by omega, .inr ⟨by unfold kb; rw [hn, hji], .inr ⟨by unfold ks; rw [hn, hji]; rfl, by omega⟩⟩⟩)
theorem best3 {L : List Strm} {m i : Nat} (hd : Dist L) (h1 : LeastI L L.length m) (h2 : SelI L (c2 m) ltId L.length none) (h3 : SelI L (c3 m) ltLast L.length (some i)) : IsBest L (L.getD i default) := by
  obtain ⟨hi, ⟨hr, hu⟩, hb⟩ := h3
  have hinc : ∀ j, j < L.length → (L.getD j default).ready = true → (L.getD j default).urg = m → (L.getD j default).inc = true := fun j hj hr' hu' => by
    cases hh : (L.getD j default).inc with
    | true => rfl
    | false => exact absurd ⟨hr', hu', hh⟩ (h2 j hj)
  have hii := hinc i hi hr hu
  refine ⟨mem_getD hi, hr, fun y hy hyr => ?_⟩
  obtain ⟨j, hj, rfl⟩ := getD_of_mem hy
  have hm := h1.2.1 j hj hyr
  by_cases hlt : m < (L.getD j default).urg
  · exact .inr (.inl (by omega))
  · have hju : (L.getD j default).urg = m := by omega
    have hji := hinc j hj hyr hju
    have h4 := hb j hj ⟨hyr, hju⟩
    unfold ltLast at h4
    by_cases he : (L.getD j default).id = (L.getD i default).id
    · exact .inl (hd _ (mem_getD hj) _ (mem_getD hi) he)
    · refine .inr (.inr ⟨by omega, .inr ⟨by unfold kb; rw [hii, hji], ?_⟩⟩)
      simp only [ks, hii, hji, if_true]
      omega
theorem best0 {L : List Strm} {m : Nat} (h1 : LeastI L L.length m) (hu : ∀ x ∈ L, x.urg ≤ 7) (h3 : SelI L (c3 m) ltLast L.length none) : ∀ x ∈ L, x.ready = false := by
  intro x hx
  obtain ⟨j, hj, rfl⟩ := getD_of_mem hx
  cases hr : (L.getD j default).ready with
  | false => rfl
  | true =>
    rcases h1.2.2 with h8 | ⟨i, hi, hir, hiu⟩
    · have := h1.2.1 j hj hr
      have := hu _ (mem_getD hj)
      omega
    · exact absurd ⟨hir, hiu⟩ (h3 i hi)
/-- Plan and document: the same streams. -/
theorem Asc.dist {L : List Strm} (h : Asc L) : Dist L := by
  intro x hx y hy he
  obtain ⟨i, hi, rfl⟩ := getD_of_mem hx
  obtain ⟨j, hj, rfl⟩ := getD_of_mem hy
  rcases Nat.lt_trichotomy i j with hlt | rfl | hlt
  · have := h.lt hlt hj; omega
  · rfl
  · have := h.lt hlt hi; omega
theorem Dist.perm {L M : List Strm} (h : L.Perm M) (hd : Dist L) : Dist M := fun x hx y hy => hd x (h.mem_iff.2 hx) y (h.mem_iff.2 hy)
end Go.Proofs.YtjkihpbpnoelnaaGreatDoor
