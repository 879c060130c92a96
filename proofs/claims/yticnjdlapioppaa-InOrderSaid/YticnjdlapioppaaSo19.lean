/- InOrder: the parts that come; what holds while they come. -/
import Derived.Test.YticnjdlapioppaaSo18
namespace Go.Proofs.Yticnjdlapioppaa
open Go.RowKit
set_option linter.unusedVariables false

structure Ct where
  off : Nat
  n : Nat
instance : Inhabited Ct := ⟨⟨0, 0⟩⟩
def encC (c : Ct) : List Value := [.int .u16 c.off, .int .u16 c.n]
def cellsC (L : List Ct) : List Value := L.flatMap encC
theorem cellsC_cons (p : Ct) (L : List Ct) : cellsC (p :: L) = encC p ++ cellsC L := rfl
theorem cellsC_append (A B : List Ct) : cellsC (A ++ B) = cellsC A ++ cellsC B := by simp [cellsC]
theorem cellsC_length (L : List Ct) : (cellsC L).length = L.length * 2 := by
  induction L with
  | nil => rfl
  | cons p L ih =>
    rw [cellsC_cons, List.length_append, ih]
    simp [encC]; omega
theorem cellsC_get : ∀ (L : List Ct) (i j : Nat), i < L.length → j < 2 → (cellsC L)[i * 2 + j]? = (encC (L.getD i default))[j]?
  | [], i, j, h, _ => by simp at h
  | p :: L, 0, j, _, hj => by
    rw [cellsC_cons, List.getElem?_append_left (by simp [encC]; omega)]
    simp
  | p :: L, i + 1, j, h, hj => by
    rw [cellsC_cons, List.getElem?_append_right (by simp [encC]; omega)]
    have e : (i + 1) * 2 + j - (encC p).length = i * 2 + j := by simp [encC]; omega
    rw [e, cellsC_get L i j (by simpa using h) hj]
    simp
theorem cellsC_one (L : List Ct) : ∀ u ∈ cellsC L, u.oneCell' = true := by
  intro u hu
  obtain ⟨p, _, hp⟩ := List.mem_flatMap.1 hu
  simp [encC] at hp
  rcases hp with rfl | rfl <;> rfl
/-- The slice (a, L.length, cap) holds these parts. -/
structure Cts (w : World) (a : Option Addr) (cap : Nat) (L : List Ct) : Prop where
  cells : ∀ i, i < L.length → ∃ b off, a = some ⟨b, off, none⟩ ∧ b < w.heap.size ∧ ∀ j v, (encC (L.getD i default))[j]? = some v → w.cell? ⟨b, off + i * 2 + j, none⟩ = some v
  nul : a = none → cap = 0
  le : L.length ≤ cap
  max : cap ≤ maxLen
  ok : ∀ p ∈ L, p.off ≤ 65535 ∧ p.n ≤ 65535
section
variable {w w' : World} {a : Option Addr} {cap : Nat} {L : List Ct}
theorem Cts.below (h : Cts w a cap L) (hb : Below w.heap.size w w') : Cts w' a cap L := ⟨fun i hi => by
  obtain ⟨b, off, ha, hlt, hc⟩ := h.cells i hi
  exact ⟨b, off, ha, Nat.lt_of_lt_of_le hlt hb.size, fun j v hv => (hb.cell (p := ⟨b, off + i * 2 + j, none⟩) hlt).trans (hc j v hv)⟩, h.nul, h.le, h.max, h.ok⟩
theorem Cts.only {S : Nat → Prop} (h : Cts w a cap L) (hb : Only S w w') (hs : ∀ x, a = some x → 0 < L.length → ¬ S x.block) : Cts w' a cap L := ⟨fun i hi => by
  obtain ⟨b, off, ha, hlt, hc⟩ := h.cells i hi
  exact ⟨b, off, ha, Nat.lt_of_lt_of_le hlt hb.size, fun j v hv => (hb.cell (p := ⟨b, off + i * 2 + j, none⟩) hlt (hs ⟨b, off, none⟩ ha (by omega))).trans (hc j v hv)⟩, h.nul, h.le, h.max, h.ok⟩
theorem Cts.at_ (h : Cts w a cap L) {i : Nat} (hi : i < L.length) : ∃ b off, a = some ⟨b, off, none⟩ ∧ b < w.heap.size ∧ ∃ p, L.getD i default = p ∧ p ∈ L ∧
    w.cell? ⟨b, off + i * 2, none⟩ = some (.int .u16 p.off) ∧ w.cell? ⟨b, off + i * 2 + 1, none⟩ = some (.int .u16 p.n) ∧ (p.off ≤ 65535 ∧ p.n ≤ 65535) := by
  obtain ⟨b, off, ha, hlt, hc⟩ := h.cells i hi
  have hm : L.getD i default ∈ L := by simp [hi]
  exact ⟨b, off, ha, hlt, _, rfl, hm, hc 0 _ rfl, hc 1 _ rfl, h.ok _ hm⟩
theorem Cts.src {n : Nat} (h : Cts w a cap L) (hn : n = L.length) : SrcAt w a n cap 2 (cellsC L) := by
  subst hn
  refine ⟨cellsC_length L, fun ha => ?_, fun x hx j u hj => ?_, cellsC_one L⟩
  · have h1 := h.nul ha
    have h2 := h.le
    omega
  · have hlt : j < L.length * 2 := by rw [← cellsC_length]; exact (List.getElem?_eq_some_iff.1 hj).1
    obtain ⟨b, off, ha, hb, hc⟩ := h.cells (j / 2) (by omega)
    rw [hx] at ha
    cases ha
    have hdm : j / 2 * 2 + j % 2 = j := by omega
    rw [addr_add]
    have := hc (j % 2) u (by rw [← cellsC_get L (j / 2) (j % 2) (by omega) (by omega), hdm]; exact hj)
    rw [show off + j / 2 * 2 + j % 2 = off + j by omega] at this
    exact this
theorem OwnS.cts {base : Nat} {e : TypeId} {n : Nat} (h : OwnS w base e 2 a n cap (cellsC L)) (hw : ∀ p ∈ L, p.off ≤ 65535 ∧ p.n ≤ 65535) : n = L.length ∧ Cts w a cap L := by
  have hl := h.length
  rw [cellsC_length] at hl
  have hn : n = L.length := by omega
  refine ⟨hn, fun i hi => ?_, fun ha => (h.none_of ha).2, by rw [← hn]; exact h.caps.1, h.caps.2, hw⟩
  obtain ⟨g, rfl, _, hg, _⟩ := h.at_ (i := i * 2) (by rw [cellsC_length]; omega)
  refine ⟨g, 0, rfl, hg, fun j v hv => ?_⟩
  have hj : j < 2 := (List.getElem?_eq_some_iff.1 hv).1
  obtain ⟨g', hg', _, _, hc, _⟩ := h.at_ (i := i * 2 + j) (by rw [cellsC_length]; omega)
  cases hg'
  rw [Nat.zero_add, hc, cellsC_get L i j hi hj, hv]
end
theorem SrcAt.blkC {w : World} {q : Nat} {p : Ct} {t : TypeId} (h : Blk w q #[.int .u16 p.off, .int .u16 p.n] t) : SrcAt w (some ⟨q, 0, none⟩) 1 1 2 (cellsC [p]) :=
  ⟨rfl, by simp, fun y hy j u hj => by
    cases hy
    rw [addr_add, Nat.zero_add]
    exact h.cell j u (by
      match j with
      | 0 => simpa [cellsC, encC] using hj
      | 1 => simpa [cellsC, encC] using hj
      | j + 2 => simp [cellsC, encC] at hj), cellsC_one _⟩
theorem ct_et : ET Try.prog 97 104 2 4 := et_of (by kernel_rfl)
/-- All is there that is to come. -/
theorem InM.full {w : World} {T : List Int} {q : Nat} {Z : Nat → Prop} {s : ISt} {L : List Pc} (h : InM w T q Z s L) (hk : ∀ x : Nat, x < T.length → KV s L x) : s.rd + s.bn = T.length := by
  have hle := h.le
  by_cases hc : s.rd + s.bn < T.length
  · rcases hk _ hc with h1 | ⟨p, hp, h1, h2⟩
    · omega
    · obtain ⟨o, h3, h4, _⟩ := (h.gp p hp).num
      omega
  · omega
/-- What the loop over the parts keeps. -/
def LoopI (T : List Int) (h base : Nat) (va : Option Addr) (vc byv : Nat) (done : Prop) (w : World) : Prop :=
  ∃ s L ga gc, RS T h base va vc byv s L ga gc w ∧ (done → s.hf = true ∧ s.rd + s.bn = T.length)
/-- What the last loop keeps. -/
def EndI (T : List Int) (h base : Nat) (va : Option Addr) (vc byv j : Nat) (w : World) : Prop :=
  ∃ s L ga gc, RS T h base va vc byv s L ga gc w ∧ s.hf = true ∧ s.rd + s.bn = T.length ∧ (s.fr = true ∨ j ≤ s.rd)
theorem EndI.step {T : List Int} {h base : Nat} {va : Option Addr} {vc byv j : Nat} {s : ISt} {L : List Pc} {ga : Option Addr} {gc : Nat} {w w' : World} {e : Ending} (hs : s.hf = true ∧ s.rd + s.bn = T.length ∧ (s.fr = true ∨ j ≤ s.rd)) (hr : RS T h base va vc byv s L ga gc w) (hb : 0 < byv) (hp : ReadPost T h base va vc byv s L ga gc w w' e) :
    EndI T h base va vc byv (j + 1) w' := by
  obtain ⟨_, _, s', ga', gc', h1, h2, h3, h4, h5⟩ := hp
  refine ⟨s', L, ga', gc', h1, by rw [h2]; exact hs.1, by rw [h3]; exact hs.2.1, ?_⟩
  cases hfr : s.fr with
  | true => exact .inl (h4 hfr)
  | false =>
    obtain ⟨h6, h7⟩ := h5 hfr
    have hf := hr.inm.fin hs.1
    by_cases hc : s'.rd = s.fin
    · exact .inl (by rw [h7, hs.1, hc]; simp)
    · rcases hs.2.2 with h9 | h9
      · rw [hfr] at h9; cases h9
      · exact .inr (by omega)
theorem EndI.over {T : List Int} {h base : Nat} {va : Option Addr} {vc byv : Nat} {w : World} (hE : EndI T h base va vc byv (T.length + 2) w) : ∃ s L ga gc, RS T h base va vc byv s L ga gc w ∧ s.fr = true ∧ s.rd = T.length := by
  obtain ⟨s, L, ga, gc, h1, h2, h3, h4⟩ := hE
  rcases h4 with h4 | h4
  · exact ⟨s, L, ga, gc, h1, h4, (h1.inm.frr h4).1⟩
  · omega
end Go.Proofs.Yticnjdlapioppaa
