/- Trace: events in memory, their totals. -/
import Derived.Test.YtfaopoaephlenaaGreatDoorQuie
import Derived.Test.YtfaopoaephlenaaGreatDoorArgSl
namespace Go.Proofs.YtfaopoaephlenaaGreatDoor
open Go.RowKit
set_option linter.unusedVariables false

structure Ev where
  at_ : Nat
  a : Nat
  b : Nat
  kind : Nat
instance : Inhabited Ev := ⟨⟨0, 0, 0, 0⟩⟩
def encE (e : Ev) : List Value := [.int .u64 e.at_, .int .u64 e.a, .int .u64 e.b, .int .u8 e.kind]
def cellsE (L : List Ev) : List Value := L.flatMap encE
theorem cellsE_cons (p : Ev) (L : List Ev) : cellsE (p :: L) = encE p ++ cellsE L := rfl
theorem cellsE_append (A B : List Ev) : cellsE (A ++ B) = cellsE A ++ cellsE B := by simp [cellsE]
theorem cellsE_length (L : List Ev) : (cellsE L).length = L.length * 4 := by
  induction L with
  | nil => rfl
  | cons p L ih =>
    rw [cellsE_cons, List.length_append, ih]
    simp [encE]; omega
theorem cellsE_get : ∀ (L : List Ev) (i j : Nat), i < L.length → j < 4 → (cellsE L)[i * 4 + j]? = (encE (L.getD i default))[j]?
  | [], i, j, h, _ => by simp at h
  | p :: L, 0, j, _, hj => by
    rw [cellsE_cons, List.getElem?_append_left (by simp [encE]; omega)]
    simp
  | p :: L, i + 1, j, h, hj => by
    rw [cellsE_cons, List.getElem?_append_right (by simp [encE]; omega)]
    have e : (i + 1) * 4 + j - (encE p).length = i * 4 + j := by simp [encE]; omega
    rw [e, cellsE_get L i j (by simpa using h) hj]
    simp
theorem cellsE_one (L : List Ev) : ∀ u ∈ cellsE L, u.oneCell' = true := by
  intro u hu
  obtain ⟨p, _, hp⟩ := List.mem_flatMap.1 hu
  simp [encE] at hp
  rcases hp with rfl | rfl | rfl | rfl <;> rfl
def EvOk (e : Ev) : Prop := e.at_ ≤ 18446744073709551615 ∧ e.a ≤ 18446744073709551615 ∧ e.b ≤ 18446744073709551615 ∧ e.kind ≤ 255
/-- The slice (a, L.length, cap) holds these events. -/
structure Es (w : World) (a : Option Addr) (cap : Nat) (L : List Ev) : Prop where
  cells : ∀ i, i < L.length → ∃ b off, a = some ⟨b, off, none⟩ ∧ b < w.heap.size ∧ ∀ j v, (encE (L.getD i default))[j]? = some v → w.cell? ⟨b, off + i * 4 + j, none⟩ = some v
  nul : a = none → cap = 0
  le : L.length ≤ cap
  max : cap ≤ maxLen
  ok : ∀ p ∈ L, EvOk p
section
variable {w w' : World} {a : Option Addr} {cap : Nat} {L : List Ev}
theorem Es.below (h : Es w a cap L) (hb : Below w.heap.size w w') : Es w' a cap L := ⟨fun i hi => by
  obtain ⟨b, off, ha, hlt, hc⟩ := h.cells i hi
  exact ⟨b, off, ha, Nat.lt_of_lt_of_le hlt hb.size, fun j v hv => (hb.cell (p := ⟨b, off + i * 4 + j, none⟩) hlt).trans (hc j v hv)⟩, h.nul, h.le, h.max, h.ok⟩
theorem Es.at_ (h : Es w a cap L) {i : Nat} (hi : i < L.length) : ∃ b off, a = some ⟨b, off, none⟩ ∧ b < w.heap.size ∧ ∃ p, L.getD i default = p ∧
    w.cell? ⟨b, off + i * 4, none⟩ = some (.int .u64 p.at_) ∧ w.cell? ⟨b, off + i * 4 + 1, none⟩ = some (.int .u64 p.a) ∧ w.cell? ⟨b, off + i * 4 + 2, none⟩ = some (.int .u64 p.b) ∧ w.cell? ⟨b, off + i * 4 + 3, none⟩ = some (.int .u8 p.kind) ∧ EvOk p := by
  obtain ⟨b, off, ha, hlt, hc⟩ := h.cells i hi
  have hm : L.getD i default ∈ L := by simp [hi]
  exact ⟨b, off, ha, hlt, _, rfl, hc 0 _ rfl, hc 1 _ rfl, hc 2 _ rfl, hc 3 _ rfl, h.ok _ hm⟩
theorem Es.src {n : Nat} (h : Es w a cap L) (hn : n = L.length) : SrcAt w a n cap 4 (cellsE L) := by
  subst hn
  refine ⟨cellsE_length L, fun ha => ?_, fun x hx j u hj => ?_, cellsE_one L⟩
  · have h1 := h.nul ha
    have h2 := h.le
    omega
  · have hlt : j < L.length * 4 := by rw [← cellsE_length]; exact (List.getElem?_eq_some_iff.1 hj).1
    obtain ⟨b, off, ha, hb, hc⟩ := h.cells (j / 4) (by omega)
    rw [hx] at ha
    cases ha
    have hdm : j / 4 * 4 + j % 4 = j := by omega
    rw [addr_add]
    have := hc (j % 4) u (by rw [← cellsE_get L (j / 4) (j % 4) (by omega) (by omega), hdm]; exact hj)
    rw [show off + j / 4 * 4 + j % 4 = off + j by omega] at this
    exact this
theorem OwnS.es {base : Nat} {e : TypeId} {n : Nat} (h : OwnS w base e 4 a n cap (cellsE L)) (hw : ∀ p ∈ L, EvOk p) : n = L.length ∧ Es w a cap L := by
  have hl := h.length
  rw [cellsE_length] at hl
  have hn : n = L.length := by omega
  refine ⟨hn, fun i hi => ?_, fun ha => (h.none_of ha).2, by rw [← hn]; exact h.caps.1, h.caps.2, hw⟩
  obtain ⟨g, rfl, _, hg, _⟩ := h.at_ (i := i * 4) (by rw [cellsE_length]; omega)
  refine ⟨g, 0, rfl, hg, fun j v hv => ?_⟩
  have hj : j < 4 := (List.getElem?_eq_some_iff.1 hv).1
  obtain ⟨g', hg', _, _, hc, _⟩ := h.at_ (i := i * 4 + j) (by rw [cellsE_length]; omega)
  cases hg'
  rw [Nat.zero_add, hc, cellsE_get L i j hi hj, hv]
end
theorem ev_et : ET Tryz.prog 23 31 4 32 := et_of (by kernel_rfl)

/-! ### Totals -/
structure TS where
  many : List Nat
  wr : Nat
  rd : Nat
  wi : Nat
def sat (x : Nat) : Nat := min x 18446744073709551615
def stepT (t : TS) (e : Ev) : TS := if 1 ≤ e.kind ∧ e.kind ≤ 10 then
  { many := t.many.set e.kind (t.many.getD e.kind 0 + 1), wr := if e.kind = 6 then sat (t.wr + e.b) else t.wr, rd := if e.kind = 7 then sat (t.rd + e.b) else t.rd, wi := if e.kind = 9 then max (max t.wi e.a) e.b else t.wi } else t
def ts0 : TS := ⟨[0, 0, 0, 0, 0, 0, 0, 0, 0, 0, 0], 0, 0, 0⟩
def totF (L : List Ev) : TS := L.foldl stepT ts0
def tsL (t : TS) : List Value := t.many.map (fun n : Nat => Value.int .i64 n) ++ [.int .u64 t.wr, .int .u64 t.rd, .int .u64 t.wi]
def tsA (t : TS) : Array Value := (tsL t).toArray
structure TOk (t : TS) (k : Nat) : Prop where
  len : t.many.length = 11
  many : ∀ i, t.many.getD i 0 ≤ k
  wr : t.wr ≤ 18446744073709551615
  rd : t.rd ≤ 18446744073709551615
  wi : t.wi ≤ 18446744073709551615
theorem TOk.start : TOk ts0 0 := ⟨rfl, fun i => by
  match i with
  | 0 | 1 | 2 | 3 | 4 | 5 | 6 | 7 | 8 | 9 | 10 => simp [ts0]
  | i + 11 => simp [ts0], by simp [ts0], by simp [ts0], by simp [ts0]⟩
theorem TOk.step {t : TS} {k : Nat} {e : Ev} (h : TOk t k) (he : EvOk e) : TOk (stepT t e) (k + 1) := by
  obtain ⟨h1, h2, h3, h4, h5⟩ := h
  obtain ⟨e1, e2, e3, e4⟩ := he
  unfold stepT
  split
  · refine ⟨by simp [h1], fun i => ?_, ?_, ?_, ?_⟩
    · have := h2 i
      have := h2 e.kind
      by_cases hi : i = e.kind
      · subst hi
        have h9 := h2 e.kind
        simp only [List.getD_eq_getElem?_getD] at h9 ⊢
        by_cases hk : e.kind < t.many.length
        · simp [hk] at h9 ⊢; omega
        · rw [List.getElem?_eq_none (by simp; omega)]; simp
      · simp only [List.getD_eq_getElem?_getD]
        rw [List.getElem?_set_ne (Ne.symm hi)]
        simp only [List.getD_eq_getElem?_getD] at this
        have := h2 i
        simp only [List.getD_eq_getElem?_getD] at this
        omega
    · simp only; split
      · unfold sat; omega
      · exact h3
    · simp only; split
      · unfold sat; omega
      · exact h4
    · simp only; split <;> omega
  · exact ⟨h1, fun i => by have := h2 i; omega, h3, h4, h5⟩
theorem tsA_size {t : TS} (h : t.many.length = 11) : (tsA t).size = 14 := by simp [tsA, tsL, h]
theorem tsA_many {t : TS} (h : t.many.length = 11) {k : Nat} (hk : k < 11) : (tsA t)[k]? = some (.int .i64 (t.many.getD k 0 : Nat)) := by
  simp only [tsA, tsL, List.getElem?_toArray]
  rw [List.getElem?_append_left (by simp [h, hk])]
  simp [h, hk]
theorem tsA_wr {t : TS} (h : t.many.length = 11) : (tsA t)[11]? = some (.int .u64 t.wr) := by
  simp only [tsA, tsL, List.getElem?_toArray]
  rw [List.getElem?_append_right (by simp [h])]
  simp [h]
theorem tsA_rd {t : TS} (h : t.many.length = 11) : (tsA t)[12]? = some (.int .u64 t.rd) := by
  simp only [tsA, tsL, List.getElem?_toArray]
  rw [List.getElem?_append_right (by simp [h])]
  simp [h]
theorem tsA_wi {t : TS} (h : t.many.length = 11) : (tsA t)[13]? = some (.int .u64 t.wi) := by
  simp only [tsA, tsL, List.getElem?_toArray]
  rw [List.getElem?_append_right (by simp [h])]
  simp [h]
theorem tsA_setMany {t : TS} (h : t.many.length = 11) {k : Nat} (hk : k < 11) (m : Nat) : (tsA t).setIfInBounds k (.int .i64 m) = tsA { t with many := t.many.set k m } := by
  simp only [tsA, tsL, List.setIfInBounds_toArray]
  congr 1
  rw [List.set_append_left _ _ (by simp [h, hk]), List.map_set]
theorem tsA_setWr {t : TS} (h : t.many.length = 11) (x : Nat) : (tsA t).setIfInBounds 11 (.int .u64 x) = tsA { t with wr := x } := by
  simp only [tsA, tsL, List.setIfInBounds_toArray]
  congr 1
  rw [List.set_append_right _ _ (by simp [h])]
  simp [h]
theorem tsA_setRd {t : TS} (h : t.many.length = 11) (x : Nat) : (tsA t).setIfInBounds 12 (.int .u64 x) = tsA { t with rd := x } := by
  simp only [tsA, tsL, List.setIfInBounds_toArray]
  congr 1
  rw [List.set_append_right _ _ (by simp [h])]
  simp [h]
theorem tsA_setWi {t : TS} (h : t.many.length = 11) (x : Nat) : (tsA t).setIfInBounds 13 (.int .u64 x) = tsA { t with wi := x } := by
  simp only [tsA, tsL, List.setIfInBounds_toArray]
  congr 1
  rw [List.set_append_right _ _ (by simp [h])]
  simp [h]
set_option maxRecDepth 100000 in
theorem more_any (a b : Nat) (w : World) (ha : a ≤ 18446744073709551615) (hb : b ≤ 18446744073709551615) :
    Calls Tryz.prog 21 #[.int .u64 a, .int .u64 b] w fun e w' => e = .returned (.int .u64 (sat (a + b))) ∧ w' = w := by
  by_cases h : b > 18446744073709551615 - a
  · have h1 : (b : Int) > 18446744073709551615 - (a : Int) := by omega
    have hs : sat (a + b) = 18446744073709551615 := by unfold sat; omega
    rw [hs]
    clear hs
    go_enter Tryz.func21, Tryz.ntmps21
    go_wp2_with (fail)
    go_returns
    exact ⟨rfl, rfl⟩
  · have h1 : ¬ (b : Int) > 18446744073709551615 - (a : Int) := by omega
    have hs : sat (a + b) = a + b := by unfold sat; omega
    rw [hs]
    clear hs
    go_enter Tryz.func21, Tryz.ntmps21
    go_wp2_with (fail)
    go_returns
    exact ⟨by simp, rfl⟩
end Go.Proofs.YtfaopoaephlenaaGreatDoor
