/- Sent: packets in memory. -/
import Derived.Test.YtidfimpchbkppaaSpM
import Derived.Test.YtidfimpchbkppaaSt1
import Derived.Test.YtidfimpchbkppaaArgs
namespace Go.Proofs.Ytidfimpchbkppaa
open Go.RowKit
set_option linter.unusedVariables false

def u64b' (x : Int) : Prop := 0 ≤ x ∧ x ≤ 18446744073709551615
structure Pk where
  pn : Int
  at_ : Int
  size : Int
  el : Bool
  after : Int
  fa : Option Addr
  fn : Nat
  fc : Nat
instance : Inhabited Pk := ⟨⟨0, 0, 0, false, 0, none, 0, 0⟩⟩
def encP (p : Pk) : List Value := [.int .u64 p.pn, .int .u64 p.at_, .int .u64 p.size, .bool p.el, .int .u64 p.after, .slice p.fa p.fn p.fc]
def PkOk (p : Pk) : Prop := u64b' p.pn ∧ u64b' p.at_ ∧ u64b' p.size ∧ u64b' p.after
def cellsP (L : List Pk) : List Value := L.flatMap encP
theorem cellsP_nil : cellsP [] = [] := rfl
theorem cellsP_append (A B : List Pk) : cellsP (A ++ B) = cellsP A ++ cellsP B := by simp [cellsP]
theorem cellsP_length (L : List Pk) : (cellsP L).length = L.length * 6 := by
  induction L with
  | nil => rfl
  | cons p L ih =>
    have : cellsP (p :: L) = encP p ++ cellsP L := rfl
    rw [this, List.length_append, ih]
    simp [encP]; omega
theorem cellsP_get : ∀ (L : List Pk) (i j : Nat), i < L.length → j < 6 → (cellsP L)[i * 6 + j]? = (encP (L.getD i default))[j]?
  | [], i, j, h, _ => by simp at h
  | p :: L, 0, j, _, hj => by
    have : cellsP (p :: L) = encP p ++ cellsP L := rfl
    rw [this, List.getElem?_append_left (by simp [encP]; omega)]
    simp
  | p :: L, i + 1, j, h, hj => by
    have : cellsP (p :: L) = encP p ++ cellsP L := rfl
    rw [this, List.getElem?_append_right (by simp [encP]; omega)]
    have e : (i + 1) * 6 + j - (encP p).length = i * 6 + j := by simp [encP]; omega
    rw [e, cellsP_get L i j (by simpa using h) hj]
    simp
theorem cellsP_one (L : List Pk) : ∀ u ∈ cellsP L, u.oneCell' = true := by
  intro u hu
  obtain ⟨p, _, hp⟩ := List.mem_flatMap.1 hu
  simp [encP] at hp
  rcases hp with rfl | rfl | rfl | rfl | rfl | rfl <;> rfl

/-- The slice (a, L.length, cap) holds these packets. -/
structure Ps (w : World) (a : Option Addr) (cap : Nat) (L : List Pk) : Prop where
  cells : ∀ i, i < L.length → ∃ b off, a = some ⟨b, off, none⟩ ∧ b < w.heap.size ∧ ∀ j v, (encP (L.getD i default))[j]? = some v → w.cell? ⟨b, off + i * 6 + j, none⟩ = some v
  nul : a = none → cap = 0
  le : L.length ≤ cap
  max : cap ≤ maxLen
  ok : ∀ p ∈ L, PkOk p

section
variable {w w' : World} {a : Option Addr} {cap : Nat} {L : List Pk}
theorem Ps.below (h : Ps w a cap L) (hb : Below w.heap.size w w') : Ps w' a cap L := ⟨fun i hi => by
  obtain ⟨b, off, ha, hlt, hc⟩ := h.cells i hi
  exact ⟨b, off, ha, Nat.lt_of_lt_of_le hlt hb.size, fun j v hv => (hb.cell (p := ⟨b, off + i * 6 + j, none⟩) hlt).trans (hc j v hv)⟩, h.nul, h.le, h.max, h.ok⟩
theorem Ps.only {S : Nat → Prop} (h : Ps w a cap L) (hb : Only S w w') (hs : ∀ x, a = some x → ¬ S x.block) : Ps w' a cap L := ⟨fun i hi => by
  obtain ⟨b, off, ha, hlt, hc⟩ := h.cells i hi
  exact ⟨b, off, ha, Nat.lt_of_lt_of_le hlt hb.size, fun j v hv => (hb.cell (p := ⟨b, off + i * 6 + j, none⟩) hlt (hs ⟨b, off, none⟩ ha)).trans (hc j v hv)⟩, h.nul, h.le, h.max, h.ok⟩
theorem Ps.only2 {S : Nat → Prop} (h : Ps w a cap L) (hb : Only S w w') (hs : ∀ x, a = some x → 0 < L.length → ¬ S x.block) : Ps w' a cap L := ⟨fun i hi => by
  obtain ⟨b, off, ha, hlt, hc⟩ := h.cells i hi
  exact ⟨b, off, ha, Nat.lt_of_lt_of_le hlt hb.size, fun j v hv => (hb.cell (p := ⟨b, off + i * 6 + j, none⟩) hlt (hs ⟨b, off, none⟩ ha (by omega))).trans (hc j v hv)⟩, h.nul, h.le, h.max, h.ok⟩
theorem Ps.nil (w : World) : Ps w none 0 [] := ⟨fun i hi => by simp at hi, fun _ => rfl, by simp, by simp, by simp⟩
theorem Ps.len (h : Ps w a cap L) : L.length ≤ maxLen := Nat.le_trans h.le h.max
theorem Ps.at_ (h : Ps w a cap L) {i : Nat} (hi : i < L.length) : ∃ b off, a = some ⟨b, off, none⟩ ∧ b < w.heap.size ∧ ∃ p, L.getD i default = p ∧ p ∈ L ∧
    w.cell? ⟨b, off + i * 6, none⟩ = some (.int .u64 p.pn) ∧ w.cell? ⟨b, off + i * 6 + 1, none⟩ = some (.int .u64 p.at_) ∧ w.cell? ⟨b, off + i * 6 + 2, none⟩ = some (.int .u64 p.size) ∧
    w.cell? ⟨b, off + i * 6 + 3, none⟩ = some (.bool p.el) ∧ w.cell? ⟨b, off + i * 6 + 4, none⟩ = some (.int .u64 p.after) ∧ w.cell? ⟨b, off + i * 6 + 5, none⟩ = some (.slice p.fa p.fn p.fc) ∧
    (0 ≤ p.pn ∧ p.pn ≤ 18446744073709551615) ∧ (0 ≤ p.at_ ∧ p.at_ ≤ 18446744073709551615) ∧ (0 ≤ p.size ∧ p.size ≤ 18446744073709551615) ∧ (0 ≤ p.after ∧ p.after ≤ 18446744073709551615) := by
  obtain ⟨b, off, ha, hlt, hc⟩ := h.cells i hi
  have hm : L.getD i default ∈ L := by simp [hi]
  obtain ⟨h1, h2, h3, h4⟩ := h.ok _ hm
  exact ⟨b, off, ha, hlt, _, rfl, hm, hc 0 _ rfl, hc 1 _ rfl, hc 2 _ rfl, hc 3 _ rfl, hc 4 _ rfl, hc 5 _ rfl, h1, h2, h3, h4⟩
theorem OwnS.ps {base : Nat} {e : TypeId} {n : Nat} (h : OwnS w base e 6 a n cap (cellsP L)) (hw : ∀ p ∈ L, PkOk p) : n = L.length ∧ Ps w a cap L := by
  have hl := h.length
  rw [cellsP_length] at hl
  have hn : n = L.length := by omega
  refine ⟨hn, fun i hi => ?_, fun ha => (h.none_of ha).2, by rw [← hn]; exact h.caps.1, h.caps.2, hw⟩
  obtain ⟨g, rfl, _, hg, _⟩ := h.at_ (i := i * 6) (by rw [cellsP_length]; omega)
  refine ⟨g, 0, rfl, hg, fun j v hv => ?_⟩
  have hj : j < 6 := (List.getElem?_eq_some_iff.1 hv).1
  obtain ⟨g', hg', _, _, hc, _⟩ := h.at_ (i := i * 6 + j) (by rw [cellsP_length]; omega)
  cases hg'
  rw [Nat.zero_add, hc, cellsP_get L i j hi hj, hv]
end
/-- Block b is what was sent. -/
def SB (w : World) (b : Nat) (a : Option Addr) (n c : Nat) (has : Bool) (lg la lt top : Int) : Prop := Blk w b #[.slice a n c, .bool has, .int .u64 lg, .int .u64 la, .int .u64 lt, .int .u64 top] 66
def pkV (p : Pk) : Value := .agg #[.int .u64 p.pn, .int .u64 p.at_, .int .u64 p.size, .bool p.el, .int .u64 p.after, .slice p.fa p.fn p.fc]

theorem pk_et : ET Try.prog 62 69 6 64 := et_of (by kernel_rfl)
theorem fr_et : ET Try.prog 67 51 30 176 := et_of (by kernel_rfl)

/-! ### Cells of a value that came in are no rows -/
def oneB (P : Program) : Nat → TypeId → Bool
  | 0, _ => false
  | f + 1, t => match P.underlying t with
    | some (.struct fs) => (List.range (P.cellsOf t)).all fun i => fs.any fun x => decide (x.offset ≤ i) && decide (i < x.offset + P.cellsOf x.type) && oneB P f x.type
    | some (.array n e) => decide (P.cellsOf t = n * P.cellsOf e) && decide (0 < P.cellsOf e) && oneB P f e
    | _ => true
section
variable {H : Type} {enc : TypeId × Value → H} {P : Program} {w : World}
theorem trod_one : ∀ (f : Nat) {n : Nat} {t : TypeId} {cs : List Value} {y : DataW H × List MemPlace}, oneB P f t = true → DataW.trod enc P w 0 (fun _ => true) true n t cs = some y → ∀ u ∈ cs, u.oneCell' = true
  | 0, n, t, cs, y, h, _ => by simp [oneB] at h
  | f + 1, 0, t, cs, y, _, h => by simp [DataW.trod] at h
  | f + 1, n + 1, t, cs, y, hB, h => by
    unfold oneB at hB
    split at hB
    · rename_i fs ht
      obtain ⟨xs, n', _, _, hl, hxl, hfld⟩ := DataW.trod_struct ht h
      intro u hu
      obtain ⟨i, hi, rfl⟩ := List.getElem_of_mem hu
      have h1 := List.all_eq_true.1 hB i (List.mem_range.2 (by omega))
      obtain ⟨x, hx, hb⟩ := Array.any_eq_true'.1 h1
      simp only [Bool.and_eq_true, decide_eq_true_eq] at hb
      obtain ⟨⟨h2, h3⟩, h4⟩ := hb
      obtain ⟨j, hj, rfl⟩ := Array.getElem_of_mem hx
      have h5 := hfld j fs[j] (by simp [hj])
      rw [List.getElem?_eq_getElem (by omega)] at h5
      refine trod_one f h4 h5 _ ?_
      refine List.mem_iff_getElem?.2 ⟨i - fs[j].offset, ?_⟩
      rw [List.getElem?_take_of_lt (by omega), List.getElem?_drop, show fs[j].offset + (i - fs[j].offset) = i from by omega]
      simp [hi]
    · rename_i k e ht
      simp only [Bool.and_eq_true, decide_eq_true_eq] at hB
      obtain ⟨⟨h1, h2⟩, h3⟩ := hB
      obtain ⟨xs, n', _, _, hl, hxl, hfld⟩ := DataW.trod_array ht h
      intro u hu
      obtain ⟨i, hi, rfl⟩ := List.getElem_of_mem hu
      have hik : i / P.cellsOf e < k := (Nat.div_lt_iff_lt_mul h2).2 (by omega)
      have h5 := hfld (i / P.cellsOf e) hik
      have hdm := Nat.div_add_mod i (P.cellsOf e)
      rw [Nat.mul_comm] at hdm
      have hmod := Nat.mod_lt i h2
      rw [List.getElem?_eq_getElem (by omega)] at h5
      refine trod_one f h3 h5 _ ?_
      refine List.mem_iff_getElem?.2 ⟨i % P.cellsOf e, ?_⟩
      rw [List.getElem?_take_of_lt hmod, List.getElem?_drop, hdm]
      simp [hi]
    · rename_i h1 h2
      rw [DataW.trod_step] at h
      unfold DataW.trodStep at h
      intro u hu
      split at h <;> first
        | (simp only [List.mem_singleton] at hu; subst hu; rfl)
        | (rename_i e; exact absurd e (h1 _))
        | (rename_i e; exact absurd e (h2 _ _))
        | simp at h
end
end Go.Proofs.Ytidfimpchbkppaa
