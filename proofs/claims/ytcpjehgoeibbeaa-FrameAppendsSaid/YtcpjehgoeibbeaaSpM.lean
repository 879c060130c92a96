/- Slices of ranges in memory. -/
import Derived.Test.YtcpjehgoeibbeaaSpP2
import Derived.Test.YtcpjehgoeibbeaaBytes
import Derived.Shelf.SlicesQ.Load
namespace Go.Proofs.Ytcpjehgoeibbeaa
open Go.RowKit
set_option linter.unusedVariables false

/-- The slice (a, L.length, cap) holds these ranges. -/
structure Rs (w : World) (a : Option Addr) (cap : Nat) (L : List Rg) : Prop where
  ints : IntsAt .u64 w a (flat L)
  nul : a = none → cap = 0
  le : L.length ≤ cap
  max : cap ≤ maxLen

theorem u64_bd {n : Int} (h : (Lit.int .u64 n).wf = true) : 0 ≤ n ∧ n ≤ 18446744073709551615 := by
  have := bounds_u64 h; omega
theorem u64_wf {n : Int} (h0 : 0 ≤ n) (h1 : n ≤ 18446744073709551615) : (Lit.int .u64 n).wf = true := by
  have e1 : IntKind.u64.min = 0 := rfl
  have e2 : IntKind.u64.max = 18446744073709551615 := rfl
  simp [Lit.wf, e1, e2]
  omega

def rgV (r : Rg) : Value := .agg #[.int .u64 r.1, .int .u64 r.2]
def encR (r : Rg) : List Value := [.int .u64 r.1, .int .u64 r.2]
def cellsR (L : List Rg) : List Value := (flat L).map (Value.int .u64)
theorem cellsR_cons (r : Rg) (L : List Rg) : cellsR (r :: L) = encR r ++ cellsR L := rfl
theorem cellsR_append (A B : List Rg) : cellsR (A ++ B) = cellsR A ++ cellsR B := by simp [cellsR, flat_append]
theorem cellsR_length (L : List Rg) : (cellsR L).length = L.length * 2 := by simp [cellsR, flat_length]; omega
theorem cellsR_one (L : List Rg) : ∀ u ∈ cellsR L, u.oneCell' = true := by
  intro u hu
  obtain ⟨n, _, rfl⟩ := List.mem_map.1 hu
  rfl

section
variable {w w' : World} {a : Option Addr} {cap : Nat} {L : List Rg}
theorem Rs.below (h : Rs w a cap L) (hb : Below w.heap.size w w') : Rs w' a cap L := ⟨h.ints.below hb, h.nul, h.le, h.max⟩
theorem Rs.only {S : Nat → Prop} (h : Rs w a cap L) (hb : Only S w w') (hs : ∀ x, a = some x → 0 < L.length → ¬ S x.block) : Rs w' a cap L :=
  ⟨h.ints.only hb (fun x hx hl => hs x hx (by rw [flat_length] at hl; omega)), h.nul, h.le, h.max⟩
theorem Rs.bnd (h : Rs w a cap L) : Bnd L := bnd_flat.2 fun x hx => u64_bd (h.ints.wf x hx)
theorem Rs.nil (w : World) : Rs w none 0 [] := ⟨IntsAt.nil _ _ _, fun _ => rfl, by simp, by simp⟩
theorem Rs.len (h : Rs w a cap L) : L.length ≤ maxLen := Nat.le_trans h.le h.max
theorem Rs.lt (h : Rs w a cap L) : ∀ x, a = some x → 0 < L.length → x.block < w.heap.size := fun x hx h0 => h.ints.lt x hx (by rw [flat_length]; omega)
/-- One of them. -/
theorem Rs.at_ (h : Rs w a cap L) {i : Nat} (hi : i < L.length) : ∃ b off, a = some ⟨b, off, none⟩ ∧ b < w.heap.size ∧
    w.cell? ⟨b, off + i * 2, none⟩ = some (.int .u64 (L.getD i default).1) ∧ w.cell? ⟨b, off + i * 2 + 1, none⟩ = some (.int .u64 (L.getD i default).2) := by
  obtain ⟨b, off, ha, hb, hc, _⟩ := h.ints (2 * i) (by rw [flat_length]; omega)
  obtain ⟨b', off', ha', _, hc', _⟩ := h.ints (2 * i + 1) (by rw [flat_length]; omega)
  rw [ha] at ha'
  cases ha'
  rw [(flat_getD L i).1, show off + 2 * i = off + i * 2 from by omega] at hc
  rw [(flat_getD L i).2, show off + (2 * i + 1) = off + i * 2 + 1 from by omega] at hc'
  exact ⟨b, off, ha, hb, hc, hc'⟩
theorem Rs.src (h : Rs w a cap L) : SrcAt w a L.length cap 2 (cellsR L) := by
  have h1 := SrcAt.ints h.ints h.nul
  refine ⟨cellsR_length L, fun ha => ⟨?_, h.nul ha⟩, h1.2.2.1, cellsR_one L⟩
  have := (h1.2.1 ha).1
  rw [flat_length] at this
  omega
theorem Rs.of {b off : Nat} (hb : b < w.heap.size) (hc : ∀ i, i < (flat L).length → w.cell? ⟨b, off + i, none⟩ = some (.int .u64 ((flat L).getD i 0))) (hw : Bnd L) (h1 : L.length ≤ cap) (h2 : cap ≤ maxLen) : Rs w (some ⟨b, off, none⟩) cap L :=
  ⟨fun i hi => ⟨b, off, rfl, hb, hc i hi, by
    have := bnd_flat.1 hw _ (show (flat L).getD i 0 ∈ flat L by simp [hi])
    exact u64_wf this.1 this.2⟩, (fun h => nomatch h), h1, h2⟩
/-- A slice of the call's own, as what it holds. -/
theorem OwnS.rs {base : Nat} {e : TypeId} {n : Nat} (h : OwnS w base e 2 a n cap (cellsR L)) (hw : Bnd L) : n = L.length ∧ Rs w a cap L := by
  have hl := h.length
  rw [cellsR_length] at hl
  have hn : n = L.length := by omega
  refine ⟨hn, fun i hi => ?_, fun ha => (h.none_of ha).2, by rw [← hn]; exact h.caps.1, h.caps.2⟩
  obtain ⟨g, rfl, _, hg, hc, _⟩ := h.at_ (i := i) (by rw [cellsR_length]; rw [flat_length] at hi; omega)
  have := bnd_flat.1 hw _ (show (flat L).getD i 0 ∈ flat L by simp [hi])
  refine ⟨g, 0, rfl, hg, ?_, u64_wf this.1 this.2⟩
  rw [Nat.zero_add, hc]
  simp [cellsR, hi]
end
theorem rg_et : ET Try.prog 33 55 2 16 := et_of (by kernel_rfl)
theorem rg_size : (Try.prog.info? 55).map (·.size) = some 2 := by kernel_rfl
theorem Bnd.getD {L : List Rg} (h : Bnd L) {i : Nat} (hi : i < L.length) : (0 ≤ (L.getD i default).1 ∧ (L.getD i default).1 ≤ 18446744073709551615) ∧ (0 ≤ (L.getD i default).2 ∧ (L.getD i default).2 ≤ 18446744073709551615) := h _ (by simp [hi])
end Go.Proofs.Ytcpjehgoeibbeaa
