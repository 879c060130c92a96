/- Arguments that came in, opened: in our own words. -/
import Derived.Test.YtnnlejllhmhmmaaBase
import Derived.ProofKit
import Derived.Deep.Slices
namespace Go.Proofs.Ytnnlejllhmhmmaa
open Go.RowKit
set_option linter.unusedVariables false

section
variable {H : Type} {enc : TypeId × Value → H} {P : Program} {w : World} {base : Nat} {v : Value} {d : DataW H} {p : List MemPlace}

theorem open_intslice {t e : TypeId} {k : IntKind} (ht : P.underlying t = some (.slice e)) (he : P.underlying e = some (.int k)) (hc : P.cellsOf e = 1) (o : Value.okWide P w .any base t v)
    (h : DataW.Trod enc P w 0 (fun _ => true) true t v d p) : ∃ a L cap, v = .slice a L.length cap ∧ L.length ≤ maxLen ∧ IntsAt k w a L ∧ (a = none → cap = 0) := by
  obtain ⟨a, len, cap, rfl⟩ := WideShapes.okWide_slice ht o
  obtain ⟨fuel, hf⟩ := h
  rcases ChangeShapes.open_ints ht he hc hf with ⟨hcs, _⟩ | ⟨x, l, c, zs, hcs, _, hl, hm, hz, _, hcell, hwz⟩
  · simp [Value.cells] at hcs
    obtain ⟨rfl, rfl, rfl⟩ := hcs
    exact ⟨none, [], 0, rfl, by simp, IntsAt.nil _ _ _, fun _ => rfl⟩
  · simp [Value.cells] at hcs
    obtain ⟨rfl, rfl, rfl⟩ := hcs
    have hz' : zs.length = cap := by simpa using hz
    have hlen : (zs.take len).length = len := List.length_take_of_le (by omega)
    refine ⟨some x, zs.take len, cap, by rw [hlen], by rw [hlen]; omega, fun i hi => ?_, by simp⟩
    rw [hlen] at hi
    have h0 := hcell i (by omega)
    obtain ⟨b, off, spot⟩ := x
    have hspot : spot = none := by
      have := World.cell?_spot (hcell 0 (by omega))
      simpa [Addr.add] using this
    subst hspot
    rw [addr_add] at h0
    have e : (zs.take len).getD i 0 = zs.getD i 0 := by simp [List.getElem?_take_of_lt hi]
    refine ⟨b, off, rfl, World.block_lt_of_cell? w _ h0, by rw [e]; exact h0, ?_⟩
    rw [e, List.getD_eq_getElem?_getD, List.getElem?_eq_getElem (by omega : i < zs.length)]
    exact hwz _ (List.getElem_mem _)
end
end Go.Proofs.Ytnnlejllhmhmmaa
