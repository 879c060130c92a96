/- Slices of numbers that came in. -/
import Derived.Test.YtgpnfdeneagdbaaGreatArgs
import Derived.Test.YtgpnfdeneagdbaaGreatBytes
namespace Go.Proofs.YtgpnfdeneagdbaaGreat
open Go.RowKit
set_option linter.unusedVariables false
section
variable {H : Type} {enc : TypeId × Value → H} {P : Program} {w : World} {base : Nat} {v : Value} {d : DataW H} {p : List MemPlace}
theorem open_sl {t e : TypeId} {k : IntKind} (ht : P.underlying t = some (.slice e)) (he : P.underlying e = some (.int k)) (hc : P.cellsOf e = 1) (o : Value.okWide P w .any base t v)
    (h : DataW.Trod enc P w 0 (fun _ => true) true t v d p) : ∃ a L cap, v = .slice a L.length cap ∧ Sl k w a cap L := by
  obtain ⟨a, len, cap, rfl⟩ := WideShapes.okWide_slice ht o
  have h' := h
  obtain ⟨fuel, hf⟩ := h
  rcases ChangeShapes.open_ints ht he hc hf with ⟨hcs, _⟩ | ⟨x, l, c, zs, hcs, _, hl, hm, hz, _, hcell, hwz⟩
  · simp [Value.cells] at hcs
    obtain ⟨rfl, rfl, rfl⟩ := hcs
    exact ⟨none, [], 0, rfl, Sl.nil _ _⟩
  · obtain ⟨a', L, cap', hv, h1, h2, h3⟩ := open_intslice ht he hc o h'
    simp [Value.cells] at hcs
    obtain ⟨rfl, rfl, rfl⟩ := hcs
    cases hv
    exact ⟨_, L, cap, rfl, h2, h3, hl, hm⟩
end
end Go.Proofs.YtgpnfdeneagdbaaGreat
