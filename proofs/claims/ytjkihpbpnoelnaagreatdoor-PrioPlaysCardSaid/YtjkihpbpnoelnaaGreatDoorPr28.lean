/- PrioPlays: the walk, opened. -/
import Derived.Test.YtjkihpbpnoelnaaGreatDoorPr27
namespace Go.Proofs.YtjkihpbpnoelnaaGreatDoor
open Go.RowKit Go.Maps
set_option linter.unusedVariables false
set_option maxRecDepth 100000 in
theorem walk_PrioPlays (H : Type) (enc : TypeId × Value → H) (w : World) (base : Nat) (v0 : Value) (d0 : DataW H) (p0 : List MemPlace)
    (o0 : Value.okWide Tryz.prog w .any base 40 v0) (h0 : DataW.Trod enc Tryz.prog w 0 (fun _ => true) true 40 v0 d0 p0) (z0 : Sized Tryz.prog 40 d0)
    (hL : laidMet Tryz.prog Rows.prioPlaysRow.laid w) :
    Calls Tryz.prog 4 #[v0] w fun e w' => e = .returned (.bool true) ∧ Below w.heap.size w w' := by
  obtain ⟨a, D, c, rfl, hm, hD⟩ := open_do o0 h0 z0
  exact plays_any a _ c D w rfl hm hD
end Go.Proofs.YtjkihpbpnoelnaaGreatDoor
