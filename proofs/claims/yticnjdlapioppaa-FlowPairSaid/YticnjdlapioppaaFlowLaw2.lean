/- FlowPair: the arguments. -/
import Derived.Test.YticnjdlapioppaaFlowLaw
namespace Go.Proofs.Yticnjdlapioppaa
open Go.RowKit
set_option linter.unusedVariables false
namespace Flow

set_option maxRecDepth 100000 in
theorem walk_FlowPair (H : Type) (enc : TypeId × Value → H) (w : World) (base : Nat) (v0 : Value) (d0 : DataW H) (p0 : List MemPlace) (v1 : Value) (d1 : DataW H) (p1 : List MemPlace) (v2 : Value) (d2 : DataW H) (p2 : List MemPlace)
    (o0 : Value.okWide Try.prog w .any base 22 v0) (h0 : DataW.Trod enc Try.prog w 0 (fun _ => true) true 22 v0 d0 p0)
    (o1 : Value.okWide Try.prog w .any base 23 v1) (h1 : DataW.Trod enc Try.prog w 0 (fun _ => true) true 23 v1 d1 p1)
    (o2 : Value.okWide Try.prog w .any base 23 v2) (h2 : DataW.Trod enc Try.prog w 0 (fun _ => true) true 23 v2 d2 p2) :
    Calls Try.prog 3 #[v0, v1, v2] w fun e w' => e = .returned (.bool true) ∧ Below w.heap.size w w' := by
  obtain ⟨x, rfl, rfl, rfl, wx⟩ := ChangeShapes.open_int Try.underlying22 o0 h0
  have hx := bounds_u32 wx
  obtain ⟨a, A, ac, rfl, hal, hA, han⟩ := open_intslice Try.underlying23 Try.underlying35 (by kernel_rfl) o1 h1
  obtain ⟨c, C, cc, rfl, hcl, hC, hcn⟩ := open_intslice Try.underlying23 Try.underlying35 (by kernel_rfl) o2 h2
  exact pair_law x a c ac cc A C w hx.1 hx.2 hA hC hal hcl

end Flow
end Go.Proofs.Yticnjdlapioppaa
