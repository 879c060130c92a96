/- VarintTakes: the argument. -/
import Derived.Test.YtjeolfnmheofeaaVar6
import Derived.Test.YtjeolfnmheofeaaArgSl
namespace Go.Proofs.Ytjeolfnmheofeaa
open Go.RowKit
set_option linter.unusedVariables false
namespace Var

set_option maxRecDepth 100000 in
theorem walk_VarintTakes (H : Type) (enc : TypeId × Value → H) (w : World) (base : Nat) (v0 : Value) (d0 : DataW H) (p0 : List MemPlace)
    (o0 : Value.okWide Try.prog w .any base 22 v0) (h0 : DataW.Trod enc Try.prog w 0 (fun _ => true) true 22 v0 d0 p0) :
    Calls Try.prog 3 #[v0] w fun e w' => e = .returned (.bool true) ∧ Below w.heap.size w w' := by
  obtain ⟨a, L, cap, rfl, hS⟩ := open_sl Try.underlying22 Try.underlying5 (by kernel_rfl) o0 h0
  exact takes_law a cap L w hS

end Var
end Go.Proofs.Ytjeolfnmheofeaa
