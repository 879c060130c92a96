/- The closed law StreamsKnown, run by the machine within the kernel. -/
import Derived.Test.YtgpnfdeneagdbaaGreatRf14
import Derived.Test.YtgpnfdeneagdbaaGreatRows
namespace Go.Proofs.YtgpnfdeneagdbaaGreat.KStreamsKnown
open Go Go.RowKit

theorem mixed : Tryz.prog.follows .mixedOrders = true := by kernel_rfl
theorem goes : Rf.runs Tryz.prog 4 100000 = true := by kernel_rfl
theorem walk_StreamsKnown (H : Type) (_ : TypeId × Value → H) (w : World) (_ : Nat) : Calls Tryz.prog 4 #[] w fun e w' => e = .returned (.bool true) ∧ Below w.heap.size w w' := Rf.runs_true mixed goes w
end Go.Proofs.YtgpnfdeneagdbaaGreat.KStreamsKnown
