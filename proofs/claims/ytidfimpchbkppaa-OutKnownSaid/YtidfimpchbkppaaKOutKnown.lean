/- The closed law OutKnown, run by the machine within the kernel. -/
import Derived.Test.YtidfimpchbkppaaRf14
import Derived.Test.YtidfimpchbkppaaRows
namespace Go.Proofs.Ytidfimpchbkppaa.KOutKnown
open Go Go.RowKit

theorem mixed : Try.prog.follows .mixedOrders = true := by kernel_rfl
theorem goes : Rf.runs Try.prog 14 100000 = true := by kernel_rfl
theorem walk_OutKnown (H : Type) (_ : TypeId × Value → H) (w : World) (_ : Nat) : Calls Try.prog 14 #[] w fun e w' => e = .returned (.bool true) ∧ Below w.heap.size w w' := Rf.runs_true mixed goes w
end Go.Proofs.Ytidfimpchbkppaa.KOutKnown
