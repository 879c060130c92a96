/- The closed law InKnown, run by the machine within the kernel. -/
import Derived.Test.YticnjdlapioppaaRf14
import Derived.Test.YticnjdlapioppaaRows
namespace Go.Proofs.Yticnjdlapioppaa.KInKnown
open Go Go.RowKit

theorem mixed : Try.prog.follows .mixedOrders = true := by kernel_rfl
theorem goes : Rf.runs Try.prog 7 100000 = true := by kernel_rfl
theorem walk_InKnown (H : Type) (_ : TypeId × Value → H) (w : World) (_ : Nat) : Calls Try.prog 7 #[] w fun e w' => e = .returned (.bool true) ∧ Below w.heap.size w w' := Rf.runs_true mixed goes w
end Go.Proofs.Yticnjdlapioppaa.KInKnown
