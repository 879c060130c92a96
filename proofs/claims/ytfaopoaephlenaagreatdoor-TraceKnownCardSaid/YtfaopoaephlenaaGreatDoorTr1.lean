/- The document's examples, run by the machine over the tables that the row lays. -/
import Derived.Test.YtfaopoaephlenaaGreatDoorRf14
import Derived.Test.YtfaopoaephlenaaGreatDoorRows
namespace Go.Proofs.YtfaopoaephlenaaGreatDoor
open Go Go.RowKit

def ns_laid_math_bits_deBruijn32tab : List Int := [0, 1, 28, 2, 29, 14, 24, 3, 30, 22, 20, 15, 25, 17, 4, 8, 31, 27, 13, 23, 21, 19, 16, 7, 26, 12, 18, 6, 11, 5, 10, 9]
def ns_laid_math_bits_deBruijn64tab : List Int := [0, 1, 56, 2, 57, 49, 28, 3, 61, 58, 42, 50, 38, 29, 17, 4, 62, 47, 59, 36, 45, 43, 51, 22, 53, 39, 33, 30, 24, 18, 12, 5, 63, 55, 48, 27, 60, 41, 37, 16, 46, 35, 44, 21, 52, 32, 23, 11, 54, 26, 40, 15, 34, 20, 31, 10, 25, 14, 19, 9, 13, 8, 7, 6]
def ns_laid_internal_strconv_uint64pow10 : List Int := [1, 10, 100, 1000, 10000, 100000, 1000000, 10000000, 100000000, 1000000000, 10000000000, 100000000000, 1000000000000, 10000000000000, 100000000000000, 1000000000000000, 10000000000000000, 100000000000000000, 1000000000000000000, 10000000000000000000]
def tabs : List (Nat × List Value) := [(6, ns_laid_math_bits_deBruijn32tab.map (Value.int .u8)),
  (7, ns_laid_math_bits_deBruijn64tab.map (Value.int .u8)),
  (3, ns_laid_internal_strconv_uint64pow10.map (Value.int .u64))]
theorem tab_mixed : Tryz.prog.follows .mixedOrders = true := by kernel_rfl
theorem tab_goes : Rf.runsG Tryz.prog tabs 9 7 100000 = true := by kernel_rfl
theorem tworks_any (W : World) (hG : ∀ g c, (g, c) ∈ tabs → W.rangeAt g 0 c ∧ g < W.heap.size) : Calls Tryz.prog 7 #[] W fun e W' => e = .returned (.bool true) ∧ Below W.heap.size W W' := Rf.runsG_true tab_mixed tab_goes W hG
end Go.Proofs.YtfaopoaephlenaaGreatDoor
