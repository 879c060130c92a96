/- A set of streams: where one stands. -/
import Derived.Test.YtgpnfdeneagdbaaGreatCo6
namespace Go.Proofs.YtgpnfdeneagdbaaGreat
open Go.RowKit
set_option linter.unusedVariables false
set_option maxRecDepth 100000 in
theorem at_any (s base : Nat) (a : Option Addr) (n cap : Nat) (L : List Strm) (id : Nat) (w : World) (hc : w.cell? ⟨s, 70, none⟩ = some (.slice a n cap)) (hn : n = L.length) (hO : OwnS w base 68 28 a n cap (L.flatMap ssV)) (hA : Asc L) (hlen : L.length ≤ 256) :
    Calls Tryz.prog 33 #[.pointer (some ⟨s, 0, none⟩), .int .u64 id] w fun e w' => Below w.heap.size w w' ∧ e = .returned (.tuple #[.int .i64 (posL id L : Nat), .bool (hasL id L)]) := by
  have HB := Lib.hid (bsearch_any base a n cap L id w hn hO hA hlen)
  clear hn hO hA hlen
  go_enter Tryz.func33, Tryz.ntmps33
  go_wp2_with (fail)
  refine HB.out.mono ?_
  rintro e w1 ⟨hb, rfl⟩
  go_wp2_with (fail)
  go_returns
  exact ⟨hb, rfl⟩
end Go.Proofs.YtgpnfdeneagdbaaGreat
