/- The document's Whole, Hex. -/
import Derived.Test.YthangjgdjhhfgaaGreatDoorScW8
namespace Go.Proofs.YthangjgdjhhfgaaGreatDoor
open Go.RowKit
set_option linter.unusedVariables false
set_option maxRecDepth 100000 in
set_option maxHeartbeats 4000000 in
theorem whole_any (n : Int) (w : World) (h0 : -9223372036854775808 ≤ n) (h1 : n ≤ 9223372036854775807) :
    Calls Tryz.prog 33 #[.int .i64 n] w fun e w' => e = .returned (.string (tx (wholeS n))) ∧ Below w.heap.size w w' := by
  by_cases hn : n < 0
  · have hl := dig_len (n := n.natAbs) (by omega)
    have hadd : ∀ W, (Op.stringOp .add (tx [45]) (tx (dig n.natAbs))).run Tryz.prog W = .ok (.string (tx (wholeS n))) W := fun W => by
      rw [wholeS, if_pos hn]; exact run_add _ _ [45] _ (by simp; omega)
    have hw : IntKind.u64.wrap (-IntKind.u64.wrap n) = (n.natAbs : Int) := by
      simp only [IntKind.wrap_u64]
      omega
    have HDG := Lib.hid (digits_any n.natAbs n.natAbs w (Nat.le_refl _) (by omega))
    clear hl
    go_enter Tryz.func33, Tryz.ntmps33
    go_wp2_with (fail)
    refine HDG.out.mono ?_
    rintro e w1 ⟨rfl, hb1⟩
    go_wp2_with (fail)
    go_returns
    exact ⟨rfl, hb1⟩
  · have hl := digits_any n.toNat n.toNat w (Nat.le_refl _) (by omega)
    rw [show ((n.toNat : Nat) : Int) = n by omega] at hl
    have HW := Lib.hid (show wholeS n = dig n.toNat by rw [wholeS, if_neg hn])
    rw [HW.out]
    have HD := Lib.hid hl
    clear hl
    go_enter Tryz.func33, Tryz.ntmps33
    go_wp2_with (fail)
    refine HD.out.mono ?_
    rintro e w1 ⟨rfl, hb1⟩
    go_wp2_with (fail)
    go_returns
    exact ⟨rfl, hb1⟩
end Go.Proofs.YthangjgdjhhfgaaGreatDoor
