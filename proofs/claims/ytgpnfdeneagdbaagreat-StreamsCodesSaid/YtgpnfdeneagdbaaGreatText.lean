/- Texts set one behind the other. -/
import Derived.Test.YtgpnfdeneagdbaaGreatBytes
import Derived.Laws.Concat
namespace Go.Proofs.YtgpnfdeneagdbaaGreat
open Go.RowKit
set_option linter.unusedVariables false
section
variable {P : Program} {ops : Array Oper} {rest : List Oper} {o : Oper} {a : Act} {w : World} {Q : Exit → Act → World → Prop}
theorem stop_add {d : Option Tmp} {x y : Operand} {t2 ty : TypeId} {pos : String} {aft : Array Edge} {g : Option (Nat × Bool)}
    (h : Stop (wpList P ops Q (⟨d, .binOp .add 9 x y t2, ty, pos, aft, g⟩ :: rest) a w)) : wpList P ops Q (⟨d, .binOp .add 9 x y t2, ty, pos, aft, g⟩ :: rest) a w := h
theorem wpList_concat {t ty : TypeId} (hgd : Region.wanted o (yielded ops a.tmps) = true) {x y : Operand} (ho : o.op = .binOp .add t x y ty) {L M : List Int} (hx : a.eval x = .string (strOfNums L)) (hy : a.eval y = .string (strOfNums M)) (hl : L.length + M.length ≤ 9223372036854775807)
    (h : wpList P ops Q rest (a.put o.dst (.string (strOfNums (L ++ M)))) w) : wpList P ops Q (o :: rest) a w := by
  refine BigFrame.wpList_want hgd fun K hK' => ?_
  have hr : (binOp .add t (.string (strOfNums L)) (.string (strOfNums M))).run P w = .ok (.string (strOfNums (L ++ M))) w := by
    rw [binOp_string_add, run_string_add_sum (P := P) w _ _ (by rw [strOfNums_size, strOfNums_size]; exact hl), str_append]
  have hr2 : eqGuard .add t x y (.string (strOfNums L)) (.string (strOfNums M)) = pure () := eqGuard_at_string ..
  unfold Oper.wp
  simp only [execOp, ho, hx, hy, hr2]
  simp [Result.andThen, hr]
  exact hK' _ _ h
end
end Go.Proofs.YtgpnfdeneagdbaaGreat
