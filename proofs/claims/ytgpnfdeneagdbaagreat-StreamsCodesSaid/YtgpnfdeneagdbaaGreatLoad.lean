/- A whole struct is loaded. -/
import Derived.Test.YtgpnfdeneagdbaaGreatBytes
import Derived.Laws.Rows
namespace Go.Proofs.YtgpnfdeneagdbaaGreat
open Go.RowKit
set_option linter.unusedVariables false
section
variable {P : Program} {ops : Array Oper} {rest : List Oper} {o : Oper} {a : Act} {w : World} {Q : Exit → Act → World → Prop}
theorem stop_load {d : Option Tmp} {t : TypeId} {x : Operand} {ty : TypeId} {pos : String} {aft : Array Edge} {g : Option (Nat × Bool)}
    (h : Stop (wpList P ops Q (⟨d, .load t x, ty, pos, aft, g⟩ :: rest) a w)) : wpList P ops Q (⟨d, .load t x, ty, pos, aft, g⟩ :: rest) a w := h
theorem wpList_loadAll {n : Nat} {t : TypeId} {fs : Array Field} (hu : P.underlying t = some (.struct fs)) (hi : (P.info? t).map (·.size) = some n) (hgd : Region.wanted o (yielded ops a.tmps) = true) {x : Operand} (ho : o.op = .load t x)
    {b : Nat} {cs : Array Value} {T : TypeId} (hx : a.eval x = .pointer (some ⟨b, 0, none⟩)) (hb : Blk w b cs T) (hn : cs.size = n)
    (h : wpList P ops Q rest (a.put o.dst (.agg cs)) w) : wpList P ops Q (o :: rest) a w := by
  refine BigFrame.wpList_want hgd fun K hK' => ?_
  refine wp_load_row t x ho b hx T cs _ _ hb hu rfl (by rw [hn]; exact hi) ?_
  exact hK' _ _ h
end
end Go.Proofs.YtgpnfdeneagdbaaGreat
