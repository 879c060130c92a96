/- Parts of a block loaded and stored whole (off the frames' part). -/
import Derived.Test.YtgpnfdeneagdbaaGreatLoad
import Derived.Test.YtgpnfdeneagdbaaGreatQuie
import Derived.Test.YtgpnfdeneagdbaaGreatCpK
namespace Go.Proofs.YtgpnfdeneagdbaaGreat
open Go.RowKit
set_option linter.unusedVariables false
section
variable {P : Program} {ops : Array Oper} {rest : List Oper} {o : Oper} {a : Act} {w : World} {Q : Exit → Act → World → Prop}
theorem run_loadPart {t : TypeId} {d : TypeDesc} {b q : Nat} {cs : List Value} (hu : P.underlying t = some d) (hd : (match d with | .struct _ | .array _ _ => true | _ => false) = true) (hi : (P.info? t).map (·.size) = some cs.length)
    (hc : ∀ j v, cs[j]? = some v → w.cell? ⟨b, q + j, none⟩ = some v) : (loadVar t ⟨b, q, none⟩).run P w = .ok (.agg cs.toArray) w := by
  have hl := run_loadCells_list (P := P) w ⟨b, q, none⟩ cs (fun j v hv => by rw [addr_add]; exact hc j v hv)
  cases hq : P.info? t with
  | none => simp [hq] at hi
  | some i =>
    have hs : i.size = cs.length := by simpa [hq] using hi
    have hagg : (isAgg t).run P w = .ok true w := by
      unfold isAgg
      rw [Sem.run_bind, run_underlying hu w]
      cases d <;> simp_all
    simp [loadVar, Sem.run_bind, hagg, sizeOf, typeInfo, hq, hs, hl]
theorem wpList_loadPart {t : TypeId} {d : TypeDesc} (cs : List Value) (hu : P.underlying t = some d) (hd : (match d with | .struct _ | .array _ _ => true | _ => false) = true) (hi : (P.info? t).map (·.size) = some cs.length)
    (hgd : Region.wanted o (yielded ops a.tmps) = true) {x : Operand} (ho : o.op = .load t x)
    {b q : Nat} (hx : a.eval x = .pointer (some ⟨b, q, none⟩)) (hc : ∀ j v, cs[j]? = some v → w.cell? ⟨b, q + j, none⟩ = some v)
    (h : wpList P ops Q rest (a.put o.dst (.agg cs.toArray)) w) : wpList P ops Q (o :: rest) a w := by
  refine BigFrame.wpList_want hgd fun K hK' => ?_
  unfold Oper.wp execOp
  simp only [ho, hx, Instr.loadAt, Instr.sureAddr, Sem.run_bind, Sem.run_pure, Result.andThen_ok, run_loadPart hu hd hi hc]
  exact hK' _ _ h
theorem wpQuiet_loadPart {C : World → Prop} {Q : Act → Prop} {t : TypeId} {d : TypeDesc} (cs : List Value) (hu : P.underlying t = some d) (hd : (match d with | .struct _ | .array _ _ => true | _ => false) = true) (hi : (P.info? t).map (·.size) = some cs.length)
    (hgd : Region.wanted o (yielded ops a.tmps) = true) {x : Operand} (ho : o.op = .load t x)
    {b q : Nat} (hx : a.eval x = .pointer (some ⟨b, q, none⟩)) (hc : ∀ w, C w → ∀ j v, cs[j]? = some v → w.cell? ⟨b, q + j, none⟩ = some v)
    (h : wpQuiet P ops C Q rest (a.put o.dst (.agg cs.toArray))) : wpQuiet P ops C Q (o :: rest) a :=
  wpQuiet_val hgd _ (fun w hw => by
    have hr := run_loadPart (P := P) hu hd hi (hc w hw)
    unfold execOp
    simp only [ho, hx, Instr.loadAt, Instr.sureAddr, Sem.run_bind, Sem.run_pure, Result.andThen_ok, hr]) h
theorem wpList_storePart (hgd : o.guard = none) {t : TypeId} {x y : Operand} (ho : o.op = .store t x y) {b q : Nat} {T : TypeId} (old cs : List Value) (hx : a.eval x = .pointer (some ⟨b, q, none⟩)) (hy : a.eval y = .agg cs.toArray)
    (hb : Blk w b old.toArray T) (hi : (P.info? t).map (·.size) = some cs.length) (hfit : q + cs.length ≤ old.length) (h1 : ∀ v ∈ cs, v.oneCell' = true)
    (h : ∀ w', Blk w' b (old.take q ++ cs ++ old.drop (q + cs.length)).toArray T → Only (· = b) w w' → wpList P ops Q rest (a.put o.dst undef) w') : wpList P ops Q (o :: rest) a w := by
  refine wpList_plain hgd fun K hK => ?_
  have hst := run_storeCells_at P b q T cs 0 old.toArray w hb (by simpa using hfit) h1
  cases hq : P.info? t with
  | none => simp [hq] at hi
  | some i =>
    have hs : cs.length = i.size := by simp [hq] at hi; omega
    have hr : (storeVar t ⟨b, q, none⟩ (.agg cs.toArray)).run P w = .ok () (w.setRow b (old.take q ++ cs ++ old.drop (q + cs.length)).toArray) := by
      simpa [storeVar, sizeOf, typeInfo, hq, Value.cells, hs] using hst
    unfold Oper.wp execOp
    simp only [ho, hx, hy, Instr.storeAt, Instr.sureAddr, Sem.run_bind, Sem.run_pure, Result.andThen_ok, hr]
    exact hK _ _ (h _ (setRow_heap w b _ _ _ _ hb) ⟨rfl, rfl, rfl, by simp [World.setRow], fun k hk hs => setRow_other _ _ _ _ hs⟩)
end
end Go.Proofs.YtgpnfdeneagdbaaGreat
