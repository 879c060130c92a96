/- Two arrays of numbers that are the same, held against each other in a drawn region. -/
import Derived.Test.YtgpnfdeneagdbaaGreatCo23
import Derived.Test.YtgpnfdeneagdbaaGreatBytes
import Derived.Test.YtgpnfdeneagdbaaGreatQuie
import Derived.ChangeKeysEq
import Derived.Laws.StructEq
namespace Go.Proofs.YtgpnfdeneagdbaaGreat
open Go.RowKit
set_option linter.unusedVariables false
section
variable {P : Program}
theorem run_items_kd (kd : IntKind) (d : Nat) {e : TypeId} (he : P.plainKey e = true) (hu : P.underlying e = some (.int kd)) (L M : List Int) (w : World) : ∀ is : List Nat, (∀ i ∈ is, i < L.length ∧ i < M.length) →
    (Op.eqItems (d + 1) e 1 (L.map (Value.int kd)).toArray (M.map (Value.int kd)).toArray is).run P w = .ok (is.all fun i => L.getD i 0 == M.getD i 0) w := by
  intro is
  induction is with
  | nil => intro _; rfl
  | cons i is ih =>
    intro h
    obtain ⟨h1, h2⟩ := h i (by simp)
    have e1 : (L.map (Value.int kd)).toArray[i * 1]? = some (.int kd (L.getD i 0)) := by simp [List.getD_eq_getElem?_getD, h1]
    have e2 : (M.map (Value.int kd)).toArray[i * 1]? = some (.int kd (M.getD i 0)) := by simp [List.getD_eq_getElem?_getD, h2]
    simp only [Op.eqItems, Sem.run_bind, run_part_plain w he e1, run_part_plain w he e2, Result.andThen, run_equalIn_int w d e kd kd _ _ hu]
    by_cases hq : L.getD i 0 = M.getD i 0
    · have hb : (L.getD i 0 == M.getD i 0) = true := by simpa using hq
      rw [List.all_cons, hb, Bool.true_and]
      simpa using ih (fun j hj => h j (by simp [hj]))
    · have hb : (L.getD i 0 == M.getD i 0) = false := by simpa using hq
      rw [List.all_cons, hb, Bool.false_and]
      simp [Sem.run_pure]
theorem all_range_eq (L M : List Int) (h : L.length = M.length) : ((List.range L.length).all fun i => L.getD i 0 == M.getD i 0) = decide (L = M) := by
  by_cases he : L = M
  · subst he; simp
  · rw [decide_eq_false he, List.all_eq_false]
    apply Classical.byContradiction
    intro hn
    apply he
    apply List.ext_getElem h
    intro i h1 h2
    apply Classical.byContradiction
    intro hne
    apply hn
    refine ⟨i, by simp [h1], ?_⟩
    simp [List.getD_eq_getElem?_getD, h1, h2, hne]

variable {ops : Array Oper} {rest : List Oper} {o : Oper} {a : Act} {C : World → Prop} {Q : Act → Prop}
theorem wpQuiet_neSame (kd : IntKind) {t ty e : TypeId} {n : Nat} {i : TypeInfo} (hu : P.underlying t = some (.array n e)) (hi : P.info? e = some i) (hc : P.cellsOf e = 1) (he : P.plainKey e = true) (hue : P.underlying e = some (.int kd))
    (hgd : Region.wanted o (yielded ops a.tmps) = true) {x y : Operand} (ho : o.op = .binOp .neq t x y ty) {xs ys : Array Value} (hx : a.eval x = .agg xs) (hy : a.eval y = .agg ys) (L : List Int) (hl : L.length = n) (e1 : xs = (L.map (Value.int kd)).toArray) (e2 : ys = (L.map (Value.int kd)).toArray)
    (hg : ∀ w, (eqGuard .neq t x y (.agg xs) (.agg ys)).run P w = .ok () w)
    (h : wpQuiet P ops C Q rest (a.put o.dst (.bool false))) : wpQuiet P ops C Q (o :: rest) a := by
  subst e1 e2
  refine wpQuiet_val hgd _ (fun w hw => ?_) h
  have hr : (binOp .neq t (.agg (L.map (Value.int kd)).toArray) (.agg (L.map (Value.int kd)).toArray)).run P w = .ok (.bool (!decide (L = L))) w := by
    rw [run_neq_struct, show 10000 = 9999 + 1 from rfl, run_equalIn_array w 9999 _ _ hu hi, hc, show 9999 = 9998 + 1 from rfl, run_items_kd kd 9998 he hue L L w _ (by intro i hi; simp at hi; omega), ← hl, all_range_eq L L (by omega)]
    rfl
  simp only [execOp, ho, hx, hy]
  simp only [Sem.run_bind, hg, hr, Result.andThen]
  simp
end
theorem u64_info : ∃ i, (Tryz.prog).info? 23 = some i := Option.isSome_iff_exists.1 (by kernel_rfl)
theorem u64_cells : (Tryz.prog).cellsOf 23 = 1 := by kernel_rfl
theorem u64_plain : (Tryz.prog).plainKey 23 = true := by kernel_rfl
end Go.Proofs.YtgpnfdeneagdbaaGreat
