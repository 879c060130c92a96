/- Sent: counts in a map; the law's own 'same'. -/
import Derived.Test.YtidfimpchbkppaaBytes
import Derived.Maps.OwnSet
import Derived.Maps.Own
import Derived.Maps.OwnOps
import Derived.Maps.Views
namespace Go.Proofs.Ytidfimpchbkppaa
open Go.RowKit Go.Maps
set_option linter.unusedVariables false

theorem cnt_keyed : Keyed Try.prog 28 := int_keyed Try.underlying28
theorem cnt_zero (w : World) : (zeroValue 3).run Try.prog w = .ok (.int .i64 0) w := by kernel_rfl
/-- The map in block b tells how often each number is in T. -/
def Cnt (w : World) (b : Nat) (T : List Int) : Prop :=
  ∃ (n : Nat) (D : DataW Unit), w.ownsMap Try.prog 28 (plainElem Try.prog 3) b n D ∧ n ≤ T.length ∧ IsMap D ∧ ∀ x : Int, D.atKey (.int .u64 x) (.lit (.int .i64 0)) = .lit (.int .i64 (T.count x))
theorem Cnt.made (w : World) : Cnt (w.alloc (.map #[] 0)) w.heap.size [] :=
  ⟨0, .map [], World.ownsMap_made _ _ _ _, by simp, ⟨[], rfl⟩, fun x => by simp [DataW.atKey]⟩
theorem Cnt.lt {w : World} {b : Nat} {T : List Int} (h : Cnt w b T) : b < w.heap.size := by
  obtain ⟨n, D, h1, _⟩ := h
  exact h1.lt
theorem Cnt.keep {w w' : World} {b : Nat} {T : List Int} (h : Cnt w b T) (hk : w'.heap[b]? = w.heap[b]?) : Cnt w' b T := by
  obtain ⟨n, D, ⟨es, clock, hb, F, hs, hD⟩, r⟩ := h
  exact ⟨n, D, ⟨es, clock, hk.trans hb, F, hs, hD⟩, r⟩
section
variable {ops : Array Oper} {rest : List Oper} {o : Oper} {a : Act} {w : World} {Q : Exit → Act → World → Prop}
theorem wpList_cget (hg : o.guard = none) {m x : Operand} (hop : o.op = Op.lookup 115 m x false) {b : Nat} {T : List Int} (hT : Cnt w b T) {y : Int} (hm : a.eval m = .map (some b)) (hx : a.eval x = .int .u64 y) (hy : (Lit.int .u64 y).wf = true)
    (h : wpList Try.prog ops Q rest (a.put o.dst (.int .i64 (T.count y))) w) : wpList Try.prog ops Q (o :: rest) a w := by
  obtain ⟨n, D, h1, h2, h3, h4⟩ := hT
  refine wpList_lookup_own_int w hg m x _ hop 28 3 .i64 cnt_keyed Try.underlying115 Try.underlying3 (cnt_zero _) b n D hm h1 _ _ hx (keyOf_int_mk Try.underlying28 hy) fun c hc _ => ?_
  rw [h4 y] at hc
  cases hc
  exact h
theorem wpList_cput (hg : o.guard = none) {m x v : Operand} (hop : o.op = Op.mapUpdate 115 m x v) {b : Nat} {T : List Int} (hT : Cnt w b T) (hl : T.length < maxLen) {y : Int} (hm : a.eval m = .map (some b)) (hx : a.eval x = .int .u64 y) (hv : a.eval v = .int .i64 ((T.count y : Int) + 1)) (hy : (Lit.int .u64 y).wf = true)
    (h : ∀ w', Cnt w' b (y :: T) → Only (· = b) w w' → wpList Try.prog ops Q rest (a.put o.dst undef) w') : wpList Try.prog ops Q (o :: rest) a w := by
  obtain ⟨n, D, h1, h2, h3, h4⟩ := hT
  have hcl : T.count y ≤ T.length := List.count_le_length
  have hwf : (Lit.int .i64 ((T.count y : Int) + 1)).wf = true := by
    have e1 : IntKind.i64.min = -9223372036854775808 := rfl
    have e2 : IntKind.i64.max = 9223372036854775807 := rfl
    unfold maxLen at hl
    simp [Lit.wf, e1, e2]
    omega
  refine wpList_mapUpdate_own w hg m x v _ hop 28 3 cnt_keyed Try.underlying115 (plainElem Try.prog 3) b n D hm h1 (by omega) _ _ _ hx hv (keyOf_int_mk Try.underlying28 hy) _ [] (plainElem_int Try.underlying3 hwf) ?_
  intro w' h5 hgr
  refine h w' ⟨n + 1, _, h5, by simp; omega, ?_, fun z => ?_⟩ ⟨hgr.os, hgr.tape, hgr.output, hgr.size, fun k hk hs => hgr.block k hk (fun e => hs (by cases e; rfl))⟩
  · obtain ⟨es, rfl⟩ := h3
    exact ⟨_, rfl⟩
  · by_cases hzy : z = y
    · subst hzy
      rw [atKey_put_same (k := .int .u64 z) h3 trivial]
      simp
    · rw [atKey_put_other (by intro e; cases e; exact hzy rfl), h4 z]
      simp [List.count_cons, Ne.symm hzy]
theorem stop_cget {d : Option Tmp} {t : TypeId} {m x : Operand} {b : Bool} {ty : TypeId} {pos : String} {aft : Array Edge} {g : Option (Nat × Bool)}
    (h : Stop (wpList Try.prog ops Q (⟨d, .lookup t m x b, ty, pos, aft, g⟩ :: rest) a w)) : wpList Try.prog ops Q (⟨d, .lookup t m x b, ty, pos, aft, g⟩ :: rest) a w := h
theorem stop_cput {d : Option Tmp} {t : TypeId} {m x v : Operand} {ty : TypeId} {pos : String} {aft : Array Edge} {g : Option (Nat × Bool)}
    (h : Stop (wpList Try.prog ops Q (⟨d, .mapUpdate t m x v, ty, pos, aft, g⟩ :: rest) a w)) : wpList Try.prog ops Q (⟨d, .mapUpdate t m x v, ty, pos, aft, g⟩ :: rest) a w := h
end
end Go.Proofs.Ytidfimpchbkppaa
