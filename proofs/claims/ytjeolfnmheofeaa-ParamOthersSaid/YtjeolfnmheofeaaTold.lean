/- A set of numbers, as a call keeps it: map[uint64]struct{}. -/
import Derived.Test.YtjeolfnmheofeaaOwn
import Derived.Maps.OwnSet
import Derived.Maps.Own
namespace Go.Proofs.Ytjeolfnmheofeaa
open Go.RowKit Go.Maps
set_option linter.unusedVariables false

theorem told_keyed : Keyed Try.prog 24 := int_keyed Try.underlying24
theorem told_zero (w : World) : (zeroValue 95).run Try.prog w = .ok (.agg #[]) w := by kernel_rfl

/-- The map in block b holds the numbers of T. -/
def Told (w : World) (b : Nat) (T : List Int) : Prop :=
  ∃ (n : Nat) (D : DataW Unit), w.ownsMap Try.prog 24 unitElem b n D ∧ n ≤ T.length ∧ IsMap D ∧ ∀ x : Int, (Lit.int .u64 x).wf = true → Maps.has D (.int .u64 x) = decide (x ∈ T)
theorem Told.made (w : World) : Told (w.alloc (.map #[] 0)) w.heap.size [] :=
  ⟨0, .map [], World.ownsMap_made _ _ _ _, by simp, ⟨[], rfl⟩, fun x _ => by simp [Maps.has]⟩
theorem Told.lt {w : World} {b : Nat} {T : List Int} (h : Told w b T) : b < w.heap.size := by
  obtain ⟨n, D, h1, _⟩ := h
  exact h1.lt
theorem Told.keep {w w' : World} {b : Nat} {T : List Int} (h : Told w b T) (hk : w'.heap[b]? = w.heap[b]?) : Told w' b T := by
  obtain ⟨n, D, ⟨es, clock, hb, F, hs, hD⟩, r⟩ := h
  exact ⟨n, D, ⟨es, clock, hk.trans hb, F, hs, hD⟩, r⟩
theorem Told.below {w w' : World} {b : Nat} {T : List Int} (h : Told w b T) (hb : Below w.heap.size w w') : Told w' b T := h.keep (hb.block _ h.lt)
theorem Told.only {S : Nat → Prop} {w w' : World} {b : Nat} {T : List Int} (h : Told w b T) (hb : Only S w w') (hs : ¬ S b) : Told w' b T := h.keep (hb.block _ h.lt hs)

section
variable {ops : Array Oper} {rest : List Oper} {o : Oper} {a : Act} {w : World} {Q : Exit → Act → World → Prop}
theorem wpList_told (hg : o.guard = none) {m x : Operand} (hop : o.op = Op.lookup 94 m x true) {b : Nat} {T : List Int} (hT : Told w b T) {y : Int} (hm : a.eval m = .map (some b)) (hx : a.eval x = .int .u64 y) (hy : (Lit.int .u64 y).wf = true)
    (h : wpList Try.prog ops Q rest (a.put o.dst (.tuple #[.agg #[], .bool (decide (y ∈ T))])) w) : wpList Try.prog ops Q (o :: rest) a w := by
  obtain ⟨n, D, h1, h2, h3, h4⟩ := hT
  refine wpList_lookup_own_unit w hg m x _ hop 24 95 told_keyed Try.underlying94 (told_zero _) b n D hm h1 _ _ hx (keyOf_int_mk Try.underlying24 hy) ?_
  rw [h4 y hy]
  exact h
theorem wpList_tell (hg : o.guard = none) {m x v : Operand} (hop : o.op = Op.mapUpdate 94 m x v) {b : Nat} {T : List Int} (hT : Told w b T) (hl : T.length < maxLen) {y : Int} (hm : a.eval m = .map (some b)) (hx : a.eval x = .int .u64 y) (hv : a.eval v = .agg #[]) (hy : (Lit.int .u64 y).wf = true)
    (h : ∀ w', Told w' b (y :: T) → Only (· = b) w w' → wpList Try.prog ops Q rest (a.put o.dst undef) w') : wpList Try.prog ops Q (o :: rest) a w := by
  obtain ⟨n, D, h1, h2, h3, h4⟩ := hT
  refine wpList_mapUpdate_own w hg m x v _ hop 24 95 told_keyed Try.underlying94 unitElem b n D hm h1 (by omega) _ _ _ hx hv (keyOf_int_mk Try.underlying24 hy) _ [] unitElem_mk ?_
  intro w' h5 hgr
  refine h w' ⟨n + 1, _, h5, by simp; omega, ?_, fun z hz => ?_⟩ ⟨hgr.os, hgr.tape, hgr.output, hgr.size, fun k hk hs => hgr.block k hk (fun e => hs (by cases e; rfl))⟩
  · obtain ⟨es, rfl⟩ := h3
    exact ⟨_, rfl⟩
  · by_cases hzy : z = y
    · subst hzy
      rw [has_put_same (k := .int .u64 z) h3 trivial]
      simp
    · rw [has_put_other (by intro e; cases e; exact hzy rfl), h4 z hz]
      simp [hzy]
end
end Go.Proofs.Ytjeolfnmheofeaa
