/- The map of priorities by number, of the call's own. -/
import Derived.Test.YtjkihpbpnoelnaaGreatDoorPr20
import Derived.Maps.RangeWalk
namespace Go.Proofs.YtjkihpbpnoelnaaGreatDoor
open Go.RowKit Go.Maps
set_option linter.unusedVariables false
/-- How a priority reads. -/
def prioElem (v : Value) : Option (DataW Unit × List MemPlace) := match v with
  | .agg ⟨[.int .u8 u, .bool b]⟩ => some (.agg [.lit (.int .u8 u), .lit (.bool b)], [])
  | _ => none
def pd (u : Nat) (b : Bool) : DataW Unit := .agg [.lit (.int .u8 (u : Int)), .lit (.bool b)]
theorem prioElem_mk (u : Nat) (b : Bool) : prioElem (.agg #[.int .u8 (u : Int), .bool b]) = some (pd u b, []) := rfl
theorem prioElem_inv {v : Value} {u : Nat} {b : Bool} {ps : List MemPlace} (h : prioElem v = some (pd u b, ps)) : v = .agg #[.int .u8 (u : Int), .bool b] := by
  unfold prioElem at h
  split at h
  · simp only [Option.some.injEq, Prod.mk.injEq, pd, DataW.agg.injEq, List.cons.injEq, DataW.lit.injEq, Lit.int.injEq, Lit.bool.injEq, and_true, true_and] at h
    obtain ⟨⟨rfl, rfl⟩, _⟩ := h
    rfl
  · cases h
theorem prio_zero (w : World) : (zeroValue 26).run Tryz.prog w = .ok (.agg #[.int .u8 0, .bool false]) w := by kernel_rfl
/-- The map in block b, turned k times at most, holds the priority of each stream of the plan. -/
def PMap (w : World) (b k : Nat) (L : List Strm) : Prop :=
  ∃ (n : Nat) (D : DataW Unit), w.ownsMap Tryz.prog 31 prioElem b n D ∧ n ≤ k ∧ IsMap D ∧ ∀ y ∈ L, ∀ z, D.atKey (.int .u64 (y.id : Int)) z = pd y.urg y.inc
theorem PMap.made (w : World) : PMap (w.alloc (.map #[] 0)) w.heap.size 0 [] := ⟨0, .map [], World.ownsMap_made _ _ _ _, by simp, isMap_empty, fun y h => (by cases h)⟩
theorem PMap.lt {w : World} {b k : Nat} {L : List Strm} (h : PMap w b k L) : b < w.heap.size := by
  obtain ⟨n, D, h1, _⟩ := h
  exact h1.lt
theorem PMap.keep {w w' : World} {b k : Nat} {L : List Strm} (h : PMap w b k L) (hk : w'.heap[b]? = w.heap[b]?) : PMap w' b k L := by
  obtain ⟨n, D, ⟨es, clock, hb, F, hs, hD⟩, r⟩ := h
  exact ⟨n, D, ⟨es, clock, hk.trans hb, F, hs, hD⟩, r⟩
theorem PMap.below {w w' : World} {b k : Nat} {L : List Strm} (h : PMap w b k L) (hb : Below w.heap.size w w') : PMap w' b k L := h.keep (hb.block _ h.lt)
theorem PMap.only {S : Nat → Prop} {w w' : World} {b k : Nat} {L : List Strm} (h : PMap w b k L) (hb : Only S w w') (hs : ¬ S b) : PMap w' b k L := h.keep (hb.block _ h.lt hs)
/-- Other streams, of the same priorities. -/
theorem PMap.turn {w : World} {b k : Nat} {L L' : List Strm} (h : PMap w b k L) (hL : ∀ y ∈ L', ∃ x ∈ L, x.id = y.id ∧ x.urg = y.urg ∧ x.inc = y.inc) : PMap w b k L' := by
  obtain ⟨n, D, h1, h2, h3, h4⟩ := h
  refine ⟨n, D, h1, h2, h3, fun y hy z => ?_⟩
  obtain ⟨x, hx, e1, e2, e3⟩ := hL y hy
  rw [← e1, ← e2, ← e3]; exact h4 x hx z
section
variable {ops : Array Oper} {rest : List Oper} {o : Oper} {a : Act} {w : World} {Q : Exit → Act → World → Prop}
theorem wpList_want {P : Program} (hg : Region.wanted o (yielded ops a.tmps) = true) (h : ∀ K, (∀ a' w', wpList P ops Q rest a' w' → K a' w') → o.wp P a w K Q) : wpList P ops Q (o :: rest) a w := BigFrame.wpList_want hg fun K hK => h K hK
/-- What stands at a stream's number. -/
theorem wpList_atprio (hg : Region.wanted o (yielded ops a.tmps) = true) {m x : Operand} (hop : o.op = Op.lookup 50 m x false) {b k : Nat} {L : List Strm} (hT : PMap w b k L) {y : Strm} (hy : y ∈ L) {id : Nat} (hid : y.id = id) (hm : a.eval m = .map (some b)) (hx : a.eval x = .int .u64 (id : Int)) (h64 : u64Ok id)
    (h : wpList Tryz.prog ops Q rest (a.put o.dst (.agg #[.int .u8 (y.urg : Int), .bool y.inc])) w) : wpList Tryz.prog ops Q (o :: rest) a w := by
  obtain ⟨n, D, h1, h2, h3, h4⟩ := hT
  subst hid
  refine BigFrame.wpList_want hg fun K hK => ?_
  obtain ⟨v, ps, hrun, hv⟩ := h1.lookup set_keyed Tryz.underlying50 (prio_zero w) (prioElem_mk 0 false) (keyOf_int_mk Tryz.underlying31 (u64_wf h64))
  rw [h4 y hy] at hv
  obtain rfl := prioElem_inv hv
  unfold Oper.wp
  simp [execOp, hop, hm, hx, hrun, Result.andThen]
  exact hK _ _ h
theorem wpList_setprio (hg : o.guard = none) {m x v : Operand} (hop : o.op = Op.mapUpdate 50 m x v) {b k : Nat} {L L' : List Strm} (hT : PMap w b k L) (hl : k < maxLen) {id u : Nat} {f : Bool} (hm : a.eval m = .map (some b)) (hx : a.eval x = .int .u64 (id : Int)) (hv : a.eval v = .agg #[.int .u8 (u : Int), .bool f]) (h64 : u64Ok id)
    (hL : ∀ y ∈ L', (y.id = id ∧ y.urg = u ∧ y.inc = f) ∨ (y ∈ L ∧ y.id ≠ id))
    (h : ∀ w', PMap w' b (k + 1) L' → Only (· = b) w w' → wpList Tryz.prog ops Q rest (a.put o.dst undef) w') : wpList Tryz.prog ops Q (o :: rest) a w := by
  obtain ⟨n, D, h1, h2, h3, h4⟩ := hT
  refine wpList_mapUpdate_own w hg m x v _ hop 31 26 set_keyed Tryz.underlying50 prioElem b n D hm h1 (by omega) _ _ _ hx hv (keyOf_int_mk Tryz.underlying31 (u64_wf h64)) _ [] (prioElem_mk u f) ?_
  intro w' h6 hgr
  refine h w' ⟨n + 1, _, h6, by omega, h3.put _ _, fun y hy z => ?_⟩ ⟨hgr.os, hgr.tape, hgr.output, hgr.size, fun k hk hs => hgr.block k hk (fun e => hs (by cases e; rfl))⟩
  rcases hL y hy with ⟨e1, e2, e3⟩ | ⟨hy', hne⟩
  · rw [e1, e2, e3, atKey_put_same h3 (show WideAt.IsKeyLit (.int .u64 (id : Int)) from trivial)]
  · rw [atKey_put_other (by intro e; injection e with e1 e2; omega)]
    exact h4 y hy' z
theorem wpList_delprio (hg : o.guard = none) {m x : Operand} (hop : o.op = Op.call { callee := Callee.builtin Builtin.delete, args := #[m, x], argTypes := #[50, 31] }) {b k : Nat} {L L' : List Strm} (hT : PMap w b k L) {id : Nat} (hm : a.eval m = .map (some b)) (hx : a.eval x = .int .u64 (id : Int)) (h64 : u64Ok id)
    (hL : ∀ y ∈ L', y ∈ L ∧ y.id ≠ id)
    (h : ∀ w', PMap w' b k L' → Only (· = b) w w' → wpList Tryz.prog ops Q rest (a.put o.dst (.tuple #[])) w') : wpList Tryz.prog ops Q (o :: rest) a w := by
  obtain ⟨n, D, h1, h2, h3, h4⟩ := hT
  refine wpList_delete_own w hg m x _ 31 hop 26 set_keyed Tryz.underlying50 prioElem b n D hm h1 _ _ hx (keyOf_int_mk Tryz.underlying31 (u64_wf h64)) ?_
  intro w' h6 htu
  have hgr := htu.grown
  refine h w' ⟨n, _, h6, h2, h3.del _, fun y hy z => ?_⟩ ⟨hgr.os, hgr.tape, hgr.output, hgr.size, fun k hk hs => hgr.block k hk (fun e => hs (by cases e; rfl))⟩
  obtain ⟨hy', hne⟩ := hL y hy
  rw [atKey_del_other (by intro e; injection e with e1 e2; omega)]
  exact h4 y hy' z
end
end Go.Proofs.YtjkihpbpnoelnaaGreatDoor
