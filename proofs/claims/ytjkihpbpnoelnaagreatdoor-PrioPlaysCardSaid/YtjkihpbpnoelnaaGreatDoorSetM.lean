/- A set of numbers, with how many it has: map[uint64]struct{} of the call's own. -/
import Derived.Test.YtjkihpbpnoelnaaGreatDoorOwn
import Derived.Maps.OwnSet
import Derived.Maps.Own
namespace Go.Proofs.YtjkihpbpnoelnaaGreatDoor
open Go.RowKit Go.Maps
set_option linter.unusedVariables false
theorem set_keyed : Keyed Tryz.prog 31 := int_keyed Tryz.underlying31
theorem set_zero (w : World) : (zeroValue 52).run Tryz.prog w = .ok (.agg #[]) w := by kernel_rfl
def u64Ok (x : Nat) : Prop := x < 18446744073709551616
theorem u64_wf {x : Nat} (h : u64Ok x) : (Lit.int .u64 (x : Int)).wf = true := by
  unfold u64Ok at h
  have h1 : IntKind.u64.min = 0 := rfl
  have h2 : IntKind.u64.max = 18446744073709551615 := rfl
  simp [Lit.wf, h1, h2]
  omega
/-- The map in block b, turned k times at most, holds the numbers of T, each once. -/
def SetAt (w : World) (b k : Nat) (T : List Nat) : Prop :=
  T.Nodup ∧ ∃ (n : Nat) (D : DataW Unit), w.ownsMap Tryz.prog 31 unitElem b n D ∧ n ≤ k ∧ Tidy D ∧ size D = T.length ∧ ∀ x : Nat, u64Ok x → Maps.has D (.int .u64 x) = decide (x ∈ T)
theorem SetAt.made (w : World) : SetAt (w.alloc (.map #[] 0)) w.heap.size 0 [] :=
  ⟨List.nodup_nil, 0, .map [], World.ownsMap_made _ _ _ _, by simp, tidy_empty, rfl, fun x _ => by simp [Maps.has]⟩
theorem SetAt.lt {w : World} {b k : Nat} {T : List Nat} (h : SetAt w b k T) : b < w.heap.size := by
  obtain ⟨_, n, D, h1, _⟩ := h
  exact h1.lt
theorem SetAt.keep {w w' : World} {b k : Nat} {T : List Nat} (h : SetAt w b k T) (hk : w'.heap[b]? = w.heap[b]?) : SetAt w' b k T := by
  obtain ⟨hn, n, D, ⟨es, clock, hb, F, hs, hD⟩, r⟩ := h
  exact ⟨hn, n, D, ⟨es, clock, hk.trans hb, F, hs, hD⟩, r⟩
theorem SetAt.below {w w' : World} {b k : Nat} {T : List Nat} (h : SetAt w b k T) (hb : Below w.heap.size w w') : SetAt w' b k T := h.keep (hb.block _ h.lt)
theorem SetAt.only {S : Nat → Prop} {w w' : World} {b k : Nat} {T : List Nat} (h : SetAt w b k T) (hb : Only S w w') (hs : ¬ S b) : SetAt w' b k T := h.keep (hb.block _ h.lt hs)
def addS (x : Nat) (T : List Nat) : List Nat := if x ∈ T then T else x :: T
theorem mem_addS {x y : Nat} {T : List Nat} : y ∈ addS x T ↔ y = x ∨ y ∈ T := by
  unfold addS
  split
  · exact ⟨.inr, fun h => h.elim (fun e => e ▸ by assumption) id⟩
  · simp
section
variable {ops : Array Oper} {rest : List Oper} {o : Oper} {a : Act} {w : World} {Q : Exit → Act → World → Prop}
theorem wpList_inset (hg : o.guard = none) {m x : Operand} (hop : o.op = Op.lookup 51 m x true) {b k : Nat} {T : List Nat} (hT : SetAt w b k T) {y : Nat} (hm : a.eval m = .map (some b)) (hx : a.eval x = .int .u64 y) (hy : u64Ok y)
    (h : wpList Tryz.prog ops Q rest (a.put o.dst (.tuple #[.agg #[], .bool (decide (y ∈ T))])) w) : wpList Tryz.prog ops Q (o :: rest) a w := by
  obtain ⟨hn, n, D, h1, h2, h3, h4, h5⟩ := hT
  refine wpList_lookup_own_unit w hg m x _ hop 31 52 set_keyed Tryz.underlying51 (set_zero _) b n D hm h1 _ _ hx (keyOf_int_mk Tryz.underlying31 (u64_wf hy)) ?_
  rw [h5 y hy]
  exact h
theorem wpList_addset (hg : o.guard = none) {m x v : Operand} (hop : o.op = Op.mapUpdate 51 m x v) {b k : Nat} {T : List Nat} (hT : SetAt w b k T) (hl : k < maxLen) {y : Nat} (hm : a.eval m = .map (some b)) (hx : a.eval x = .int .u64 y) (hv : a.eval v = .agg #[]) (hy : u64Ok y)
    (h : ∀ w', SetAt w' b (k + 1) (addS y T) → Only (· = b) w w' → wpList Tryz.prog ops Q rest (a.put o.dst undef) w') : wpList Tryz.prog ops Q (o :: rest) a w := by
  obtain ⟨hn, n, D, h1, h2, h3, h4, h5⟩ := hT
  refine wpList_mapUpdate_own w hg m x v _ hop 31 52 set_keyed Tryz.underlying51 unitElem b n D hm h1 (by omega) _ _ _ hx hv (keyOf_int_mk Tryz.underlying31 (u64_wf hy)) _ [] unitElem_mk ?_
  intro w' h6 hgr
  have hk : WideAt.IsKeyLit (.int .u64 (y : Int)) := trivial
  refine h w' ⟨?_, n + 1, _, h6, by omega, h3.put hk _, ?_, fun z hz => ?_⟩ ⟨hgr.os, hgr.tape, hgr.output, hgr.size, fun k hk hs => hgr.block k hk (fun e => hs (by cases e; rfl))⟩
  · unfold addS
    split
    · exact hn
    · exact List.nodup_cons.2 ⟨by assumption, hn⟩
  · rw [size_put h3, h5 y hy, h4]
    unfold addS
    by_cases hm : y ∈ T <;> simp [hm]
  · by_cases hzy : z = y
    · subst hzy
      rw [has_put_same h3.isMap hk]
      simp [mem_addS]
    · rw [has_put_other (by intro e; injection e with e1 e2; omega), h5 z hz]
      simp [mem_addS, hzy]
theorem wpList_delset (hg : o.guard = none) {m x : Operand} {tk : TypeId} (hop : o.op = Op.call { callee := Callee.builtin Builtin.delete, args := #[m, x], argTypes := #[51, 31] }) {b k : Nat} {T : List Nat} (hT : SetAt w b k T) {y : Nat} (hm : a.eval m = .map (some b)) (hx : a.eval x = .int .u64 y) (hy : u64Ok y)
    (h : ∀ w', SetAt w' b k (T.filter (fun z => decide (z ≠ y))) → Only (· = b) w w' → wpList Tryz.prog ops Q rest (a.put o.dst (.tuple #[])) w') : wpList Tryz.prog ops Q (o :: rest) a w := by
  obtain ⟨hn, n, D, h1, h2, h3, h4, h5⟩ := hT
  refine wpList_delete_own w hg m x _ 31 hop 52 set_keyed Tryz.underlying51 unitElem b n D hm h1 _ _ hx (keyOf_int_mk Tryz.underlying31 (u64_wf hy)) ?_
  intro w' h6 htu
  have hgr := htu.grown
  refine h w' ⟨hn.sublist List.filter_sublist, n, _, h6, h2, h3.del _, ?_, fun z hz => ?_⟩ ⟨hgr.os, hgr.tape, hgr.output, hgr.size, fun k hk hs => hgr.block k hk (fun e => hs (by cases e; rfl))⟩
  · have hs := size_del (k := .int .u64 (y : Int)) h3
    rw [h5 y hy, h4] at hs
    have hf : ∀ T : List Nat, T.Nodup → (T.filter (fun z => decide (z ≠ y))).length + (if y ∈ T then 1 else 0) = T.length := by
      intro T
      induction T with
      | nil => intro _; simp
      | cons z T ih =>
        intro hT
        have := List.nodup_cons.1 hT
        have ih' := ih this.2
        by_cases hzy : z = y
        · subst hzy
          rw [if_neg this.1] at ih'
          simp [] at ih' ⊢
          exact ih'
        · rw [List.filter_cons, if_pos (by simpa using hzy)]
          by_cases hyT : y ∈ T
          · rw [if_pos hyT] at ih'
            rw [if_pos (List.mem_cons_of_mem _ hyT)]
            simp only [List.length_cons]; omega
          · rw [if_neg hyT] at ih'
            rw [if_neg (by simp [hyT]; exact fun e => hzy e.symm)]
            simp only [List.length_cons]; omega
    have := hf T hn
    by_cases hyT : y ∈ T
    · rw [if_pos hyT] at this
      rw [decide_eq_true hyT, if_pos rfl] at hs
      omega
    · rw [if_neg hyT] at this
      rw [decide_eq_false hyT, if_neg (by simp)] at hs
      omega
  · by_cases hzy : z = y
    · subst hzy
      rw [has_del_same]
      simp
    · rw [has_del_other (by intro e; injection e with e1 e2; omega), h5 z hz]
      simp [hzy]
theorem run_lenset {b k : Nat} {T : List Nat} (hT : SetAt w b k T) (ty : TypeId) : (Builtin.len_ #[51] ty #[.map (some b)]).run Tryz.prog w = .ok (.int .i64 (T.length : Nat)) w := by
  obtain ⟨hn, n, D, h1, h2, h3, h4, h5⟩ := hT
  rw [h1.len Tryz.underlying51 ty, h4]
end
end Go.Proofs.YtjkihpbpnoelnaaGreatDoor
