/- The builtin copy at elements of several cells; rows of the call's own that are opened. -/
import Derived.Test.YtgpnfdeneagdbaaGreatOwn
import Derived.Laws.CopyRow
import Derived.Laws.CopyOwn
import Derived.Lib.AppendZerosOnto
namespace Go.Proofs.YtgpnfdeneagdbaaGreat
open Go.RowKit
set_option linter.unusedVariables false
section
variable {P : Program} {ops : Array Oper} {rest : List Oper} {o : Oper} {a : Act} {w : World} {Q : Exit → Act → World → Prop}
theorem run_copy_rowK (w : World) (dT sT ty elem : TypeId) (k g o dLen dCap : Nat) (a : Addr) (sLen sCap : Nat) (cur : Array Value) (t : TypeId) (cs : List Value)
    (hu : P.underlying dT = some (.slice elem)) (hs : (P.info? elem).map (·.size) = some k)
    (hg : w.heap[g]? = some (.cells cur t (0, 0))) (hn : cs.length = Nat.min sLen dLen * k)
    (hsrc : ∀ j v, cs[j]? = some v → w.cell? (a.add j) = some v) (hfit : o + cs.length ≤ cur.size) (h1 : ∀ v ∈ cs, v.oneCell' = true) :
    (Builtin.copy_ #[dT, sT] ty #[.slice (some ⟨g, o, none⟩) dLen dCap, .slice (some a) sLen sCap]).run P w =
      .ok (goInt (Nat.min sLen dLen)) (w.setRow g (cur.toList.take o ++ cs ++ cur.toList.drop (o + cs.length)).toArray) := by
  have hl := run_loadCells_list (P := P) w a cs hsrc
  have hst := run_storeCells_at P g o t cs 0 cur w hg (by simpa using hfit) h1
  cases hq : P.info? elem with
  | none => simp [hq] at hs
  | some i =>
    have hi : i.size = k := by simpa [hq] using hs
    simp [Builtin.copy_, run_underlying hu, Builtin.lenOf, Builtin.firstCells, sizeOf, typeInfo, hq, hi, ← hn, hl, hst]
/-- A row of the call's own, with all its cells: the spare ones too. -/
def OwnX (w : World) (base : Nat) (e : TypeId) (size : Nat) (g n cap : Nat) (xs sp : List Value) : Prop :=
  base ≤ g ∧ n ≤ cap ∧ cap ≤ maxLen ∧ xs.length = n * size ∧ sp.length = (cap - n) * size ∧ w.heap[g]? = some (.cells (xs ++ sp).toArray e (0, 0))
theorem OwnS.open_ {w : World} {base : Nat} {e : TypeId} {size : Nat} {x : Addr} {n cap : Nat} {xs : List Value} (h : OwnS w base e size (some x) n cap xs) : x = ⟨x.block, 0, none⟩ ∧ ∃ sp, OwnX w base e size x.block n cap xs sp := by
  obtain ⟨hl, h⟩ := h
  rcases h with ⟨h, _⟩ | ⟨g, cp, cur, hv, hb, hg, hn, hc, hsz, ht⟩
  · cases h
  · cases hv
    refine ⟨rfl, cur.toList.drop (n * size), hb, hn, hc, hl, ?_, ?_⟩
    · rw [List.length_drop, Array.length_toList, hsz, Nat.sub_mul]
    · rw [← ht, List.take_append_drop, Array.toArray_toList]; exact hg
theorem OwnX.own {w : World} {base : Nat} {e : TypeId} {size g n cap : Nat} {xs sp : List Value} (h : OwnX w base e size g n cap xs sp) : OwnS w base e size (some ⟨g, 0, none⟩) n cap xs := by
  obtain ⟨hb, hn, hc, hl, hs, hg⟩ := h
  refine ⟨hl, .inr ⟨g, cap, _, rfl, hb, hg, hn, hc, ?_, ?_⟩⟩
  · simp only [List.size_toArray, List.length_append, hl, hs]
    rw [← Nat.add_mul]
    congr 1; omega
  · simp only [← hl, List.take_left']
theorem OwnX.lt {w : World} {base : Nat} {e : TypeId} {size g n cap : Nat} {xs sp : List Value} (h : OwnX w base e size g n cap xs sp) : g < w.heap.size := by
  obtain ⟨_, _, _, _, _, hg⟩ := h
  exact (Array.getElem?_eq_some_iff.1 hg).1
theorem OwnX.cell {w : World} {base : Nat} {e : TypeId} {size g n cap : Nat} {xs sp : List Value} (h : OwnX w base e size g n cap xs sp) (i : Nat) : w.cell? ⟨g, i, none⟩ = (xs ++ sp)[i]? := by
  obtain ⟨_, _, _, _, _, hg⟩ := h
  simp [World.cell?, hg]
/-- The builtin copy into such a row, from a place of it on. -/
theorem OwnX.copy {w : World} {base : Nat} {e : TypeId} {size g n cap : Nat} {xs sp : List Value} (h : OwnX w base e size g n cap xs sp) (cs : List Value) (o : Nat) (ho : o + cs.length ≤ xs.length + sp.length) (hc1 : ∀ v ∈ cs, v.oneCell' = true)
    (dT sT ty : TypeId) (hu : P.underlying dT = some (.slice e)) (hs : (P.info? e).map (·.size) = some size) (dLen dCap : Nat) (a : Addr) (sLen sCap : Nat) (hn : cs.length = Nat.min sLen dLen * size)
    (hsrc : ∀ j v, cs[j]? = some v → w.cell? (a.add j) = some v) :
    (Builtin.copy_ #[dT, sT] ty #[.slice (some ⟨g, o, none⟩) dLen dCap, .slice (some a) sLen sCap]).run P w =
      .ok (goInt (Nat.min sLen dLen)) (w.setRow g ((xs ++ sp).take o ++ cs ++ (xs ++ sp).drop (o + cs.length)).toArray) := by
  obtain ⟨_, _, _, _, _, hg⟩ := h
  exact run_copy_rowK w dT sT ty e size g o dLen dCap a sLen sCap _ e cs hu hs hg hn hsrc (by simpa using ho) hc1
theorem OwnX.setRow {w : World} {base : Nat} {e : TypeId} {size g n cap : Nat} {xs sp : List Value} (h : OwnX w base e size g n cap xs sp) (n' : Nat) (ys sq : List Value) (hn : n' ≤ cap) (hl : ys.length = n' * size) (hs : sq.length = (cap - n') * size) : OwnX (w.setRow g (ys ++ sq).toArray) base e size g n' cap ys sq := by
  obtain ⟨hb, _, hc, _, _, hg⟩ := h
  exact ⟨hb, hn, hc, hl, hs, setRow_heap w g _ _ e _ hg⟩
theorem OwnX.keep {w w' : World} {base : Nat} {e : TypeId} {size g n cap : Nat} {xs sp : List Value} (h : OwnX w base e size g n cap xs sp) (hk : w'.heap[g]? = w.heap[g]?) : OwnX w' base e size g n cap xs sp := by
  obtain ⟨h1, h2, h3, h4, h5, hg⟩ := h
  exact ⟨h1, h2, h3, h4, h5, hk.trans hg⟩
/-- As long as the spare cells are told likewise, the length may be another. -/
theorem OwnX.relen {w : World} {base : Nat} {e : TypeId} {size g n cap : Nat} {xs sp : List Value} (h : OwnX w base e size g n cap xs sp) (n' : Nat) (ys sq : List Value) (hn : n' ≤ cap) (he : ys ++ sq = xs ++ sp) (hl : ys.length = n' * size) : OwnX w base e size g n' cap ys sq := by
  obtain ⟨h1, h2, h3, h4, h5, hg⟩ := h
  refine ⟨h1, hn, h3, hl, ?_, by rw [he]; exact hg⟩
  have e1 := congrArg List.length he
  rw [List.length_append, List.length_append, hl, h4, h5, ← Nat.add_mul] at e1
  have e2 : n + (cap - n) = cap := by omega
  rw [e2] at e1
  rw [Nat.sub_mul]; omega
theorem only_setRow (w : World) (g : Nat) (cs : Array Value) : Only (· = g) w (w.setRow g cs) := by
  refine ⟨rfl, rfl, rfl, by simp [World.setRow], fun k hk hs => ?_⟩
  exact setRow_other _ _ _ _ hs
end
end Go.Proofs.YtgpnfdeneagdbaaGreat
