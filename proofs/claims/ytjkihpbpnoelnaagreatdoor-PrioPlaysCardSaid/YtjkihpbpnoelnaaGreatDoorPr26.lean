/- PrioPlays: the plan and the document's list beside it. -/
import Derived.Test.YtjkihpbpnoelnaaGreatDoorPr25
import Derived.Test.YtjkihpbpnoelnaaGreatDoorPr21
namespace Go.Proofs.YtjkihpbpnoelnaaGreatDoor
open Go.RowKit
set_option linter.unusedVariables false
def Rw (a : Option Addr) (z : Nat) : Prop := ∃ y, a = some y ∧ y.block = z
def XR (a : Option Addr) (E : Nat → Prop) (z : Nat) : Prop := Rw a z ∨ E z
/-- The plan, and the document's list in a row of the call's own; E: other blocks that the plan's calls keep. -/
structure RSt (w0 : World) (q : Nat) (E : Nat → Prop) (a : Option Addr) (n cap ck : Nat) (L M : List Strm) (w : World) : Prop where
  p : PSt w0 q (q + 1) (XR a E) ck L w
  own : OwnS w (q + 1) 48 5 a n cap (M.flatMap refV)
  len : n = M.length
  off : ∀ z, Rw a z → ¬ E z
  e0 : ∀ z, E z → w0.heap.size ≤ z
section
variable {w0 w w' : World} {q n cap ck : Nat} {E : Nat → Prop} {a : Option Addr} {L M : List Strm}
theorem RSt.x0 (h : RSt w0 q E a n cap ck L M w) : ∀ z, XR a E z → w0.heap.size ≤ z := by
  rintro z (⟨y, hy, rfl⟩ | hz)
  · have := (h.own.block hy).1; have := h.p.qle; omega
  · exact h.e0 z hz
theorem RSt.same (h : RSt w0 q E a n cap ck L M w) (hb : Below w.heap.size w w') : RSt w0 q E a n cap ck L M w' :=
  ⟨h.p.same hb, h.own.below hb, h.len, h.off, h.e0⟩
/-- A call on the plan. -/
theorem RSt.plan {ck' : Nat} {L' : List Strm} (h : RSt w0 q E a n cap ck L M w) (hS : PSt w0 q (q + 1) (XR a E) ck' L' w') (hk : KeepX (XR a E) w w') : RSt w0 q E a n cap ck' L' M w' :=
  ⟨hS, h.own.only hk (fun y hy hx => hx (.inl ⟨y, hy, rfl⟩)), h.len, h.off, h.e0⟩
/-- The list's row turns. -/
theorem RSt.row {a' : Option Addr} {n' c' : Nat} {M' : List Strm} (h : RSt w0 q E a n cap ck L M w) (ho : Only (Rw a) w w') (hO : OwnS w' (q + 1) 48 5 a' n' c' (M'.flatMap refV)) (hn : n' = M'.length)
    (hat : ∀ y, a' = some y → (∃ z, a = some z ∧ y.block = z.block) ∨ w.heap.size ≤ y.block) : RSt w0 q E a' n' c' ck L M' w' := by
  have hE : ∀ z, E z → z < w.heap.size := fun z hz => (h.p.xs z (.inr hz)).1
  refine ⟨h.p.foreign (ho.mono fun z _ hz => .inl hz) h.x0 ?_, hO, hn, ?_, h.e0⟩
  · rintro z (⟨y, hy, rfl⟩ | hz)
    · refine ⟨?_, (hO.block hy).2.1⟩
      rcases hat y hy with ⟨x, hx, e⟩ | h1
      · exact .inl (.inl ⟨x, hx, e.symm⟩)
      · exact .inr h1
    · exact ⟨.inl (.inr hz), Nat.lt_of_lt_of_le (hE z hz) ho.size⟩
  · rintro z ⟨y, hy, rfl⟩ hz
    rcases hat y hy with ⟨x, hx, e⟩ | h1
    · exact h.off _ ⟨x, hx, e.symm⟩ hz
    · have := hE _ hz; omega
theorem RSt.set {g i : Nat} {x : Strm} (h : RSt w0 q E a n cap ck L M w) (ha : a = some ⟨g, 0, none⟩) (hx : M[i]? = some x) (j : Nat) (hj : j < 5) (v : Value) (f : Strm → Strm) (hf : ∀ x, refV (f x) = (refV x).set j v) : RSt w0 q E a n cap ck L (M.set i (f x)) (w.setCell ⟨g, i * 5 + j, none⟩ v) := by
  refine h.row ((Only.refl _ w).setCell (p := ⟨g, i * 5 + j, none⟩) (.inl ⟨_, ha, rfl⟩) v) ?_ (by rw [List.length_set]; exact h.len) (fun y hy => .inl ⟨y, hy, rfl⟩)
  have := h.own.setS5 g ha (i * 5 + j) v
  rw [flat_set refV_len j hj v f hf M i x hx] at this
  exact this
theorem RSt.box {xb : Nat} {cs : Array Value} {T : TypeId} (h : RSt w0 q (fun _ => False) a n cap ck L M w) (hx : w.heap.size = xb) : RSt w0 q (· = xb) a n cap ck L M (w.alloc (.cells cs T)) := by
  have hs := h.p.below.size
  refine ⟨h.p.foreign ((Only.refl _ w).alloc _) h.x0 ?_, h.own.below ((Below.refl _ w).alloc (Nat.le_refl _) _), h.len, ?_, fun z hz => by omega⟩
  · rintro z (⟨y, hy, rfl⟩ | hz)
    · have := (h.own.block hy).2.1
      exact ⟨.inl (.inl ⟨y, hy, rfl⟩), by simp; omega⟩
    · exact ⟨.inr (by omega), by simp; omega⟩
  · rintro z ⟨y, hy, rfl⟩ hz
    have := (h.own.block hy).2.1; omega
theorem RSt.unbox (h : RSt w0 q E a n cap ck L M w) : RSt w0 q (fun _ => False) a n cap ck L M w := by
  refine ⟨h.p.foreign (Only.refl _ w) h.x0 ?_, h.own, h.len, fun _ _ h => h, fun _ h => h.elim⟩
  rintro z (⟨y, hy, rfl⟩ | hz)
  · exact ⟨.inl (.inl ⟨y, hy, rfl⟩), (h.own.block hy).2.1⟩
  · exact hz.elim
theorem RSt.n256 (h : RSt w0 q E a n cap ck L M w) (hp : L.Perm M) : n ≤ 256 := by rw [h.len, ← hp.length_eq]; exact h.p.ok.len
theorem RSt.nod (h : RSt w0 q E a n cap ck L M w) (hp : L.Perm M) : NodI M := h.p.ok.asc.nod.perm hp
theorem RSt.drew (h : RSt w0 q E a n cap ck L M w) : RSt w0 q E a n cap ck L M w.drew := h.same (Below.refl _ w).drew
theorem RSt.u7 (h : RSt w0 q E a n cap ck L M w) (hp : L.Perm M) : ∀ x ∈ M, x.urg ≤ 7 := fun x hx => (h.p.ok.mem x (hp.mem_iff.2 hx)).1
end
theorem refV_one (L : List Strm) : ∀ u ∈ L.flatMap refV, u.oneCell' = true := by
  intro u hu
  obtain ⟨x, _, h⟩ := List.mem_flatMap.1 hu
  simp [refV] at h
  rcases h with rfl | rfl | rfl | rfl | rfl <;> rfl
/-! ### What the document's list is behind a step -/
theorem set_at {M : List Strm} (hn : NodI M) (f : Strm → Strm) {k id : Nat} (hk : k < M.length) (hid : (M.getD k default).id = id) : M.set k (f (M.getD k default)) = updL id f M := by
  rw [← hid]; exact set_updL f hn hk
theorem pm_new {L M : List Strm} (h : L.Perm M) (x : Strm) : (insL x L).Perm (M ++ [x]) := (insL_perm x L).trans ((List.Perm.cons x h).trans (List.perm_append_comm (l₁ := [x]) (l₂ := M)))
theorem pm_upd {L M : List Strm} (h : L.Perm M) (hn : NodI M) (f : Strm → Strm) {k id : Nat} (hk : k < M.length) (hid : (M.getD k default).id = id) : (updL id f L).Perm (M.set k (f (M.getD k default))) := by
  rw [set_at hn f hk hid]; exact updL_perm h id f
theorem setR_big {u id : Nat} {L : List Strm} {b : Bool} (h : 7 < u) : setR u id L = 2 ∧ setL u b id L = L := ⟨by unfold setR; rw [if_pos h], by unfold setL; rw [if_pos h]⟩
theorem setR_full {u id : Nat} {L : List Strm} {b : Bool} (h : ¬ 7 < u) (hh : hasL id L = false) (hl : 256 ≤ L.length) : setR u id L = 7 ∧ setL u b id L = L := ⟨by unfold setR; rw [if_neg h, hh, if_neg (by simp), if_pos hl], by unfold setL; rw [if_neg h, hh, if_neg (by simp), if_pos hl]⟩
theorem setR_new {u id : Nat} {L : List Strm} {b : Bool} (h : ¬ 7 < u) (hh : hasL id L = false) (hl : ¬ 256 ≤ L.length) : setR u id L = 0 ∧ setL u b id L = insL ⟨id, u, b, false, 0⟩ L := ⟨by unfold setR; rw [if_neg h, hh, if_neg (by simp), if_neg hl], by unfold setL; rw [if_neg h, hh, if_neg (by simp), if_neg hl]⟩
theorem setR_has {u id : Nat} {L : List Strm} {b : Bool} (h : ¬ 7 < u) (hh : hasL id L = true) : setR u id L = 0 ∧ setL u b id L = updL id (setX u b) L := ⟨by unfold setR; rw [if_neg h, hh, if_pos rfl], by unfold setL; rw [if_neg h, hh, if_pos rfl]⟩
/-- Whose turn it is: plan and document. -/
theorem rnx_none {L M : List Strm} {v : Value} (hp : L.Perm M) (h : ∀ x ∈ L, x.ready = false) (hv : RNx M v) : v = .int .i64 (-1) := by
  rcases hv with ⟨_, rfl⟩ | ⟨i, hi, hb, rfl⟩
  · rfl
  · have := h _ (hp.mem_iff.2 hb.1); rw [hb.2.1] at this; cases this
theorem rnx_some {L M : List Strm} {v : Value} {x : Strm} (hp : L.Perm M) (h : IsBest L x) (hv : RNx M v) : ∃ i : Nat, i < M.length ∧ M[i]? = some x ∧ v = .int .i64 i := by
  have hb := h.perm hp
  rcases hv with ⟨h0, rfl⟩ | ⟨i, hi, hi2, rfl⟩
  · have := h0 _ hb.1; rw [hb.2.1] at this; cases this
  · refine ⟨i, hi, ?_, rfl⟩
    have e := hi2.unique hb
    rw [← e]; simp [hi]
section
variable {ops : Array Oper} {rest : List Oper} {o : Oper} {a : Act} {w : World} {Q : Exit → Act → World → Prop}
theorem wpList_br1 (hg : o.guard = none) {x : Operand} (ho : o.op = .buildSlice 42 1 #[(0, x)]) {cs : Array Value} (hx : a.eval x = .agg cs) (h5 : cs.size = 5)
    (h : wpList Tryz.prog ops Q rest (a.put o.dst (.slice (some ⟨w.heap.size, 0, none⟩) 1 1)) (w.alloc (.cells cs 48))) : wpList Tryz.prog ops Q (o :: rest) a w := by
  obtain ⟨ie, z, hu, hie, hz, hs, hb, hc, hp⟩ := (ref_et : ET Tryz.prog 42 48 5 24)
  refine wpList_buildSlice hg 42 48 1 _ ho _ ie z hu hie hz (by omega) (by omega) ?_ h
  rw [hs]
  have hl : ((#[((0 : Nat), x)] : Array (Nat × Operand)).map fun (i, x) => (i, a.eval x)).toList = [((0 : Nat), Value.agg cs)] := by simp [hx]
  rw [hl]
  exact fill_five _ _ (by simp [hc]) h5
theorem wpList_br0 (hg : o.guard = none) (ho : o.op = .buildSlice 42 0 #[])
    (h : wpList Tryz.prog ops Q rest (a.put o.dst (.slice (some ⟨w.heap.size, 0, none⟩) 0 0)) (w.alloc (.cells #[] 48))) : wpList Tryz.prog ops Q (o :: rest) a w := by
  obtain ⟨ie, z, hu, hie, hz, hs, hb, hc, hp⟩ := (ref_et : ET Tryz.prog 42 48 5 24)
  have hr : (Instr.buildSlice 42 0 #[]).run Tryz.prog w = .ok (.slice (some ⟨w.heap.size, 0, none⟩) 0 0) (w.alloc (.cells #[] 48)) := by
    simp [Instr.buildSlice, run_underlying hu, sizeOf, typeInfo, hie, newRow, Instr.fill, Array.range_zero']
  refine wpList_plain hg fun K hK => ?_
  unfold Oper.wp execOp
  have he : ((#[] : Array (Nat × Operand)).map fun (i, x) => (i, a.eval x)) = #[] := by simp
  simp only [ho, he, Sem.run_bind, hr, Result.andThen_ok]
  exact hK _ _ h
end
end Go.Proofs.YtjkihpbpnoelnaaGreatDoor
